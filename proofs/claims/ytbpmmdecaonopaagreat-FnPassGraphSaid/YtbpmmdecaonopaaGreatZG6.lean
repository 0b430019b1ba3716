/-
  The types of this seat's program, as the walk over plain data wants them. No condition.
-/
import Derived.Test.YtbpmmdecaonopaaGreatZRun
import Derived.Test.YtbpmmdecaonopaaGreatChecked
import Derived.Test.YtbpmmdecaonopaaGreatZEnd
import Derived.Test.YtbpmmdecaonopaaGreatZP
namespace Go.Proofs.YtbpmmdecaonopaaGreat
open Go.AI
def tyl : List (Nat × TI) := [(1, ⟨1, .scalar⟩),
  (2, ⟨1, .ik .i64⟩),
  (3, ⟨1, .ik .i64⟩),
  (4, ⟨1, .bool⟩),
  (5, ⟨1, .ik .u8⟩),
  (6, ⟨1, .ik .u8⟩),
  (7, ⟨4, .struct [(0, 1), (1, 1), (2, 1), (3, 1)]⟩),
  (8, ⟨4, .struct [(0, 1), (1, 1), (2, 1), (3, 1)]⟩),
  (9, ⟨1, .str⟩),
  (10, ⟨1, .str⟩),
  (11, ⟨1, .str⟩),
  (12, ⟨1, .ik .u64⟩),
  (13, ⟨2, .struct [(0, 1), (1, 1)]⟩),
  (14, ⟨2, .struct [(0, 1), (1, 1)]⟩),
  (15, ⟨1, .scalar⟩),
  (16, ⟨1, .scalar⟩),
  (17, ⟨1, .scalar⟩),
  (18, ⟨1, .struct [(0, 1)]⟩),
  (19, ⟨1, .struct [(0, 1)]⟩),
  (21, ⟨1, .ik .i32⟩),
  (22, ⟨1, .slice 5 1⟩),
  (23, ⟨1, .scalar⟩),
  (24, ⟨1, .slice 2 1⟩),
  (25, ⟨1, .slice 4 1⟩),
  (26, ⟨1, .slice 80 3⟩),
  (27, ⟨4, .struct [(0, 1), (1, 1), (2, 1), (3, 1)]⟩),
  (28, ⟨4, .struct [(0, 1), (1, 1), (2, 1), (3, 1)]⟩),
  (29, ⟨1, .slice 24 1⟩),
  (30, ⟨2, .struct [(0, 1), (1, 1)]⟩),
  (31, ⟨2, .struct [(0, 1), (1, 1)]⟩),
  (33, ⟨1, .scalar⟩),
  (34, ⟨1, .scalar⟩),
  (35, ⟨1, .slice 31 2⟩),
  (37, ⟨1, .scalar⟩),
  (39, ⟨1, .scalar⟩),
  (40, ⟨1, .scalar⟩),
  (41, ⟨1, .scalar⟩),
  (43, ⟨1, .scalar⟩),
  (44, ⟨1, .scalar⟩),
  (46, ⟨1, .scalar⟩),
  (48, ⟨1, .scalar⟩),
  (49, ⟨1, .scalar⟩),
  (50, ⟨1, .scalar⟩),
  (51, ⟨1, .scalar⟩),
  (52, ⟨1, .scalar⟩),
  (53, ⟨1, .scalar⟩),
  (54, ⟨1, .scalar⟩),
  (55, ⟨1, .scalar⟩),
  (56, ⟨1, .scalar⟩),
  (57, ⟨1, .scalar⟩),
  (58, ⟨1, .scalar⟩),
  (59, ⟨1, .scalar⟩),
  (60, ⟨1, .scalar⟩),
  (61, ⟨1, .scalar⟩),
  (62, ⟨1, .scalar⟩),
  (63, ⟨1, .scalar⟩),
  (64, ⟨1, .scalar⟩),
  (66, ⟨1, .scalar⟩),
  (67, ⟨1, .scalar⟩),
  (68, ⟨1, .scalar⟩),
  (69, ⟨1, .scalar⟩),
  (70, ⟨1, .scalar⟩),
  (71, ⟨1, .scalar⟩),
  (73, ⟨1, .scalar⟩),
  (74, ⟨1, .scalar⟩),
  (75, ⟨1, .ik .u64⟩),
  (76, ⟨3, .struct [(0, 1), (1, 1), (2, 1)]⟩),
  (77, ⟨3, .struct [(0, 1), (1, 1), (2, 1)]⟩),
  (78, ⟨1, .scalar⟩),
  (79, ⟨3, .struct [(0, 1), (1, 1), (2, 1)]⟩),
  (80, ⟨3, .struct [(0, 1), (1, 1), (2, 1)]⟩),
  (81, ⟨1, .scalar⟩),
  (82, ⟨1, .scalar⟩),
  (83, ⟨1, .scalar⟩),
  (84, ⟨1, .scalar⟩),
  (85, ⟨1, .scalar⟩),
  (86, ⟨1, .scalar⟩),
  (87, ⟨1, .scalar⟩),
  (88, ⟨1, .scalar⟩),
  (89, ⟨1, .scalar⟩),
  (90, ⟨1, .scalar⟩),
  (91, ⟨1, .scalar⟩),
  (92, ⟨1, .scalar⟩),
  (94, ⟨1, .scalar⟩),
  (95, ⟨1, .scalar⟩),
  (96, ⟨1, .scalar⟩),
  (97, ⟨1, .scalar⟩),
  (98, ⟨1, .scalar⟩),
  (99, ⟨1, .scalar⟩),
  (100, ⟨1, .scalar⟩),
  (101, ⟨1, .ik .u64⟩),
  (102, ⟨1, .scalar⟩),
  (103, ⟨1, .scalar⟩),
  (104, ⟨1, .scalar⟩),
  (105, ⟨1, .scalar⟩),
  (106, ⟨1, .scalar⟩),
  (107, ⟨1, .scalar⟩),
  (108, ⟨1, .scalar⟩),
  (109, ⟨1, .scalar⟩),
  (110, ⟨1, .scalar⟩),
  (111, ⟨4, .struct [(0, 1), (1, 1), (2, 1), (3, 1)]⟩),
  (112, ⟨4, .struct [(0, 1), (1, 1), (2, 1), (3, 1)]⟩),
  (113, ⟨1, .scalar⟩),
  (114, ⟨1, .scalar⟩),
  (116, ⟨1, .scalar⟩),
  (117, ⟨1, .scalar⟩),
  (118, ⟨1, .scalar⟩),
  (119, ⟨1, .scalar⟩),
  (120, ⟨1, .scalar⟩),
  (121, ⟨1, .scalar⟩),
  (122, ⟨1, .scalar⟩),
  (123, ⟨1, .scalar⟩),
  (124, ⟨1, .scalar⟩),
  (125, ⟨1, .scalar⟩),
  (126, ⟨1, .ik .i64⟩),
  (128, ⟨1, .scalar⟩),
  (129, ⟨1, .scalar⟩),
  (130, ⟨1, .scalar⟩),
  (131, ⟨1, .scalar⟩),
  (133, ⟨1, .scalar⟩),
  (134, ⟨1, .scalar⟩),
  (135, ⟨1, .ik .u32⟩),
  (136, ⟨1, .scalar⟩),
  (137, ⟨1, .scalar⟩),
  (138, ⟨1, .scalar⟩),
  (139, ⟨1, .scalar⟩),
  (140, ⟨1, .scalar⟩),
  (141, ⟨1, .ik .u64⟩),
  (142, ⟨1, .scalar⟩),
  (143, ⟨1, .scalar⟩),
  (144, ⟨1, .scalar⟩),
  (145, ⟨1, .scalar⟩),
  (146, ⟨1, .scalar⟩),
  (147, ⟨1, .scalar⟩),
  (148, ⟨1, .scalar⟩),
  (149, ⟨1, .scalar⟩),
  (151, ⟨1, .scalar⟩),
  (152, ⟨1, .scalar⟩),
  (153, ⟨4, .struct [(0, 1), (1, 1), (2, 1), (3, 1)]⟩),
  (154, ⟨4, .struct [(0, 1), (1, 1), (2, 1), (3, 1)]⟩),
  (155, ⟨0, .arr 0 16 1⟩),
  (158, ⟨1, .scalar⟩),
  (159, ⟨1, .ik .u8⟩),
  (160, ⟨1, .ik .u8⟩),
  (161, ⟨1, .scalar⟩),
  (162, ⟨1, .scalar⟩),
  (163, ⟨1, .ik .i32⟩),
  (164, ⟨1, .ik .i32⟩),
  (165, ⟨11, .struct [(0, 1), (1, 1), (2, 1), (3, 1), (4, 1), (5, 1), (6, 1), (7, 1), (8, 1), (9, 1), (10, 1)]⟩),
  (166, ⟨11, .struct [(0, 1), (1, 1), (2, 1), (3, 1), (4, 1), (5, 1), (6, 1), (7, 1), (8, 1), (9, 1), (10, 1)]⟩)]
def ty : Nat → Option TI := lkT tyl
theorem tyOk : TyOk Tryz.prog ty := tyOk_of_list tyl (by kernel_rfl)
def ztl : List (Nat × (List ZK × Nat)) := [(1, ([.fn], 8)),
  (2, ([.int], 8)),
  (3, ([.int], 8)),
  (4, ([.bool], 1)),
  (5, ([.byte], 1)),
  (6, ([.byte], 1)),
  (7, ([.int, .int, .bool, .byte], 24)),
  (8, ([.int, .int, .bool, .byte], 24)),
  (9, ([.str], 16)),
  (10, ([.str], 16)),
  (11, ([.str], 16)),
  (12, ([.u64], 8)),
  (13, ([.str, .u64], 24)),
  (14, ([.str, .u64], 24)),
  (15, ([.ptr], 8)),
  (16, ([.ptr], 8)),
  (17, ([.ptr], 8)),
  (18, ([.ptr], 8)),
  (19, ([.ptr], 8)),
  (22, ([.slice], 24)),
  (23, ([.fn], 8)),
  (24, ([.slice], 24)),
  (25, ([.slice], 24)),
  (26, ([.slice], 24)),
  (27, ([.int, .slice, .slice, .slice], 80)),
  (28, ([.int, .slice, .slice, .slice], 80)),
  (29, ([.slice], 24)),
  (30, ([.slice, .slice], 48)),
  (31, ([.slice, .slice], 48)),
  (33, ([.fn], 8)),
  (34, ([.fn], 8)),
  (35, ([.slice], 24)),
  (37, ([.fn], 8)),
  (39, ([.fn], 8)),
  (40, ([.fn], 8)),
  (41, ([.fn], 8)),
  (43, ([.fn], 8)),
  (44, ([.fn], 8)),
  (46, ([.fn], 8)),
  (48, ([.fn], 8)),
  (49, ([.fn], 8)),
  (50, ([.fn], 8)),
  (51, ([.ptr], 8)),
  (52, ([.fn], 8)),
  (53, ([.fn], 8)),
  (54, ([.fn], 8)),
  (55, ([.fn], 8)),
  (56, ([.fn], 8)),
  (57, ([.fn], 8)),
  (58, ([.fn], 8)),
  (59, ([.fn], 8)),
  (60, ([.fn], 8)),
  (61, ([.fn], 8)),
  (62, ([.fn], 8)),
  (63, ([.ptr], 8)),
  (64, ([.ptr], 8)),
  (66, ([.fn], 8)),
  (67, ([.fn], 8)),
  (68, ([.fn], 8)),
  (69, ([.fn], 8)),
  (70, ([.fn], 8)),
  (71, ([.fn], 8)),
  (73, ([.fn], 8)),
  (74, ([.fn], 8)),
  (75, ([.u64], 8)),
  (76, ([.slice, .int, .u64], 40)),
  (77, ([.slice, .int, .u64], 40)),
  (78, ([.fn], 8)),
  (79, ([.int, .slice, .slice], 56)),
  (80, ([.int, .slice, .slice], 56)),
  (81, ([.fn], 8)),
  (82, ([.ptr], 8)),
  (83, ([.fn], 8)),
  (84, ([.fn], 8)),
  (85, ([.fn], 8)),
  (86, ([.fn], 8)),
  (87, ([.fn], 8)),
  (88, ([.fn], 8)),
  (89, ([.fn], 8)),
  (90, ([.fn], 8)),
  (91, ([.fn], 8)),
  (92, ([.fn], 8)),
  (94, ([.fn], 8)),
  (95, ([.fn], 8)),
  (96, ([.fn], 8)),
  (97, ([.fn], 8)),
  (98, ([.fn], 8)),
  (99, ([.fn], 8)),
  (100, ([.fn], 8)),
  (101, ([.u64], 8)),
  (102, ([.fn], 8)),
  (103, ([.fn], 8)),
  (104, ([.fn], 8)),
  (105, ([.fn], 8)),
  (106, ([.fn], 8)),
  (107, ([.fn], 8)),
  (108, ([.fn], 8)),
  (109, ([.fn], 8)),
  (110, ([.ptr], 8)),
  (111, ([.ptr, .int, .int, .slice], 48)),
  (112, ([.ptr, .int, .int, .slice], 48)),
  (113, ([.fn], 8)),
  (114, ([.fn], 8)),
  (116, ([.fn], 8)),
  (117, ([.fn], 8)),
  (118, ([.fn], 8)),
  (119, ([.fn], 8)),
  (120, ([.fn], 8)),
  (121, ([.fn], 8)),
  (122, ([.fn], 8)),
  (123, ([.fn], 8)),
  (124, ([.fn], 8)),
  (125, ([.fn], 8)),
  (126, ([.int], 8)),
  (128, ([.fn], 8)),
  (129, ([.fn], 8)),
  (130, ([.fn], 8)),
  (131, ([.fn], 8)),
  (133, ([.fn], 8)),
  (134, ([.fn], 8)),
  (136, ([.fn], 8)),
  (137, ([.fn], 8)),
  (138, ([.fn], 8)),
  (139, ([.fn], 8)),
  (140, ([.fn], 8)),
  (141, ([.u64], 8)),
  (142, ([.fn], 8)),
  (143, ([.fn], 8)),
  (144, ([.fn], 8)),
  (145, ([.ptr], 8)),
  (146, ([.fn], 8)),
  (147, ([.fn], 8)),
  (148, ([.fn], 8)),
  (149, ([.ptr], 8)),
  (151, ([.fn], 8)),
  (152, ([.fn], 8)),
  (153, ([.ptr, .ptr, .ptr, .str], 40)),
  (154, ([.ptr, .ptr, .ptr, .str], 40)),
  (155, ([], 0)),
  (156, ([], 0)),
  (157, ([], 0)),
  (158, ([.fn], 8)),
  (159, ([.byte], 1)),
  (160, ([.byte], 1)),
  (161, ([.fn], 8)),
  (162, ([.ptr], 8))]
def zt : Nat → Option (List ZK × Nat) := lkZ ztl
theorem ztOk : ZtOk Tryz.prog zt := ztOk_of_list ztl (by kernel_rfl)
theorem mix : Tryz.prog.follows .mixedOrders = true := by kernel_rfl
end Go.Proofs.YtbpmmdecaonopaaGreat

/-
  The helpers of the laws over numbers, lists of numbers and lists of lists: sizes, copies, comparisons. No condition but that the sizes are at most 1048576.
-/
namespace Go.Proofs.YtbpmmdecaonopaaGreat
open Go.AI
set_option maxRecDepth 8000
end Go.Proofs.YtbpmmdecaonopaaGreat

/-
  Small functions of the reference and the program over numbers and lists of numbers: bounds, rising, membership, equality. No condition.
-/
namespace Go.Proofs.YtbpmmdecaonopaaGreat
open Go.AI
set_option maxRecDepth 8000
set_option maxHeartbeats 1600000

theorem c_l00In (n low high : Int) : Gives Tryz.prog 37 [.int n, .int low, .int high] (.raw (.bool (dec (low ≤ n ∧ n ≤ high)))) := by
  refine fn_of_run tyOk ztOk mix Tryz.func37 rfl (by decide) Tryz.ntmps37 (fun w0 h => ?_)
  repeat' (first
      | (refine j_go ?_; first
        | refine j_op0 rfl rfl rfl rfl ?_ | refine j_off rfl rfl rfl ?_ | (refine j_kGuard rfl ?_; first | (refine (j_if rfl rfl rfl (fun hb => ?_) (fun hb => ?_)) <;> first | (exfalso; omega) | skip)))
      | refine j_nil ?_
      | (refine r_go ?_; first | refine run_seq ?_ | refine run_region ?_ | refine run_ret ?_)
      | refine seqQ_normal ?_)
  all_goals first | exact end1 rfl (by first | exact List.Sublist.refl _ | exact sub1 | exact sub2 | exact sub3) (rbT (by omega)) (.inl rfl) | exact end1 rfl (by first | exact List.Sublist.refl _ | exact sub1 | exact sub2 | exact sub3) (rbF (by omega)) (.inl rfl) | exact end1 rfl (List.Sublist.refl _) (rb (by simp [dec_eq]; omega)) (.inl rfl)

theorem c_inRange (n low high : Int) : Gives Tryz.prog 34 [.int n, .int low, .int high] (.raw (.bool (dec (low ≤ n ∧ n ≤ high)))) := by
  refine fn_of_run tyOk ztOk mix Tryz.func34 rfl (by decide) Tryz.ntmps34 (fun w0 h => ?_)
  repeat' (first
      | (refine j_go ?_; first
        | refine j_op0 rfl rfl rfl rfl ?_ | refine j_off rfl rfl rfl ?_ | (refine j_kGuard rfl ?_; first | (refine (j_if rfl rfl rfl (fun hb => ?_) (fun hb => ?_)) <;> first | (exfalso; omega) | skip)))
      | refine j_nil ?_
      | (refine r_go ?_; first | refine run_seq ?_ | refine run_region ?_ | refine run_ret ?_)
      | refine seqQ_normal ?_)
  all_goals first | exact end1 rfl (by first | exact List.Sublist.refl _ | exact sub1 | exact sub2 | exact sub3) (rbT (by omega)) (.inl rfl) | exact end1 rfl (by first | exact List.Sublist.refl _ | exact sub1 | exact sub2 | exact sub3) (rbF (by omega)) (.inl rfl) | exact end1 rfl (List.Sublist.refl _) (rb (by simp [dec_eq]; omega)) (.inl rfl)

theorem c_l00Same (a b : List Int) : Gives Tryz.prog 63 [.sl (a.map Go.AI.encI), .sl (b.map Go.AI.encI)] (.raw (.bool (dec (a = b)))) := by
  refine fn_of_run tyOk ztOk mix Tryz.func63 rfl (by decide) Tryz.ntmps63 (fun w0 h => ?_)
  refine run_len (t := 0) rfl (fun hl => ?_)
  refine run_len (t := 1) rfl (fun hl2 => ?_)
  rw [List.length_map] at hl hl2
  repeat' (first
      | (refine j_go ?_; first
        | refine j_op0 rfl rfl rfl rfl ?_ | (refine j_kLen rfl ?_; first | refine j_len rfl rfl rfl rfl rfl rfl ?_))
      | refine j_nil ?_
      | (refine r_go ?_; first | refine run_seq ?_ | refine run_region ?_ | (refine (run_ifn rfl (fun hb => ?_) (fun hb => ?_)) <;> first | (exfalso; omega) | skip) | refine run_block ?_ | refine run_ret ?_ | refine run_skip ?_)
      | refine seqQ_normal ?_ | refine seqQ_ret ?_)
  · exact end1 rfl (by first | exact List.Sublist.refl _ | exact sub1 | exact sub2 | exact sub3) (rbF (fun q => by rw [q] at hb; omega)) (.inl rfl)
  refine run_loop (fun k : Nat => [(0, .sl (a.map Go.AI.encI)), (1, .sl (b.map Go.AI.encI)), (5, .int (k : Int))]) (fun _ => _) (fun k => k ≤ a.length ∧ (∀ i (h : i < a.length), i < k → some a[i] = b[i]?)) (fun k => a.length - k) 0 ⟨rfl, rfl, rfl, trivial⟩ rfl ⟨Nat.zero_le _, by first | (intros; omega) | (simp; done) | rfl | trivial | exact ⟨by simp [sumF], by intros; omega⟩ | exact ⟨by omega, by simp⟩⟩ (fun k ⟨kl, kp⟩ => ?_)
  repeat' (first
      | (refine j_go ?_; first
        | refine j_op0 rfl rfl rfl rfl ?_ | (refine j_kIdx rfl ?_; first | refine j_idx rfl rfl rfl rfl rfl (by omega) rfl rfl rfl ?_) | (refine j_kBin rfl ?_; first | refine j_in rfl rfl ⟨by omega, by omega⟩ rfl rfl ?_) | (refine j_kLen rfl ?_; first | refine j_len rfl rfl rfl rfl rfl rfl ?_))
      | refine j_nil ?_
      | (refine r_go ?_; first | refine run_seq ?_ | refine run_region ?_ | (refine (run_if rfl (fun hb => ?_) (fun hb => ?_)) <;> first | (exfalso; omega) | skip) | (refine (run_ifn rfl (fun hb => ?_) (fun hb => ?_)) <;> first | (exfalso; omega) | skip) | refine run_block ?_ | refine run_ret ?_ | refine run_exit ?_ | refine run_skip ?_ | refine run_regionD (by kernel_rfl) ?_)
      | refine seqQ_normal ?_ | refine seqQ_ret ?_ | refine seqQ_exit ?_ | refine blockQ_normal ?_ | refine blockQ_ret ?_ | refine blockQ_eq ?_ | refine loopQ_ret ?_ | refine loopQ_exit ?_)
  · exact end1 rfl (by first | exact List.Sublist.refl _ | exact sub1 | exact sub2 | exact sub3) (rbF (fun q => by subst q; exact hb rfl)) (.inl rfl)
  · exact loopQ_nextD (k + 1) ⟨by omega, all_step kp (fun _ => by rw [hb]; simp)⟩ (by omega) (by first | exact List.Sublist.refl _ | exact sub1 | exact sub2 | exact sub3) ⟨rfl, rfl, nx _, trivial⟩
  · exact end1 rfl (by first | exact List.Sublist.refl _ | exact sub1 | exact sub2 | exact sub3) (rbT (List.ext_getElem (by omega) (fun i h1 h2 => by have := kp i h1 (by omega); rw [List.getElem?_eq_getElem h2] at this; exact Option.some.inj this))) (.inl rfl)

end Go.Proofs.YtbpmmdecaonopaaGreat

/-
  Library functions over lists of numbers and lists of lists: the first element of a kind. No condition.
-/
namespace Go.Proofs.YtbpmmdecaonopaaGreat
open Go.AI
set_option maxRecDepth 8000
set_option maxHeartbeats 1600000

theorem c_ixfI (f : FuncId) (caps : List A) (r : Int → Prop) (l : List (Int)) (hf : ∀ x ∈ l, Gives Tryz.prog f (.int x :: caps) (.raw (.bool (dec (r x))))) : Gives Tryz.prog 87 [.sl (l.map Go.AI.encI), .fn f caps] (.int (fIdx r l)) := by
  refine fn_of_run tyOk ztOk mix Tryz.func87 rfl (by decide) Tryz.ntmps87 (fun w0 h => ?_)
  refine run_len (t := 0) rfl (fun hl => ?_)
  rw [List.length_map] at hl
  repeat' (first
      | (refine j_go ?_; first
        | refine j_op0 rfl rfl rfl rfl ?_ | (refine j_kLen rfl ?_; first | refine j_len rfl rfl rfl rfl rfl rfl ?_))
      | refine j_nil ?_
      | (refine r_go ?_; first | refine run_seq ?_ | refine run_region ?_ | refine run_block ?_)
      | refine seqQ_normal ?_)
  refine run_loop (fun k : Nat => [(0, .sl (l.map Go.AI.encI)), (1, .fn f caps), (7, .int l.length), (8, .int (k : Int))]) (fun _ => _) (fun k => k ≤ l.length ∧ (∀ i (h : i < l.length), i < k → ¬ r l[i])) (fun k => l.length - k) 0 ⟨rfl, rfl, rfl, rfl, trivial⟩ rfl ⟨Nat.zero_le _, by first | (intros; omega) | (simp; done) | rfl | trivial | exact ⟨by simp [sumF], by intros; omega⟩ | exact ⟨by omega, by simp⟩⟩ (fun k ⟨kl, kp⟩ => ?_)
  repeat' (first
      | (refine j_go ?_; first
        | refine j_op0 rfl rfl rfl rfl ?_ | (refine j_kIdx rfl ?_; first | refine j_idx rfl rfl rfl rfl rfl (by omega) rfl rfl rfl ?_) | (refine j_kBin rfl ?_; first | refine j_in rfl rfl ⟨by omega, by omega⟩ rfl rfl ?_) | (refine j_kCall rfl rfl rfl rfl ?_; first | refine jc (hf _ (List.getElem_mem _)) (LeL.refl _) rfl rfl ?_))
      | refine j_nil ?_
      | (refine r_go ?_; first | refine run_seq ?_ | refine run_region ?_ | (refine (run_if rfl (fun hb => ?_) (fun hb => ?_)) <;> first | (exfalso; omega) | skip) | refine run_block ?_ | refine run_ret ?_ | refine run_exit ?_ | refine run_skip ?_)
      | refine seqQ_normal ?_ | refine seqQ_ret ?_ | refine seqQ_exit ?_ | refine blockQ_normal ?_ | refine blockQ_ret ?_ | refine blockQ_eq ?_ | refine loopQ_ret ?_ | refine loopQ_exit ?_)
  · exact end1 rfl (List.Sublist.refl _) (ai (fIdx_at (by omega) hb kp).symm) (.inl rfl)
  · exact loopQ_nextD (k + 1) ⟨by omega, all_step kp (fun _ => hb)⟩ (by omega) (by first | exact List.Sublist.refl _ | exact sub1 | exact sub2 | exact sub3) ⟨rfl, rfl, rfl, nx _, trivial⟩
  · exact end1 rfl (List.Sublist.refl _) (ai (fIdx_none (fun i h => kp i h (by omega))).symm) (.inl rfl)

theorem c_cfI (f : FuncId) (caps : List A) (r : Int → Prop) (l : List (Int)) (hf : ∀ x ∈ l, Gives Tryz.prog f (.int x :: caps) (.raw (.bool (dec (r x))))) : Gives Tryz.prog 64 [.sl (l.map Go.AI.encI), .fn f caps] (.raw (.bool (dec (∃ x ∈ l, r x)))) := by
  refine fn_of_run tyOk ztOk mix Tryz.func64 rfl (by decide) Tryz.ntmps64 (fun w0 h => ?_)
  repeat' (first
      | (refine j_go ?_; first
        | refine j_op0 rfl rfl rfl rfl ?_ | (refine j_kCall rfl rfl rfl rfl ?_; first | refine jc (c_ixfI _ _ r _ hf) (LeL.refl _) rfl rfl ?_))
      | refine j_nil ?_
      | (refine r_go ?_; first | refine run_seq ?_ | refine run_region ?_ | refine run_ret ?_)
      | refine seqQ_normal ?_)
  exact end1 rfl (List.Sublist.refl _) (rbD (fIdx_ex r l)) (.inl rfl)
theorem c_ixfS (f : FuncId) (caps : List A) (r : List Int → Prop) (l : List (List Int)) (hf : ∀ x ∈ l, Gives Tryz.prog f (.sl (x.map Go.AI.encI) :: caps) (.raw (.bool (dec (r x))))) : Gives Tryz.prog 88 [.sl (l.map (encS Go.AI.encI)), .fn f caps] (.int (fIdx r l)) := by
  refine fn_of_run tyOk ztOk mix Tryz.func88 rfl (by decide) Tryz.ntmps88 (fun w0 h => ?_)
  refine run_len (t := 0) rfl (fun hl => ?_)
  rw [List.length_map] at hl
  repeat' (first
      | (refine j_go ?_; first
        | refine j_op0 rfl rfl rfl rfl ?_ | (refine j_kLen rfl ?_; first | refine j_len rfl rfl rfl rfl rfl rfl ?_))
      | refine j_nil ?_
      | (refine r_go ?_; first | refine run_seq ?_ | refine run_region ?_ | refine run_block ?_)
      | refine seqQ_normal ?_)
  refine run_loop (fun k : Nat => [(0, .sl (l.map (encS Go.AI.encI))), (1, .fn f caps), (7, .int l.length), (8, .int (k : Int))]) (fun _ => _) (fun k => k ≤ l.length ∧ (∀ i (h : i < l.length), i < k → ¬ r l[i])) (fun k => l.length - k) 0 ⟨rfl, rfl, rfl, rfl, trivial⟩ rfl ⟨Nat.zero_le _, by first | (intros; omega) | (simp; done) | rfl | trivial | exact ⟨by simp [sumF], by intros; omega⟩ | exact ⟨by omega, by simp⟩⟩ (fun k ⟨kl, kp⟩ => ?_)
  repeat' (first
      | (refine j_go ?_; first
        | refine j_op0 rfl rfl rfl rfl ?_ | (refine j_kIdx rfl ?_; first | refine j_idx rfl rfl rfl rfl rfl (by omega) rfl rfl rfl ?_) | (refine j_kBin rfl ?_; first | refine j_in rfl rfl ⟨by omega, by omega⟩ rfl rfl ?_) | (refine j_kCall rfl rfl rfl rfl ?_; first | refine jc (hf _ (List.getElem_mem _)) (LeL.refl _) rfl rfl ?_))
      | refine j_nil ?_
      | (refine r_go ?_; first | refine run_seq ?_ | refine run_region ?_ | (refine (run_if rfl (fun hb => ?_) (fun hb => ?_)) <;> first | (exfalso; omega) | skip) | refine run_block ?_ | refine run_ret ?_ | refine run_exit ?_ | refine run_skip ?_)
      | refine seqQ_normal ?_ | refine seqQ_ret ?_ | refine seqQ_exit ?_ | refine blockQ_normal ?_ | refine blockQ_ret ?_ | refine blockQ_eq ?_ | refine loopQ_ret ?_ | refine loopQ_exit ?_)
  · exact end1 rfl (List.Sublist.refl _) (ai (fIdx_at (by omega) hb kp).symm) (.inl rfl)
  · exact loopQ_nextD (k + 1) ⟨by omega, all_step kp (fun _ => hb)⟩ (by omega) (by first | exact List.Sublist.refl _ | exact sub1 | exact sub2 | exact sub3) ⟨rfl, rfl, rfl, nx _, trivial⟩
  · exact end1 rfl (List.Sublist.refl _) (ai (fIdx_none (fun i h => kp i h (by omega))).symm) (.inl rfl)

theorem c_cfS (f : FuncId) (caps : List A) (r : List Int → Prop) (l : List (List Int)) (hf : ∀ x ∈ l, Gives Tryz.prog f (.sl (x.map Go.AI.encI) :: caps) (.raw (.bool (dec (r x))))) : Gives Tryz.prog 66 [.sl (l.map (encS Go.AI.encI)), .fn f caps] (.raw (.bool (dec (∃ x ∈ l, r x)))) := by
  refine fn_of_run tyOk ztOk mix Tryz.func66 rfl (by decide) Tryz.ntmps66 (fun w0 h => ?_)
  repeat' (first
      | (refine j_go ?_; first
        | refine j_op0 rfl rfl rfl rfl ?_ | (refine j_kCall rfl rfl rfl rfl ?_; first | refine jc (c_ixfS _ _ r _ hf) (LeL.refl _) rfl rfl ?_))
      | refine j_nil ?_
      | (refine r_go ?_; first | refine run_seq ?_ | refine run_region ?_ | refine run_ret ?_)
      | refine seqQ_normal ?_)
  exact end1 rfl (List.Sublist.refl _) (rbD (fIdx_ex r l)) (.inl rfl)

end Go.Proofs.YtbpmmdecaonopaaGreat

/-
  The data of the laws' theme 2, as structures, and the helpers of the laws over them: sizes, copies, comparisons. No condition but that the sizes are at most 1048576.
-/
namespace Go.Proofs.YtbpmmdecaonopaaGreat
open Go.AI
set_option maxRecDepth 8000

structure Into where
  cell : Int
  bag : List Int
  deriving DecidableEq, Inhabited
/-- What its size tells of it. -/
structure OkInto (x : Into) : Prop where
  bag : x.bag.length ≤ 1048576
structure Rule where
  cell : Int
  rank : Int
  need : List Int
  have_ : List Int
  lack : List Int
  here : List Int
  out : List Int
  into : List Into
  melts : Bool
  deriving DecidableEq, Inhabited
/-- What its size tells of it. -/
structure OkRule (x : Rule) : Prop where
  need : x.need.length ≤ 1048576
  have_ : x.have_.length ≤ 1048576
  lack : x.lack.length ≤ 1048576
  here : x.here.length ≤ 1048576
  out : x.out.length ≤ 1048576
  into : x.into.length ≤ 1048576 ∧ ∀ r ∈ x.into, OkInto r
structure System where
  kinds : Int
  parents : List Int
  rules : List Rule
  deriving DecidableEq, Inhabited
/-- What its size tells of it. -/
structure OkSystem (x : System) : Prop where
  parents : x.parents.length ≤ 1048576
  rules : x.rules.length ≤ 1048576 ∧ ∀ r ∈ x.rules, OkRule r
structure State where
  alive : List Bool
  bags : List (List Int)
  around : List Int
  deriving DecidableEq, Inhabited
/-- What its size tells of it. -/
structure OkState (x : State) : Prop where
  alive : x.alive.length ≤ 1048576
  bags : x.bags.length ≤ 1048576 ∧ ∀ r ∈ x.bags, r.length ≤ 1048576
  around : x.around.length ≤ 1048576
end Go.Proofs.YtbpmmdecaonopaaGreat

/-
  Library functions over lists of rules and of what is put into cells: the first element of a kind. No condition.
-/
namespace Go.Proofs.YtbpmmdecaonopaaGreat
open Go.AI
set_option maxRecDepth 8000
set_option maxHeartbeats 1600000




end Go.Proofs.YtbpmmdecaonopaaGreat

/-
  Bags: what the small functions on bags of the reference and of the program compute. No condition.
-/
namespace Go.Proofs.YtbpmmdecaonopaaGreat
open Go.AI
set_option maxRecDepth 8000
set_option maxHeartbeats 1600000

/-- A bag for so many kinds. -/
def BagK (k : Int) (b : List Int) : Prop := Bag b ∧ (b.length : Int) = k
theorem BagK.bnd {k : Int} {b : List Int} (h : BagK k b) : 0 ≤ tot b ∧ tot b ≤ 8000 := by
  have := h.1.take b.length (Nat.le_refl _)
  have := h.1.2.2
  rw [List.take_length] at *
  unfold tot; omega




theorem c_bagSize (b : List Int) (hB : Small b) : Gives Tryz.prog 36 [.sl (b.map Go.AI.encI)] (.int (tot b)) := by
  refine fn_of_run tyOk ztOk mix Tryz.func36 rfl (by decide) Tryz.ntmps36 (fun w0 h => ?_)
  have hB2 := hB.2
  repeat' (first
      | (refine j_go ?_; first
        | refine j_op0 rfl rfl rfl rfl ?_ | (refine j_kLen rfl ?_; first | refine j_len rfl rfl rfl rfl rfl rfl ?_))
      | refine j_nil ?_
      | (refine r_go ?_; first | refine run_seq ?_ | refine run_region ?_ | refine run_block ?_)
      | refine seqQ_normal ?_)
  refine run_loop (fun k : Nat => [(3, .int (sumF (fun x => x) (b.take k))), (6, .sl (b.map Go.AI.encI)), (7, .int b.length), (8, .int (k : Int))]) (fun _ => _) (fun k => k ≤ b.length ∧ (True)) (fun k => b.length - k) 0 ⟨(by first | rfl | exact si (by first | omega | (simp; done) | (simp [sumF]; done) | (simp; omega)) | exact raw_f (by simp) | exact raw_t (by simp) | exact sa (by first | (rw [catK_zero]; rfl) | (rw [catK_zero, List.append_nil]; rfl) | (rw [catK_zero, List.append_nil]) | (rw [joinK_zero, List.append_nil]; rfl) | (rw [joinK_zero, List.append_nil]) | (simp [catK]; done))), rfl, rfl, rfl, trivial⟩ rfl ⟨Nat.zero_le _, by first | (intros; omega) | (simp; done) | rfl | trivial | exact ⟨by simp [sumF], by intros; omega⟩ | exact ⟨by omega, by simp⟩⟩ (fun k ⟨kl, kp⟩ => ?_)
  have b1 := hB.take k kl
  by_cases hk : k < b.length
  · have b2 := hB.1 _ (List.getElem_mem hk)
    repeat' (first
      | (refine j_go ?_; first
        | refine j_op0 rfl rfl rfl rfl ?_ | (refine j_kIdx rfl ?_; first | refine j_idx rfl rfl rfl rfl rfl (by omega) rfl rfl rfl ?_) | (refine j_kBin rfl ?_; first | refine j_in rfl rfl ⟨by omega, by omega⟩ rfl rfl ?_))
      | refine j_nil ?_
      | (refine r_go ?_; first | refine run_seq ?_ | refine run_region ?_ | (refine (run_if rfl (fun hb => ?_) (fun hb => ?_)) <;> first | (exfalso; omega) | skip) | refine run_block ?_ | refine run_skip ?_)
      | refine seqQ_normal ?_ | refine blockQ_normal ?_)
    exact loopQ_nextD (k + 1) ⟨by omega, trivial⟩ (by omega) (by first | exact List.Sublist.refl _ | exact sub1 | exact sub2 | exact sub3) ⟨(by first | rfl | (rw [sumF_succ (fun x => x) hk]; try rfl) | exact si (by omega)), rfl, rfl, nx _, trivial⟩
  · repeat' (first
      | (refine j_go ?_; first
        | refine j_op0 rfl rfl rfl rfl ?_)
      | refine j_nil ?_
      | (refine r_go ?_; first | refine run_seq ?_ | refine run_region ?_ | (refine (run_if rfl (fun hb => ?_) (fun hb => ?_)) <;> first | (exfalso; omega) | skip) | refine run_ret ?_ | refine run_exit ?_)
      | refine seqQ_normal ?_ | refine seqQ_exit ?_ | refine blockQ_eq ?_ | refine loopQ_exit ?_)
    exact end1 rfl (List.Sublist.refl _) (ai (by rw [List.take_of_length_le (by omega)]; rfl)) (.inl rfl)

theorem c_sizeI (l : List Int) : Gives Tryz.prog 35 [.sl (l.map Go.AI.encI)] (.int l.length) := by
  refine fn_of_run tyOk ztOk mix Tryz.func35 rfl (by decide) Tryz.ntmps35 (fun w0 h => ?_)
  repeat' (first
      | (refine j_go ?_; first
        | refine j_op0 rfl rfl rfl rfl ?_ | (refine j_kLen rfl ?_; first | refine j_len rfl rfl rfl rfl rfl rfl ?_))
      | refine j_nil ?_
      | (refine r_go ?_; first | refine run_seq ?_ | refine run_region ?_ | refine run_ret ?_)
      | refine seqQ_normal ?_)
  exact end1 rfl (List.Sublist.refl _) (rfl) (.inl rfl)

theorem c_ValidBag1 (x : Int) : Gives Tryz.prog 95 [.int x] (.raw (.bool (dec (¬ (0 ≤ x ∧ x ≤ 1000))))) := by
  refine fn_of_run tyOk ztOk mix Tryz.func95 rfl (by decide) Tryz.ntmps95 (fun w0 h => ?_)
  repeat' (first
      | (refine j_go ?_; first
        | refine j_op0 rfl rfl rfl rfl ?_ | (refine j_kCall rfl rfl rfl rfl ?_; first | refine jc (c_inRange _ _ _) (LeL.refl _) rfl rfl ?_))
      | refine j_nil ?_
      | (refine r_go ?_; first | refine run_seq ?_ | refine run_region ?_ | refine run_ret ?_)
      | refine seqQ_normal ?_)
  exact end1 rfl (List.Sublist.refl _) (rbN Iff.rfl) (.inl rfl)

theorem bag_of {k : Int} {b : List Int} (h1 : 1 ≤ k ∧ k ≤ 8) (h2 : (b.length : Int) = k) : (¬ ∃ x ∈ b, ¬ (0 ≤ x ∧ x ≤ 1000)) ↔ BagK k b := by
  constructor
  · intro h
    exact ⟨⟨fun x hx => Classical.byContradiction fun q => h ⟨x, hx, q⟩, by omega, by omega⟩, h2⟩
  · rintro h ⟨x, hx, q⟩
    exact q (h.1.1 x hx)
theorem c_ValidBag (k : Int) (b : List Int) : Gives Tryz.prog 75 [.int k, .sl (b.map Go.AI.encI)] (.raw (.bool (dec (BagK k b)))) := by
  refine fn_of_run tyOk ztOk mix Tryz.func75 rfl (by decide) Tryz.ntmps75 (fun w0 h => ?_)
  repeat' (first
      | (refine j_go ?_; first
        | refine j_op0 rfl rfl rfl rfl ?_ | refine j_off rfl rfl rfl ?_ | (refine j_kCall rfl rfl rfl rfl ?_; first | refine jc (c_inRange _ _ _) (LeL.refl _) rfl rfl ?_ | refine jc (c_sizeI _) (LeL.refl _) rfl rfl ?_ | refine jc (c_cfI _ _ (fun x => ¬ (0 ≤ x ∧ x ≤ 1000)) _ (fun x _ => c_ValidBag1 x)) (LeL.refl _) rfl rfl ?_) | (refine j_kGuard rfl ?_; first | (refine (j_if rfl rfl rfl (fun hb => ?_) (fun hb => ?_)) <;> first | (exfalso; omega) | skip)))
      | refine j_nil ?_
      | (refine r_go ?_; first | refine run_seq ?_ | refine run_region ?_ | refine run_ret ?_)
      | refine seqQ_normal ?_)
  all_goals first | exact end1 rfl (List.Sublist.refl _) (rbN (bag_of (by assumption) (by assumption))) (.inl rfl) | exact end1 rfl (by first | exact List.Sublist.refl _ | exact sub1 | exact sub2 | exact sub3) (rbF (fun q => by have := q.1.2; have := q.2; omega)) (.inl rfl) | trace_state

/-! #### The frame of a system -/
def System.Frame (s : System) : Prop := (1 ≤ s.kinds ∧ s.kinds ≤ 8) ∧ (1 ≤ s.parents.length ∧ s.parents.length ≤ 6) ∧ s.parents[0]? = some (-1) ∧ ∀ c (h : c < s.parents.length), 1 ≤ c → 0 ≤ s.parents[c] ∧ s.parents[c] ≤ (c : Int) - 1
theorem System.Frame.zero {s : System} (h : s.Frame) : s.parents[0]'(by have := h.2.1; omega) = -1 := by
  have h1 := h.2.2.1
  rw [List.getElem?_eq_getElem (by have := h.2.1; omega)] at h1
  exact Option.some.inj h1



/-- Cell c lies within cell o. -/
inductive Lies (ps : List Int) (o : Int) : Int → Prop
  | here {c p : Int} (h : ps[c.toNat]? = some p) (hp : 0 ≤ p) (e : p = o) : Lies ps o c
  | up {c p : Int} (h : ps[c.toNat]? = some p) (hp : 0 ≤ p) (t : Lies ps o p) : Lies ps o c
theorem System.Frame.par {s : System} (h : s.Frame) {c : Int} (h0 : 0 ≤ c) (h1 : c ≤ (s.parents.length : Int) - 1) : (c = 0 ∧ s.parents[c.toNat]'(by omega) = -1) ∨ (1 ≤ c ∧ 0 ≤ s.parents[c.toNat]'(by omega) ∧ s.parents[c.toNat]'(by omega) ≤ c - 1) := by
  by_cases hc : c = 0
  · subst hc; exact .inl ⟨rfl, h.zero⟩
  · have := h.2.2.2 c.toNat (by omega) (by omega)
    exact .inr ⟨by omega, by omega, by omega⟩




end Go.Proofs.YtbpmmdecaonopaaGreat

/-
  Rules and systems: what ValidRule and ValidSystem of the reference and of the program compute. No condition.
-/
namespace Go.Proofs.YtbpmmdecaonopaaGreat
open Go.AI
set_option maxRecDepth 8000
set_option maxHeartbeats 1600000

def System.IntoOk (s : System) (r : Rule) (x : Into) : Prop := (0 ≤ x.cell ∧ x.cell ≤ (s.parents.length : Int) - 1) ∧ Lies s.parents r.cell x.cell ∧ BagK s.kinds x.bag ∧ ¬ tot x.bag = 0
/-- A rule is right for a system. -/
def System.RuleOk (s : System) (r : Rule) : Prop := (0 ≤ r.cell ∧ r.cell ≤ (s.parents.length : Int) - 1) ∧ (0 ≤ r.rank ∧ r.rank ≤ 9) ∧ ¬ (r.melts = true ∧ r.cell = 0) ∧ (r.into.length : Int) ≤ 3 ∧
  BagK s.kinds r.need ∧ BagK s.kinds r.have_ ∧ BagK s.kinds r.lack ∧ BagK s.kinds r.here ∧ BagK s.kinds r.out ∧ ¬ tot r.need = 0 ∧
  ∀ i (h : i < r.into.length), s.IntoOk r r.into[i] ∧ (0 < i → r.into[i-1].cell < r.into[i].cell)
theorem BagK.bag {k : Int} {b : List Int} (h : BagK k b) : Small b := h.1.small



def Rule.bags (r : Rule) : List (List Int) := [r.need, r.have_, r.lack, r.here, r.out]



end Go.Proofs.YtbpmmdecaonopaaGreat

/-
  Systems: what ValidSystem of the reference and of the program compute. No condition.
-/
namespace Go.Proofs.YtbpmmdecaonopaaGreat
open Go.AI
set_option maxRecDepth 8000
set_option maxHeartbeats 1600000

/-- How many of some rules each cell has. -/
def cntR (c : Int) (rs : List Rule) : Int := sumF (fun r => one c r.cell) rs
/-- A system is right. -/
def System.Ok (s : System) : Prop := s.Frame ∧ s.rules.length ≤ 16 ∧ ∀ i (h : i < s.rules.length), s.RuleOk s.rules[i] ∧ cntR s.rules[i].cell (s.rules.take (i + 1)) ≤ 8




end Go.Proofs.YtbpmmdecaonopaaGreat

/-
  States: what ValidState and ParentNow of the reference and of the program compute. No condition.
-/
namespace Go.Proofs.YtbpmmdecaonopaaGreat
open Go.AI
set_option maxRecDepth 8000
set_option maxHeartbeats 1600000

def System.CellOk (s : System) (al : Option Bool) (b : List Int) : Prop := BagK s.kinds b ∧ (al = some true ∨ tot b ≤ 0)
/-- A state is right for a system. -/
def System.StateOk (s : System) (t : State) : Prop := t.alive.length = s.parents.length ∧ t.bags.length = s.parents.length ∧ t.alive[0]? = some true ∧ BagK s.kinds t.around ∧ ∀ i (h : i < t.bags.length), s.CellOk t.alive[i]? t.bags[i]
theorem al_t {l : List Bool} {i : Nat} {h : i < l.length} (e : l[i] = true) : l[i]? = some true := by rw [List.getElem?_eq_getElem h, e]
theorem al_t' {l : List Bool} {i : Nat} {h : i < l.length} (e : (!l[i]) = false) : l[i]? = some true := al_t (h := h) (by simpa using e)
theorem al_f' {l : List Bool} {i : Nat} {h : i < l.length} (e : (!l[i]) = true) : ¬ l[i]? = some true := by rw [List.getElem?_eq_getElem h]; simp at e; simp [e]
theorem al_f {l : List Bool} {i : Nat} {h : i < l.length} (e : l[i] = false) : ¬ l[i]? = some true := by rw [List.getElem?_eq_getElem h, e]; simp




/-- The parent now of a cell, from p on. -/
def pnowF (ps : List Int) (al : List Bool) : Nat → Int → Int
  | 0, p => p
  | n + 1, p => if 0 ≤ p ∧ al[p.toNat]? = some false then pnowF ps al n (ps.getD p.toNat (-1)) else p
def pnow (s : System) (t : State) (c : Int) : Int := pnowF s.parents t.alive 6 (s.parents.getD c.toNat (-1))
theorem getD_get {α : Type} {l : List α} {i : Nat} {d : α} (h : i < l.length) : l.getD i d = l[i] := by simp [h]
theorem at_ {l : List Bool} {i : Nat} {h : i < l.length} (e : l[i] = true) : ¬ l[i]? = some false := by rw [List.getElem?_eq_getElem h, e]; simp


theorem pnow_bnd {s : System} {t : State} {c : Int} (hv : s.Ok) (h0 : 0 ≤ c ∧ c ≤ (s.parents.length : Int) - 1) : -1 ≤ pnow s t c ∧ pnow s t c ≤ (s.parents.length : Int) - 1 := by
  have key : ∀ (n : Nat) (p : Int), -1 ≤ p → p ≤ (s.parents.length : Int) - 1 → -1 ≤ pnowF s.parents t.alive n p ∧ pnowF s.parents t.alive n p ≤ (s.parents.length : Int) - 1 := by
    intro n
    induction n with
    | zero => intro p h1 h2; exact ⟨h1, h2⟩
    | succ n ih =>
      intro p h1 h2
      rw [pnowF]
      split
      · rename_i hq
        have := hv.1.par hq.1 h2
        rw [getD_get (by omega)]
        exact ih _ (by omega) (by omega)
      · exact ⟨h1, h2⟩
  have := hv.1.par h0.1 h0.2
  unfold pnow
  rw [getD_get (by omega)]
  exact key _ _ (by omega) (by omega)

def State.Lives (t : State) (c : Int) : Prop := t.alive[c.toNat]? = some true



end Go.Proofs.YtbpmmdecaonopaaGreat

/-
  The data of the laws' theme 6, as structures, and the helpers of the laws over them: sizes, copies, comparisons. No condition but that the sizes are at most 1048576.
-/
namespace Go.Proofs.YtbpmmdecaonopaaGreat
open Go.AI
set_option maxRecDepth 8000

structure PassRule where
  cell : Int
  out : List Int
  in_ : List Int
  deriving DecidableEq, Inhabited
def encPassRule (x : PassRule) : List A := [.int x.cell, .sl (x.out.map Go.AI.encI), .sl (x.in_.map Go.AI.encI)]
/-- What its size tells of it. -/
structure OkPassRule (x : PassRule) : Prop where
  out : x.out.length ≤ 1048576
  in_ : x.in_.length ≤ 1048576
structure Passing where
  kinds : Int
  parents : List Int
  free : List Bool
  rules : List PassRule
  deriving DecidableEq, Inhabited
def encPassing (x : Passing) : List A := [.int x.kinds, .sl (x.parents.map Go.AI.encI), .sl (x.free.map encB), .sl (x.rules.map encPassRule)]
/-- What its size tells of it. -/
structure OkPassing (x : Passing) : Prop where
  parents : x.parents.length ≤ 1048576
  free : x.free.length ≤ 1048576
  rules : x.rules.length ≤ 1048576 ∧ ∀ r ∈ x.rules, OkPassRule r
structure Stock where
  cells : List (List Int)
  around : List Int
  deriving DecidableEq, Inhabited
def encStock (x : Stock) : List A := [.sl (x.cells.map (encS Go.AI.encI)), .sl (x.around.map Go.AI.encI)]
/-- What its size tells of it. -/
structure OkStock (x : Stock) : Prop where
  cells : x.cells.length ≤ 1048576 ∧ ∀ r ∈ x.cells, r.length ≤ 1048576
  around : x.around.length ≤ 1048576
end Go.Proofs.YtbpmmdecaonopaaGreat

/-
  Library functions over lists of passing rules: the first element of a kind. No condition.
-/
namespace Go.Proofs.YtbpmmdecaonopaaGreat
open Go.AI
set_option maxRecDepth 8000
set_option maxHeartbeats 1600000

theorem c_ixfP (f : FuncId) (caps : List A) (r : PassRule → Prop) (l : List (PassRule)) (hf : ∀ x ∈ l, Gives Tryz.prog f (.agg (encPassRule x) :: caps) (.raw (.bool (dec (r x))))) : Gives Tryz.prog 110 [.sl (l.map encPassRule), .fn f caps] (.int (fIdx r l)) := by
  refine fn_of_run tyOk ztOk mix Tryz.func110 rfl (by decide) Tryz.ntmps110 (fun w0 h => ?_)
  refine run_len (t := 0) rfl (fun hl => ?_)
  rw [List.length_map] at hl
  repeat' (first
      | (refine j_go ?_; first
        | refine j_op0 rfl rfl rfl rfl ?_ | (refine j_kLen rfl ?_; first | refine j_len rfl rfl rfl rfl rfl rfl ?_))
      | refine j_nil ?_
      | (refine r_go ?_; first | refine run_seq ?_ | refine run_region ?_ | refine run_block ?_)
      | refine seqQ_normal ?_)
  refine run_loop (fun k : Nat => [(0, .sl (l.map encPassRule)), (1, .fn f caps), (7, .int l.length), (8, .int (k : Int))]) (fun _ => _) (fun k => k ≤ l.length ∧ (∀ i (h : i < l.length), i < k → ¬ r l[i])) (fun k => l.length - k) 0 ⟨rfl, rfl, rfl, rfl, trivial⟩ rfl ⟨Nat.zero_le _, by first | (intros; omega) | (simp; done) | rfl | trivial | exact ⟨by simp [sumF], by intros; omega⟩ | exact ⟨by omega, by simp⟩⟩ (fun k ⟨kl, kp⟩ => ?_)
  repeat' (first
      | (refine j_go ?_; first
        | refine j_op0 rfl rfl rfl rfl ?_ | (refine j_kIdx rfl ?_; first | refine j_idx rfl rfl rfl rfl rfl (by omega) rfl rfl rfl ?_) | (refine j_kBin rfl ?_; first | refine j_in rfl rfl ⟨by omega, by omega⟩ rfl rfl ?_) | (refine j_kCall rfl rfl rfl rfl ?_; first | refine jc (hf _ (List.getElem_mem _)) (LeL.refl _) rfl rfl ?_))
      | refine j_nil ?_
      | (refine r_go ?_; first | refine run_seq ?_ | refine run_region ?_ | (refine (run_if rfl (fun hb => ?_) (fun hb => ?_)) <;> first | (exfalso; omega) | skip) | refine run_block ?_ | refine run_ret ?_ | refine run_exit ?_ | refine run_skip ?_)
      | refine seqQ_normal ?_ | refine seqQ_ret ?_ | refine seqQ_exit ?_ | refine blockQ_normal ?_ | refine blockQ_ret ?_ | refine blockQ_eq ?_ | refine loopQ_ret ?_ | refine loopQ_exit ?_)
  · exact end1 rfl (List.Sublist.refl _) (ai (fIdx_at (by omega) hb kp).symm) (.inl rfl)
  · exact loopQ_nextD (k + 1) ⟨by omega, all_step kp (fun _ => hb)⟩ (by omega) (by first | exact List.Sublist.refl _ | exact sub1 | exact sub2 | exact sub3) ⟨rfl, rfl, rfl, nx _, trivial⟩
  · exact end1 rfl (List.Sublist.refl _) (ai (fIdx_none (fun i h => kp i h (by omega))).symm) (.inl rfl)

theorem c_cfP (f : FuncId) (caps : List A) (r : PassRule → Prop) (l : List (PassRule)) (hf : ∀ x ∈ l, Gives Tryz.prog f (.agg (encPassRule x) :: caps) (.raw (.bool (dec (r x))))) : Gives Tryz.prog 90 [.sl (l.map encPassRule), .fn f caps] (.raw (.bool (dec (∃ x ∈ l, r x)))) := by
  refine fn_of_run tyOk ztOk mix Tryz.func90 rfl (by decide) Tryz.ntmps90 (fun w0 h => ?_)
  repeat' (first
      | (refine j_go ?_; first
        | refine j_op0 rfl rfl rfl rfl ?_ | (refine j_kCall rfl rfl rfl rfl ?_; first | refine jc (c_ixfP _ _ r _ hf) (LeL.refl _) rfl rfl ?_))
      | refine j_nil ?_
      | (refine r_go ?_; first | refine run_seq ?_ | refine run_region ?_ | refine run_ret ?_)
      | refine seqQ_normal ?_)
  exact end1 rfl (List.Sublist.refl _) (rbD (fIdx_ex r l)) (.inl rfl)

end Go.Proofs.YtbpmmdecaonopaaGreat
