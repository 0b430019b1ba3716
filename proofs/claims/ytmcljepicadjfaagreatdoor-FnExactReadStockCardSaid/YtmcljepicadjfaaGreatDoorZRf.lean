/-
  The types of this seat's program, as the walk over plain data wants them. No condition.
-/
import Derived.Test.YtmcljepicadjfaaGreatDoorZRun
import Derived.Test.YtmcljepicadjfaaGreatDoorChecked
import Derived.Test.YtmcljepicadjfaaGreatDoorZT
import Derived.Test.YtmcljepicadjfaaGreatDoorZE2
namespace Go.Proofs.YtmcljepicadjfaaGreatDoor
open Go.AI
def tyl : List (Nat × TI) := [(1, ⟨1, .scalar⟩),
  (2, ⟨1, .ik .i64⟩),
  (3, ⟨1, .ik .i64⟩),
  (4, ⟨1, .bool⟩),
  (5, ⟨1, .ik .u8⟩),
  (6, ⟨1, .ik .u8⟩),
  (7, ⟨4, .struct [(0, 1), (1, 1), (2, 1), (3, 1)]⟩),
  (8, ⟨4, .struct [(0, 1), (1, 1), (2, 1), (3, 1)]⟩),
  (9, ⟨1, .str⟩),
  (10, ⟨1, .str⟩),
  (11, ⟨1, .str⟩),
  (12, ⟨1, .ik .u64⟩),
  (13, ⟨2, .struct [(0, 1), (1, 1)]⟩),
  (14, ⟨2, .struct [(0, 1), (1, 1)]⟩),
  (15, ⟨1, .scalar⟩),
  (16, ⟨1, .scalar⟩),
  (17, ⟨1, .scalar⟩),
  (18, ⟨1, .struct [(0, 1)]⟩),
  (19, ⟨1, .struct [(0, 1)]⟩),
  (21, ⟨1, .ik .i32⟩),
  (22, ⟨1, .slice 5 1⟩),
  (23, ⟨1, .scalar⟩),
  (24, ⟨1, .slice 2 1⟩),
  (25, ⟨1, .slice 4 1⟩),
  (26, ⟨1, .slice 75 3⟩),
  (27, ⟨4, .struct [(0, 1), (1, 1), (2, 1), (3, 1)]⟩),
  (28, ⟨4, .struct [(0, 1), (1, 1), (2, 1), (3, 1)]⟩),
  (29, ⟨1, .slice 24 1⟩),
  (30, ⟨2, .struct [(0, 1), (1, 1)]⟩),
  (31, ⟨2, .struct [(0, 1), (1, 1)]⟩),
  (33, ⟨1, .scalar⟩),
  (35, ⟨1, .scalar⟩),
  (36, ⟨1, .scalar⟩),
  (38, ⟨1, .scalar⟩),
  (39, ⟨1, .scalar⟩),
  (40, ⟨1, .scalar⟩),
  (41, ⟨1, .scalar⟩),
  (42, ⟨1, .scalar⟩),
  (43, ⟨1, .scalar⟩),
  (44, ⟨1, .scalar⟩),
  (45, ⟨1, .scalar⟩),
  (46, ⟨1, .slice 131 3⟩),
  (47, ⟨4, .struct [(0, 1), (1, 1), (2, 1), (3, 1)]⟩),
  (48, ⟨4, .struct [(0, 1), (1, 1), (2, 1), (3, 1)]⟩),
  (49, ⟨1, .scalar⟩),
  (50, ⟨1, .scalar⟩),
  (51, ⟨1, .scalar⟩),
  (52, ⟨1, .scalar⟩),
  (53, ⟨1, .scalar⟩),
  (54, ⟨1, .scalar⟩),
  (55, ⟨1, .scalar⟩),
  (56, ⟨1, .scalar⟩),
  (57, ⟨1, .slice 9 1⟩),
  (59, ⟨1, .scalar⟩),
  (61, ⟨1, .scalar⟩),
  (63, ⟨1, .iface⟩),
  (65, ⟨1, .scalar⟩),
  (66, ⟨1, .scalar⟩),
  (67, ⟨1, .scalar⟩),
  (68, ⟨1, .scalar⟩),
  (69, ⟨1, .scalar⟩),
  (70, ⟨2, .struct [(0, 1), (1, 1)]⟩),
  (71, ⟨2, .struct [(0, 1), (1, 1)]⟩),
  (72, ⟨1, .scalar⟩),
  (73, ⟨1, .scalar⟩),
  (74, ⟨3, .struct [(0, 1), (1, 1), (2, 1)]⟩),
  (75, ⟨3, .struct [(0, 1), (1, 1), (2, 1)]⟩),
  (76, ⟨1, .scalar⟩),
  (77, ⟨1, .scalar⟩),
  (78, ⟨1, .scalar⟩),
  (80, ⟨1, .scalar⟩),
  (81, ⟨1, .scalar⟩),
  (82, ⟨1, .scalar⟩),
  (83, ⟨1, .scalar⟩),
  (84, ⟨1, .scalar⟩),
  (85, ⟨1, .scalar⟩),
  (86, ⟨1, .scalar⟩),
  (87, ⟨1, .scalar⟩),
  (88, ⟨1, .scalar⟩),
  (89, ⟨1, .scalar⟩),
  (90, ⟨1, .scalar⟩),
  (91, ⟨1, .scalar⟩),
  (93, ⟨1, .scalar⟩),
  (94, ⟨1, .scalar⟩),
  (95, ⟨1, .scalar⟩),
  (96, ⟨1, .scalar⟩),
  (97, ⟨1, .scalar⟩),
  (98, ⟨1, .scalar⟩),
  (99, ⟨1, .scalar⟩),
  (100, ⟨1, .scalar⟩),
  (101, ⟨1, .scalar⟩),
  (102, ⟨1, .scalar⟩),
  (104, ⟨1, .scalar⟩),
  (106, ⟨1, .scalar⟩),
  (107, ⟨1, .scalar⟩),
  (108, ⟨1, .scalar⟩),
  (109, ⟨1, .scalar⟩),
  (110, ⟨1, .scalar⟩),
  (111, ⟨1, .scalar⟩),
  (112, ⟨1, .scalar⟩),
  (113, ⟨1, .scalar⟩),
  (114, ⟨1, .ik .u64⟩),
  (115, ⟨3, .struct [(0, 1), (1, 1), (2, 1)]⟩),
  (116, ⟨3, .struct [(0, 1), (1, 1), (2, 1)]⟩),
  (117, ⟨1, .scalar⟩),
  (118, ⟨1, .scalar⟩),
  (119, ⟨1, .scalar⟩),
  (120, ⟨1, .scalar⟩),
  (121, ⟨1, .scalar⟩),
  (122, ⟨1, .scalar⟩),
  (123, ⟨1, .scalar⟩),
  (124, ⟨1, .scalar⟩),
  (125, ⟨1, .scalar⟩),
  (126, ⟨1, .scalar⟩),
  (127, ⟨1, .scalar⟩),
  (128, ⟨1, .scalar⟩),
  (129, ⟨1, .scalar⟩),
  (130, ⟨1, .scalar⟩),
  (131, ⟨3, .struct [(0, 1), (1, 1), (2, 1)]⟩),
  (132, ⟨1, .scalar⟩),
  (133, ⟨1, .scalar⟩),
  (134, ⟨1, .ik .i64⟩),
  (136, ⟨1, .scalar⟩),
  (137, ⟨1, .ik .u64⟩),
  (138, ⟨1, .scalar⟩),
  (139, ⟨1, .scalar⟩),
  (140, ⟨1, .scalar⟩),
  (141, ⟨1, .scalar⟩),
  (142, ⟨1, .scalar⟩),
  (143, ⟨2, .struct [(0, 1), (1, 1)]⟩),
  (144, ⟨2, .struct [(0, 1), (1, 1)]⟩),
  (145, ⟨1, .scalar⟩),
  (147, ⟨1, .scalar⟩),
  (148, ⟨1, .scalar⟩),
  (149, ⟨1, .scalar⟩),
  (150, ⟨1, .scalar⟩),
  (152, ⟨1, .scalar⟩),
  (153, ⟨1, .scalar⟩),
  (154, ⟨3, .struct [(0, 1), (1, 1), (2, 1)]⟩),
  (155, ⟨3, .struct [(0, 1), (1, 1), (2, 1)]⟩),
  (156, ⟨1, .scalar⟩),
  (157, ⟨1, .scalar⟩),
  (158, ⟨1, .scalar⟩),
  (160, ⟨1, .scalar⟩),
  (161, ⟨1, .scalar⟩),
  (162, ⟨1, .scalar⟩),
  (163, ⟨24, .arr 24 5 1⟩),
  (164, ⟨1, .scalar⟩),
  (165, ⟨1, .scalar⟩),
  (167, ⟨1, .scalar⟩),
  (168, ⟨1, .scalar⟩),
  (169, ⟨1, .scalar⟩),
  (170, ⟨1, .struct [(0, 1)]⟩),
  (171, ⟨1, .struct [(0, 1)]⟩),
  (172, ⟨1, .ik .u32⟩),
  (174, ⟨1, .scalar⟩),
  (175, ⟨1, .scalar⟩),
  (176, ⟨20, .arr 20 114 1⟩),
  (177, ⟨65, .arr 65 5 1⟩),
  (178, ⟨1, .scalar⟩),
  (179, ⟨1, .scalar⟩),
  (181, ⟨1, .scalar⟩),
  (182, ⟨1, .scalar⟩),
  (183, ⟨256, .arr 256 5 1⟩),
  (184, ⟨2, .struct [(0, 1), (1, 1)]⟩),
  (185, ⟨2, .struct [(0, 1), (1, 1)]⟩),
  (186, ⟨32, .arr 16 185 2⟩),
  (187, ⟨1, .scalar⟩),
  (188, ⟨32, .arr 32 5 1⟩),
  (189, ⟨64, .arr 64 5 1⟩),
  (190, ⟨4, .struct [(0, 1), (1, 1), (2, 1), (3, 1)]⟩),
  (191, ⟨4, .struct [(0, 1), (1, 1), (2, 1), (3, 1)]⟩),
  (192, ⟨0, .arr 0 16 1⟩),
  (195, ⟨1, .scalar⟩),
  (196, ⟨1, .ik .u8⟩),
  (197, ⟨1, .ik .u8⟩),
  (198, ⟨1, .scalar⟩),
  (199, ⟨1, .ik .i32⟩),
  (200, ⟨1, .ik .i32⟩),
  (201, ⟨11, .struct [(0, 1), (1, 1), (2, 1), (3, 1), (4, 1), (5, 1), (6, 1), (7, 1), (8, 1), (9, 1), (10, 1)]⟩),
  (202, ⟨11, .struct [(0, 1), (1, 1), (2, 1), (3, 1), (4, 1), (5, 1), (6, 1), (7, 1), (8, 1), (9, 1), (10, 1)]⟩)]
def ty : Nat → Option TI := lkT tyl
theorem tyOk : TyOk Tryz.prog ty := tyOk_of_list tyl (by kernel_rfl)
def ztl : List (Nat × (List ZK × Nat)) := [(1, ([.fn], 8)),
  (2, ([.int], 8)),
  (3, ([.int], 8)),
  (4, ([.bool], 1)),
  (5, ([.byte], 1)),
  (6, ([.byte], 1)),
  (7, ([.int, .int, .bool, .byte], 24)),
  (8, ([.int, .int, .bool, .byte], 24)),
  (9, ([.str], 16)),
  (10, ([.str], 16)),
  (11, ([.str], 16)),
  (12, ([.u64], 8)),
  (13, ([.str, .u64], 24)),
  (14, ([.str, .u64], 24)),
  (15, ([.ptr], 8)),
  (16, ([.ptr], 8)),
  (17, ([.ptr], 8)),
  (18, ([.ptr], 8)),
  (19, ([.ptr], 8)),
  (22, ([.slice], 24)),
  (23, ([.fn], 8)),
  (24, ([.slice], 24)),
  (25, ([.slice], 24)),
  (26, ([.slice], 24)),
  (27, ([.int, .slice, .slice, .slice], 80)),
  (28, ([.int, .slice, .slice, .slice], 80)),
  (29, ([.slice], 24)),
  (30, ([.slice, .slice], 48)),
  (31, ([.slice, .slice], 48)),
  (33, ([.fn], 8)),
  (35, ([.fn], 8)),
  (36, ([.fn], 8)),
  (38, ([.fn], 8)),
  (39, ([.fn], 8)),
  (40, ([.fn], 8)),
  (41, ([.fn], 8)),
  (42, ([.fn], 8)),
  (43, ([.fn], 8)),
  (44, ([.fn], 8)),
  (45, ([.fn], 8)),
  (46, ([.slice], 24)),
  (47, ([.int, .slice, .slice, .slice], 80)),
  (48, ([.int, .slice, .slice, .slice], 80)),
  (49, ([.fn], 8)),
  (50, ([.fn], 8)),
  (51, ([.fn], 8)),
  (52, ([.fn], 8)),
  (53, ([.ptr], 8)),
  (54, ([.fn], 8)),
  (55, ([.fn], 8)),
  (56, ([.fn], 8)),
  (57, ([.slice], 24)),
  (59, ([.fn], 8)),
  (61, ([.fn], 8)),
  (65, ([.fn], 8)),
  (66, ([.fn], 8)),
  (67, ([.fn], 8)),
  (68, ([.fn], 8)),
  (69, ([.ptr], 8)),
  (70, ([.str, .bool], 24)),
  (71, ([.str, .bool], 24)),
  (72, ([.fn], 8)),
  (73, ([.fn], 8)),
  (74, ([.int, .slice, .slice], 56)),
  (75, ([.int, .slice, .slice], 56)),
  (76, ([.fn], 8)),
  (77, ([.fn], 8)),
  (78, ([.fn], 8)),
  (80, ([.fn], 8)),
  (81, ([.fn], 8)),
  (82, ([.fn], 8)),
  (83, ([.ptr], 8)),
  (84, ([.fn], 8)),
  (85, ([.fn], 8)),
  (86, ([.fn], 8)),
  (87, ([.fn], 8)),
  (88, ([.fn], 8)),
  (89, ([.fn], 8)),
  (90, ([.fn], 8)),
  (91, ([.fn], 8)),
  (93, ([.fn], 8)),
  (94, ([.fn], 8)),
  (95, ([.ptr], 8)),
  (96, ([.fn], 8)),
  (97, ([.fn], 8)),
  (98, ([.fn], 8)),
  (99, ([.fn], 8)),
  (100, ([.fn], 8)),
  (101, ([.fn], 8)),
  (102, ([.fn], 8)),
  (104, ([.fn], 8)),
  (106, ([.fn], 8)),
  (107, ([.fn], 8)),
  (108, ([.fn], 8)),
  (109, ([.fn], 8)),
  (110, ([.fn], 8)),
  (111, ([.fn], 8)),
  (112, ([.fn], 8)),
  (113, ([.fn], 8)),
  (114, ([.u64], 8)),
  (115, ([.slice, .int, .u64], 40)),
  (116, ([.slice, .int, .u64], 40)),
  (117, ([.fn], 8)),
  (118, ([.fn], 8)),
  (119, ([.fn], 8)),
  (120, ([.ptr], 8)),
  (121, ([.fn], 8)),
  (122, ([.fn], 8)),
  (123, ([.fn], 8)),
  (124, ([.fn], 8)),
  (125, ([.fn], 8)),
  (126, ([.fn], 8)),
  (127, ([.fn], 8)),
  (128, ([.fn], 8)),
  (129, ([.fn], 8)),
  (130, ([.fn], 8)),
  (131, ([.int, .slice, .slice], 56)),
  (132, ([.fn], 8)),
  (133, ([.fn], 8)),
  (134, ([.int], 8)),
  (136, ([.fn], 8)),
  (137, ([.u64], 8)),
  (138, ([.ptr], 8)),
  (139, ([.fn], 8)),
  (140, ([.fn], 8)),
  (141, ([.fn], 8)),
  (142, ([.ptr], 8)),
  (143, ([.ptr, .slice], 32)),
  (144, ([.ptr, .slice], 32)),
  (145, ([.fn], 8)),
  (147, ([.fn], 8)),
  (148, ([.fn], 8)),
  (149, ([.fn], 8)),
  (150, ([.fn], 8)),
  (152, ([.fn], 8)),
  (153, ([.fn], 8)),
  (156, ([.fn], 8)),
  (157, ([.fn], 8)),
  (158, ([.fn], 8)),
  (160, ([.fn], 8)),
  (161, ([.fn], 8)),
  (162, ([.fn], 8)),
  (163, ([.byte, .byte, .byte, .byte, .byte, .byte, .byte, .byte, .byte, .byte, .byte, .byte, .byte, .byte, .byte, .byte, .byte, .byte, .byte, .byte, .byte, .byte, .byte, .byte], 24)),
  (164, ([.fn], 8)),
  (165, ([.fn], 8)),
  (167, ([.fn], 8)),
  (168, ([.ptr], 8)),
  (169, ([.ptr], 8)),
  (170, ([.str], 16)),
  (171, ([.str], 16)),
  (174, ([.fn], 8)),
  (175, ([.fn], 8)),
  (176, ([.u64, .u64, .u64, .u64, .u64, .u64, .u64, .u64, .u64, .u64, .u64, .u64, .u64, .u64, .u64, .u64, .u64, .u64, .u64, .u64], 160)),
  (178, ([.fn], 8)),
  (179, ([.fn], 8)),
  (181, ([.fn], 8)),
  (182, ([.fn], 8)),
  (184, ([.byte, .byte], 2)),
  (185, ([.byte, .byte], 2)),
  (186, ([.byte, .byte, .byte, .byte, .byte, .byte, .byte, .byte, .byte, .byte, .byte, .byte, .byte, .byte, .byte, .byte, .byte, .byte, .byte, .byte, .byte, .byte, .byte, .byte, .byte, .byte, .byte, .byte, .byte, .byte, .byte, .byte], 32)),
  (187, ([.fn], 8)),
  (188, ([.byte, .byte, .byte, .byte, .byte, .byte, .byte, .byte, .byte, .byte, .byte, .byte, .byte, .byte, .byte, .byte, .byte, .byte, .byte, .byte, .byte, .byte, .byte, .byte, .byte, .byte, .byte, .byte, .byte, .byte, .byte, .byte], 32)),
  (189, ([.byte, .byte, .byte, .byte, .byte, .byte, .byte, .byte, .byte, .byte, .byte, .byte, .byte, .byte, .byte, .byte, .byte, .byte, .byte, .byte, .byte, .byte, .byte, .byte, .byte, .byte, .byte, .byte, .byte, .byte, .byte, .byte, .byte, .byte, .byte, .byte, .byte, .byte, .byte, .byte, .byte, .byte, .byte, .byte, .byte, .byte, .byte, .byte, .byte, .byte, .byte, .byte, .byte, .byte, .byte, .byte, .byte, .byte, .byte, .byte, .byte, .byte, .byte, .byte], 64)),
  (190, ([.ptr, .ptr, .ptr, .str], 40)),
  (191, ([.ptr, .ptr, .ptr, .str], 40)),
  (192, ([], 0)),
  (193, ([], 0)),
  (194, ([], 0)),
  (195, ([.fn], 8)),
  (196, ([.byte], 1)),
  (197, ([.byte], 1)),
  (198, ([.fn], 8))]
def zt : Nat → Option (List ZK × Nat) := lkZ ztl
theorem ztOk : ZtOk Tryz.prog zt := ztOk_of_list ztl (by kernel_rfl)
theorem mix : Tryz.prog.follows .mixedOrders = true := by kernel_rfl
end Go.Proofs.YtmcljepicadjfaaGreatDoor

/-
  The helpers of the laws over numbers, lists of numbers and lists of lists: sizes, copies, comparisons. No condition but that the sizes are at most 1048576.
-/
namespace Go.Proofs.YtmcljepicadjfaaGreatDoor
open Go.AI
set_option maxRecDepth 8000
def szR {α : Type} (left : Int) (l : List α) : Int := if left - l.length < 0 then -1 else left - l.length
theorem szR_le {α : Type} {left : Int} {l : List α} (h1 : -1 ≤ left) (h2 : left ≤ 1048576) : -1 ≤ szR left l ∧ szR left l ≤ 1048576 := by unfold szR; split <;> omega
theorem szR_ok {α : Type} {left : Int} {l : List α} (h2 : left ≤ 1048576) (h : ¬ szR left l < 0) : l.length ≤ 1048576 := by unfold szR at h; split at h <;> omega
def szL {α : Type} (f : Int → α → Int) : Int → List α → Int
  | left, [] => left
  | left, r :: rs => if f left r < 0 then -1 else szL f (f left r) rs
def szSl {α : Type} (f : Int → α → Int) (left : Int) (l : List α) : Int := if left - l.length < 0 then -1 else szL f (left - l.length) l
theorem szL_le {α : Type} {f : Int → α → Int} (hf : ∀ left x, -1 ≤ left → left ≤ 1048576 → -1 ≤ f left x ∧ f left x ≤ 1048576) : ∀ (l : List α) (left : Int), -1 ≤ left → left ≤ 1048576 → -1 ≤ szL f left l ∧ szL f left l ≤ 1048576
  | [], left, h1, h2 => ⟨h1, h2⟩
  | x :: l, left, h1, h2 => by
    unfold szL; split
    · omega
    · exact szL_le hf l _ (hf left x h1 h2).1 (hf left x h1 h2).2
theorem szSl_le {α : Type} {f : Int → α → Int} (hf : ∀ left x, -1 ≤ left → left ≤ 1048576 → -1 ≤ f left x ∧ f left x ≤ 1048576) {l : List α} {left : Int} (h1 : -1 ≤ left) (h2 : left ≤ 1048576) : -1 ≤ szSl f left l ∧ szSl f left l ≤ 1048576 := by
  unfold szSl; split
  · omega
  · exact szL_le hf _ _ (by omega) (by omega)
theorem szL_ok {α : Type} {f : Int → α → Int} {p : α → Prop} (hf : ∀ left x, -1 ≤ left → left ≤ 1048576 → -1 ≤ f left x ∧ f left x ≤ 1048576) (hp : ∀ left x, -1 ≤ left → left ≤ 1048576 → ¬ f left x < 0 → p x) : ∀ (l : List α) (left : Int), -1 ≤ left → left ≤ 1048576 → ¬ szL f left l < 0 → ∀ x ∈ l, p x
  | [], _, _, _, _, x, hx => by cases hx
  | y :: l, left, h1, h2, h, x, hx => by
    unfold szL at h
    split at h
    · exact absurd (by decide) h
    · rename_i hn
      rcases List.mem_cons.1 hx with rfl | hx
      · exact hp left _ h1 h2 hn
      · exact szL_ok hf hp l _ (hf left y h1 h2).1 (hf left y h1 h2).2 h x hx
/-- What a size that is not negative tells of a list. -/
theorem szSl_ok {α : Type} {f : Int → α → Int} {p : α → Prop} (hf : ∀ left x, -1 ≤ left → left ≤ 1048576 → -1 ≤ f left x ∧ f left x ≤ 1048576) (hp : ∀ left x, -1 ≤ left → left ≤ 1048576 → ¬ f left x < 0 → p x) {l : List α} {left : Int} (h1 : -1 ≤ left) (h2 : left ≤ 1048576) (h : ¬ szSl f left l < 0) :
    l.length ≤ 1048576 ∧ ∀ x ∈ l, p x := by
  unfold szSl at h
  split at h
  · exact absurd (by decide) h
  · exact ⟨by omega, szL_ok hf hp l _ (by omega) (by omega) h⟩
theorem c_szInt64S (l : List Int) (left : Int) (h1 : -1 ≤ left) (h2 : left ≤ 1048576) : Gives Tryz.prog 68 [.sl (l.map Go.AI.encI), .int left] (.int (szR left l)) := by
  refine fn_of_run tyOk ztOk mix Tryz.func68 rfl (by decide) Tryz.ntmps68 (fun w0 h => ?_)
  refine run_len (t := 0) rfl (fun hl => ?_)
  rw [List.length_map] at hl
  repeat' (first
      | (refine j_go ?_; first
        | refine j_op0 rfl rfl rfl rfl ?_ | (refine j_kBin rfl ?_; first | refine j_in rfl rfl ⟨by omega, by omega⟩ rfl rfl ?_) | (refine j_kLen rfl ?_; first | refine j_len rfl rfl rfl rfl rfl rfl ?_))
      | refine j_nil ?_
      | (refine r_go ?_; first | refine run_seq ?_ | refine run_region ?_ | (refine (run_if rfl (fun hb => ?_) (fun hb => ?_)) <;> first | (exfalso; omega) | skip) | refine run_ret ?_ | refine run_skip ?_)
      | refine seqQ_normal ?_ | refine seqQ_ret ?_)
  · exact end1 rfl (List.Sublist.refl _) (by unfold szR; rw [if_pos hb]; rfl) (.inl rfl)
  · exact end1 rfl (List.Sublist.refl _) (by unfold szR; rw [if_neg hb]) (.inl rfl)
theorem c_toInt64S (l : List (Int)) (hl : l.length ≤ 1048576) : Gives Tryz.prog 75 [.sl (l.map Go.AI.encI)] (.sl (l.map Go.AI.encI)) := by
  refine fn_of_run tyOk ztOk mix Tryz.func75 rfl (by decide) Tryz.ntmps75 (fun w0 h => ?_)
  repeat' (first
      | (refine j_go ?_; first
        | refine j_op0 rfl rfl rfl rfl ?_ | (refine j_kLen rfl ?_; first | refine j_len rfl rfl rfl rfl rfl rfl ?_))
      | refine j_nil ?_
      | (refine r_go ?_; first | refine run_seq ?_ | refine run_region ?_)
      | refine seqQ_normal ?_)
  refine j_makeI (g := Go.AI.encI) 0 rfl rfl rfl rfl rfl rfl rfl rfl rfl (by omega) rfl rfl (fun b => ?_)
  repeat' (first
      | (refine j_go ?_; first
        | refine j_op0 rfl rfl rfl rfl ?_)
      | refine j_nil ?_
      | (refine r_go ?_; first | refine run_seq ?_ | refine run_region ?_ | refine run_block ?_)
      | refine seqQ_normal ?_)
  refine run_loop (fun k : Nat => [(0, .sl (l.map Go.AI.encI)), (3, .os (some b) l.length l.length), (4, .int (k : Int))]) (fun k => ⟨some b, 2, l.length * 1, ((l.take k ++ List.replicate (l.length - k) 0).map Go.AI.encI).flatten⟩ :: h)
      (fun k => k ≤ l.length) (fun k => l.length - k) 0 ⟨rfl, rfl, rfl, trivial⟩ (by simp) (by omega) ?_
  intro k g1
  repeat' (first
      | (refine j_go ?_; first
        | refine j_op0 rfl rfl rfl rfl ?_ | (refine j_kIdx rfl ?_; first | refine j_idx rfl rfl rfl rfl rfl (by omega) rfl rfl rfl ?_ | refine j_midx rfl rfl rfl rfl rfl (by first | omega | (simp only [List.length_append, List.length_cons, List.length_nil]; omega)) rfl rfl ?_) | (refine j_kLen rfl ?_; first | refine j_len rfl rfl rfl rfl rfl rfl ?_))
      | refine j_nil ?_
      | (refine r_go ?_; first | refine run_seq ?_ | refine run_region ?_ | (refine (run_if rfl (fun hb => ?_) (fun hb => ?_)) <;> first | (exfalso; omega) | skip) | refine run_block ?_ | refine run_ret ?_ | refine run_exit ?_ | refine run_skip ?_)
      | refine seqQ_normal ?_ | refine seqQ_exit ?_ | refine blockQ_eq ?_ | refine loopQ_exit ?_)
  · have hk : k < l.length := by omega
    refine j_storeE 0 k (g := Go.AI.encI) l[k] rfl rfl rfl rfl rfl rfl rfl rfl rfl (fun _ => rfl : ∀ y, (Go.AI.encI y).length = 1) rfl (by simp; omega) ?_
    repeat' (first
      | (refine j_go ?_; first
        | refine j_op0 rfl rfl rfl rfl ?_ | (refine j_kBin rfl ?_; first | refine j_in rfl rfl ⟨by omega, by omega⟩ rfl rfl ?_))
      | refine j_nil ?_
      | (refine r_go ?_; first | refine run_region ?_)
      | refine seqQ_normal ?_ | refine blockQ_normal ?_)
    exact loopQ_next (k + 1) (by omega) (by omega) (by rw [← take_rep_set hk]; rfl) ⟨rfl, rfl, nx _, trivial⟩
  · have : k = l.length := by omega
    subst this
    refine end_view (view_freeze (g := Go.AI.encI) (z := 1) (ys := l) 0 2 rfl rfl (by simp) (fun _ => rfl : ∀ y, (Go.AI.encI y).length = 1) rfl rfl) ?_
    exact end1 rfl (List.Sublist.refl _) rfl (.inl rfl)
theorem c_eqInt64S (a b : List (Int)) : Gives Tryz.prog 59 [.sl (a.map Go.AI.encI), .sl (b.map Go.AI.encI)] (.raw (.bool (dec (a = b)))) := by
  refine fn_of_run tyOk ztOk mix Tryz.func59 rfl (by decide) Tryz.ntmps59 (fun w0 h => ?_)
  refine run_len (t := 0) rfl (fun hla => ?_)
  refine run_len (t := 1) rfl (fun hlb => ?_)
  rw [List.length_map] at hla hlb
  repeat' (first
      | (refine j_go ?_; first
        | refine j_op0 rfl rfl rfl rfl ?_ | (refine j_kLen rfl ?_; first | refine j_len rfl rfl rfl rfl rfl rfl ?_))
      | refine j_nil ?_
      | (refine r_go ?_; first | refine run_seq ?_ | refine run_region ?_ | (refine (run_ifn rfl (fun hb => ?_) (fun hb => ?_)) <;> first | (exfalso; omega) | skip) | refine run_block ?_ | refine run_ret ?_ | refine run_skip ?_)
      | refine seqQ_normal ?_ | refine seqQ_ret ?_)
  · exact end1 rfl (List.Sublist.refl _) (rb (dec_f (fun q => hb (by rw [q]))).symm) (.inl rfl)
  · have hn : a.length = b.length := by omega
    refine run_loop (fun k : Nat => [(0, .sl (a.map Go.AI.encI)), (1, .sl (b.map Go.AI.encI)), (5, .int (k : Int))]) (fun _ => h) (fun k => k ≤ a.length ∧ a.take k = b.take k) (fun k => a.length - k) 0 ⟨rfl, rfl, rfl, trivial⟩ rfl ⟨by omega, rfl⟩ ?_
    intro k ⟨g1, g2⟩
    repeat' (first
      | (refine j_go ?_; first
        | refine j_op0 rfl rfl rfl rfl ?_ | (refine j_kIdx rfl ?_; first | refine j_idx rfl rfl rfl rfl rfl (by omega) rfl rfl rfl ?_) | (refine j_kBin rfl ?_; first | refine j_in rfl rfl ⟨by omega, by omega⟩ rfl rfl ?_) | (refine j_kLen rfl ?_; first | refine j_len rfl rfl rfl rfl rfl rfl ?_))
      | refine j_nil ?_
      | (refine r_go ?_; first | refine run_seq ?_ | refine run_region ?_ | (refine (run_if rfl (fun hb => ?_) (fun hb => ?_)) <;> first | (exfalso; omega) | skip) | (refine (run_ifn rfl (fun hb => ?_) (fun hb => ?_)) <;> first | (exfalso; omega) | skip) | refine run_block ?_ | refine run_ret ?_ | refine run_exit ?_ | refine run_skip ?_ | refine run_regionD (by kernel_rfl) ?_)
      | refine seqQ_normal ?_ | refine seqQ_ret ?_ | refine seqQ_exit ?_ | refine blockQ_normal ?_ | refine blockQ_ret ?_ | refine blockQ_eq ?_ | refine loopQ_ret ?_ | refine loopQ_exit ?_)
    · exact end1 rfl (List.Sublist.refl _) (rb (dec_f (fun q => hb (by subst q; rfl))).symm) (.inl rfl)
    · exact loopQ_next (k + 1) ⟨by omega, take_eq_succ g2 (by omega) (by omega) hb⟩ (by omega) rfl ⟨rfl, rfl, nx _, trivial⟩
    · have hk : k = a.length := by omega
      subst hk
      exact end1 rfl (List.Sublist.refl _) (rb (dec_t (by rw [List.take_length, hn, List.take_length] at g2; exact g2)).symm) (.inl rfl)
theorem c_szBoolS (l : List Bool) (left : Int) (h1 : -1 ≤ left) (h2 : left ≤ 1048576) : Gives Tryz.prog 69 [.sl (l.map encB), .int left] (.int (szR left l)) := by
  refine fn_of_run tyOk ztOk mix Tryz.func69 rfl (by decide) Tryz.ntmps69 (fun w0 h => ?_)
  refine run_len (t := 0) rfl (fun hl => ?_)
  rw [List.length_map] at hl
  repeat' (first
      | (refine j_go ?_; first
        | refine j_op0 rfl rfl rfl rfl ?_ | (refine j_kBin rfl ?_; first | refine j_in rfl rfl ⟨by omega, by omega⟩ rfl rfl ?_) | (refine j_kLen rfl ?_; first | refine j_len rfl rfl rfl rfl rfl rfl ?_))
      | refine j_nil ?_
      | (refine r_go ?_; first | refine run_seq ?_ | refine run_region ?_ | (refine (run_if rfl (fun hb => ?_) (fun hb => ?_)) <;> first | (exfalso; omega) | skip) | refine run_ret ?_ | refine run_skip ?_)
      | refine seqQ_normal ?_ | refine seqQ_ret ?_)
  · exact end1 rfl (List.Sublist.refl _) (by unfold szR; rw [if_pos hb]; rfl) (.inl rfl)
  · exact end1 rfl (List.Sublist.refl _) (by unfold szR; rw [if_neg hb]) (.inl rfl)
theorem c_toBoolS (l : List (Bool)) (hl : l.length ≤ 1048576) : Gives Tryz.prog 76 [.sl (l.map encB)] (.sl (l.map encB)) := by
  refine fn_of_run tyOk ztOk mix Tryz.func76 rfl (by decide) Tryz.ntmps76 (fun w0 h => ?_)
  repeat' (first
      | (refine j_go ?_; first
        | refine j_op0 rfl rfl rfl rfl ?_ | (refine j_kLen rfl ?_; first | refine j_len rfl rfl rfl rfl rfl rfl ?_))
      | refine j_nil ?_
      | (refine r_go ?_; first | refine run_seq ?_ | refine run_region ?_)
      | refine seqQ_normal ?_)
  refine j_makeI (g := encB) false rfl rfl rfl rfl rfl rfl rfl rfl rfl (by omega) rfl rfl (fun b => ?_)
  repeat' (first
      | (refine j_go ?_; first
        | refine j_op0 rfl rfl rfl rfl ?_)
      | refine j_nil ?_
      | (refine r_go ?_; first | refine run_seq ?_ | refine run_region ?_ | refine run_block ?_)
      | refine seqQ_normal ?_)
  refine run_loop (fun k : Nat => [(0, .sl (l.map encB)), (3, .os (some b) l.length l.length), (4, .int (k : Int))]) (fun k => ⟨some b, 4, l.length * 1, ((l.take k ++ List.replicate (l.length - k) false).map encB).flatten⟩ :: h)
      (fun k => k ≤ l.length) (fun k => l.length - k) 0 ⟨rfl, rfl, rfl, trivial⟩ (by simp) (by omega) ?_
  intro k g1
  repeat' (first
      | (refine j_go ?_; first
        | refine j_op0 rfl rfl rfl rfl ?_ | (refine j_kIdx rfl ?_; first | refine j_idx rfl rfl rfl rfl rfl (by omega) rfl rfl rfl ?_ | refine j_midx rfl rfl rfl rfl rfl (by first | omega | (simp only [List.length_append, List.length_cons, List.length_nil]; omega)) rfl rfl ?_) | (refine j_kLen rfl ?_; first | refine j_len rfl rfl rfl rfl rfl rfl ?_))
      | refine j_nil ?_
      | (refine r_go ?_; first | refine run_seq ?_ | refine run_region ?_ | (refine (run_if rfl (fun hb => ?_) (fun hb => ?_)) <;> first | (exfalso; omega) | skip) | refine run_block ?_ | refine run_ret ?_ | refine run_exit ?_ | refine run_skip ?_)
      | refine seqQ_normal ?_ | refine seqQ_exit ?_ | refine blockQ_eq ?_ | refine loopQ_exit ?_)
  · have hk : k < l.length := by omega
    refine j_storeE 0 k (g := encB) l[k] rfl rfl rfl rfl rfl rfl rfl rfl rfl (fun _ => rfl : ∀ y, (encB y).length = 1) rfl (by simp; omega) ?_
    repeat' (first
      | (refine j_go ?_; first
        | refine j_op0 rfl rfl rfl rfl ?_ | (refine j_kBin rfl ?_; first | refine j_in rfl rfl ⟨by omega, by omega⟩ rfl rfl ?_))
      | refine j_nil ?_
      | (refine r_go ?_; first | refine run_region ?_)
      | refine seqQ_normal ?_ | refine blockQ_normal ?_)
    exact loopQ_next (k + 1) (by omega) (by omega) (by rw [← take_rep_set hk]; rfl) ⟨rfl, rfl, nx _, trivial⟩
  · have : k = l.length := by omega
    subst this
    refine end_view (view_freeze (g := encB) (z := 1) (ys := l) 0 2 rfl rfl (by simp) (fun _ => rfl : ∀ y, (encB y).length = 1) rfl rfl) ?_
    exact end1 rfl (List.Sublist.refl _) rfl (.inl rfl)
theorem c_eqBoolS (a b : List (Bool)) : Gives Tryz.prog 60 [.sl (a.map encB), .sl (b.map encB)] (.raw (.bool (dec (a = b)))) := by
  refine fn_of_run tyOk ztOk mix Tryz.func60 rfl (by decide) Tryz.ntmps60 (fun w0 h => ?_)
  refine run_len (t := 0) rfl (fun hla => ?_)
  refine run_len (t := 1) rfl (fun hlb => ?_)
  rw [List.length_map] at hla hlb
  repeat' (first
      | (refine j_go ?_; first
        | refine j_op0 rfl rfl rfl rfl ?_ | (refine j_kLen rfl ?_; first | refine j_len rfl rfl rfl rfl rfl rfl ?_))
      | refine j_nil ?_
      | (refine r_go ?_; first | refine run_seq ?_ | refine run_region ?_ | (refine (run_ifn rfl (fun hb => ?_) (fun hb => ?_)) <;> first | (exfalso; omega) | skip) | refine run_block ?_ | refine run_ret ?_ | refine run_skip ?_)
      | refine seqQ_normal ?_ | refine seqQ_ret ?_)
  · exact end1 rfl (List.Sublist.refl _) (rb (dec_f (fun q => hb (by rw [q]))).symm) (.inl rfl)
  · have hn : a.length = b.length := by omega
    refine run_loop (fun k : Nat => [(0, .sl (a.map encB)), (1, .sl (b.map encB)), (5, .int (k : Int))]) (fun _ => h) (fun k => k ≤ a.length ∧ a.take k = b.take k) (fun k => a.length - k) 0 ⟨rfl, rfl, rfl, trivial⟩ rfl ⟨by omega, rfl⟩ ?_
    intro k ⟨g1, g2⟩
    repeat' (first
      | (refine j_go ?_; first
        | refine j_op0 rfl rfl rfl rfl ?_ | (refine j_kIdx rfl ?_; first | refine j_idx rfl rfl rfl rfl rfl (by omega) rfl rfl rfl ?_) | (refine j_kBin rfl ?_; first | refine j_in rfl rfl ⟨by omega, by omega⟩ rfl rfl ?_) | (refine j_kLen rfl ?_; first | refine j_len rfl rfl rfl rfl rfl rfl ?_))
      | refine j_nil ?_
      | (refine r_go ?_; first | refine run_seq ?_ | refine run_region ?_ | (refine (run_if rfl (fun hb => ?_) (fun hb => ?_)) <;> first | (exfalso; omega) | skip) | (refine (run_ifn rfl (fun hb => ?_) (fun hb => ?_)) <;> first | (exfalso; omega) | skip) | refine run_block ?_ | refine run_ret ?_ | refine run_exit ?_ | refine run_skip ?_ | refine run_regionD (by kernel_rfl) ?_)
      | refine seqQ_normal ?_ | refine seqQ_ret ?_ | refine seqQ_exit ?_ | refine blockQ_normal ?_ | refine blockQ_ret ?_ | refine blockQ_eq ?_ | refine loopQ_ret ?_ | refine loopQ_exit ?_)
    · exact end1 rfl (List.Sublist.refl _) (rb (dec_f (fun q => hb (by subst q; rfl))).symm) (.inl rfl)
    · exact loopQ_next (k + 1) ⟨by omega, take_eq_succ g2 (by omega) (by omega) hb⟩ (by omega) rfl ⟨rfl, rfl, nx _, trivial⟩
    · have hk : k = a.length := by omega
      subst hk
      exact end1 rfl (List.Sublist.refl _) (rb (dec_t (by rw [List.take_length, hn, List.take_length] at g2; exact g2)).symm) (.inl rfl)
theorem c_eqInt64SS (a b : List (List Int)) : Gives Tryz.prog 78 [.sl (a.map (encS Go.AI.encI)), .sl (b.map (encS Go.AI.encI))] (.raw (.bool (dec (a = b)))) := by
  refine fn_of_run tyOk ztOk mix Tryz.func78 rfl (by decide) Tryz.ntmps78 (fun w0 h => ?_)
  refine run_len (t := 0) rfl (fun hla => ?_)
  refine run_len (t := 1) rfl (fun hlb => ?_)
  rw [List.length_map] at hla hlb
  repeat' (first
      | (refine j_go ?_; first
        | refine j_op0 rfl rfl rfl rfl ?_ | (refine j_kLen rfl ?_; first | refine j_len rfl rfl rfl rfl rfl rfl ?_))
      | refine j_nil ?_
      | (refine r_go ?_; first | refine run_seq ?_ | refine run_region ?_ | (refine (run_ifn rfl (fun hb => ?_) (fun hb => ?_)) <;> first | (exfalso; omega) | skip) | refine run_block ?_ | refine run_ret ?_ | refine run_skip ?_)
      | refine seqQ_normal ?_ | refine seqQ_ret ?_)
  · exact end1 rfl (List.Sublist.refl _) (rb (dec_f (fun q => hb (by rw [q]))).symm) (.inl rfl)
  · have hn : a.length = b.length := by omega
    refine run_loop (fun k : Nat => [(0, .sl (a.map (encS Go.AI.encI))), (1, .sl (b.map (encS Go.AI.encI))), (5, .int (k : Int))]) (fun _ => h) (fun k => k ≤ a.length ∧ a.take k = b.take k) (fun k => a.length - k) 0 ⟨rfl, rfl, rfl, trivial⟩ rfl ⟨by omega, rfl⟩ ?_
    intro k ⟨g1, g2⟩
    repeat' (first
      | (refine j_go ?_; first
        | refine j_op0 rfl rfl rfl rfl ?_ | (refine j_kIdx rfl ?_; first | refine j_idx rfl rfl rfl rfl rfl (by omega) rfl rfl rfl ?_) | (refine j_kBin rfl ?_; first | refine j_in rfl rfl ⟨by omega, by omega⟩ rfl rfl ?_) | (refine j_kLen rfl ?_; first | refine j_len rfl rfl rfl rfl rfl rfl ?_) | (refine j_kCall rfl rfl rfl rfl ?_; first | refine jc (c_eqInt64S _ _) (LeL.refl _) rfl rfl ?_))
      | refine j_nil ?_
      | (refine r_go ?_; first | refine run_seq ?_ | refine run_region ?_ | (refine (run_if rfl (fun hb => ?_) (fun hb => ?_)) <;> first | (exfalso; omega) | skip) | (refine (run_ifn rfl (fun hb => ?_) (fun hb => ?_)) <;> first | (exfalso; omega) | skip) | refine run_block ?_ | refine run_ret ?_ | refine run_exit ?_ | refine run_skip ?_ | refine run_regionD (by kernel_rfl) ?_)
      | refine seqQ_normal ?_ | refine seqQ_ret ?_ | refine seqQ_exit ?_ | refine blockQ_normal ?_ | refine blockQ_ret ?_ | refine blockQ_eq ?_ | refine loopQ_ret ?_ | refine loopQ_exit ?_)
    · exact end1 rfl (List.Sublist.refl _) (rb (dec_f (fun q => hb (by subst q; rfl))).symm) (.inl rfl)
    · exact loopQ_next (k + 1) ⟨by omega, take_eq_succ g2 (by omega) (by omega) hb⟩ (by omega) rfl ⟨rfl, rfl, nx _, trivial⟩
    · have hk : k = a.length := by omega
      subst hk
      exact end1 rfl (List.Sublist.refl _) (rb (dec_t (by rw [List.take_length, hn, List.take_length] at g2; exact g2)).symm) (.inl rfl)
end Go.Proofs.YtmcljepicadjfaaGreatDoor

/-
  Small functions of the reference and the program over numbers and lists of numbers: bounds, rising, membership, equality. No condition.
-/
namespace Go.Proofs.YtmcljepicadjfaaGreatDoor
open Go.AI
set_option maxRecDepth 8000
set_option maxHeartbeats 1600000

theorem c_l00In (n low high : Int) : Gives Tryz.prog 55 [.int n, .int low, .int high] (.raw (.bool (dec (low ≤ n ∧ n ≤ high)))) := by
  refine fn_of_run tyOk ztOk mix Tryz.func55 rfl (by decide) Tryz.ntmps55 (fun w0 h => ?_)
  repeat' (first
      | (refine j_go ?_; first
        | refine j_op0 rfl rfl rfl rfl ?_ | refine j_off rfl rfl rfl ?_ | (refine j_kGuard rfl ?_; first | (refine (j_if rfl rfl rfl (fun hb => ?_) (fun hb => ?_)) <;> first | (exfalso; omega) | skip)))
      | refine j_nil ?_
      | (refine r_go ?_; first | refine run_seq ?_ | refine run_region ?_ | refine run_ret ?_)
      | refine seqQ_normal ?_)
  all_goals first | exact end1 rfl (by first | exact List.Sublist.refl _ | exact sub1 | exact sub2 | exact sub3) (rbT (by omega)) (.inl rfl) | exact end1 rfl (by first | exact List.Sublist.refl _ | exact sub1 | exact sub2 | exact sub3) (rbF (by omega)) (.inl rfl) | exact end1 rfl (List.Sublist.refl _) (rb (by simp [dec_eq]; omega)) (.inl rfl)

theorem c_inRange (n low high : Int) : Gives Tryz.prog 32 [.int n, .int low, .int high] (.raw (.bool (dec (low ≤ n ∧ n ≤ high)))) := by
  refine fn_of_run tyOk ztOk mix Tryz.func32 rfl (by decide) Tryz.ntmps32 (fun w0 h => ?_)
  repeat' (first
      | (refine j_go ?_; first
        | refine j_op0 rfl rfl rfl rfl ?_ | refine j_off rfl rfl rfl ?_ | (refine j_kGuard rfl ?_; first | (refine (j_if rfl rfl rfl (fun hb => ?_) (fun hb => ?_)) <;> first | (exfalso; omega) | skip)))
      | refine j_nil ?_
      | (refine r_go ?_; first | refine run_seq ?_ | refine run_region ?_ | refine run_ret ?_)
      | refine seqQ_normal ?_)
  all_goals first | exact end1 rfl (by first | exact List.Sublist.refl _ | exact sub1 | exact sub2 | exact sub3) (rbT (by omega)) (.inl rfl) | exact end1 rfl (by first | exact List.Sublist.refl _ | exact sub1 | exact sub2 | exact sub3) (rbF (by omega)) (.inl rfl) | exact end1 rfl (List.Sublist.refl _) (rb (by simp [dec_eq]; omega)) (.inl rfl)

/-- Numbers that rise, within bounds. -/
def Rises (lo hi : Int) (l : List Int) : Prop := ∀ i (h : i < l.length), (lo ≤ l[i] ∧ l[i] ≤ hi) ∧ (0 < i → l[i-1] < l[i])



end Go.Proofs.YtmcljepicadjfaaGreatDoor

/-
  The data of the laws' theme 7, as structures, and the helpers of the laws over them: sizes, copies, comparisons. No condition but that the sizes are at most 1048576.
-/
namespace Go.Proofs.YtmcljepicadjfaaGreatDoor
open Go.AI
set_option maxRecDepth 8000

structure Cnf where
  vars : Int
  clauses : List (List Int)
  deriving DecidableEq, Inhabited
/-- What its size tells of it. -/
structure OkCnf (x : Cnf) : Prop where
  clauses : x.clauses.length ≤ 1048576 ∧ ∀ r ∈ x.clauses, r.length ≤ 1048576
structure Group where
  charge : Int
  contents : List Int
  count : Int
  deriving DecidableEq, Inhabited
/-- What its size tells of it. -/
structure OkGroup (x : Group) : Prop where
  contents : x.contents.length ≤ 1048576
structure Colony where
  skin : List Int
  groups : List Group
  deriving DecidableEq, Inhabited
/-- What its size tells of it. -/
structure OkColony (x : Colony) : Prop where
  skin : x.skin.length ≤ 1048576
  groups : x.groups.length ≤ 1048576 ∧ ∀ r ∈ x.groups, OkGroup r
structure DivRule where
  kind : Int
  charge : Int
  object : Int
  to : Int
  first : List Int
  toB : Int
  second : List Int
  deriving DecidableEq, Inhabited
/-- What its size tells of it. -/
structure OkDivRule (x : DivRule) : Prop where
  first : x.first.length ≤ 1048576
  second : x.second.length ≤ 1048576
structure Division where
  objects : Int
  rules : List DivRule
  deriving DecidableEq, Inhabited
/-- What its size tells of it. -/
structure OkDivision (x : Division) : Prop where
  rules : x.rules.length ≤ 1048576 ∧ ∀ r ∈ x.rules, OkDivRule r
end Go.Proofs.YtmcljepicadjfaaGreatDoor

/-
  Formulas: what the reference's and the program's ValidCnf compute. No condition.
-/
namespace Go.Proofs.YtmcljepicadjfaaGreatDoor
open Go.AI
set_option maxRecDepth 8000
set_option maxHeartbeats 1600000

def Cnf.Valid (f : Cnf) : Prop := (1 ≤ f.vars ∧ f.vars ≤ 4) ∧ f.clauses.length ≤ 6 ∧ ∀ c ∈ f.clauses, Rises (0 - f.vars) f.vars c ∧ 0 ∉ c




end Go.Proofs.YtmcljepicadjfaaGreatDoor

/-
  Texts of formulas: plain facts. No condition.
-/
namespace Go.Proofs.YtmcljepicadjfaaGreatDoor
open Go.AI Go.RowKit
set_option maxRecDepth 8000
set_option maxHeartbeats 1600000
open Classical in
/-- A text where a condition holds, else the empty one. -/
noncomputable def txP (p : Prop) (l : List UInt8) : List UInt8 := if p then l else []
def vT (v : Int) : List UInt8 := [32] ++ dcm v
def clT (c : List Int) : List UInt8 := [99, 108, 97, 117, 115, 101] ++ catK vT c c.length ++ (if c = [] then [32, 46] else []) ++ [10]
def cnfT (f : Cnf) : List UInt8 := [99, 110, 102, 32] ++ dcm f.vars ++ [10] ++ catK clT f.clauses f.clauses.length
end Go.Proofs.YtmcljepicadjfaaGreatDoor

/-
  Texts of formulas, read back: plain facts. No condition.
-/
namespace Go.Proofs.YtmcljepicadjfaaGreatDoor
open Go.AI Go.RowKit
set_option maxRecDepth 8000
set_option maxHeartbeats 1600000
def lnW (t : List UInt8) : List (List UInt8) := (spl 10 t).dropLast
def lnE (t : List UInt8) : List UInt8 := (spl 10 t).getLast (spl_ne 10 t)
theorem ln_eq (t : List UInt8) : spl 10 t = lnW t ++ [lnE t] := (List.dropLast_concat_getLast (spl_ne 10 t)).symm
theorem lnW_len (t : List UInt8) : (lnW t).length ≤ t.length := by
  have := spl_len 10 t
  rw [ln_eq] at this
  simp at this; omega
theorem lnW_mem (t : List UInt8) : ∀ w ∈ lnW t, w.length ≤ t.length ∧ (10 : UInt8) ∉ w := fun w hw => spl_mem 10 t w (by rw [ln_eq]; simp [hw])
theorem ln_lines {ws : List (List UInt8)} (h : ∀ x ∈ ws, (10 : UInt8) ∉ x) {t : List UInt8} (ht : t = (ws.map fun w => w ++ [10]).flatten) : lnW t = ws ∧ lnE t = [] := by
  have q := ln_eq t
  rw [ht, spl_lines 10 ws h, ← ht] at q
  have q1 := congrArg List.dropLast q
  have q2 := congrArg List.getLast? q
  simp only [List.dropLast_concat, List.getLast?_concat, Option.some.injEq] at q1 q2
  exact ⟨q1.symm, q2.symm⟩
/-- A text behind another one, where that stands ahead. -/
def trimP (p s : List UInt8) : List UInt8 := if p.isPrefixOf s then s.drop p.length else s
theorem trimP_app (p s : List UInt8) : trimP p (p ++ s) = s := by
  unfold trimP
  rw [if_pos (by simp)]; simp
/-- A text cut at the first place where another one stands. -/
def cutF (p : List UInt8) : List UInt8 → Option (List UInt8 × List UInt8)
  | [] => if p.isPrefixOf [] then some ([], []) else none
  | x :: s => if p.isPrefixOf (x :: s) then some ([], (x :: s).drop p.length) else (cutF p s).map fun q => (x :: q.1, q.2)
theorem cutF_app (p s : List UInt8) : cutF p (p ++ s) = some ([], s) := by
  have h : p.isPrefixOf (p ++ s) = true := by simp
  have e : (p ++ s).drop p.length = s := by simp
  generalize p ++ s = t at h e
  cases t with
  | nil =>
    rw [cutF, if_pos h]
    simp at e; rw [e]
  | cons x t => rw [cutF, if_pos h, e]
/-- .. with a sign that it stands. -/
def cutR (p s : List UInt8) : List UInt8 × List UInt8 × Bool := match cutF p s with
  | some q => (q.1, q.2, true)
  | none => ([], [], false)
theorem cutF_at {p : List UInt8} : ∀ {s : List UInt8} {k : Nat}, k ≤ s.length → p.isPrefixOf (s.drop k) = true → (∀ i, i < k → ¬ p.isPrefixOf (s.drop i) = true) → cutF p s = some (s.take k, s.drop (k + p.length))
  | [], k, hk, h, _ => by
    have : k = 0 := by simpa using hk
    subst this
    rw [List.drop_zero] at h
    have hp : p = [] := by
      cases p with
      | nil => rfl
      | cons x p => simp at h
    subst hp
    rw [cutF, if_pos h]; simp
  | x :: s, 0, _, h, _ => by
    rw [List.drop_zero] at h
    rw [cutF, if_pos h]; simp
  | x :: s, k + 1, hk, h, hn => by
    have h0 := hn 0 (by omega)
    rw [List.drop_zero] at h0
    rw [cutF, if_neg h0, cutF_at (k := k) (by simpa using hk) (by simpa using h) (fun i hi => by simpa using hn (i + 1) (by omega))]
    simp [Nat.add_right_comm]
theorem cutF_no {p : List UInt8} : ∀ {s : List UInt8}, (∀ i, i ≤ s.length → ¬ p.isPrefixOf (s.drop i) = true) → cutF p s = none
  | [], h => by
    have := h 0 (by simp)
    rw [List.drop_zero] at this
    rw [cutF, if_neg this]
  | x :: s, h => by
    have := h 0 (by simp)
    rw [List.drop_zero] at this
    rw [cutF, if_neg this, cutF_no (fun i hi => by simpa using h (i + 1) (by simpa using hi))]; rfl
theorem cutR_at {p s : List UInt8} {k : Nat} (hk : k ≤ s.length) (h : p.isPrefixOf (s.drop k) = true) (hn : ∀ i, i < k → ¬ p.isPrefixOf (s.drop i) = true) : cutR p s = (s.take k, s.drop (k + p.length), true) := by unfold cutR; rw [cutF_at hk h hn]
theorem cutR_no {p s : List UInt8} (hn : ∀ i, i ≤ s.length → ¬ p.isPrefixOf (s.drop i) = true) : cutR p s = ([], [], false) := by unfold cutR; rw [cutF_no hn]
theorem cutR_app (p s : List UInt8) : cutR p (p ++ s) = ([], s, true) := by unfold cutR; rw [cutF_app]
theorem cutF_len {p : List UInt8} : ∀ {s : List UInt8} {q : List UInt8 × List UInt8}, cutF p s = some q → q.1.length ≤ s.length ∧ q.2.length ≤ s.length
  | [], q, h => by
    rw [cutF] at h
    split at h
    · simp only [Option.some.injEq] at h; subst h; simp
    · cases h
  | x :: s, q, h => by
    rw [cutF] at h
    split at h
    · simp only [Option.some.injEq] at h; subst h; simp
    · cases hc : cutF p s with
      | none => rw [hc] at h; cases h
      | some r =>
        rw [hc] at h
        simp only [Option.map_some, Option.some.injEq] at h
        subst h
        have := cutF_len hc
        simp only [List.length_cons]; omega
theorem cutR_len (p s : List UInt8) : (cutR p s).1.length ≤ s.length ∧ (cutR p s).2.1.length ≤ s.length := by
  unfold cutR
  cases h : cutF p s with
  | none => simp
  | some q => exact cutF_len h
/-- A number of one to four digits. -/
def numA (acc : Int) : List UInt8 → Int
  | [] => acc
  | c :: r => if c < 48 ∨ 57 < c then -1 else numA (acc * 10 + ((c - 48).toNat : Int)) r
/-! ### Formulas -/
theorem catK_all {α : Type} (g : α → List UInt8) (l : List α) : catK g l l.length = (l.map g).flatten := by unfold catK; rw [List.take_length]
theorem map_id2 {α : Type} {g : α → α} : ∀ {l : List α}, (∀ x ∈ l, g x = x) → l.map g = l
  | [], _ => rfl
  | x :: l, h => by rw [List.map_cons, h x (by simp), map_id2 fun y hy => h y (by simp [hy])]
/-- A text is one of a formula. -/
def IsCnfT (t : List UInt8) : Prop := ∃ f : Cnf, f.Valid ∧ cnfT f = t
open Classical in
noncomputable def resReadCnf (t : List UInt8) : Cnf := if h : IsCnfT t then Classical.choose h else ⟨0, []⟩
open Classical in
noncomputable def codeReadCnf (t : List UInt8) : Int := if IsCnfT t then 0 else 5
end Go.Proofs.YtmcljepicadjfaaGreatDoor
