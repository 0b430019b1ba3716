/-
  The types of this seat's program, as the walk over plain data wants them. No condition.
-/
import Derived.Test.YtandldhceabdiaaZRun
import Derived.Test.YtandldhceabdiaaChecked
import Derived.Test.YtandldhceabdiaaZOP
import Derived.Test.YtandldhceabdiaaZEnd
namespace Go.Proofs.Ytandldhceabdiaa
open Go.AI
def tyl : List (Nat × TI) := [(1, ⟨1, .scalar⟩),
  (2, ⟨1, .ik .i64⟩),
  (3, ⟨1, .ik .i64⟩),
  (4, ⟨1, .bool⟩),
  (5, ⟨1, .ik .u8⟩),
  (6, ⟨1, .ik .u8⟩),
  (7, ⟨4, .struct [(0, 1), (1, 1), (2, 1), (3, 1)]⟩),
  (8, ⟨4, .struct [(0, 1), (1, 1), (2, 1), (3, 1)]⟩),
  (9, ⟨1, .str⟩),
  (10, ⟨1, .str⟩),
  (11, ⟨1, .str⟩),
  (12, ⟨1, .ik .u64⟩),
  (13, ⟨2, .struct [(0, 1), (1, 1)]⟩),
  (14, ⟨2, .struct [(0, 1), (1, 1)]⟩),
  (15, ⟨1, .scalar⟩),
  (16, ⟨1, .scalar⟩),
  (17, ⟨1, .scalar⟩),
  (18, ⟨1, .struct [(0, 1)]⟩),
  (19, ⟨1, .struct [(0, 1)]⟩),
  (21, ⟨1, .ik .i32⟩),
  (22, ⟨1, .slice 2 1⟩),
  (23, ⟨1, .slice 4 1⟩),
  (24, ⟨1, .slice 159 3⟩),
  (25, ⟨4, .struct [(0, 1), (1, 1), (2, 1), (3, 1)]⟩),
  (26, ⟨4, .struct [(0, 1), (1, 1), (2, 1), (3, 1)]⟩),
  (27, ⟨1, .slice 22 1⟩),
  (28, ⟨2, .struct [(0, 1), (1, 1)]⟩),
  (29, ⟨2, .struct [(0, 1), (1, 1)]⟩),
  (30, ⟨1, .scalar⟩),
  (31, ⟨1, .scalar⟩),
  (33, ⟨1, .scalar⟩),
  (34, ⟨1, .slice 167 3⟩),
  (35, ⟨4, .struct [(0, 1), (1, 1), (2, 1), (3, 1)]⟩),
  (36, ⟨4, .struct [(0, 1), (1, 1), (2, 1), (3, 1)]⟩),
  (37, ⟨1, .scalar⟩),
  (38, ⟨2, .struct [(0, 1), (1, 1)]⟩),
  (39, ⟨1, .scalar⟩),
  (40, ⟨1, .scalar⟩),
  (41, ⟨1, .scalar⟩),
  (42, ⟨1, .scalar⟩),
  (43, ⟨1, .scalar⟩),
  (44, ⟨1, .scalar⟩),
  (45, ⟨1, .scalar⟩),
  (46, ⟨1, .scalar⟩),
  (47, ⟨1, .slice 5 1⟩),
  (48, ⟨1, .scalar⟩),
  (49, ⟨1, .slice 62 9⟩),
  (50, ⟨3, .struct [(0, 1), (1, 1), (2, 1)]⟩),
  (51, ⟨3, .struct [(0, 1), (1, 1), (2, 1)]⟩),
  (52, ⟨3, .struct [(0, 1), (1, 1), (2, 1)]⟩),
  (53, ⟨3, .struct [(0, 1), (1, 1), (2, 1)]⟩),
  (55, ⟨1, .scalar⟩),
  (57, ⟨1, .scalar⟩),
  (59, ⟨1, .scalar⟩),
  (60, ⟨1, .slice 230 2⟩),
  (61, ⟨9, .struct [(0, 1), (1, 1), (2, 1), (3, 1), (4, 1), (5, 1), (6, 1), (7, 1), (8, 1)]⟩),
  (62, ⟨9, .struct [(0, 1), (1, 1), (2, 1), (3, 1), (4, 1), (5, 1), (6, 1), (7, 1), (8, 1)]⟩),
  (63, ⟨1, .scalar⟩),
  (64, ⟨1, .scalar⟩),
  (65, ⟨1, .slice 194 7⟩),
  (66, ⟨2, .struct [(0, 1), (1, 1)]⟩),
  (67, ⟨2, .struct [(0, 1), (1, 1)]⟩),
  (68, ⟨1, .slice 130 3⟩),
  (69, ⟨2, .struct [(0, 1), (1, 1)]⟩),
  (70, ⟨2, .struct [(0, 1), (1, 1)]⟩),
  (72, ⟨1, .scalar⟩),
  (73, ⟨1, .scalar⟩),
  (74, ⟨1, .scalar⟩),
  (76, ⟨1, .scalar⟩),
  (77, ⟨1, .slice 214 7⟩),
  (78, ⟨2, .struct [(0, 1), (1, 1)]⟩),
  (79, ⟨2, .struct [(0, 1), (1, 1)]⟩),
  (80, ⟨1, .slice 148 3⟩),
  (81, ⟨1, .scalar⟩),
  (82, ⟨1, .scalar⟩),
  (83, ⟨1, .scalar⟩),
  (84, ⟨1, .scalar⟩),
  (85, ⟨1, .scalar⟩),
  (86, ⟨1, .scalar⟩),
  (87, ⟨1, .scalar⟩),
  (88, ⟨1, .scalar⟩),
  (89, ⟨1, .scalar⟩),
  (90, ⟨1, .scalar⟩),
  (91, ⟨1, .scalar⟩),
  (92, ⟨1, .scalar⟩),
  (93, ⟨1, .scalar⟩),
  (94, ⟨1, .scalar⟩),
  (95, ⟨1, .scalar⟩),
  (96, ⟨1, .scalar⟩),
  (97, ⟨1, .scalar⟩),
  (98, ⟨1, .scalar⟩),
  (99, ⟨1, .scalar⟩),
  (101, ⟨1, .scalar⟩),
  (102, ⟨1, .scalar⟩),
  (103, ⟨1, .scalar⟩),
  (104, ⟨1, .scalar⟩),
  (105, ⟨1, .scalar⟩),
  (106, ⟨1, .scalar⟩),
  (107, ⟨1, .scalar⟩),
  (108, ⟨1, .scalar⟩),
  (109, ⟨1, .scalar⟩),
  (110, ⟨1, .scalar⟩),
  (111, ⟨1, .scalar⟩),
  (112, ⟨1, .scalar⟩),
  (113, ⟨1, .scalar⟩),
  (114, ⟨1, .scalar⟩),
  (115, ⟨1, .scalar⟩),
  (116, ⟨1, .scalar⟩),
  (117, ⟨1, .slice 180 1⟩),
  (118, ⟨1, .slice 27 1⟩),
  (120, ⟨1, .scalar⟩),
  (121, ⟨1, .scalar⟩),
  (122, ⟨1, .scalar⟩),
  (123, ⟨1, .scalar⟩),
  (124, ⟨1, .scalar⟩),
  (125, ⟨1, .scalar⟩),
  (126, ⟨1, .scalar⟩),
  (127, ⟨1, .scalar⟩),
  (128, ⟨1, .scalar⟩),
  (129, ⟨3, .struct [(0, 1), (1, 1), (2, 1)]⟩),
  (130, ⟨3, .struct [(0, 1), (1, 1), (2, 1)]⟩),
  (131, ⟨1, .scalar⟩),
  (132, ⟨1, .scalar⟩),
  (133, ⟨1, .scalar⟩),
  (134, ⟨1, .scalar⟩),
  (135, ⟨1, .scalar⟩),
  (136, ⟨1, .scalar⟩),
  (137, ⟨1, .scalar⟩),
  (139, ⟨1, .scalar⟩),
  (140, ⟨1, .scalar⟩),
  (141, ⟨1, .scalar⟩),
  (142, ⟨1, .scalar⟩),
  (143, ⟨1, .scalar⟩),
  (144, ⟨1, .scalar⟩),
  (145, ⟨1, .scalar⟩),
  (146, ⟨1, .scalar⟩),
  (147, ⟨1, .scalar⟩),
  (148, ⟨3, .struct [(0, 1), (1, 1), (2, 1)]⟩),
  (149, ⟨1, .scalar⟩),
  (150, ⟨1, .scalar⟩),
  (151, ⟨1, .scalar⟩),
  (152, ⟨1, .scalar⟩),
  (153, ⟨1, .scalar⟩),
  (154, ⟨1, .scalar⟩),
  (155, ⟨1, .scalar⟩),
  (156, ⟨1, .scalar⟩),
  (157, ⟨1, .scalar⟩),
  (158, ⟨3, .struct [(0, 1), (1, 1), (2, 1)]⟩),
  (159, ⟨3, .struct [(0, 1), (1, 1), (2, 1)]⟩),
  (160, ⟨1, .scalar⟩),
  (161, ⟨1, .scalar⟩),
  (162, ⟨1, .scalar⟩),
  (163, ⟨4, .struct [(0, 1), (1, 1), (2, 1), (3, 1)]⟩),
  (164, ⟨4, .struct [(0, 1), (1, 1), (2, 1), (3, 1)]⟩),
  (165, ⟨1, .scalar⟩),
  (166, ⟨1, .scalar⟩),
  (167, ⟨3, .struct [(0, 1), (1, 1), (2, 1)]⟩),
  (168, ⟨1, .scalar⟩),
  (169, ⟨1, .scalar⟩),
  (170, ⟨1, .scalar⟩),
  (171, ⟨1, .scalar⟩),
  (172, ⟨1, .scalar⟩),
  (173, ⟨1, .scalar⟩),
  (174, ⟨1, .ik .u64⟩),
  (175, ⟨3, .struct [(0, 1), (1, 1), (2, 1)]⟩),
  (176, ⟨3, .struct [(0, 1), (1, 1), (2, 1)]⟩),
  (177, ⟨1, .scalar⟩),
  (178, ⟨1, .scalar⟩),
  (179, ⟨1, .scalar⟩),
  (180, ⟨1, .slice 3 1⟩),
  (182, ⟨1, .scalar⟩),
  (183, ⟨1, .scalar⟩),
  (184, ⟨1, .scalar⟩),
  (185, ⟨1, .slice 189 2⟩),
  (187, ⟨1, .scalar⟩),
  (188, ⟨2, .struct [(0, 1), (1, 1)]⟩),
  (189, ⟨2, .struct [(0, 1), (1, 1)]⟩),
  (190, ⟨1, .scalar⟩),
  (191, ⟨1, .scalar⟩),
  (192, ⟨1, .scalar⟩),
  (193, ⟨7, .struct [(0, 1), (1, 1), (2, 1), (3, 1), (4, 1), (5, 1), (6, 1)]⟩),
  (194, ⟨7, .struct [(0, 1), (1, 1), (2, 1), (3, 1), (4, 1), (5, 1), (6, 1)]⟩),
  (195, ⟨1, .scalar⟩),
  (196, ⟨1, .scalar⟩),
  (197, ⟨1, .scalar⟩),
  (198, ⟨1, .scalar⟩),
  (199, ⟨1, .scalar⟩),
  (200, ⟨1, .scalar⟩),
  (201, ⟨1, .scalar⟩),
  (202, ⟨1, .scalar⟩),
  (203, ⟨1, .scalar⟩),
  (204, ⟨1, .scalar⟩),
  (205, ⟨1, .scalar⟩),
  (206, ⟨1, .scalar⟩),
  (207, ⟨1, .scalar⟩),
  (208, ⟨1, .scalar⟩),
  (209, ⟨1, .scalar⟩),
  (210, ⟨1, .scalar⟩),
  (211, ⟨1, .scalar⟩),
  (212, ⟨1, .scalar⟩),
  (213, ⟨1, .scalar⟩),
  (214, ⟨7, .struct [(0, 1), (1, 1), (2, 1), (3, 1), (4, 1), (5, 1), (6, 1)]⟩),
  (215, ⟨1, .scalar⟩),
  (216, ⟨1, .scalar⟩),
  (217, ⟨1, .scalar⟩),
  (218, ⟨1, .scalar⟩),
  (219, ⟨1, .scalar⟩),
  (220, ⟨1, .scalar⟩),
  (221, ⟨1, .scalar⟩),
  (222, ⟨1, .scalar⟩),
  (223, ⟨1, .scalar⟩),
  (224, ⟨1, .scalar⟩),
  (225, ⟨1, .scalar⟩),
  (226, ⟨1, .scalar⟩),
  (227, ⟨1, .scalar⟩),
  (228, ⟨1, .scalar⟩),
  (229, ⟨2, .struct [(0, 1), (1, 1)]⟩),
  (230, ⟨2, .struct [(0, 1), (1, 1)]⟩),
  (231, ⟨1, .scalar⟩),
  (232, ⟨1, .scalar⟩),
  (233, ⟨1, .scalar⟩),
  (234, ⟨1, .scalar⟩),
  (235, ⟨1, .scalar⟩),
  (236, ⟨1, .scalar⟩),
  (237, ⟨1, .scalar⟩),
  (238, ⟨1, .scalar⟩),
  (239, ⟨6, .arr 6 3 1⟩),
  (240, ⟨1, .scalar⟩),
  (241, ⟨6, .arr 6 2 1⟩),
  (242, ⟨1, .scalar⟩),
  (243, ⟨1, .scalar⟩),
  (244, ⟨1, .ik .u64⟩),
  (245, ⟨1, .scalar⟩),
  (246, ⟨4, .struct [(0, 1), (1, 1), (2, 1), (3, 1)]⟩),
  (247, ⟨4, .struct [(0, 1), (1, 1), (2, 1), (3, 1)]⟩),
  (249, ⟨1, .scalar⟩),
  (250, ⟨1, .scalar⟩),
  (251, ⟨1, .scalar⟩),
  (252, ⟨1, .scalar⟩),
  (253, ⟨1, .scalar⟩),
  (254, ⟨1, .scalar⟩),
  (255, ⟨1, .scalar⟩),
  (256, ⟨1, .scalar⟩),
  (257, ⟨1, .scalar⟩),
  (258, ⟨1, .scalar⟩),
  (259, ⟨1, .scalar⟩),
  (260, ⟨1, .scalar⟩),
  (261, ⟨1, .scalar⟩),
  (262, ⟨1, .scalar⟩),
  (263, ⟨1, .scalar⟩),
  (264, ⟨1, .scalar⟩),
  (265, ⟨1, .scalar⟩),
  (266, ⟨1, .scalar⟩),
  (267, ⟨1, .scalar⟩),
  (268, ⟨1, .scalar⟩),
  (269, ⟨1, .scalar⟩),
  (270, ⟨1, .scalar⟩),
  (271, ⟨1, .scalar⟩),
  (272, ⟨1, .scalar⟩),
  (273, ⟨1, .scalar⟩),
  (274, ⟨1, .scalar⟩),
  (275, ⟨1, .scalar⟩),
  (276, ⟨1, .scalar⟩),
  (277, ⟨1, .scalar⟩),
  (278, ⟨1, .scalar⟩),
  (279, ⟨1, .struct [(0, 1)]⟩),
  (280, ⟨1, .struct [(0, 1)]⟩),
  (281, ⟨1, .scalar⟩),
  (282, ⟨1, .scalar⟩),
  (283, ⟨1, .scalar⟩),
  (284, ⟨1, .scalar⟩),
  (285, ⟨1, .ik .i64⟩),
  (287, ⟨1, .scalar⟩),
  (288, ⟨1, .scalar⟩),
  (289, ⟨1, .scalar⟩),
  (291, ⟨1, .scalar⟩),
  (292, ⟨1, .scalar⟩),
  (293, ⟨1, .ik .u32⟩),
  (294, ⟨1, .scalar⟩),
  (295, ⟨1, .scalar⟩),
  (296, ⟨1, .ik .u64⟩),
  (297, ⟨1, .scalar⟩),
  (298, ⟨1, .scalar⟩),
  (299, ⟨1, .scalar⟩),
  (300, ⟨1, .scalar⟩),
  (301, ⟨1, .scalar⟩),
  (302, ⟨1, .scalar⟩),
  (304, ⟨1, .scalar⟩),
  (305, ⟨1, .scalar⟩),
  (306, ⟨4, .struct [(0, 1), (1, 1), (2, 1), (3, 1)]⟩),
  (307, ⟨4, .struct [(0, 1), (1, 1), (2, 1), (3, 1)]⟩),
  (308, ⟨0, .arr 0 16 1⟩),
  (311, ⟨1, .scalar⟩),
  (312, ⟨1, .ik .u8⟩),
  (313, ⟨1, .ik .u8⟩),
  (314, ⟨1, .scalar⟩),
  (315, ⟨1, .scalar⟩),
  (316, ⟨1, .ik .i32⟩),
  (317, ⟨1, .ik .i32⟩),
  (318, ⟨11, .struct [(0, 1), (1, 1), (2, 1), (3, 1), (4, 1), (5, 1), (6, 1), (7, 1), (8, 1), (9, 1), (10, 1)]⟩),
  (319, ⟨11, .struct [(0, 1), (1, 1), (2, 1), (3, 1), (4, 1), (5, 1), (6, 1), (7, 1), (8, 1), (9, 1), (10, 1)]⟩),
  (320, ⟨1, .scalar⟩)]
def ty : Nat → Option TI := lkT tyl
theorem tyOk : TyOk Try.prog ty := tyOk_of_list tyl (by kernel_rfl)
def ztl : List (Nat × (List ZK × Nat)) := [(1, ([.fn], 8)),
  (2, ([.int], 8)),
  (3, ([.int], 8)),
  (4, ([.bool], 1)),
  (5, ([.byte], 1)),
  (6, ([.byte], 1)),
  (7, ([.int, .int, .bool, .byte], 24)),
  (8, ([.int, .int, .bool, .byte], 24)),
  (9, ([.str], 16)),
  (10, ([.str], 16)),
  (11, ([.str], 16)),
  (12, ([.u64], 8)),
  (13, ([.str, .u64], 24)),
  (14, ([.str, .u64], 24)),
  (15, ([.ptr], 8)),
  (16, ([.ptr], 8)),
  (17, ([.ptr], 8)),
  (18, ([.ptr], 8)),
  (19, ([.ptr], 8)),
  (22, ([.slice], 24)),
  (23, ([.slice], 24)),
  (24, ([.slice], 24)),
  (25, ([.int, .slice, .slice, .slice], 80)),
  (26, ([.int, .slice, .slice, .slice], 80)),
  (27, ([.slice], 24)),
  (28, ([.slice, .slice], 48)),
  (29, ([.slice, .slice], 48)),
  (30, ([.fn], 8)),
  (31, ([.fn], 8)),
  (33, ([.fn], 8)),
  (34, ([.slice], 24)),
  (35, ([.int, .slice, .slice, .slice], 80)),
  (36, ([.int, .slice, .slice, .slice], 80)),
  (37, ([.fn], 8)),
  (38, ([.slice, .slice], 48)),
  (39, ([.fn], 8)),
  (40, ([.fn], 8)),
  (41, ([.fn], 8)),
  (42, ([.fn], 8)),
  (43, ([.fn], 8)),
  (44, ([.fn], 8)),
  (45, ([.fn], 8)),
  (46, ([.fn], 8)),
  (47, ([.slice], 24)),
  (48, ([.fn], 8)),
  (49, ([.slice], 24)),
  (50, ([.int, .slice, .slice], 56)),
  (51, ([.int, .slice, .slice], 56)),
  (52, ([.slice, .slice, .slice], 72)),
  (53, ([.slice, .slice, .slice], 72)),
  (55, ([.fn], 8)),
  (57, ([.fn], 8)),
  (59, ([.fn], 8)),
  (60, ([.slice], 24)),
  (61, ([.int, .int, .slice, .slice, .slice, .slice, .slice, .slice, .bool], 168)),
  (62, ([.int, .int, .slice, .slice, .slice, .slice, .slice, .slice, .bool], 168)),
  (63, ([.fn], 8)),
  (64, ([.fn], 8)),
  (65, ([.slice], 24)),
  (66, ([.int, .slice], 32)),
  (67, ([.int, .slice], 32)),
  (68, ([.slice], 24)),
  (69, ([.slice, .slice], 48)),
  (70, ([.slice, .slice], 48)),
  (72, ([.fn], 8)),
  (73, ([.fn], 8)),
  (74, ([.fn], 8)),
  (76, ([.fn], 8)),
  (77, ([.slice], 24)),
  (78, ([.int, .slice], 32)),
  (79, ([.int, .slice], 32)),
  (80, ([.slice], 24)),
  (81, ([.fn], 8)),
  (82, ([.fn], 8)),
  (83, ([.fn], 8)),
  (84, ([.fn], 8)),
  (85, ([.fn], 8)),
  (86, ([.fn], 8)),
  (87, ([.fn], 8)),
  (88, ([.fn], 8)),
  (89, ([.fn], 8)),
  (90, ([.fn], 8)),
  (91, ([.fn], 8)),
  (92, ([.fn], 8)),
  (93, ([.fn], 8)),
  (94, ([.fn], 8)),
  (95, ([.fn], 8)),
  (96, ([.fn], 8)),
  (97, ([.ptr], 8)),
  (98, ([.ptr], 8)),
  (99, ([.fn], 8)),
  (101, ([.fn], 8)),
  (102, ([.fn], 8)),
  (103, ([.fn], 8)),
  (104, ([.fn], 8)),
  (105, ([.fn], 8)),
  (106, ([.fn], 8)),
  (107, ([.fn], 8)),
  (108, ([.fn], 8)),
  (109, ([.fn], 8)),
  (110, ([.ptr], 8)),
  (111, ([.fn], 8)),
  (112, ([.fn], 8)),
  (113, ([.fn], 8)),
  (114, ([.ptr], 8)),
  (115, ([.fn], 8)),
  (116, ([.ptr], 8)),
  (117, ([.slice], 24)),
  (118, ([.slice], 24)),
  (120, ([.fn], 8)),
  (121, ([.fn], 8)),
  (122, ([.fn], 8)),
  (123, ([.fn], 8)),
  (124, ([.fn], 8)),
  (125, ([.fn], 8)),
  (126, ([.fn], 8)),
  (127, ([.fn], 8)),
  (128, ([.fn], 8)),
  (129, ([.int, .slice, .int], 40)),
  (130, ([.int, .slice, .int], 40)),
  (131, ([.fn], 8)),
  (132, ([.fn], 8)),
  (133, ([.fn], 8)),
  (134, ([.fn], 8)),
  (135, ([.fn], 8)),
  (136, ([.ptr], 8)),
  (137, ([.fn], 8)),
  (139, ([.fn], 8)),
  (140, ([.fn], 8)),
  (141, ([.fn], 8)),
  (142, ([.fn], 8)),
  (143, ([.fn], 8)),
  (144, ([.fn], 8)),
  (145, ([.fn], 8)),
  (146, ([.fn], 8)),
  (147, ([.fn], 8)),
  (148, ([.int, .slice, .int], 40)),
  (149, ([.ptr], 8)),
  (150, ([.fn], 8)),
  (151, ([.ptr], 8)),
  (152, ([.fn], 8)),
  (153, ([.fn], 8)),
  (154, ([.fn], 8)),
  (155, ([.fn], 8)),
  (156, ([.fn], 8)),
  (157, ([.fn], 8)),
  (158, ([.int, .slice, .slice], 56)),
  (159, ([.int, .slice, .slice], 56)),
  (160, ([.fn], 8)),
  (161, ([.fn], 8)),
  (162, ([.ptr], 8)),
  (163, ([.ptr, .int, .int, .slice], 48)),
  (164, ([.ptr, .int, .int, .slice], 48)),
  (165, ([.fn], 8)),
  (166, ([.fn], 8)),
  (167, ([.int, .slice, .slice], 56)),
  (168, ([.fn], 8)),
  (169, ([.fn], 8)),
  (170, ([.fn], 8)),
  (171, ([.fn], 8)),
  (172, ([.fn], 8)),
  (173, ([.fn], 8)),
  (174, ([.u64], 8)),
  (175, ([.slice, .int, .u64], 40)),
  (176, ([.slice, .int, .u64], 40)),
  (177, ([.fn], 8)),
  (178, ([.fn], 8)),
  (179, ([.fn], 8)),
  (180, ([.slice], 24)),
  (182, ([.fn], 8)),
  (183, ([.fn], 8)),
  (184, ([.fn], 8)),
  (185, ([.slice], 24)),
  (187, ([.fn], 8)),
  (188, ([.slice, .slice], 48)),
  (189, ([.slice, .slice], 48)),
  (190, ([.fn], 8)),
  (191, ([.fn], 8)),
  (192, ([.fn], 8)),
  (193, ([.int, .int, .int, .int, .slice, .int, .slice], 88)),
  (194, ([.int, .int, .int, .int, .slice, .int, .slice], 88)),
  (195, ([.fn], 8)),
  (196, ([.fn], 8)),
  (197, ([.fn], 8)),
  (198, ([.fn], 8)),
  (199, ([.fn], 8)),
  (200, ([.fn], 8)),
  (201, ([.fn], 8)),
  (202, ([.fn], 8)),
  (203, ([.fn], 8)),
  (204, ([.fn], 8)),
  (205, ([.fn], 8)),
  (206, ([.fn], 8)),
  (207, ([.ptr], 8)),
  (208, ([.fn], 8)),
  (209, ([.fn], 8)),
  (210, ([.fn], 8)),
  (211, ([.fn], 8)),
  (212, ([.fn], 8)),
  (213, ([.fn], 8)),
  (214, ([.int, .int, .int, .int, .slice, .int, .slice], 88)),
  (215, ([.fn], 8)),
  (216, ([.fn], 8)),
  (217, ([.fn], 8)),
  (218, ([.fn], 8)),
  (219, ([.ptr], 8)),
  (220, ([.fn], 8)),
  (221, ([.fn], 8)),
  (222, ([.fn], 8)),
  (223, ([.fn], 8)),
  (224, ([.fn], 8)),
  (225, ([.fn], 8)),
  (226, ([.fn], 8)),
  (227, ([.fn], 8)),
  (228, ([.fn], 8)),
  (229, ([.int, .slice], 32)),
  (230, ([.int, .slice], 32)),
  (231, ([.fn], 8)),
  (232, ([.ptr], 8)),
  (233, ([.fn], 8)),
  (234, ([.fn], 8)),
  (235, ([.fn], 8)),
  (236, ([.fn], 8)),
  (237, ([.ptr], 8)),
  (238, ([.fn], 8)),
  (239, ([.int, .int, .int, .int, .int, .int], 48)),
  (240, ([.fn], 8)),
  (241, ([.int, .int, .int, .int, .int, .int], 48)),
  (242, ([.fn], 8)),
  (243, ([.fn], 8)),
  (244, ([.u64], 8)),
  (245, ([.fn], 8)),
  (246, ([.str, .bool, .bool, .bool], 24)),
  (247, ([.str, .bool, .bool, .bool], 24)),
  (249, ([.fn], 8)),
  (250, ([.fn], 8)),
  (251, ([.fn], 8)),
  (252, ([.fn], 8)),
  (253, ([.fn], 8)),
  (254, ([.fn], 8)),
  (255, ([.fn], 8)),
  (256, ([.fn], 8)),
  (257, ([.fn], 8)),
  (258, ([.fn], 8)),
  (259, ([.fn], 8)),
  (260, ([.fn], 8)),
  (261, ([.fn], 8)),
  (262, ([.fn], 8)),
  (263, ([.ptr], 8)),
  (264, ([.fn], 8)),
  (265, ([.fn], 8)),
  (266, ([.fn], 8)),
  (267, ([.fn], 8)),
  (268, ([.fn], 8)),
  (269, ([.fn], 8)),
  (270, ([.fn], 8)),
  (271, ([.fn], 8)),
  (272, ([.fn], 8)),
  (273, ([.fn], 8)),
  (274, ([.fn], 8)),
  (275, ([.fn], 8)),
  (276, ([.fn], 8)),
  (277, ([.fn], 8)),
  (278, ([.ptr], 8)),
  (279, ([.slice], 24)),
  (280, ([.slice], 24)),
  (281, ([.fn], 8)),
  (282, ([.fn], 8)),
  (283, ([.fn], 8)),
  (284, ([.fn], 8)),
  (285, ([.int], 8)),
  (287, ([.fn], 8)),
  (288, ([.fn], 8)),
  (289, ([.fn], 8)),
  (291, ([.fn], 8)),
  (292, ([.fn], 8)),
  (294, ([.fn], 8)),
  (295, ([.fn], 8)),
  (296, ([.u64], 8)),
  (297, ([.fn], 8)),
  (298, ([.fn], 8)),
  (299, ([.fn], 8)),
  (300, ([.ptr], 8)),
  (301, ([.fn], 8)),
  (302, ([.ptr], 8)),
  (304, ([.fn], 8)),
  (305, ([.fn], 8)),
  (306, ([.ptr, .ptr, .ptr, .str], 40)),
  (307, ([.ptr, .ptr, .ptr, .str], 40)),
  (308, ([], 0)),
  (309, ([], 0)),
  (310, ([], 0)),
  (311, ([.fn], 8)),
  (312, ([.byte], 1)),
  (313, ([.byte], 1)),
  (314, ([.fn], 8)),
  (315, ([.ptr], 8)),
  (320, ([.fn], 8))]
def zt : Nat → Option (List ZK × Nat) := lkZ ztl
theorem ztOk : ZtOk Try.prog zt := ztOk_of_list ztl (by kernel_rfl)
theorem mix : Try.prog.follows .mixedOrders = true := by kernel_rfl
end Go.Proofs.Ytandldhceabdiaa

/-
  The source of choices: what it draws, within bounds. No condition.
-/
namespace Go.Proofs.Ytandldhceabdiaa
open Go.AI
set_option maxRecDepth 8000
set_option maxHeartbeats 1600000

def encY (c : UInt8) : List A := [.u8 c]
/-- The source's memory. -/
abbrev srcB (s : Nat) (code : List UInt8) (at_ : Nat) (sd : Int) : Blk := ⟨some s, 176, 3, [.sl (code.map encY), .int (at_ : Int), .raw (.int .u64 sd)]⟩
/-- What a draw hands back, and leaves. -/
def DrawR (s : Nat) (code : List UInt8) (lim : Nat) (p : Int → Prop) : A → Heap → Prop := fun v h' => ∃ r at2 sd, v = .int r ∧ p r ∧ at2 ≤ lim ∧ h' = [srcB s code at2 sd]
theorem o_next (s : Nat) (code : List UInt8) (at_ : Nat) (sd : Int) (ha : at_ ≤ 1000000000) : Does Try.prog 140 [.op (some s) 0] [srcB s code at_ sd] (DrawR s code (at_ + 1) (fun r => 0 ≤ r ∧ r ≤ 255)) := by
  refine fn_of_runD tyOk ztOk mix Try.func140 rfl (by decide) Try.ntmps140 (fun w0 F => ?_)
  change Run _ _ _ _ _ (_ :: F)
  repeat' (first
      | (refine j_go ?_; first
        | refine j_op0 rfl rfl rfl rfl ?_ | (refine j_kIdx rfl ?_; first | refine j_idx rfl rfl rfl rfl rfl (by omega) rfl rfl rfl ?_) | (refine j_kBin rfl ?_; first | refine j_in rfl rfl ⟨by omega, by omega⟩ rfl rfl ?_) | (refine j_kLen rfl ?_; first | refine j_len rfl rfl rfl rfl rfl rfl ?_) | (refine j_kLoad rfl ?_; first | refine j_mload 0 rfl rfl rfl rfl rfl rfl rfl ?_) | (refine j_kStore rfl ?_; first | refine j_store 0 rfl rfl rfl rfl rfl rfl rfl rfl rfl rfl rfl ?_))
      | refine j_nil ?_
      | (refine r_go ?_; first | refine run_seq ?_ | refine run_region ?_ | (refine (run_if rfl (fun hb => ?_) (fun hb => ?_)) <;> first | (exfalso; omega) | skip) | refine run_skip ?_ | refine run_regionD (by kernel_rfl) ?_)
      | refine seqQ_normal ?_)
  · have ha2 : at_ < code.length := by omega
    have hc := UInt8.toNat_lt code[at_]
    skip
    refine j_u64mul rfl rfl rfl rfl rfl rfl ?_
    repeat' (first
      | (refine j_go ?_; first
        | refine j_op0 rfl rfl rfl rfl ?_ | refine j_conv rfl rfl rfl rfl rfl (wrap_u64 (by omega) (by omega)) rfl rfl ?_))
    refine j_u64add rfl rfl rfl rfl rfl rfl ?_
    skip
    refine j_u64add rfl rfl rfl rfl rfl rfl ?_
    repeat' (first
      | (refine j_go ?_; first
        | refine j_op0 rfl rfl rfl rfl ?_ | (refine j_kLen rfl ?_; first | refine j_len rfl rfl rfl rfl rfl rfl ?_) | (refine j_kLoad rfl ?_; first | refine j_mload 0 rfl rfl rfl rfl rfl rfl rfl ?_) | (refine j_kStore rfl ?_; first | refine j_store 0 rfl rfl rfl rfl rfl rfl rfl rfl rfl rfl rfl ?_))
      | refine j_nil ?_
      | (refine r_go ?_; first | refine run_seq ?_ | refine run_region ?_ | (refine (run_if rfl (fun hb => ?_) (fun hb => ?_)) <;> first | (exfalso; omega) | skip) | refine run_ret ?_ | refine run_regionD (by kernel_rfl) ?_)
      | refine seqQ_normal ?_ | refine seqQ_ret ?_)
    exact endD_ret (h1 := [_]) rfl (.cons (.tmp rfl) .nil) (Le.refl _) ⟨_, at_ + 1, _, rfl, ⟨by omega, by omega⟩, Nat.le_refl _, rfl⟩ (.inl rfl)
  · skip
    refine j_u64mul rfl rfl rfl rfl rfl rfl ?_
    repeat' (first
      | (refine j_go ?_; first
        | refine j_op0 rfl rfl rfl rfl ?_ | refine j_conv rfl rfl rfl rfl rfl (wrap_u64 (by omega) (by omega)) rfl rfl ?_))
    refine j_u64add rfl rfl rfl rfl rfl rfl ?_
    skip
    refine j_u64add rfl rfl rfl rfl rfl rfl ?_
    repeat' (first
      | (refine j_go ?_; first
        | refine j_op0 rfl rfl rfl rfl ?_ | (refine j_kLen rfl ?_; first | refine j_len rfl rfl rfl rfl rfl rfl ?_) | (refine j_kLoad rfl ?_; first | refine j_mload 0 rfl rfl rfl rfl rfl rfl rfl ?_) | (refine j_kStore rfl ?_; first | refine j_store 0 rfl rfl rfl rfl rfl rfl rfl rfl rfl rfl rfl ?_))
      | refine j_nil ?_
      | (refine r_go ?_; first | refine run_seq ?_ | refine run_region ?_ | (refine (run_if rfl (fun hb => ?_) (fun hb => ?_)) <;> first | (exfalso; omega) | skip) | refine run_skip ?_ | refine run_regionD (by kernel_rfl) ?_)
      | refine seqQ_normal ?_)
    refine j_u64shr (k := 40) (kk := .u64) rfl rfl rfl (by first | exact .inr rfl | exact .inl rfl) (by omega) rfl rfl ?_
    skip
    refine j_u64and rfl rfl rfl rfl rfl rfl (fun c hc => ?_)
    skip
    refine j_u2i rfl rfl rfl rfl rfl hc rfl rfl ?_
    repeat' (first
      | (refine j_go ?_; first
        | refine j_op0 rfl rfl rfl rfl ?_)
      | refine j_nil ?_
      | (refine r_go ?_; first | refine run_ret ?_)
      | refine seqQ_normal ?_)
    exact endD_ret (h1 := [_]) rfl (.cons (.tmp rfl) .nil) (Le.refl _) ⟨c, at_ + 1, _, rfl, hc, Nat.le_refl _, rfl⟩ (.inl rfl)
theorem DrawR.lim {s : Nat} {code : List UInt8} {l l' : Nat} {p q : Int → Prop} (hl : l ≤ l') (hp : ∀ r, p r → q r) : ∀ v h', DrawR s code l p v h' → DrawR s code l' q v h' := fun _ _ ⟨r, a, sd, h1, h2, h3, h4⟩ => ⟨r, a, sd, h1, hp r h2, Nat.le_trans h3 hl, h4⟩
theorem o_pick (s : Nat) (code : List UInt8) (at_ : Nat) (sd m : Int) (ha : at_ ≤ 1000000) (hm : m ≤ 100000) : Does Try.prog 76 [.op (some s) 0, .int m] [srcB s code at_ sd] (DrawR s code (at_ + 2) (fun r => 0 ≤ r ∧ (r < m ∨ r = 0 ∧ m ≤ 1))) := by
  refine fn_of_runD tyOk ztOk mix Try.func76 rfl (by decide) Try.ntmps76 (fun w0 F => ?_)
  change Run _ _ _ _ _ (_ :: F)
  repeat' (first
      | (refine j_go ?_; first
        | refine j_op0 rfl rfl rfl rfl ?_)
      | refine j_nil ?_
      | (refine r_go ?_; first | refine run_seq ?_ | refine run_region ?_ | (refine (run_if rfl (fun hb => ?_) (fun hb => ?_)) <;> first | (exfalso; omega) | skip) | refine run_ret ?_ | refine run_skip ?_)
      | refine seqQ_normal ?_ | refine seqQ_ret ?_)
  · exact endD_ret (h1 := [_]) rfl (.cons (.tmp rfl) .nil) (Le.refl _) ⟨0, at_, sd, rfl, ⟨by omega, by omega⟩, by omega, rfl⟩ (.inl rfl)
  refine j_kCall rfl rfl rfl rfl ?_
  refine jcp F (o_next s code at_ sd (by omega)) (List.Perm.refl _) (LeL.refl _) rfl rfl (fun v h1 hR => ?_)
  obtain ⟨r, a1, sd1, rfl, hr, ha1, rfl⟩ := hR
  repeat' (first
      | (refine j_go ?_; first
        | refine j_op0 rfl rfl rfl rfl ?_ | (refine j_kBin rfl ?_; first | refine j_in rfl rfl ⟨by omega, by omega⟩ rfl rfl ?_ | refine j_rem rfl rfl rfl rfl (by omega) rfl rfl ?_))
      | refine j_nil ?_
      | (refine r_go ?_; first | refine run_seq ?_ | refine run_region ?_ | (refine (run_if rfl (fun hb => ?_) (fun hb => ?_)) <;> first | (exfalso; omega) | skip) | refine run_ret ?_ | refine run_skip ?_)
      | refine seqQ_normal ?_)
  · refine j_kCall rfl rfl rfl rfl ?_
    refine jcp F (o_next s code a1 sd1 (by omega)) (List.Perm.refl _) (LeL.refl _) rfl rfl (fun v h1 hR => ?_)
    obtain ⟨r2, a2, sd2, rfl, hr2, ha2, rfl⟩ := hR
    repeat' (first
      | (refine j_go ?_; first
        | refine j_op0 rfl rfl rfl rfl ?_ | (refine j_kBin rfl ?_; first | refine j_in rfl rfl ⟨by omega, by omega⟩ rfl rfl ?_ | refine j_rem rfl rfl rfl rfl (by omega) rfl rfl ?_))
      | refine j_nil ?_
      | (refine r_go ?_; first | refine run_seq ?_ | refine run_region ?_ | refine run_ret ?_)
      | refine seqQ_normal ?_)
    have q1 := Int.emod_nonneg (r * 256 + r2) (b := m) (by omega)
    have q2 := Int.emod_lt_of_pos (r * 256 + r2) (b := m) (by omega)
    exact endD_ret (h1 := [_]) rfl (.cons (.tmp rfl) .nil) (Le.refl _) ⟨_, a2, sd2, rfl, ⟨q1, .inl q2⟩, by omega, rfl⟩ (.inl rfl)
  · have q1 := Int.emod_nonneg r (b := m) (by omega)
    have q2 := Int.emod_lt_of_pos r (b := m) (by omega)
    exact endD_ret (h1 := [_]) rfl (.cons (.tmp rfl) .nil) (Le.refl _) ⟨_, a1, sd1, rfl, ⟨q1, .inl q2⟩, by omega, rfl⟩ (.inl rfl)
theorem o_one (s : Nat) (code : List UInt8) (at_ : Nat) (sd m : Int) (ha : at_ ≤ 1000000) (hm : m ≤ 100000) : Does Try.prog 122 [.op (some s) 0, .int m] [srcB s code at_ sd] (fun v h' => ∃ b at2 sd2, v = .raw (.bool b) ∧ at2 ≤ at_ + 2 ∧ h' = [srcB s code at2 sd2]) := by
  refine fn_of_runD tyOk ztOk mix Try.func122 rfl (by decide) Try.ntmps122 (fun w0 F => ?_)
  change Run _ _ _ _ _ (_ :: F)
  repeat' (first
      | (refine j_go ?_; first
        | refine j_op0 rfl rfl rfl rfl ?_)
      | refine j_nil ?_
      | (refine r_go ?_; first | refine run_seq ?_ | refine run_region ?_)
      | refine seqQ_normal ?_)
  refine j_kCall rfl rfl rfl rfl ?_
  refine jcp F (o_pick s code at_ sd m ha hm) (List.Perm.refl _) (LeL.refl _) rfl rfl (fun v h1 hR => ?_)
  obtain ⟨r, a1, sd1, rfl, hr, ha1, rfl⟩ := hR
  repeat' (first
      | (refine j_go ?_; first
        | refine j_op0 rfl rfl rfl rfl ?_)
      | refine j_nil ?_
      | (refine r_go ?_; first | refine run_ret ?_)
      | refine seqQ_normal ?_)
  exact endD_ret (h1 := [_]) rfl (.cons (.tmp rfl) .nil) (Le.refl _) ⟨_, a1, sd1, rfl, ha1, rfl⟩ (.inl rfl)
theorem o_from (code : List UInt8) : Does Try.prog 65 [.sl (code.map encY)] [] (fun v h' => ∃ s, v = .op (some s) 0 ∧ h' = [srcB s code 0 0]) := by
  refine fn_of_runD tyOk ztOk mix Try.func65 rfl (by decide) Try.ntmps65 (fun w0 F => ?_)
  change Run _ _ _ _ _ F
  repeat' (first
      | (refine j_go ?_; first
        | refine j_op0 rfl rfl rfl rfl ?_ | refine j_build rfl rfl rfl rfl rfl rfl rfl ?_)
      | refine j_nil ?_
      | (refine r_go ?_; first | refine run_seq ?_ | refine run_region ?_)
      | refine seqQ_normal ?_)
  refine j_boxM rfl rfl rfl rfl rfl rfl (fun b1 => ?_)
  repeat' (first
      | (refine j_go ?_; first
        | refine j_op0 rfl rfl rfl rfl ?_)
      | refine j_nil ?_
      | (refine r_go ?_; first | refine run_ret ?_)
      | refine seqQ_normal ?_)
  exact endD_ret (h1 := [_]) rfl (.cons (.tmp rfl) .nil) (Le.refl _) ⟨b1, rfl, rfl⟩ (.inl rfl)
end Go.Proofs.Ytandldhceabdiaa

/-
  The helpers of the laws over numbers, lists of numbers and lists of lists: sizes, copies, comparisons. No condition but that the sizes are at most 1048576.
-/
namespace Go.Proofs.Ytandldhceabdiaa
open Go.AI
set_option maxRecDepth 8000
end Go.Proofs.Ytandldhceabdiaa

/-
  Library functions over lists of numbers and lists of lists: the first element of a kind. No condition.
-/
namespace Go.Proofs.Ytandldhceabdiaa
open Go.AI
set_option maxRecDepth 8000
set_option maxHeartbeats 1600000

theorem c_ixfI (f : FuncId) (caps : List A) (r : Int → Prop) (l : List (Int)) (hf : ∀ x ∈ l, Gives Try.prog f (.int x :: caps) (.raw (.bool (dec (r x))))) : Gives Try.prog 146 [.sl (l.map Go.AI.encI), .fn f caps] (.int (fIdx r l)) := by
  refine fn_of_run tyOk ztOk mix Try.func146 rfl (by decide) Try.ntmps146 (fun w0 h => ?_)
  refine run_len (t := 0) rfl (fun hl => ?_)
  rw [List.length_map] at hl
  repeat' (first
      | (refine j_go ?_; first
        | refine j_op0 rfl rfl rfl rfl ?_ | (refine j_kLen rfl ?_; first | refine j_len rfl rfl rfl rfl rfl rfl ?_))
      | refine j_nil ?_
      | (refine r_go ?_; first | refine run_seq ?_ | refine run_region ?_ | refine run_block ?_)
      | refine seqQ_normal ?_)
  refine run_loop (fun k : Nat => [(0, .sl (l.map Go.AI.encI)), (1, .fn f caps), (7, .int l.length), (8, .int (k : Int))]) (fun _ => _) (fun k => k ≤ l.length ∧ (∀ i (h : i < l.length), i < k → ¬ r l[i])) (fun k => l.length - k) 0 ⟨rfl, rfl, rfl, rfl, trivial⟩ rfl ⟨Nat.zero_le _, by first | (intros; omega) | (simp; done) | rfl | trivial | exact ⟨by simp [sumF], by intros; omega⟩ | exact ⟨by omega, by simp⟩⟩ (fun k ⟨kl, kp⟩ => ?_)
  repeat' (first
      | (refine j_go ?_; first
        | refine j_op0 rfl rfl rfl rfl ?_ | (refine j_kIdx rfl ?_; first | refine j_idx rfl rfl rfl rfl rfl (by omega) rfl rfl rfl ?_) | (refine j_kBin rfl ?_; first | refine j_in rfl rfl ⟨by omega, by omega⟩ rfl rfl ?_) | (refine j_kCall rfl rfl rfl rfl ?_; first | refine jc (hf _ (List.getElem_mem _)) (LeL.refl _) rfl rfl ?_))
      | refine j_nil ?_
      | (refine r_go ?_; first | refine run_seq ?_ | refine run_region ?_ | (refine (run_if rfl (fun hb => ?_) (fun hb => ?_)) <;> first | (exfalso; omega) | skip) | refine run_block ?_ | refine run_ret ?_ | refine run_exit ?_ | refine run_skip ?_)
      | refine seqQ_normal ?_ | refine seqQ_ret ?_ | refine seqQ_exit ?_ | refine blockQ_normal ?_ | refine blockQ_ret ?_ | refine blockQ_eq ?_ | refine loopQ_ret ?_ | refine loopQ_exit ?_)
  · exact end1 rfl (List.Sublist.refl _) (ai (fIdx_at (by omega) hb kp).symm) (.inl rfl)
  · exact loopQ_nextD (k + 1) ⟨by omega, all_step kp (fun _ => hb)⟩ (by omega) (by first | exact List.Sublist.refl _ | exact sub1 | exact sub2 | exact sub3) ⟨rfl, rfl, rfl, nx _, trivial⟩
  · exact end1 rfl (List.Sublist.refl _) (ai (fIdx_none (fun i h => kp i h (by omega))).symm) (.inl rfl)

theorem c_cfI (f : FuncId) (caps : List A) (r : Int → Prop) (l : List (Int)) (hf : ∀ x ∈ l, Gives Try.prog f (.int x :: caps) (.raw (.bool (dec (r x))))) : Gives Try.prog 81 [.sl (l.map Go.AI.encI), .fn f caps] (.raw (.bool (dec (∃ x ∈ l, r x)))) := by
  refine fn_of_run tyOk ztOk mix Try.func81 rfl (by decide) Try.ntmps81 (fun w0 h => ?_)
  repeat' (first
      | (refine j_go ?_; first
        | refine j_op0 rfl rfl rfl rfl ?_ | (refine j_kCall rfl rfl rfl rfl ?_; first | refine jc (c_ixfI _ _ r _ hf) (LeL.refl _) rfl rfl ?_))
      | refine j_nil ?_
      | (refine r_go ?_; first | refine run_seq ?_ | refine run_region ?_ | refine run_ret ?_)
      | refine seqQ_normal ?_)
  exact end1 rfl (List.Sublist.refl _) (rbD (fIdx_ex r l)) (.inl rfl)
end Go.Proofs.Ytandldhceabdiaa

/-
  The data of the laws' theme 7, as structures, and the helpers of the laws over them: sizes, copies, comparisons. No condition but that the sizes are at most 1048576.
-/
namespace Go.Proofs.Ytandldhceabdiaa
open Go.AI
set_option maxRecDepth 8000

structure Cnf where
  vars : Int
  clauses : List (List Int)
  deriving DecidableEq, Inhabited
/-- What its size tells of it. -/
structure OkCnf (x : Cnf) : Prop where
  clauses : x.clauses.length ≤ 1048576 ∧ ∀ r ∈ x.clauses, r.length ≤ 1048576
structure Group where
  charge : Int
  contents : List Int
  count : Int
  deriving DecidableEq, Inhabited
def encGroup (x : Group) : List A := [.int x.charge, .sl (x.contents.map Go.AI.encI), .int x.count]
/-- What its size tells of it. -/
structure OkGroup (x : Group) : Prop where
  contents : x.contents.length ≤ 1048576
structure Colony where
  skin : List Int
  groups : List Group
  deriving DecidableEq, Inhabited
def encColony (x : Colony) : List A := [.sl (x.skin.map Go.AI.encI), .sl (x.groups.map encGroup)]
/-- What its size tells of it. -/
structure OkColony (x : Colony) : Prop where
  skin : x.skin.length ≤ 1048576
  groups : x.groups.length ≤ 1048576 ∧ ∀ r ∈ x.groups, OkGroup r
structure DivRule where
  kind : Int
  charge : Int
  object : Int
  to : Int
  first : List Int
  toB : Int
  second : List Int
  deriving DecidableEq, Inhabited
def encDivRule (x : DivRule) : List A := [.int x.kind, .int x.charge, .int x.object, .int x.to, .sl (x.first.map Go.AI.encI), .int x.toB, .sl (x.second.map Go.AI.encI)]
/-- What its size tells of it. -/
structure OkDivRule (x : DivRule) : Prop where
  first : x.first.length ≤ 1048576
  second : x.second.length ≤ 1048576
structure Division where
  objects : Int
  rules : List DivRule
  deriving DecidableEq, Inhabited
def encDivision (x : Division) : List A := [.int x.objects, .sl (x.rules.map encDivRule)]
/-- What its size tells of it. -/
structure OkDivision (x : Division) : Prop where
  rules : x.rules.length ≤ 1048576 ∧ ∀ r ∈ x.rules, OkDivRule r
end Go.Proofs.Ytandldhceabdiaa

/-
  Library functions over lists of rules and of groups: the first element of a kind. No condition.
-/
namespace Go.Proofs.Ytandldhceabdiaa
open Go.AI
set_option maxRecDepth 8000
set_option maxHeartbeats 1600000

theorem c_ixfD (f : FuncId) (caps : List A) (r : DivRule → Prop) (l : List (DivRule)) (hf : ∀ x ∈ l, Gives Try.prog f (.agg (encDivRule x) :: caps) (.raw (.bool (dec (r x))))) : Gives Try.prog 189 [.sl (l.map encDivRule), .fn f caps] (.int (fIdx r l)) := by
  refine fn_of_run tyOk ztOk mix Try.func189 rfl (by decide) Try.ntmps189 (fun w0 h => ?_)
  refine run_len (t := 0) rfl (fun hl => ?_)
  rw [List.length_map] at hl
  repeat' (first
      | (refine j_go ?_; first
        | refine j_op0 rfl rfl rfl rfl ?_ | (refine j_kLen rfl ?_; first | refine j_len rfl rfl rfl rfl rfl rfl ?_))
      | refine j_nil ?_
      | (refine r_go ?_; first | refine run_seq ?_ | refine run_region ?_ | refine run_block ?_)
      | refine seqQ_normal ?_)
  refine run_loop (fun k : Nat => [(0, .sl (l.map encDivRule)), (1, .fn f caps), (7, .int l.length), (8, .int (k : Int))]) (fun _ => _) (fun k => k ≤ l.length ∧ (∀ i (h : i < l.length), i < k → ¬ r l[i])) (fun k => l.length - k) 0 ⟨rfl, rfl, rfl, rfl, trivial⟩ rfl ⟨Nat.zero_le _, by first | (intros; omega) | (simp; done) | rfl | trivial | exact ⟨by simp [sumF], by intros; omega⟩ | exact ⟨by omega, by simp⟩⟩ (fun k ⟨kl, kp⟩ => ?_)
  repeat' (first
      | (refine j_go ?_; first
        | refine j_op0 rfl rfl rfl rfl ?_ | (refine j_kIdx rfl ?_; first | refine j_idx rfl rfl rfl rfl rfl (by omega) rfl rfl rfl ?_) | (refine j_kBin rfl ?_; first | refine j_in rfl rfl ⟨by omega, by omega⟩ rfl rfl ?_) | (refine j_kCall rfl rfl rfl rfl ?_; first | refine jc (hf _ (List.getElem_mem _)) (LeL.refl _) rfl rfl ?_))
      | refine j_nil ?_
      | (refine r_go ?_; first | refine run_seq ?_ | refine run_region ?_ | (refine (run_if rfl (fun hb => ?_) (fun hb => ?_)) <;> first | (exfalso; omega) | skip) | refine run_block ?_ | refine run_ret ?_ | refine run_exit ?_ | refine run_skip ?_)
      | refine seqQ_normal ?_ | refine seqQ_ret ?_ | refine seqQ_exit ?_ | refine blockQ_normal ?_ | refine blockQ_ret ?_ | refine blockQ_eq ?_ | refine loopQ_ret ?_ | refine loopQ_exit ?_)
  · exact end1 rfl (List.Sublist.refl _) (ai (fIdx_at (by omega) hb kp).symm) (.inl rfl)
  · exact loopQ_nextD (k + 1) ⟨by omega, all_step kp (fun _ => hb)⟩ (by omega) (by first | exact List.Sublist.refl _ | exact sub1 | exact sub2 | exact sub3) ⟨rfl, rfl, rfl, nx _, trivial⟩
  · exact end1 rfl (List.Sublist.refl _) (ai (fIdx_none (fun i h => kp i h (by omega))).symm) (.inl rfl)

theorem c_cfD (f : FuncId) (caps : List A) (r : DivRule → Prop) (l : List (DivRule)) (hf : ∀ x ∈ l, Gives Try.prog f (.agg (encDivRule x) :: caps) (.raw (.bool (dec (r x))))) : Gives Try.prog 143 [.sl (l.map encDivRule), .fn f caps] (.raw (.bool (dec (∃ x ∈ l, r x)))) := by
  refine fn_of_run tyOk ztOk mix Try.func143 rfl (by decide) Try.ntmps143 (fun w0 h => ?_)
  repeat' (first
      | (refine j_go ?_; first
        | refine j_op0 rfl rfl rfl rfl ?_ | (refine j_kCall rfl rfl rfl rfl ?_; first | refine jc (c_ixfD _ _ r _ hf) (LeL.refl _) rfl rfl ?_))
      | refine j_nil ?_
      | (refine r_go ?_; first | refine run_seq ?_ | refine run_region ?_ | refine run_ret ?_)
      | refine seqQ_normal ?_)
  exact end1 rfl (List.Sublist.refl _) (rbD (fIdx_ex r l)) (.inl rfl)
theorem c_ixfG (f : FuncId) (caps : List A) (r : Group → Prop) (l : List (Group)) (hf : ∀ x ∈ l, Gives Try.prog f (.agg (encGroup x) :: caps) (.raw (.bool (dec (r x))))) : Gives Try.prog 152 [.sl (l.map encGroup), .fn f caps] (.int (fIdx r l)) := by
  refine fn_of_run tyOk ztOk mix Try.func152 rfl (by decide) Try.ntmps152 (fun w0 h => ?_)
  refine run_len (t := 0) rfl (fun hl => ?_)
  rw [List.length_map] at hl
  repeat' (first
      | (refine j_go ?_; first
        | refine j_op0 rfl rfl rfl rfl ?_ | (refine j_kLen rfl ?_; first | refine j_len rfl rfl rfl rfl rfl rfl ?_))
      | refine j_nil ?_
      | (refine r_go ?_; first | refine run_seq ?_ | refine run_region ?_ | refine run_block ?_)
      | refine seqQ_normal ?_)
  refine run_loop (fun k : Nat => [(0, .sl (l.map encGroup)), (1, .fn f caps), (7, .int l.length), (8, .int (k : Int))]) (fun _ => _) (fun k => k ≤ l.length ∧ (∀ i (h : i < l.length), i < k → ¬ r l[i])) (fun k => l.length - k) 0 ⟨rfl, rfl, rfl, rfl, trivial⟩ rfl ⟨Nat.zero_le _, by first | (intros; omega) | (simp; done) | rfl | trivial | exact ⟨by simp [sumF], by intros; omega⟩ | exact ⟨by omega, by simp⟩⟩ (fun k ⟨kl, kp⟩ => ?_)
  repeat' (first
      | (refine j_go ?_; first
        | refine j_op0 rfl rfl rfl rfl ?_ | (refine j_kIdx rfl ?_; first | refine j_idx rfl rfl rfl rfl rfl (by omega) rfl rfl rfl ?_) | (refine j_kBin rfl ?_; first | refine j_in rfl rfl ⟨by omega, by omega⟩ rfl rfl ?_) | (refine j_kCall rfl rfl rfl rfl ?_; first | refine jc (hf _ (List.getElem_mem _)) (LeL.refl _) rfl rfl ?_))
      | refine j_nil ?_
      | (refine r_go ?_; first | refine run_seq ?_ | refine run_region ?_ | (refine (run_if rfl (fun hb => ?_) (fun hb => ?_)) <;> first | (exfalso; omega) | skip) | refine run_block ?_ | refine run_ret ?_ | refine run_exit ?_ | refine run_skip ?_)
      | refine seqQ_normal ?_ | refine seqQ_ret ?_ | refine seqQ_exit ?_ | refine blockQ_normal ?_ | refine blockQ_ret ?_ | refine blockQ_eq ?_ | refine loopQ_ret ?_ | refine loopQ_exit ?_)
  · exact end1 rfl (List.Sublist.refl _) (ai (fIdx_at (by omega) hb kp).symm) (.inl rfl)
  · exact loopQ_nextD (k + 1) ⟨by omega, all_step kp (fun _ => hb)⟩ (by omega) (by first | exact List.Sublist.refl _ | exact sub1 | exact sub2 | exact sub3) ⟨rfl, rfl, rfl, nx _, trivial⟩
  · exact end1 rfl (List.Sublist.refl _) (ai (fIdx_none (fun i h => kp i h (by omega))).symm) (.inl rfl)

theorem c_cfG (f : FuncId) (caps : List A) (r : Group → Prop) (l : List (Group)) (hf : ∀ x ∈ l, Gives Try.prog f (.agg (encGroup x) :: caps) (.raw (.bool (dec (r x))))) : Gives Try.prog 92 [.sl (l.map encGroup), .fn f caps] (.raw (.bool (dec (∃ x ∈ l, r x)))) := by
  refine fn_of_run tyOk ztOk mix Try.func92 rfl (by decide) Try.ntmps92 (fun w0 h => ?_)
  repeat' (first
      | (refine j_go ?_; first
        | refine j_op0 rfl rfl rfl rfl ?_ | (refine j_kCall rfl rfl rfl rfl ?_; first | refine jc (c_ixfG _ _ r _ hf) (LeL.refl _) rfl rfl ?_))
      | refine j_nil ?_
      | (refine r_go ?_; first | refine run_seq ?_ | refine run_region ?_ | refine run_ret ?_)
      | refine seqQ_normal ?_)
  exact end1 rfl (List.Sublist.refl _) (rbD (fIdx_ex r l)) (.inl rfl)

end Go.Proofs.Ytandldhceabdiaa
