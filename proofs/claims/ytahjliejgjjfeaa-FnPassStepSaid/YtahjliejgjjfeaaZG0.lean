/-
  The types of this seat's program, as the walk over plain data wants them. No condition.
-/
import Derived.Test.YtahjliejgjjfeaaZRun
import Derived.Test.YtahjliejgjjfeaaChecked
import Derived.Test.YtahjliejgjjfeaaZOpen
import Derived.Test.YtahjliejgjjfeaaZEnd
namespace Go.Proofs.Ytahjliejgjjfeaa
open Go.AI
def tyl : List (Nat × TI) := [(1, ⟨1, .scalar⟩),
  (2, ⟨1, .ik .i64⟩),
  (3, ⟨1, .ik .i64⟩),
  (4, ⟨1, .bool⟩),
  (5, ⟨1, .ik .u8⟩),
  (6, ⟨1, .ik .u8⟩),
  (7, ⟨4, .struct [(0, 1), (1, 1), (2, 1), (3, 1)]⟩),
  (8, ⟨4, .struct [(0, 1), (1, 1), (2, 1), (3, 1)]⟩),
  (9, ⟨1, .str⟩),
  (10, ⟨1, .str⟩),
  (11, ⟨1, .str⟩),
  (12, ⟨1, .ik .u64⟩),
  (13, ⟨2, .struct [(0, 1), (1, 1)]⟩),
  (14, ⟨2, .struct [(0, 1), (1, 1)]⟩),
  (15, ⟨1, .scalar⟩),
  (16, ⟨1, .scalar⟩),
  (17, ⟨1, .scalar⟩),
  (18, ⟨1, .struct [(0, 1)]⟩),
  (19, ⟨1, .struct [(0, 1)]⟩),
  (21, ⟨1, .ik .i32⟩),
  (22, ⟨1, .slice 182 7⟩),
  (23, ⟨2, .struct [(0, 1), (1, 1)]⟩),
  (24, ⟨2, .struct [(0, 1), (1, 1)]⟩),
  (25, ⟨1, .slice 2 1⟩),
  (26, ⟨1, .slice 139 3⟩),
  (27, ⟨2, .struct [(0, 1), (1, 1)]⟩),
  (28, ⟨2, .struct [(0, 1), (1, 1)]⟩),
  (29, ⟨1, .scalar⟩),
  (30, ⟨1, .scalar⟩),
  (32, ⟨1, .scalar⟩),
  (33, ⟨1, .slice 187 7⟩),
  (34, ⟨2, .struct [(0, 1), (1, 1)]⟩),
  (35, ⟨2, .struct [(0, 1), (1, 1)]⟩),
  (36, ⟨1, .scalar⟩),
  (37, ⟨1, .slice 141 3⟩),
  (38, ⟨2, .struct [(0, 1), (1, 1)]⟩),
  (39, ⟨2, .struct [(0, 1), (1, 1)]⟩),
  (40, ⟨1, .scalar⟩),
  (41, ⟨1, .scalar⟩),
  (42, ⟨1, .scalar⟩),
  (43, ⟨1, .scalar⟩),
  (44, ⟨1, .slice 4 1⟩),
  (45, ⟨1, .slice 200 3⟩),
  (46, ⟨4, .struct [(0, 1), (1, 1), (2, 1), (3, 1)]⟩),
  (47, ⟨4, .struct [(0, 1), (1, 1), (2, 1), (3, 1)]⟩),
  (48, ⟨1, .slice 25 1⟩),
  (49, ⟨2, .struct [(0, 1), (1, 1)]⟩),
  (50, ⟨2, .struct [(0, 1), (1, 1)]⟩),
  (51, ⟨1, .scalar⟩),
  (52, ⟨1, .scalar⟩),
  (54, ⟨1, .scalar⟩),
  (55, ⟨1, .slice 99 3⟩),
  (56, ⟨4, .struct [(0, 1), (1, 1), (2, 1), (3, 1)]⟩),
  (57, ⟨4, .struct [(0, 1), (1, 1), (2, 1), (3, 1)]⟩),
  (58, ⟨1, .scalar⟩),
  (59, ⟨2, .struct [(0, 1), (1, 1)]⟩),
  (60, ⟨1, .scalar⟩),
  (61, ⟨1, .scalar⟩),
  (62, ⟨1, .scalar⟩),
  (63, ⟨1, .scalar⟩),
  (64, ⟨1, .scalar⟩),
  (65, ⟨1, .scalar⟩),
  (66, ⟨1, .scalar⟩),
  (67, ⟨1, .scalar⟩),
  (69, ⟨1, .scalar⟩),
  (70, ⟨1, .scalar⟩),
  (71, ⟨1, .scalar⟩),
  (72, ⟨1, .scalar⟩),
  (73, ⟨1, .scalar⟩),
  (74, ⟨1, .scalar⟩),
  (75, ⟨1, .scalar⟩),
  (77, ⟨1, .scalar⟩),
  (78, ⟨1, .scalar⟩),
  (79, ⟨1, .scalar⟩),
  (80, ⟨1, .scalar⟩),
  (81, ⟨1, .scalar⟩),
  (82, ⟨1, .scalar⟩),
  (83, ⟨1, .slice 5 1⟩),
  (84, ⟨1, .scalar⟩),
  (86, ⟨1, .scalar⟩),
  (87, ⟨1, .scalar⟩),
  (88, ⟨1, .scalar⟩),
  (89, ⟨1, .scalar⟩),
  (91, ⟨1, .scalar⟩),
  (93, ⟨1, .scalar⟩),
  (94, ⟨1, .scalar⟩),
  (95, ⟨1, .scalar⟩),
  (96, ⟨1, .scalar⟩),
  (97, ⟨1, .scalar⟩),
  (98, ⟨3, .struct [(0, 1), (1, 1), (2, 1)]⟩),
  (99, ⟨3, .struct [(0, 1), (1, 1), (2, 1)]⟩),
  (101, ⟨1, .scalar⟩),
  (102, ⟨1, .scalar⟩),
  (103, ⟨1, .scalar⟩),
  (104, ⟨1, .scalar⟩),
  (105, ⟨1, .scalar⟩),
  (107, ⟨1, .scalar⟩),
  (108, ⟨1, .scalar⟩),
  (109, ⟨1, .scalar⟩),
  (110, ⟨1, .scalar⟩),
  (111, ⟨1, .scalar⟩),
  (112, ⟨1, .scalar⟩),
  (113, ⟨1, .scalar⟩),
  (114, ⟨1, .scalar⟩),
  (115, ⟨1, .scalar⟩),
  (116, ⟨1, .scalar⟩),
  (117, ⟨1, .scalar⟩),
  (119, ⟨1, .scalar⟩),
  (120, ⟨1, .scalar⟩),
  (121, ⟨1, .scalar⟩),
  (122, ⟨1, .scalar⟩),
  (123, ⟨1, .scalar⟩),
  (124, ⟨1, .scalar⟩),
  (125, ⟨1, .scalar⟩),
  (126, ⟨1, .scalar⟩),
  (127, ⟨1, .scalar⟩),
  (128, ⟨1, .scalar⟩),
  (129, ⟨1, .scalar⟩),
  (131, ⟨1, .scalar⟩),
  (132, ⟨1, .scalar⟩),
  (133, ⟨1, .scalar⟩),
  (134, ⟨1, .scalar⟩),
  (135, ⟨1, .scalar⟩),
  (136, ⟨1, .scalar⟩),
  (137, ⟨1, .scalar⟩),
  (138, ⟨3, .struct [(0, 1), (1, 1), (2, 1)]⟩),
  (139, ⟨3, .struct [(0, 1), (1, 1), (2, 1)]⟩),
  (140, ⟨1, .scalar⟩),
  (141, ⟨3, .struct [(0, 1), (1, 1), (2, 1)]⟩),
  (142, ⟨1, .scalar⟩),
  (143, ⟨1, .scalar⟩),
  (144, ⟨1, .scalar⟩),
  (145, ⟨1, .scalar⟩),
  (146, ⟨1, .scalar⟩),
  (147, ⟨1, .scalar⟩),
  (148, ⟨1, .scalar⟩),
  (149, ⟨1, .scalar⟩),
  (150, ⟨1, .scalar⟩),
  (151, ⟨1, .scalar⟩),
  (152, ⟨1, .scalar⟩),
  (153, ⟨1, .scalar⟩),
  (154, ⟨1, .scalar⟩),
  (155, ⟨1, .scalar⟩),
  (156, ⟨1, .scalar⟩),
  (157, ⟨1, .scalar⟩),
  (158, ⟨1, .scalar⟩),
  (159, ⟨1, .scalar⟩),
  (160, ⟨1, .scalar⟩),
  (161, ⟨1, .scalar⟩),
  (162, ⟨1, .scalar⟩),
  (163, ⟨1, .scalar⟩),
  (164, ⟨1, .scalar⟩),
  (165, ⟨1, .scalar⟩),
  (166, ⟨1, .scalar⟩),
  (167, ⟨1, .scalar⟩),
  (168, ⟨1, .scalar⟩),
  (169, ⟨1, .scalar⟩),
  (170, ⟨1, .scalar⟩),
  (171, ⟨1, .scalar⟩),
  (172, ⟨1, .scalar⟩),
  (173, ⟨1, .scalar⟩),
  (174, ⟨1, .scalar⟩),
  (175, ⟨1, .scalar⟩),
  (176, ⟨1, .scalar⟩),
  (177, ⟨1, .scalar⟩),
  (178, ⟨1, .scalar⟩),
  (179, ⟨1, .scalar⟩),
  (180, ⟨1, .scalar⟩),
  (181, ⟨7, .struct [(0, 1), (1, 1), (2, 1), (3, 1), (4, 1), (5, 1), (6, 1)]⟩),
  (182, ⟨7, .struct [(0, 1), (1, 1), (2, 1), (3, 1), (4, 1), (5, 1), (6, 1)]⟩),
  (183, ⟨1, .scalar⟩),
  (184, ⟨5, .struct [(0, 1), (1, 1), (2, 1), (3, 1), (4, 1)]⟩),
  (185, ⟨5, .struct [(0, 1), (1, 1), (2, 1), (3, 1), (4, 1)]⟩),
  (186, ⟨1, .scalar⟩),
  (187, ⟨7, .struct [(0, 1), (1, 1), (2, 1), (3, 1), (4, 1), (5, 1), (6, 1)]⟩),
  (188, ⟨1, .scalar⟩),
  (189, ⟨1, .slice 196 11⟩),
  (191, ⟨1, .scalar⟩),
  (192, ⟨1, .scalar⟩),
  (193, ⟨1, .scalar⟩),
  (194, ⟨1, .scalar⟩),
  (195, ⟨11, .struct [(0, 3), (3, 7), (10, 1)]⟩),
  (196, ⟨11, .struct [(0, 3), (3, 7), (10, 1)]⟩),
  (197, ⟨1, .scalar⟩),
  (198, ⟨1, .scalar⟩),
  (199, ⟨1, .scalar⟩),
  (200, ⟨3, .struct [(0, 1), (1, 1), (2, 1)]⟩),
  (201, ⟨1, .scalar⟩),
  (202, ⟨1, .scalar⟩),
  (203, ⟨4, .struct [(0, 1), (1, 1), (2, 1), (3, 1)]⟩),
  (204, ⟨4, .struct [(0, 1), (1, 1), (2, 1), (3, 1)]⟩),
  (205, ⟨1, .scalar⟩),
  (206, ⟨1, .scalar⟩),
  (207, ⟨1, .scalar⟩),
  (208, ⟨1, .scalar⟩),
  (209, ⟨1, .scalar⟩),
  (210, ⟨1, .scalar⟩),
  (211, ⟨1, .scalar⟩),
  (212, ⟨1, .scalar⟩),
  (213, ⟨1, .scalar⟩),
  (214, ⟨1, .scalar⟩),
  (215, ⟨1, .scalar⟩),
  (216, ⟨1, .scalar⟩),
  (217, ⟨1, .scalar⟩),
  (218, ⟨1, .scalar⟩),
  (219, ⟨1, .scalar⟩),
  (220, ⟨1, .scalar⟩),
  (221, ⟨1, .scalar⟩),
  (222, ⟨1, .scalar⟩),
  (223, ⟨1, .scalar⟩),
  (224, ⟨1, .scalar⟩),
  (225, ⟨1, .ik .u64⟩),
  (226, ⟨3, .struct [(0, 1), (1, 1), (2, 1)]⟩),
  (227, ⟨3, .struct [(0, 1), (1, 1), (2, 1)]⟩),
  (228, ⟨1, .scalar⟩),
  (229, ⟨1, .scalar⟩),
  (230, ⟨1, .scalar⟩),
  (231, ⟨1, .scalar⟩),
  (232, ⟨1, .scalar⟩),
  (233, ⟨1, .scalar⟩),
  (234, ⟨1, .scalar⟩),
  (235, ⟨1, .scalar⟩),
  (236, ⟨1, .scalar⟩),
  (237, ⟨1, .scalar⟩),
  (238, ⟨1, .scalar⟩),
  (239, ⟨1, .scalar⟩),
  (240, ⟨1, .scalar⟩),
  (241, ⟨1, .scalar⟩),
  (242, ⟨1, .scalar⟩),
  (243, ⟨1, .scalar⟩),
  (244, ⟨1, .scalar⟩),
  (245, ⟨1, .scalar⟩),
  (246, ⟨4, .struct [(0, 1), (1, 1), (2, 1), (3, 1)]⟩),
  (247, ⟨4, .struct [(0, 1), (1, 1), (2, 1), (3, 1)]⟩),
  (249, ⟨1, .scalar⟩),
  (250, ⟨1, .scalar⟩),
  (251, ⟨1, .scalar⟩),
  (252, ⟨1, .scalar⟩),
  (253, ⟨1, .scalar⟩),
  (254, ⟨1, .scalar⟩),
  (255, ⟨1, .ik .u64⟩),
  (256, ⟨1, .scalar⟩),
  (257, ⟨1, .scalar⟩),
  (258, ⟨1, .scalar⟩),
  (259, ⟨1, .scalar⟩),
  (260, ⟨1, .scalar⟩),
  (261, ⟨1, .scalar⟩),
  (262, ⟨1, .scalar⟩),
  (263, ⟨1, .scalar⟩),
  (264, ⟨1, .scalar⟩),
  (265, ⟨1, .scalar⟩),
  (266, ⟨1, .slice 3 1⟩),
  (267, ⟨1, .scalar⟩),
  (268, ⟨1, .scalar⟩),
  (269, ⟨1, .scalar⟩),
  (270, ⟨1, .ik .i64⟩),
  (272, ⟨1, .scalar⟩),
  (273, ⟨1, .scalar⟩),
  (274, ⟨1, .scalar⟩),
  (276, ⟨1, .scalar⟩),
  (277, ⟨1, .scalar⟩),
  (278, ⟨1, .ik .u32⟩),
  (279, ⟨1, .scalar⟩),
  (280, ⟨1, .ik .u64⟩),
  (281, ⟨1, .scalar⟩),
  (282, ⟨1, .scalar⟩),
  (283, ⟨1, .scalar⟩),
  (284, ⟨1, .scalar⟩),
  (285, ⟨1, .scalar⟩),
  (286, ⟨1, .scalar⟩),
  (288, ⟨1, .scalar⟩),
  (289, ⟨1, .scalar⟩),
  (290, ⟨4, .struct [(0, 1), (1, 1), (2, 1), (3, 1)]⟩),
  (291, ⟨4, .struct [(0, 1), (1, 1), (2, 1), (3, 1)]⟩),
  (292, ⟨0, .arr 0 16 1⟩),
  (295, ⟨1, .scalar⟩),
  (296, ⟨1, .ik .u8⟩),
  (297, ⟨1, .ik .u8⟩),
  (298, ⟨1, .scalar⟩),
  (299, ⟨1, .scalar⟩),
  (300, ⟨1, .ik .i32⟩),
  (301, ⟨1, .ik .i32⟩),
  (302, ⟨11, .struct [(0, 1), (1, 1), (2, 1), (3, 1), (4, 1), (5, 1), (6, 1), (7, 1), (8, 1), (9, 1), (10, 1)]⟩),
  (303, ⟨11, .struct [(0, 1), (1, 1), (2, 1), (3, 1), (4, 1), (5, 1), (6, 1), (7, 1), (8, 1), (9, 1), (10, 1)]⟩)]
def ty : Nat → Option TI := lkT tyl
theorem tyOk : TyOk Try.prog ty := tyOk_of_list tyl (by kernel_rfl)
def ztl : List (Nat × (List ZK × Nat)) := [(1, ([.fn], 8)),
  (2, ([.int], 8)),
  (3, ([.int], 8)),
  (4, ([.bool], 1)),
  (5, ([.byte], 1)),
  (6, ([.byte], 1)),
  (7, ([.int, .int, .bool, .byte], 24)),
  (8, ([.int, .int, .bool, .byte], 24)),
  (9, ([.str], 16)),
  (10, ([.str], 16)),
  (11, ([.str], 16)),
  (12, ([.u64], 8)),
  (13, ([.str, .u64], 24)),
  (14, ([.str, .u64], 24)),
  (15, ([.ptr], 8)),
  (16, ([.ptr], 8)),
  (17, ([.ptr], 8)),
  (18, ([.ptr], 8)),
  (19, ([.ptr], 8)),
  (22, ([.slice], 24)),
  (23, ([.int, .slice], 32)),
  (24, ([.int, .slice], 32)),
  (25, ([.slice], 24)),
  (26, ([.slice], 24)),
  (27, ([.slice, .slice], 48)),
  (28, ([.slice, .slice], 48)),
  (29, ([.fn], 8)),
  (30, ([.fn], 8)),
  (32, ([.fn], 8)),
  (33, ([.slice], 24)),
  (34, ([.int, .slice], 32)),
  (35, ([.int, .slice], 32)),
  (36, ([.fn], 8)),
  (37, ([.slice], 24)),
  (38, ([.slice, .slice], 48)),
  (39, ([.slice, .slice], 48)),
  (40, ([.fn], 8)),
  (41, ([.fn], 8)),
  (42, ([.fn], 8)),
  (43, ([.fn], 8)),
  (44, ([.slice], 24)),
  (45, ([.slice], 24)),
  (46, ([.int, .slice, .slice, .slice], 80)),
  (47, ([.int, .slice, .slice, .slice], 80)),
  (48, ([.slice], 24)),
  (49, ([.slice, .slice], 48)),
  (50, ([.slice, .slice], 48)),
  (51, ([.fn], 8)),
  (52, ([.fn], 8)),
  (54, ([.fn], 8)),
  (55, ([.slice], 24)),
  (56, ([.int, .slice, .slice, .slice], 80)),
  (57, ([.int, .slice, .slice, .slice], 80)),
  (58, ([.fn], 8)),
  (59, ([.slice, .slice], 48)),
  (60, ([.fn], 8)),
  (61, ([.fn], 8)),
  (62, ([.fn], 8)),
  (63, ([.fn], 8)),
  (64, ([.fn], 8)),
  (65, ([.fn], 8)),
  (66, ([.fn], 8)),
  (67, ([.fn], 8)),
  (69, ([.fn], 8)),
  (70, ([.fn], 8)),
  (71, ([.fn], 8)),
  (72, ([.fn], 8)),
  (73, ([.fn], 8)),
  (74, ([.fn], 8)),
  (75, ([.fn], 8)),
  (77, ([.fn], 8)),
  (78, ([.fn], 8)),
  (79, ([.fn], 8)),
  (80, ([.fn], 8)),
  (81, ([.fn], 8)),
  (82, ([.fn], 8)),
  (83, ([.slice], 24)),
  (84, ([.fn], 8)),
  (86, ([.fn], 8)),
  (87, ([.fn], 8)),
  (88, ([.fn], 8)),
  (89, ([.fn], 8)),
  (91, ([.fn], 8)),
  (93, ([.fn], 8)),
  (94, ([.fn], 8)),
  (95, ([.fn], 8)),
  (96, ([.fn], 8)),
  (97, ([.fn], 8)),
  (98, ([.int, .slice, .slice], 56)),
  (99, ([.int, .slice, .slice], 56)),
  (101, ([.fn], 8)),
  (102, ([.fn], 8)),
  (103, ([.fn], 8)),
  (104, ([.ptr], 8)),
  (105, ([.ptr], 8)),
  (107, ([.fn], 8)),
  (108, ([.fn], 8)),
  (109, ([.fn], 8)),
  (110, ([.fn], 8)),
  (111, ([.fn], 8)),
  (112, ([.fn], 8)),
  (113, ([.fn], 8)),
  (114, ([.fn], 8)),
  (115, ([.ptr], 8)),
  (116, ([.ptr], 8)),
  (117, ([.fn], 8)),
  (119, ([.fn], 8)),
  (120, ([.fn], 8)),
  (121, ([.fn], 8)),
  (122, ([.fn], 8)),
  (123, ([.fn], 8)),
  (124, ([.fn], 8)),
  (125, ([.fn], 8)),
  (126, ([.fn], 8)),
  (127, ([.fn], 8)),
  (128, ([.fn], 8)),
  (129, ([.fn], 8)),
  (131, ([.fn], 8)),
  (132, ([.fn], 8)),
  (133, ([.fn], 8)),
  (134, ([.fn], 8)),
  (135, ([.fn], 8)),
  (136, ([.fn], 8)),
  (137, ([.fn], 8)),
  (138, ([.int, .slice, .int], 40)),
  (139, ([.int, .slice, .int], 40)),
  (140, ([.ptr], 8)),
  (141, ([.int, .slice, .int], 40)),
  (142, ([.fn], 8)),
  (143, ([.fn], 8)),
  (144, ([.fn], 8)),
  (145, ([.fn], 8)),
  (146, ([.fn], 8)),
  (147, ([.fn], 8)),
  (148, ([.fn], 8)),
  (149, ([.fn], 8)),
  (150, ([.fn], 8)),
  (151, ([.ptr], 8)),
  (152, ([.fn], 8)),
  (153, ([.fn], 8)),
  (154, ([.fn], 8)),
  (155, ([.fn], 8)),
  (156, ([.fn], 8)),
  (157, ([.fn], 8)),
  (158, ([.fn], 8)),
  (159, ([.fn], 8)),
  (160, ([.fn], 8)),
  (161, ([.fn], 8)),
  (162, ([.fn], 8)),
  (163, ([.fn], 8)),
  (164, ([.fn], 8)),
  (165, ([.fn], 8)),
  (166, ([.fn], 8)),
  (167, ([.fn], 8)),
  (168, ([.ptr], 8)),
  (169, ([.fn], 8)),
  (170, ([.fn], 8)),
  (171, ([.fn], 8)),
  (172, ([.fn], 8)),
  (173, ([.fn], 8)),
  (174, ([.fn], 8)),
  (175, ([.fn], 8)),
  (176, ([.fn], 8)),
  (177, ([.fn], 8)),
  (178, ([.fn], 8)),
  (179, ([.fn], 8)),
  (180, ([.fn], 8)),
  (181, ([.int, .int, .int, .int, .slice, .int, .slice], 88)),
  (182, ([.int, .int, .int, .int, .slice, .int, .slice], 88)),
  (183, ([.ptr], 8)),
  (184, ([.ptr, .slice, .slice, .slice, .bool], 88)),
  (185, ([.ptr, .slice, .slice, .slice, .bool], 88)),
  (186, ([.fn], 8)),
  (187, ([.int, .int, .int, .int, .slice, .int, .slice], 88)),
  (188, ([.fn], 8)),
  (189, ([.slice], 24)),
  (191, ([.fn], 8)),
  (192, ([.fn], 8)),
  (193, ([.fn], 8)),
  (194, ([.fn], 8)),
  (195, ([.int, .slice, .int, .int, .int, .int, .int, .slice, .int, .slice, .int], 136)),
  (196, ([.int, .slice, .int, .int, .int, .int, .int, .slice, .int, .slice, .int], 136)),
  (197, ([.fn], 8)),
  (198, ([.fn], 8)),
  (199, ([.fn], 8)),
  (200, ([.int, .slice, .slice], 56)),
  (201, ([.fn], 8)),
  (202, ([.ptr], 8)),
  (203, ([.ptr, .int, .int, .slice], 48)),
  (204, ([.ptr, .int, .int, .slice], 48)),
  (205, ([.fn], 8)),
  (206, ([.fn], 8)),
  (207, ([.fn], 8)),
  (208, ([.fn], 8)),
  (209, ([.fn], 8)),
  (210, ([.fn], 8)),
  (211, ([.ptr], 8)),
  (212, ([.fn], 8)),
  (213, ([.fn], 8)),
  (214, ([.fn], 8)),
  (215, ([.fn], 8)),
  (216, ([.fn], 8)),
  (217, ([.fn], 8)),
  (218, ([.fn], 8)),
  (219, ([.fn], 8)),
  (220, ([.fn], 8)),
  (221, ([.fn], 8)),
  (222, ([.fn], 8)),
  (223, ([.fn], 8)),
  (224, ([.fn], 8)),
  (225, ([.u64], 8)),
  (226, ([.slice, .int, .u64], 40)),
  (227, ([.slice, .int, .u64], 40)),
  (228, ([.fn], 8)),
  (229, ([.fn], 8)),
  (230, ([.fn], 8)),
  (231, ([.fn], 8)),
  (232, ([.fn], 8)),
  (233, ([.fn], 8)),
  (234, ([.fn], 8)),
  (235, ([.fn], 8)),
  (236, ([.fn], 8)),
  (237, ([.fn], 8)),
  (238, ([.fn], 8)),
  (239, ([.fn], 8)),
  (240, ([.fn], 8)),
  (241, ([.fn], 8)),
  (242, ([.fn], 8)),
  (243, ([.fn], 8)),
  (244, ([.fn], 8)),
  (245, ([.fn], 8)),
  (246, ([.str, .bool, .bool, .bool], 24)),
  (247, ([.str, .bool, .bool, .bool], 24)),
  (249, ([.fn], 8)),
  (250, ([.fn], 8)),
  (251, ([.fn], 8)),
  (252, ([.fn], 8)),
  (253, ([.fn], 8)),
  (254, ([.fn], 8)),
  (255, ([.u64], 8)),
  (256, ([.fn], 8)),
  (257, ([.fn], 8)),
  (258, ([.fn], 8)),
  (259, ([.fn], 8)),
  (260, ([.fn], 8)),
  (261, ([.fn], 8)),
  (262, ([.fn], 8)),
  (263, ([.fn], 8)),
  (264, ([.fn], 8)),
  (265, ([.fn], 8)),
  (266, ([.slice], 24)),
  (267, ([.fn], 8)),
  (268, ([.fn], 8)),
  (269, ([.fn], 8)),
  (270, ([.int], 8)),
  (272, ([.fn], 8)),
  (273, ([.fn], 8)),
  (274, ([.fn], 8)),
  (276, ([.fn], 8)),
  (277, ([.fn], 8)),
  (279, ([.fn], 8)),
  (280, ([.u64], 8)),
  (281, ([.fn], 8)),
  (282, ([.fn], 8)),
  (283, ([.fn], 8)),
  (284, ([.ptr], 8)),
  (285, ([.fn], 8)),
  (286, ([.ptr], 8)),
  (288, ([.fn], 8)),
  (289, ([.fn], 8)),
  (290, ([.ptr, .ptr, .ptr, .str], 40)),
  (291, ([.ptr, .ptr, .ptr, .str], 40)),
  (292, ([], 0)),
  (293, ([], 0)),
  (294, ([], 0)),
  (295, ([.fn], 8)),
  (296, ([.byte], 1)),
  (297, ([.byte], 1)),
  (298, ([.fn], 8)),
  (299, ([.ptr], 8))]
def zt : Nat → Option (List ZK × Nat) := lkZ ztl
theorem ztOk : ZtOk Try.prog zt := ztOk_of_list ztl (by kernel_rfl)
theorem mix : Try.prog.follows .mixedOrders = true := by kernel_rfl
end Go.Proofs.Ytahjliejgjjfeaa

/-
  The source of choices: what it draws, within bounds. No condition.
-/
namespace Go.Proofs.Ytahjliejgjjfeaa
open Go.AI
set_option maxRecDepth 8000
set_option maxHeartbeats 1600000

def encY (c : UInt8) : List A := [.u8 c]
/-- The source's memory. -/
abbrev srcB (s : Nat) (code : List UInt8) (at_ : Nat) (sd : Int) : Blk := ⟨some s, 227, 3, [.sl (code.map encY), .int (at_ : Int), .raw (.int .u64 sd)]⟩
/-- What a draw hands back, and leaves. -/
def DrawR (s : Nat) (code : List UInt8) (lim : Nat) (p : Int → Prop) : A → Heap → Prop := fun v h' => ∃ r at2 sd, v = .int r ∧ p r ∧ at2 ≤ lim ∧ h' = [srcB s code at2 sd]
theorem o_next (s : Nat) (code : List UInt8) (at_ : Nat) (sd : Int) (ha : at_ ≤ 1000000000) : Does Try.prog 180 [.op (some s) 0] [srcB s code at_ sd] (DrawR s code (at_ + 1) (fun r => 0 ≤ r ∧ r ≤ 255)) := by
  refine fn_of_runD tyOk ztOk mix Try.func180 rfl (by decide) Try.ntmps180 (fun w0 F => ?_)
  change Run _ _ _ _ _ (_ :: F)
  repeat' (first
      | (refine j_go ?_; first
        | refine j_op0 rfl rfl rfl rfl ?_ | (refine j_kIdx rfl ?_; first | refine j_idx rfl rfl rfl rfl rfl (by omega) rfl rfl rfl ?_) | (refine j_kBin rfl ?_; first | refine j_in rfl rfl ⟨by omega, by omega⟩ rfl rfl ?_) | (refine j_kLen rfl ?_; first | refine j_len rfl rfl rfl rfl rfl rfl ?_) | (refine j_kLoad rfl ?_; first | refine j_mload 0 rfl rfl rfl rfl rfl rfl rfl ?_) | (refine j_kStore rfl ?_; first | refine j_store 0 rfl rfl rfl rfl rfl rfl rfl rfl rfl rfl rfl ?_))
      | refine j_nil ?_
      | (refine r_go ?_; first | refine run_seq ?_ | refine run_region ?_ | (refine (run_if rfl (fun hb => ?_) (fun hb => ?_)) <;> first | (exfalso; omega) | skip) | refine run_skip ?_ | refine run_regionD (by kernel_rfl) ?_)
      | refine seqQ_normal ?_)
  · have ha2 : at_ < code.length := by omega
    have hc := UInt8.toNat_lt code[at_]
    skip
    refine j_u64mul rfl rfl rfl rfl rfl rfl ?_
    repeat' (first
      | (refine j_go ?_; first
        | refine j_op0 rfl rfl rfl rfl ?_ | refine j_conv rfl rfl rfl rfl rfl (wrap_u64 (by omega) (by omega)) rfl rfl ?_))
    refine j_u64add rfl rfl rfl rfl rfl rfl ?_
    skip
    refine j_u64add rfl rfl rfl rfl rfl rfl ?_
    repeat' (first
      | (refine j_go ?_; first
        | refine j_op0 rfl rfl rfl rfl ?_ | (refine j_kLen rfl ?_; first | refine j_len rfl rfl rfl rfl rfl rfl ?_) | (refine j_kLoad rfl ?_; first | refine j_mload 0 rfl rfl rfl rfl rfl rfl rfl ?_) | (refine j_kStore rfl ?_; first | refine j_store 0 rfl rfl rfl rfl rfl rfl rfl rfl rfl rfl rfl ?_))
      | refine j_nil ?_
      | (refine r_go ?_; first | refine run_seq ?_ | refine run_region ?_ | (refine (run_if rfl (fun hb => ?_) (fun hb => ?_)) <;> first | (exfalso; omega) | skip) | refine run_ret ?_ | refine run_regionD (by kernel_rfl) ?_)
      | refine seqQ_normal ?_ | refine seqQ_ret ?_)
    exact endD_ret (h1 := [_]) rfl (.cons (.tmp rfl) .nil) (Le.refl _) ⟨_, at_ + 1, _, rfl, ⟨by omega, by omega⟩, Nat.le_refl _, rfl⟩ (.inl rfl)
  · skip
    refine j_u64mul rfl rfl rfl rfl rfl rfl ?_
    repeat' (first
      | (refine j_go ?_; first
        | refine j_op0 rfl rfl rfl rfl ?_ | refine j_conv rfl rfl rfl rfl rfl (wrap_u64 (by omega) (by omega)) rfl rfl ?_))
    refine j_u64add rfl rfl rfl rfl rfl rfl ?_
    skip
    refine j_u64add rfl rfl rfl rfl rfl rfl ?_
    repeat' (first
      | (refine j_go ?_; first
        | refine j_op0 rfl rfl rfl rfl ?_ | (refine j_kLen rfl ?_; first | refine j_len rfl rfl rfl rfl rfl rfl ?_) | (refine j_kLoad rfl ?_; first | refine j_mload 0 rfl rfl rfl rfl rfl rfl rfl ?_) | (refine j_kStore rfl ?_; first | refine j_store 0 rfl rfl rfl rfl rfl rfl rfl rfl rfl rfl rfl ?_))
      | refine j_nil ?_
      | (refine r_go ?_; first | refine run_seq ?_ | refine run_region ?_ | (refine (run_if rfl (fun hb => ?_) (fun hb => ?_)) <;> first | (exfalso; omega) | skip) | refine run_skip ?_ | refine run_regionD (by kernel_rfl) ?_)
      | refine seqQ_normal ?_)
    refine j_u64shr (k := 40) (kk := .u64) rfl rfl rfl (by first | exact .inr rfl | exact .inl rfl) (by omega) rfl rfl ?_
    skip
    refine j_u64and rfl rfl rfl rfl rfl rfl (fun c hc => ?_)
    skip
    refine j_u2i rfl rfl rfl rfl rfl hc rfl rfl ?_
    repeat' (first
      | (refine j_go ?_; first
        | refine j_op0 rfl rfl rfl rfl ?_)
      | refine j_nil ?_
      | (refine r_go ?_; first | refine run_ret ?_)
      | refine seqQ_normal ?_)
    exact endD_ret (h1 := [_]) rfl (.cons (.tmp rfl) .nil) (Le.refl _) ⟨c, at_ + 1, _, rfl, hc, Nat.le_refl _, rfl⟩ (.inl rfl)
theorem DrawR.lim {s : Nat} {code : List UInt8} {l l' : Nat} {p q : Int → Prop} (hl : l ≤ l') (hp : ∀ r, p r → q r) : ∀ v h', DrawR s code l p v h' → DrawR s code l' q v h' := fun _ _ ⟨r, a, sd, h1, h2, h3, h4⟩ => ⟨r, a, sd, h1, hp r h2, Nat.le_trans h3 hl, h4⟩
theorem o_pick (s : Nat) (code : List UInt8) (at_ : Nat) (sd m : Int) (ha : at_ ≤ 1000000) (hm : m ≤ 100000) : Does Try.prog 114 [.op (some s) 0, .int m] [srcB s code at_ sd] (DrawR s code (at_ + 2) (fun r => 0 ≤ r ∧ (r < m ∨ r = 0 ∧ m ≤ 1))) := by
  refine fn_of_runD tyOk ztOk mix Try.func114 rfl (by decide) Try.ntmps114 (fun w0 F => ?_)
  change Run _ _ _ _ _ (_ :: F)
  repeat' (first
      | (refine j_go ?_; first
        | refine j_op0 rfl rfl rfl rfl ?_)
      | refine j_nil ?_
      | (refine r_go ?_; first | refine run_seq ?_ | refine run_region ?_ | (refine (run_if rfl (fun hb => ?_) (fun hb => ?_)) <;> first | (exfalso; omega) | skip) | refine run_ret ?_ | refine run_skip ?_)
      | refine seqQ_normal ?_ | refine seqQ_ret ?_)
  · exact endD_ret (h1 := [_]) rfl (.cons (.tmp rfl) .nil) (Le.refl _) ⟨0, at_, sd, rfl, ⟨by omega, by omega⟩, by omega, rfl⟩ (.inl rfl)
  refine j_kCall rfl rfl rfl rfl ?_
  refine jcp F (o_next s code at_ sd (by omega)) (List.Perm.refl _) (LeL.refl _) rfl rfl (fun v h1 hR => ?_)
  obtain ⟨r, a1, sd1, rfl, hr, ha1, rfl⟩ := hR
  repeat' (first
      | (refine j_go ?_; first
        | refine j_op0 rfl rfl rfl rfl ?_ | (refine j_kBin rfl ?_; first | refine j_in rfl rfl ⟨by omega, by omega⟩ rfl rfl ?_ | refine j_rem rfl rfl rfl rfl (by omega) rfl rfl ?_))
      | refine j_nil ?_
      | (refine r_go ?_; first | refine run_seq ?_ | refine run_region ?_ | (refine (run_if rfl (fun hb => ?_) (fun hb => ?_)) <;> first | (exfalso; omega) | skip) | refine run_ret ?_ | refine run_skip ?_)
      | refine seqQ_normal ?_)
  · refine j_kCall rfl rfl rfl rfl ?_
    refine jcp F (o_next s code a1 sd1 (by omega)) (List.Perm.refl _) (LeL.refl _) rfl rfl (fun v h1 hR => ?_)
    obtain ⟨r2, a2, sd2, rfl, hr2, ha2, rfl⟩ := hR
    repeat' (first
      | (refine j_go ?_; first
        | refine j_op0 rfl rfl rfl rfl ?_ | (refine j_kBin rfl ?_; first | refine j_in rfl rfl ⟨by omega, by omega⟩ rfl rfl ?_ | refine j_rem rfl rfl rfl rfl (by omega) rfl rfl ?_))
      | refine j_nil ?_
      | (refine r_go ?_; first | refine run_seq ?_ | refine run_region ?_ | refine run_ret ?_)
      | refine seqQ_normal ?_)
    have q1 := Int.emod_nonneg (r * 256 + r2) (b := m) (by omega)
    have q2 := Int.emod_lt_of_pos (r * 256 + r2) (b := m) (by omega)
    exact endD_ret (h1 := [_]) rfl (.cons (.tmp rfl) .nil) (Le.refl _) ⟨_, a2, sd2, rfl, ⟨q1, .inl q2⟩, by omega, rfl⟩ (.inl rfl)
  · have q1 := Int.emod_nonneg r (b := m) (by omega)
    have q2 := Int.emod_lt_of_pos r (b := m) (by omega)
    exact endD_ret (h1 := [_]) rfl (.cons (.tmp rfl) .nil) (Le.refl _) ⟨_, a1, sd1, rfl, ⟨q1, .inl q2⟩, by omega, rfl⟩ (.inl rfl)
theorem o_one (s : Nat) (code : List UInt8) (at_ : Nat) (sd m : Int) (ha : at_ ≤ 1000000) (hm : m ≤ 100000) : Does Try.prog 116 [.op (some s) 0, .int m] [srcB s code at_ sd] (fun v h' => ∃ b at2 sd2, v = .raw (.bool b) ∧ at2 ≤ at_ + 2 ∧ h' = [srcB s code at2 sd2]) := by
  refine fn_of_runD tyOk ztOk mix Try.func116 rfl (by decide) Try.ntmps116 (fun w0 F => ?_)
  change Run _ _ _ _ _ (_ :: F)
  repeat' (first
      | (refine j_go ?_; first
        | refine j_op0 rfl rfl rfl rfl ?_)
      | refine j_nil ?_
      | (refine r_go ?_; first | refine run_seq ?_ | refine run_region ?_)
      | refine seqQ_normal ?_)
  refine j_kCall rfl rfl rfl rfl ?_
  refine jcp F (o_pick s code at_ sd m ha hm) (List.Perm.refl _) (LeL.refl _) rfl rfl (fun v h1 hR => ?_)
  obtain ⟨r, a1, sd1, rfl, hr, ha1, rfl⟩ := hR
  repeat' (first
      | (refine j_go ?_; first
        | refine j_op0 rfl rfl rfl rfl ?_)
      | refine j_nil ?_
      | (refine r_go ?_; first | refine run_ret ?_)
      | refine seqQ_normal ?_)
  exact endD_ret (h1 := [_]) rfl (.cons (.tmp rfl) .nil) (Le.refl _) ⟨_, a1, sd1, rfl, ha1, rfl⟩ (.inl rfl)
theorem o_from (code : List UInt8) : Does Try.prog 111 [.sl (code.map encY)] [] (fun v h' => ∃ s, v = .op (some s) 0 ∧ h' = [srcB s code 0 0]) := by
  refine fn_of_runD tyOk ztOk mix Try.func111 rfl (by decide) Try.ntmps111 (fun w0 F => ?_)
  change Run _ _ _ _ _ F
  repeat' (first
      | (refine j_go ?_; first
        | refine j_op0 rfl rfl rfl rfl ?_ | refine j_build rfl rfl rfl rfl rfl rfl rfl ?_)
      | refine j_nil ?_
      | (refine r_go ?_; first | refine run_seq ?_ | refine run_region ?_)
      | refine seqQ_normal ?_)
  refine j_boxM rfl rfl rfl rfl rfl rfl (fun b1 => ?_)
  repeat' (first
      | (refine j_go ?_; first
        | refine j_op0 rfl rfl rfl rfl ?_)
      | refine j_nil ?_
      | (refine r_go ?_; first | refine run_ret ?_)
      | refine seqQ_normal ?_)
  exact endD_ret (h1 := [_]) rfl (.cons (.tmp rfl) .nil) (Le.refl _) ⟨b1, rfl, rfl⟩ (.inl rfl)
/-- A bag that is drawn, in memory of its own, and the source behind it. -/
def ObjR (s : Nat) (code : List UInt8) (lim : Nat) (kinds most : Int) : A → Heap → Prop := fun v h' => ∃ (l : List Int) (b : Option Nat) (cap at2 : Nat) (sd : Int), v = .os b l.length cap ∧ (l.length : Int) = kinds ∧ (∀ x ∈ l, 0 ≤ x ∧ x ≤ most) ∧ at2 ≤ lim ∧ h' = [⟨b, 2, cap * 1, (l.map Go.AI.encI).flatten⟩, srcB s code at2 sd]
theorem o_l06Objects (s : Nat) (code : List UInt8) (at_ : Nat) (sd kinds most : Int) (ha : at_ ≤ 100000) (hk : 1 ≤ kinds ∧ kinds ≤ 8) (hm : 0 ≤ most ∧ most ≤ 4) : Does Try.prog 113 [.op (some s) 0, .int kinds, .int most] [srcB s code at_ sd] (ObjR s code (at_ + 10) kinds most) := by
  refine fn_of_runD tyOk ztOk mix Try.func113 rfl (by decide) Try.ntmps113 (fun w0 F => ?_)
  change Run _ _ _ _ _ (_ :: F)
  obtain ⟨K, rfl⟩ : ∃ K : Nat, kinds = (K : Int) := ⟨kinds.toNat, by omega⟩
  repeat' (first
      | (refine j_go ?_; first
        | refine j_op0 rfl rfl rfl rfl ?_)
      | refine j_nil ?_
      | (refine r_go ?_; first | refine run_seq ?_ | refine run_region ?_)
      | refine seqQ_normal ?_)
  refine j_makeI (g := Go.AI.encI) (m := K) 0 rfl rfl rfl rfl rfl rfl rfl rfl rfl (by omega) rfl rfl (fun bz => ?_)
  repeat' (first
      | (refine j_go ?_; first
        | refine j_op0 rfl rfl rfl rfl ?_ | (refine j_kBin rfl ?_; first | refine j_in rfl rfl ⟨by omega, by omega⟩ rfl rfl ?_))
      | refine j_nil ?_
      | (refine r_go ?_; first | refine run_seq ?_ | refine run_region ?_)
      | refine seqQ_normal ?_)
  refine j_kCall rfl rfl rfl rfl ?_
  refine jcp (_ :: F) (o_pick s code at_ sd (most + 1) (by omega) (by omega)) (List.Perm.swap _ _ _) (LeL.refl _) rfl rfl (fun v h1 hR => ?_)
  obtain ⟨r, a1, sd1, rfl, hr, ha1, rfl⟩ := hR
  repeat' (first
      | (refine j_go ?_; first
        | refine j_op0 rfl rfl rfl rfl ?_)
      | refine j_nil ?_
      | (refine r_go ?_; first | refine run_block ?_)
      | refine seqQ_normal ?_)
  refine run_loop (fun x : Int × List Int × Nat × Int => [(0, .op (some s) 0), (1, .int (K : Int)), (7, .os (some bz) K K), (8, .int x.1)]) (fun x => srcB s code x.2.2.1 x.2.2.2 :: ⟨some bz, 2, K * 1, (x.2.1.map Go.AI.encI).flatten⟩ :: F)
    (fun x => (0 ≤ x.1 ∧ x.1 ≤ most) ∧ x.2.1.length = K ∧ (∀ y ∈ x.2.1, 0 ≤ y ∧ y ≤ most - x.1) ∧ (x.2.2.1 : Int) ≤ at_ + 2 + 2 * (most - x.1)) (fun x => x.1.toNat) (r, List.replicate K 0, a1, sd1) ⟨rfl, rfl, rfl, rfl, trivial⟩ rfl ⟨by omega, List.length_replicate, fun y hy => by rw [List.eq_of_mem_replicate hy]; omega, by dsimp only; omega⟩ (fun ⟨i, l, a, sd⟩ ⟨hi, hl, hy, hA⟩ => ?_)
  dsimp only at hi hl hy hA ⊢
  by_cases h0 : 0 < i
  case pos =>
    repeat' (first
      | (refine j_go ?_; first
        | refine j_op0 rfl rfl rfl rfl ?_)
      | refine j_nil ?_
      | (refine r_go ?_; first | refine run_seq ?_ | refine run_region ?_ | (refine (run_if rfl (fun hb => ?_) (fun hb => ?_)) <;> first | (exfalso; omega) | skip) | refine run_block ?_ | refine run_skip ?_)
      | refine seqQ_normal ?_)
    refine j_kCall rfl rfl rfl rfl ?_
    refine jcp (_ :: F) (o_pick s code a sd K (by omega) (by omega)) (List.Perm.refl _) (LeL.refl _) rfl rfl (fun v h1 hR => ?_)
    obtain ⟨r2, a2, sd2, rfl, hr2, ha2, rfl⟩ := hR
    repeat' (first
      | (refine j_go ?_; first
        | (refine j_kIdx rfl ?_; first | refine j_midxz rfl rfl rfl rfl rfl (by first | omega | (simp only [List.length_append, List.length_cons, List.length_nil]; omega)) rfl rfl ?_)))
    have hr3 : r2.toNat < l.length := by omega
    have hg := hy _ (List.getElem_mem hr3)
    refine j_mloadE 1 r2.toNat (g := Go.AI.encI) (L := l) (z := 1) rfl rfl rfl rfl (fun _ => rfl) (by omega) (by omega) (fun _ => rfl) rfl rfl ?_
    repeat' (first
      | (refine j_go ?_; first
        | (refine j_kIdx rfl ?_; first | refine j_midxz rfl rfl rfl rfl rfl (by first | omega | (simp only [List.length_append, List.length_cons, List.length_nil]; omega)) rfl rfl ?_) | (refine j_kBin rfl ?_; first | refine j_in rfl rfl ⟨by omega, by omega⟩ rfl rfl ?_)))
    refine j_storeE 1 r2.toNat (g := Go.AI.encI) (l[r2.toNat] + 1) rfl rfl rfl rfl rfl rfl rfl rfl rfl (fun _ => rfl) (by omega) (by omega) ?_
    repeat' (first
      | (refine j_go ?_; first
        | refine j_op0 rfl rfl rfl rfl ?_ | (refine j_kBin rfl ?_; first | refine j_in rfl rfl ⟨by omega, by omega⟩ rfl rfl ?_))
      | refine j_nil ?_
      | (refine r_go ?_; first | refine run_region ?_)
      | refine seqQ_normal ?_ | refine blockQ_normal ?_)
    exact loopQ_next (i - 1, l.set r2.toNat (l[r2.toNat] + 1), a2, sd2) ⟨by dsimp only; omega, by dsimp only; rw [List.length_set]; exact hl, fun y h => by
      dsimp only at h ⊢
      rcases List.mem_or_eq_of_mem_set h with q | q
      · have := hy y q; omega
      · subst q; omega, by dsimp only; omega⟩ (by dsimp only; omega) rfl ⟨rfl, rfl, rfl, rfl, trivial⟩
  obtain rfl : i = 0 := by omega
  repeat' (first
      | (refine j_go ?_; first
        | refine j_op0 rfl rfl rfl rfl ?_)
      | refine j_nil ?_
      | (refine r_go ?_; first | refine run_seq ?_ | refine run_region ?_ | (refine (run_if rfl (fun hb => ?_) (fun hb => ?_)) <;> first | (exfalso; omega) | skip) | refine run_ret ?_ | refine run_exit ?_)
      | refine seqQ_normal ?_ | refine seqQ_exit ?_ | refine blockQ_eq ?_ | refine loopQ_exit ?_)
  refine endD_view (view_perm (List.Perm.swap _ _ _)) ?_
  exact endD_ret (h1 := [_, _]) rfl (.cons (.tmp rfl) .nil) (Le.refl _) ⟨l, some bz, K, a, sd, by rw [hl]; rfl, by omega, fun y h => by have := hy y h; omega, by omega, rfl⟩ (.inl rfl)
end Go.Proofs.Ytahjliejgjjfeaa

/-
  The helpers of the laws over numbers, lists of numbers and lists of lists: sizes, copies, comparisons. No condition but that the sizes are at most 1048576.
-/
namespace Go.Proofs.Ytahjliejgjjfeaa
open Go.AI
set_option maxRecDepth 8000
end Go.Proofs.Ytahjliejgjjfeaa

/-
  Small functions of the reference and the program over numbers and lists of numbers: bounds, rising, membership, equality. No condition.
-/
namespace Go.Proofs.Ytahjliejgjjfeaa
open Go.AI
set_option maxRecDepth 8000
set_option maxHeartbeats 1600000

theorem c_l00In (n low high : Int) : Gives Try.prog 99 [.int n, .int low, .int high] (.raw (.bool (dec (low ≤ n ∧ n ≤ high)))) := by
  refine fn_of_run tyOk ztOk mix Try.func99 rfl (by decide) Try.ntmps99 (fun w0 h => ?_)
  repeat' (first
      | (refine j_go ?_; first
        | refine j_op0 rfl rfl rfl rfl ?_ | refine j_off rfl rfl rfl ?_ | (refine j_kGuard rfl ?_; first | (refine (j_if rfl rfl rfl (fun hb => ?_) (fun hb => ?_)) <;> first | (exfalso; omega) | skip)))
      | refine j_nil ?_
      | (refine r_go ?_; first | refine run_seq ?_ | refine run_region ?_ | refine run_ret ?_)
      | refine seqQ_normal ?_)
  all_goals first | exact end1 rfl (by first | exact List.Sublist.refl _ | exact sub1 | exact sub2 | exact sub3) (rbT (by omega)) (.inl rfl) | exact end1 rfl (by first | exact List.Sublist.refl _ | exact sub1 | exact sub2 | exact sub3) (rbF (by omega)) (.inl rfl) | exact end1 rfl (List.Sublist.refl _) (rb (by simp [dec_eq]; omega)) (.inl rfl)

theorem c_inRange (n low high : Int) : Gives Try.prog 106 [.int n, .int low, .int high] (.raw (.bool (dec (low ≤ n ∧ n ≤ high)))) := by
  refine fn_of_run tyOk ztOk mix Try.func106 rfl (by decide) Try.ntmps106 (fun w0 h => ?_)
  repeat' (first
      | (refine j_go ?_; first
        | refine j_op0 rfl rfl rfl rfl ?_ | refine j_off rfl rfl rfl ?_ | (refine j_kGuard rfl ?_; first | (refine (j_if rfl rfl rfl (fun hb => ?_) (fun hb => ?_)) <;> first | (exfalso; omega) | skip)))
      | refine j_nil ?_
      | (refine r_go ?_; first | refine run_seq ?_ | refine run_region ?_ | refine run_ret ?_)
      | refine seqQ_normal ?_)
  all_goals first | exact end1 rfl (by first | exact List.Sublist.refl _ | exact sub1 | exact sub2 | exact sub3) (rbT (by omega)) (.inl rfl) | exact end1 rfl (by first | exact List.Sublist.refl _ | exact sub1 | exact sub2 | exact sub3) (rbF (by omega)) (.inl rfl) | exact end1 rfl (List.Sublist.refl _) (rb (by simp [dec_eq]; omega)) (.inl rfl)

theorem c_l00Same (a b : List Int) : Gives Try.prog 145 [.sl (a.map Go.AI.encI), .sl (b.map Go.AI.encI)] (.raw (.bool (dec (a = b)))) := by
  refine fn_of_run tyOk ztOk mix Try.func145 rfl (by decide) Try.ntmps145 (fun w0 h => ?_)
  refine run_len (t := 0) rfl (fun hl => ?_)
  refine run_len (t := 1) rfl (fun hl2 => ?_)
  rw [List.length_map] at hl hl2
  repeat' (first
      | (refine j_go ?_; first
        | refine j_op0 rfl rfl rfl rfl ?_ | (refine j_kLen rfl ?_; first | refine j_len rfl rfl rfl rfl rfl rfl ?_))
      | refine j_nil ?_
      | (refine r_go ?_; first | refine run_seq ?_ | refine run_region ?_ | (refine (run_ifn rfl (fun hb => ?_) (fun hb => ?_)) <;> first | (exfalso; omega) | skip) | refine run_block ?_ | refine run_ret ?_ | refine run_skip ?_)
      | refine seqQ_normal ?_ | refine seqQ_ret ?_)
  · exact end1 rfl (by first | exact List.Sublist.refl _ | exact sub1 | exact sub2 | exact sub3) (rbF (fun q => by rw [q] at hb; omega)) (.inl rfl)
  refine run_loop (fun k : Nat => [(0, .sl (a.map Go.AI.encI)), (1, .sl (b.map Go.AI.encI)), (5, .int (k : Int))]) (fun _ => _) (fun k => k ≤ a.length ∧ (∀ i (h : i < a.length), i < k → some a[i] = b[i]?)) (fun k => a.length - k) 0 ⟨rfl, rfl, rfl, trivial⟩ rfl ⟨Nat.zero_le _, by first | (intros; omega) | (simp; done) | rfl | trivial | exact ⟨by simp [sumF], by intros; omega⟩ | exact ⟨by omega, by simp⟩⟩ (fun k ⟨kl, kp⟩ => ?_)
  repeat' (first
      | (refine j_go ?_; first
        | refine j_op0 rfl rfl rfl rfl ?_ | (refine j_kIdx rfl ?_; first | refine j_idx rfl rfl rfl rfl rfl (by omega) rfl rfl rfl ?_) | (refine j_kBin rfl ?_; first | refine j_in rfl rfl ⟨by omega, by omega⟩ rfl rfl ?_) | (refine j_kLen rfl ?_; first | refine j_len rfl rfl rfl rfl rfl rfl ?_))
      | refine j_nil ?_
      | (refine r_go ?_; first | refine run_seq ?_ | refine run_region ?_ | (refine (run_if rfl (fun hb => ?_) (fun hb => ?_)) <;> first | (exfalso; omega) | skip) | (refine (run_ifn rfl (fun hb => ?_) (fun hb => ?_)) <;> first | (exfalso; omega) | skip) | refine run_block ?_ | refine run_ret ?_ | refine run_exit ?_ | refine run_skip ?_ | refine run_regionD (by kernel_rfl) ?_)
      | refine seqQ_normal ?_ | refine seqQ_ret ?_ | refine seqQ_exit ?_ | refine blockQ_normal ?_ | refine blockQ_ret ?_ | refine blockQ_eq ?_ | refine loopQ_ret ?_ | refine loopQ_exit ?_)
  · exact end1 rfl (by first | exact List.Sublist.refl _ | exact sub1 | exact sub2 | exact sub3) (rbF (fun q => by subst q; exact hb rfl)) (.inl rfl)
  · exact loopQ_nextD (k + 1) ⟨by omega, all_step kp (fun _ => by rw [hb]; simp)⟩ (by omega) (by first | exact List.Sublist.refl _ | exact sub1 | exact sub2 | exact sub3) ⟨rfl, rfl, nx _, trivial⟩
  · exact end1 rfl (by first | exact List.Sublist.refl _ | exact sub1 | exact sub2 | exact sub3) (rbT (List.ext_getElem (by omega) (fun i h1 h2 => by have := kp i h1 (by omega); rw [List.getElem?_eq_getElem h2] at this; exact Option.some.inj this))) (.inl rfl)

end Go.Proofs.Ytahjliejgjjfeaa

/-
  Library functions over lists of numbers and lists of lists: the first element of a kind. No condition.
-/
namespace Go.Proofs.Ytahjliejgjjfeaa
open Go.AI
set_option maxRecDepth 8000
set_option maxHeartbeats 1600000

theorem c_ixfI (f : FuncId) (caps : List A) (r : Int → Prop) (l : List (Int)) (hf : ∀ x ∈ l, Gives Try.prog f (.int x :: caps) (.raw (.bool (dec (r x))))) : Gives Try.prog 171 [.sl (l.map Go.AI.encI), .fn f caps] (.int (fIdx r l)) := by
  refine fn_of_run tyOk ztOk mix Try.func171 rfl (by decide) Try.ntmps171 (fun w0 h => ?_)
  refine run_len (t := 0) rfl (fun hl => ?_)
  rw [List.length_map] at hl
  repeat' (first
      | (refine j_go ?_; first
        | refine j_op0 rfl rfl rfl rfl ?_ | (refine j_kLen rfl ?_; first | refine j_len rfl rfl rfl rfl rfl rfl ?_))
      | refine j_nil ?_
      | (refine r_go ?_; first | refine run_seq ?_ | refine run_region ?_ | refine run_block ?_)
      | refine seqQ_normal ?_)
  refine run_loop (fun k : Nat => [(0, .sl (l.map Go.AI.encI)), (1, .fn f caps), (7, .int l.length), (8, .int (k : Int))]) (fun _ => _) (fun k => k ≤ l.length ∧ (∀ i (h : i < l.length), i < k → ¬ r l[i])) (fun k => l.length - k) 0 ⟨rfl, rfl, rfl, rfl, trivial⟩ rfl ⟨Nat.zero_le _, by first | (intros; omega) | (simp; done) | rfl | trivial | exact ⟨by simp [sumF], by intros; omega⟩ | exact ⟨by omega, by simp⟩⟩ (fun k ⟨kl, kp⟩ => ?_)
  repeat' (first
      | (refine j_go ?_; first
        | refine j_op0 rfl rfl rfl rfl ?_ | (refine j_kIdx rfl ?_; first | refine j_idx rfl rfl rfl rfl rfl (by omega) rfl rfl rfl ?_) | (refine j_kBin rfl ?_; first | refine j_in rfl rfl ⟨by omega, by omega⟩ rfl rfl ?_) | (refine j_kCall rfl rfl rfl rfl ?_; first | refine jc (hf _ (List.getElem_mem _)) (LeL.refl _) rfl rfl ?_))
      | refine j_nil ?_
      | (refine r_go ?_; first | refine run_seq ?_ | refine run_region ?_ | (refine (run_if rfl (fun hb => ?_) (fun hb => ?_)) <;> first | (exfalso; omega) | skip) | refine run_block ?_ | refine run_ret ?_ | refine run_exit ?_ | refine run_skip ?_)
      | refine seqQ_normal ?_ | refine seqQ_ret ?_ | refine seqQ_exit ?_ | refine blockQ_normal ?_ | refine blockQ_ret ?_ | refine blockQ_eq ?_ | refine loopQ_ret ?_ | refine loopQ_exit ?_)
  · exact end1 rfl (List.Sublist.refl _) (ai (fIdx_at (by omega) hb kp).symm) (.inl rfl)
  · exact loopQ_nextD (k + 1) ⟨by omega, all_step kp (fun _ => hb)⟩ (by omega) (by first | exact List.Sublist.refl _ | exact sub1 | exact sub2 | exact sub3) ⟨rfl, rfl, rfl, nx _, trivial⟩
  · exact end1 rfl (List.Sublist.refl _) (ai (fIdx_none (fun i h => kp i h (by omega))).symm) (.inl rfl)

theorem c_cfI (f : FuncId) (caps : List A) (r : Int → Prop) (l : List (Int)) (hf : ∀ x ∈ l, Gives Try.prog f (.int x :: caps) (.raw (.bool (dec (r x))))) : Gives Try.prog 92 [.sl (l.map Go.AI.encI), .fn f caps] (.raw (.bool (dec (∃ x ∈ l, r x)))) := by
  refine fn_of_run tyOk ztOk mix Try.func92 rfl (by decide) Try.ntmps92 (fun w0 h => ?_)
  repeat' (first
      | (refine j_go ?_; first
        | refine j_op0 rfl rfl rfl rfl ?_ | (refine j_kCall rfl rfl rfl rfl ?_; first | refine jc (c_ixfI _ _ r _ hf) (LeL.refl _) rfl rfl ?_))
      | refine j_nil ?_
      | (refine r_go ?_; first | refine run_seq ?_ | refine run_region ?_ | refine run_ret ?_)
      | refine seqQ_normal ?_)
  exact end1 rfl (List.Sublist.refl _) (rbD (fIdx_ex r l)) (.inl rfl)
theorem c_ixfS (f : FuncId) (caps : List A) (r : List Int → Prop) (l : List (List Int)) (hf : ∀ x ∈ l, Gives Try.prog f (.sl (x.map Go.AI.encI) :: caps) (.raw (.bool (dec (r x))))) : Gives Try.prog 199 [.sl (l.map (encS Go.AI.encI)), .fn f caps] (.int (fIdx r l)) := by
  refine fn_of_run tyOk ztOk mix Try.func199 rfl (by decide) Try.ntmps199 (fun w0 h => ?_)
  refine run_len (t := 0) rfl (fun hl => ?_)
  rw [List.length_map] at hl
  repeat' (first
      | (refine j_go ?_; first
        | refine j_op0 rfl rfl rfl rfl ?_ | (refine j_kLen rfl ?_; first | refine j_len rfl rfl rfl rfl rfl rfl ?_))
      | refine j_nil ?_
      | (refine r_go ?_; first | refine run_seq ?_ | refine run_region ?_ | refine run_block ?_)
      | refine seqQ_normal ?_)
  refine run_loop (fun k : Nat => [(0, .sl (l.map (encS Go.AI.encI))), (1, .fn f caps), (7, .int l.length), (8, .int (k : Int))]) (fun _ => _) (fun k => k ≤ l.length ∧ (∀ i (h : i < l.length), i < k → ¬ r l[i])) (fun k => l.length - k) 0 ⟨rfl, rfl, rfl, rfl, trivial⟩ rfl ⟨Nat.zero_le _, by first | (intros; omega) | (simp; done) | rfl | trivial | exact ⟨by simp [sumF], by intros; omega⟩ | exact ⟨by omega, by simp⟩⟩ (fun k ⟨kl, kp⟩ => ?_)
  repeat' (first
      | (refine j_go ?_; first
        | refine j_op0 rfl rfl rfl rfl ?_ | (refine j_kIdx rfl ?_; first | refine j_idx rfl rfl rfl rfl rfl (by omega) rfl rfl rfl ?_) | (refine j_kBin rfl ?_; first | refine j_in rfl rfl ⟨by omega, by omega⟩ rfl rfl ?_) | (refine j_kCall rfl rfl rfl rfl ?_; first | refine jc (hf _ (List.getElem_mem _)) (LeL.refl _) rfl rfl ?_))
      | refine j_nil ?_
      | (refine r_go ?_; first | refine run_seq ?_ | refine run_region ?_ | (refine (run_if rfl (fun hb => ?_) (fun hb => ?_)) <;> first | (exfalso; omega) | skip) | refine run_block ?_ | refine run_ret ?_ | refine run_exit ?_ | refine run_skip ?_)
      | refine seqQ_normal ?_ | refine seqQ_ret ?_ | refine seqQ_exit ?_ | refine blockQ_normal ?_ | refine blockQ_ret ?_ | refine blockQ_eq ?_ | refine loopQ_ret ?_ | refine loopQ_exit ?_)
  · exact end1 rfl (List.Sublist.refl _) (ai (fIdx_at (by omega) hb kp).symm) (.inl rfl)
  · exact loopQ_nextD (k + 1) ⟨by omega, all_step kp (fun _ => hb)⟩ (by omega) (by first | exact List.Sublist.refl _ | exact sub1 | exact sub2 | exact sub3) ⟨rfl, rfl, rfl, nx _, trivial⟩
  · exact end1 rfl (List.Sublist.refl _) (ai (fIdx_none (fun i h => kp i h (by omega))).symm) (.inl rfl)

theorem c_cfS (f : FuncId) (caps : List A) (r : List Int → Prop) (l : List (List Int)) (hf : ∀ x ∈ l, Gives Try.prog f (.sl (x.map Go.AI.encI) :: caps) (.raw (.bool (dec (r x))))) : Gives Try.prog 142 [.sl (l.map (encS Go.AI.encI)), .fn f caps] (.raw (.bool (dec (∃ x ∈ l, r x)))) := by
  refine fn_of_run tyOk ztOk mix Try.func142 rfl (by decide) Try.ntmps142 (fun w0 h => ?_)
  repeat' (first
      | (refine j_go ?_; first
        | refine j_op0 rfl rfl rfl rfl ?_ | (refine j_kCall rfl rfl rfl rfl ?_; first | refine jc (c_ixfS _ _ r _ hf) (LeL.refl _) rfl rfl ?_))
      | refine j_nil ?_
      | (refine r_go ?_; first | refine run_seq ?_ | refine run_region ?_ | refine run_ret ?_)
      | refine seqQ_normal ?_)
  exact end1 rfl (List.Sublist.refl _) (rbD (fIdx_ex r l)) (.inl rfl)

end Go.Proofs.Ytahjliejgjjfeaa
