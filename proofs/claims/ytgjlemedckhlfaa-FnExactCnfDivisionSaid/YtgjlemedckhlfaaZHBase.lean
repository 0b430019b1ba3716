/-
  The types of this seat's program, as the walk over plain data wants them. No condition.
-/
import Derived.Test.YtgjlemedckhlfaaZRun
import Derived.Test.YtgjlemedckhlfaaChecked
import Derived.Test.YtgjlemedckhlfaaZEnd
import Derived.Test.YtgjlemedckhlfaaZOwn
namespace Go.Proofs.Ytgjlemedckhlfaa
open Go.AI
def tyl : List (Nat × TI) := [(1, ⟨1, .scalar⟩),
  (2, ⟨1, .ik .i64⟩),
  (3, ⟨1, .ik .i64⟩),
  (4, ⟨1, .bool⟩),
  (5, ⟨1, .ik .u8⟩),
  (6, ⟨1, .ik .u8⟩),
  (7, ⟨4, .struct [(0, 1), (1, 1), (2, 1), (3, 1)]⟩),
  (8, ⟨4, .struct [(0, 1), (1, 1), (2, 1), (3, 1)]⟩),
  (9, ⟨1, .str⟩),
  (10, ⟨1, .str⟩),
  (11, ⟨1, .str⟩),
  (12, ⟨1, .ik .u64⟩),
  (13, ⟨2, .struct [(0, 1), (1, 1)]⟩),
  (14, ⟨2, .struct [(0, 1), (1, 1)]⟩),
  (15, ⟨1, .scalar⟩),
  (16, ⟨1, .scalar⟩),
  (17, ⟨1, .scalar⟩),
  (18, ⟨1, .struct [(0, 1)]⟩),
  (19, ⟨1, .struct [(0, 1)]⟩),
  (21, ⟨1, .ik .i32⟩),
  (22, ⟨1, .slice 2 1⟩),
  (23, ⟨1, .slice 210 9⟩),
  (24, ⟨3, .struct [(0, 1), (1, 1), (2, 1)]⟩),
  (25, ⟨3, .struct [(0, 1), (1, 1), (2, 1)]⟩),
  (26, ⟨1, .slice 4 1⟩),
  (27, ⟨1, .slice 22 1⟩),
  (28, ⟨3, .struct [(0, 1), (1, 1), (2, 1)]⟩),
  (29, ⟨3, .struct [(0, 1), (1, 1), (2, 1)]⟩),
  (30, ⟨1, .scalar⟩),
  (31, ⟨1, .scalar⟩),
  (33, ⟨1, .scalar⟩),
  (34, ⟨1, .slice 128 9⟩),
  (35, ⟨3, .struct [(0, 1), (1, 1), (2, 1)]⟩),
  (36, ⟨3, .struct [(0, 1), (1, 1), (2, 1)]⟩),
  (37, ⟨1, .scalar⟩),
  (38, ⟨3, .struct [(0, 1), (1, 1), (2, 1)]⟩),
  (39, ⟨1, .scalar⟩),
  (40, ⟨1, .scalar⟩),
  (41, ⟨1, .scalar⟩),
  (42, ⟨1, .scalar⟩),
  (43, ⟨1, .scalar⟩),
  (44, ⟨1, .scalar⟩),
  (45, ⟨1, .scalar⟩),
  (46, ⟨1, .scalar⟩),
  (47, ⟨1, .slice 228 3⟩),
  (48, ⟨4, .struct [(0, 1), (1, 1), (2, 1), (3, 1)]⟩),
  (49, ⟨4, .struct [(0, 1), (1, 1), (2, 1), (3, 1)]⟩),
  (50, ⟨2, .struct [(0, 1), (1, 1)]⟩),
  (51, ⟨2, .struct [(0, 1), (1, 1)]⟩),
  (52, ⟨1, .scalar⟩),
  (53, ⟨1, .scalar⟩),
  (54, ⟨2, .struct [(0, 1), (1, 1)]⟩),
  (56, ⟨1, .scalar⟩),
  (57, ⟨1, .slice 234 3⟩),
  (58, ⟨4, .struct [(0, 1), (1, 1), (2, 1), (3, 1)]⟩),
  (59, ⟨4, .struct [(0, 1), (1, 1), (2, 1), (3, 1)]⟩),
  (60, ⟨1, .scalar⟩),
  (61, ⟨1, .scalar⟩),
  (62, ⟨1, .scalar⟩),
  (63, ⟨1, .scalar⟩),
  (64, ⟨1, .scalar⟩),
  (65, ⟨1, .scalar⟩),
  (66, ⟨1, .scalar⟩),
  (67, ⟨1, .scalar⟩),
  (68, ⟨1, .scalar⟩),
  (69, ⟨1, .scalar⟩),
  (70, ⟨1, .slice 244 7⟩),
  (71, ⟨2, .struct [(0, 1), (1, 1)]⟩),
  (72, ⟨2, .struct [(0, 1), (1, 1)]⟩),
  (73, ⟨1, .slice 197 3⟩),
  (74, ⟨2, .struct [(0, 1), (1, 1)]⟩),
  (75, ⟨2, .struct [(0, 1), (1, 1)]⟩),
  (76, ⟨1, .scalar⟩),
  (77, ⟨1, .scalar⟩),
  (79, ⟨1, .scalar⟩),
  (80, ⟨1, .slice 191 7⟩),
  (81, ⟨2, .struct [(0, 1), (1, 1)]⟩),
  (82, ⟨2, .struct [(0, 1), (1, 1)]⟩),
  (83, ⟨1, .scalar⟩),
  (84, ⟨1, .slice 195 3⟩),
  (85, ⟨2, .struct [(0, 1), (1, 1)]⟩),
  (86, ⟨2, .struct [(0, 1), (1, 1)]⟩),
  (87, ⟨1, .scalar⟩),
  (88, ⟨1, .scalar⟩),
  (89, ⟨1, .scalar⟩),
  (90, ⟨1, .scalar⟩),
  (91, ⟨1, .scalar⟩),
  (92, ⟨1, .scalar⟩),
  (94, ⟨1, .scalar⟩),
  (95, ⟨1, .scalar⟩),
  (96, ⟨1, .scalar⟩),
  (98, ⟨1, .scalar⟩),
  (99, ⟨1, .scalar⟩),
  (100, ⟨1, .scalar⟩),
  (101, ⟨2, .struct [(0, 1), (1, 1)]⟩),
  (102, ⟨2, .struct [(0, 1), (1, 1)]⟩),
  (103, ⟨1, .scalar⟩),
  (105, ⟨1, .scalar⟩),
  (106, ⟨2, .struct [(0, 1), (1, 1)]⟩),
  (107, ⟨1, .scalar⟩),
  (108, ⟨1, .scalar⟩),
  (109, ⟨1, .scalar⟩),
  (110, ⟨1, .scalar⟩),
  (111, ⟨1, .scalar⟩),
  (112, ⟨1, .scalar⟩),
  (114, ⟨1, .scalar⟩),
  (115, ⟨1, .scalar⟩),
  (116, ⟨1, .scalar⟩),
  (117, ⟨1, .scalar⟩),
  (118, ⟨1, .scalar⟩),
  (119, ⟨1, .scalar⟩),
  (120, ⟨1, .scalar⟩),
  (121, ⟨1, .scalar⟩),
  (122, ⟨1, .scalar⟩),
  (123, ⟨1, .scalar⟩),
  (124, ⟨1, .scalar⟩),
  (125, ⟨1, .scalar⟩),
  (126, ⟨1, .slice 214 2⟩),
  (127, ⟨9, .struct [(0, 1), (1, 1), (2, 1), (3, 1), (4, 1), (5, 1), (6, 1), (7, 1), (8, 1)]⟩),
  (128, ⟨9, .struct [(0, 1), (1, 1), (2, 1), (3, 1), (4, 1), (5, 1), (6, 1), (7, 1), (8, 1)]⟩),
  (129, ⟨1, .scalar⟩),
  (130, ⟨1, .scalar⟩),
  (131, ⟨1, .scalar⟩),
  (132, ⟨1, .scalar⟩),
  (133, ⟨1, .scalar⟩),
  (134, ⟨1, .scalar⟩),
  (135, ⟨1, .scalar⟩),
  (136, ⟨1, .scalar⟩),
  (137, ⟨1, .scalar⟩),
  (138, ⟨1, .scalar⟩),
  (139, ⟨1, .scalar⟩),
  (140, ⟨1, .scalar⟩),
  (141, ⟨1, .scalar⟩),
  (142, ⟨1, .scalar⟩),
  (143, ⟨1, .scalar⟩),
  (144, ⟨1, .scalar⟩),
  (145, ⟨1, .scalar⟩),
  (146, ⟨1, .scalar⟩),
  (147, ⟨1, .scalar⟩),
  (148, ⟨1, .scalar⟩),
  (149, ⟨1, .scalar⟩),
  (150, ⟨1, .scalar⟩),
  (151, ⟨1, .scalar⟩),
  (152, ⟨1, .scalar⟩),
  (153, ⟨1, .scalar⟩),
  (154, ⟨1, .scalar⟩),
  (155, ⟨1, .scalar⟩),
  (157, ⟨1, .scalar⟩),
  (158, ⟨1, .scalar⟩),
  (159, ⟨1, .scalar⟩),
  (160, ⟨1, .scalar⟩),
  (161, ⟨1, .scalar⟩),
  (162, ⟨1, .scalar⟩),
  (164, ⟨1, .scalar⟩),
  (165, ⟨1, .scalar⟩),
  (166, ⟨1, .scalar⟩),
  (167, ⟨1, .scalar⟩),
  (168, ⟨1, .scalar⟩),
  (170, ⟨1, .scalar⟩),
  (171, ⟨1, .scalar⟩),
  (172, ⟨1, .scalar⟩),
  (173, ⟨1, .scalar⟩),
  (174, ⟨1, .scalar⟩),
  (175, ⟨1, .scalar⟩),
  (176, ⟨1, .slice 278 1⟩),
  (177, ⟨1, .slice 27 1⟩),
  (179, ⟨1, .scalar⟩),
  (180, ⟨1, .scalar⟩),
  (181, ⟨1, .scalar⟩),
  (182, ⟨1, .scalar⟩),
  (183, ⟨1, .scalar⟩),
  (184, ⟨1, .scalar⟩),
  (185, ⟨1, .scalar⟩),
  (187, ⟨1, .scalar⟩),
  (188, ⟨1, .scalar⟩),
  (189, ⟨1, .scalar⟩),
  (190, ⟨7, .struct [(0, 1), (1, 1), (2, 1), (3, 1), (4, 1), (5, 1), (6, 1)]⟩),
  (191, ⟨7, .struct [(0, 1), (1, 1), (2, 1), (3, 1), (4, 1), (5, 1), (6, 1)]⟩),
  (192, ⟨1, .scalar⟩),
  (193, ⟨1, .scalar⟩),
  (194, ⟨3, .struct [(0, 1), (1, 1), (2, 1)]⟩),
  (195, ⟨3, .struct [(0, 1), (1, 1), (2, 1)]⟩),
  (196, ⟨1, .scalar⟩),
  (197, ⟨3, .struct [(0, 1), (1, 1), (2, 1)]⟩),
  (198, ⟨1, .scalar⟩),
  (199, ⟨1, .scalar⟩),
  (200, ⟨1, .scalar⟩),
  (201, ⟨1, .scalar⟩),
  (202, ⟨1, .scalar⟩),
  (203, ⟨1, .scalar⟩),
  (204, ⟨1, .scalar⟩),
  (205, ⟨1, .scalar⟩),
  (206, ⟨1, .scalar⟩),
  (207, ⟨1, .scalar⟩),
  (208, ⟨1, .slice 335 2⟩),
  (209, ⟨9, .struct [(0, 1), (1, 1), (2, 1), (3, 1), (4, 1), (5, 1), (6, 1), (7, 1), (8, 1)]⟩),
  (210, ⟨9, .struct [(0, 1), (1, 1), (2, 1), (3, 1), (4, 1), (5, 1), (6, 1), (7, 1), (8, 1)]⟩),
  (211, ⟨1, .scalar⟩),
  (212, ⟨1, .scalar⟩),
  (213, ⟨2, .struct [(0, 1), (1, 1)]⟩),
  (214, ⟨2, .struct [(0, 1), (1, 1)]⟩),
  (215, ⟨1, .scalar⟩),
  (216, ⟨1, .scalar⟩),
  (217, ⟨1, .scalar⟩),
  (218, ⟨1, .scalar⟩),
  (219, ⟨1, .scalar⟩),
  (220, ⟨1, .scalar⟩),
  (221, ⟨1, .scalar⟩),
  (222, ⟨1, .scalar⟩),
  (223, ⟨1, .scalar⟩),
  (224, ⟨1, .scalar⟩),
  (225, ⟨1, .scalar⟩),
  (226, ⟨1, .scalar⟩),
  (227, ⟨3, .struct [(0, 1), (1, 1), (2, 1)]⟩),
  (228, ⟨3, .struct [(0, 1), (1, 1), (2, 1)]⟩),
  (229, ⟨1, .scalar⟩),
  (230, ⟨1, .scalar⟩),
  (231, ⟨1, .scalar⟩),
  (232, ⟨1, .scalar⟩),
  (233, ⟨1, .scalar⟩),
  (234, ⟨3, .struct [(0, 1), (1, 1), (2, 1)]⟩),
  (235, ⟨1, .scalar⟩),
  (236, ⟨1, .scalar⟩),
  (237, ⟨1, .scalar⟩),
  (238, ⟨1, .scalar⟩),
  (239, ⟨1, .scalar⟩),
  (240, ⟨1, .scalar⟩),
  (241, ⟨1, .scalar⟩),
  (242, ⟨1, .scalar⟩),
  (243, ⟨1, .scalar⟩),
  (244, ⟨7, .struct [(0, 1), (1, 1), (2, 1), (3, 1), (4, 1), (5, 1), (6, 1)]⟩),
  (245, ⟨1, .scalar⟩),
  (246, ⟨5, .struct [(0, 1), (1, 1), (2, 1), (3, 1), (4, 1)]⟩),
  (247, ⟨5, .struct [(0, 1), (1, 1), (2, 1), (3, 1), (4, 1)]⟩),
  (248, ⟨1, .scalar⟩),
  (249, ⟨1, .scalar⟩),
  (250, ⟨1, .slice 257 11⟩),
  (252, ⟨1, .scalar⟩),
  (253, ⟨1, .scalar⟩),
  (254, ⟨1, .scalar⟩),
  (255, ⟨1, .scalar⟩),
  (256, ⟨11, .struct [(0, 3), (3, 7), (10, 1)]⟩),
  (257, ⟨11, .struct [(0, 3), (3, 7), (10, 1)]⟩),
  (258, ⟨1, .scalar⟩),
  (259, ⟨1, .scalar⟩),
  (260, ⟨1, .scalar⟩),
  (261, ⟨4, .struct [(0, 1), (1, 1), (2, 1), (3, 1)]⟩),
  (262, ⟨4, .struct [(0, 1), (1, 1), (2, 1), (3, 1)]⟩),
  (263, ⟨1, .scalar⟩),
  (264, ⟨1, .scalar⟩),
  (265, ⟨1, .scalar⟩),
  (266, ⟨1, .scalar⟩),
  (267, ⟨1, .scalar⟩),
  (268, ⟨1, .scalar⟩),
  (269, ⟨1, .scalar⟩),
  (270, ⟨1, .scalar⟩),
  (271, ⟨1, .scalar⟩),
  (272, ⟨1, .scalar⟩),
  (273, ⟨1, .scalar⟩),
  (274, ⟨1, .scalar⟩),
  (275, ⟨1, .scalar⟩),
  (276, ⟨1, .scalar⟩),
  (277, ⟨1, .scalar⟩),
  (278, ⟨1, .slice 3 1⟩),
  (280, ⟨1, .scalar⟩),
  (281, ⟨1, .scalar⟩),
  (282, ⟨1, .scalar⟩),
  (283, ⟨1, .slice 287 2⟩),
  (285, ⟨1, .scalar⟩),
  (286, ⟨2, .struct [(0, 1), (1, 1)]⟩),
  (287, ⟨2, .struct [(0, 1), (1, 1)]⟩),
  (288, ⟨6, .arr 6 2 1⟩),
  (289, ⟨1, .scalar⟩),
  (290, ⟨1, .scalar⟩),
  (291, ⟨1, .scalar⟩),
  (292, ⟨1, .scalar⟩),
  (293, ⟨1, .scalar⟩),
  (294, ⟨1, .scalar⟩),
  (295, ⟨1, .scalar⟩),
  (296, ⟨1, .scalar⟩),
  (297, ⟨1, .scalar⟩),
  (298, ⟨1, .scalar⟩),
  (299, ⟨1, .scalar⟩),
  (300, ⟨1, .scalar⟩),
  (301, ⟨1, .scalar⟩),
  (302, ⟨1, .scalar⟩),
  (303, ⟨1, .scalar⟩),
  (304, ⟨1, .scalar⟩),
  (305, ⟨1, .scalar⟩),
  (306, ⟨1, .scalar⟩),
  (307, ⟨1, .scalar⟩),
  (308, ⟨1, .scalar⟩),
  (309, ⟨1, .scalar⟩),
  (310, ⟨1, .scalar⟩),
  (311, ⟨1, .scalar⟩),
  (312, ⟨1, .scalar⟩),
  (313, ⟨1, .scalar⟩),
  (314, ⟨1, .scalar⟩),
  (315, ⟨1, .scalar⟩),
  (316, ⟨1, .scalar⟩),
  (317, ⟨1, .scalar⟩),
  (318, ⟨1, .scalar⟩),
  (319, ⟨1, .scalar⟩),
  (320, ⟨4, .struct [(0, 1), (1, 1), (2, 1), (3, 1)]⟩),
  (321, ⟨4, .struct [(0, 1), (1, 1), (2, 1), (3, 1)]⟩),
  (323, ⟨1, .scalar⟩),
  (324, ⟨1, .scalar⟩),
  (325, ⟨1, .scalar⟩),
  (326, ⟨1, .scalar⟩),
  (327, ⟨1, .scalar⟩),
  (328, ⟨6, .arr 6 3 1⟩),
  (329, ⟨1, .scalar⟩),
  (330, ⟨1, .scalar⟩),
  (331, ⟨1, .scalar⟩),
  (332, ⟨1, .scalar⟩),
  (333, ⟨1, .scalar⟩),
  (334, ⟨1, .scalar⟩),
  (335, ⟨2, .struct [(0, 1), (1, 1)]⟩),
  (336, ⟨1, .scalar⟩),
  (337, ⟨1, .scalar⟩),
  (338, ⟨1, .scalar⟩),
  (339, ⟨1, .scalar⟩),
  (340, ⟨1, .scalar⟩),
  (341, ⟨1, .scalar⟩),
  (342, ⟨1, .scalar⟩),
  (343, ⟨1, .scalar⟩),
  (344, ⟨1, .scalar⟩),
  (345, ⟨1, .scalar⟩),
  (346, ⟨1, .scalar⟩),
  (347, ⟨1, .scalar⟩),
  (348, ⟨1, .scalar⟩),
  (349, ⟨1, .scalar⟩),
  (350, ⟨1, .ik .u64⟩),
  (351, ⟨1, .scalar⟩),
  (352, ⟨1, .scalar⟩),
  (353, ⟨1, .scalar⟩),
  (354, ⟨1, .scalar⟩),
  (355, ⟨1, .scalar⟩),
  (356, ⟨1, .scalar⟩),
  (357, ⟨1, .scalar⟩),
  (358, ⟨1, .scalar⟩),
  (359, ⟨1, .scalar⟩),
  (360, ⟨1, .ik .i64⟩),
  (362, ⟨1, .scalar⟩),
  (363, ⟨1, .scalar⟩),
  (364, ⟨1, .scalar⟩),
  (366, ⟨1, .scalar⟩),
  (367, ⟨1, .scalar⟩),
  (368, ⟨1, .ik .u32⟩),
  (369, ⟨1, .scalar⟩),
  (370, ⟨1, .ik .u64⟩),
  (371, ⟨1, .scalar⟩),
  (372, ⟨1, .scalar⟩),
  (373, ⟨1, .struct [(0, 1)]⟩),
  (374, ⟨1, .struct [(0, 1)]⟩),
  (375, ⟨1, .scalar⟩),
  (376, ⟨1, .scalar⟩),
  (377, ⟨1, .ik .u64⟩),
  (378, ⟨1, .scalar⟩),
  (379, ⟨1, .scalar⟩),
  (380, ⟨1, .scalar⟩),
  (381, ⟨1, .scalar⟩),
  (382, ⟨1, .scalar⟩),
  (383, ⟨1, .scalar⟩),
  (384, ⟨1, .scalar⟩),
  (386, ⟨1, .scalar⟩),
  (387, ⟨1, .scalar⟩),
  (388, ⟨4, .struct [(0, 1), (1, 1), (2, 1), (3, 1)]⟩),
  (389, ⟨4, .struct [(0, 1), (1, 1), (2, 1), (3, 1)]⟩),
  (390, ⟨0, .arr 0 16 1⟩),
  (393, ⟨1, .ik .u8⟩),
  (394, ⟨1, .ik .u8⟩),
  (395, ⟨1, .scalar⟩),
  (396, ⟨1, .scalar⟩),
  (397, ⟨1, .ik .i32⟩),
  (398, ⟨1, .ik .i32⟩),
  (399, ⟨11, .struct [(0, 1), (1, 1), (2, 1), (3, 1), (4, 1), (5, 1), (6, 1), (7, 1), (8, 1), (9, 1), (10, 1)]⟩),
  (400, ⟨11, .struct [(0, 1), (1, 1), (2, 1), (3, 1), (4, 1), (5, 1), (6, 1), (7, 1), (8, 1), (9, 1), (10, 1)]⟩),
  (401, ⟨1, .scalar⟩)]
def ty : Nat → Option TI := lkT tyl
theorem tyOk : TyOk Try.prog ty := tyOk_of_list tyl (by kernel_rfl)
def ztl : List (Nat × (List ZK × Nat)) := [(1, ([.fn], 8)),
  (2, ([.int], 8)),
  (3, ([.int], 8)),
  (4, ([.bool], 1)),
  (5, ([.byte], 1)),
  (6, ([.byte], 1)),
  (7, ([.int, .int, .bool, .byte], 24)),
  (8, ([.int, .int, .bool, .byte], 24)),
  (9, ([.str], 16)),
  (10, ([.str], 16)),
  (11, ([.str], 16)),
  (15, ([.ptr], 8)),
  (16, ([.ptr], 8)),
  (17, ([.ptr], 8)),
  (18, ([.ptr], 8)),
  (19, ([.ptr], 8)),
  (22, ([.slice], 24)),
  (23, ([.slice], 24)),
  (24, ([.int, .slice, .slice], 56)),
  (25, ([.int, .slice, .slice], 56)),
  (26, ([.slice], 24)),
  (27, ([.slice], 24)),
  (28, ([.slice, .slice, .slice], 72)),
  (29, ([.slice, .slice, .slice], 72)),
  (30, ([.fn], 8)),
  (31, ([.fn], 8)),
  (33, ([.fn], 8)),
  (34, ([.slice], 24)),
  (35, ([.int, .slice, .slice], 56)),
  (36, ([.int, .slice, .slice], 56)),
  (37, ([.fn], 8)),
  (38, ([.slice, .slice, .slice], 72)),
  (39, ([.fn], 8)),
  (40, ([.fn], 8)),
  (41, ([.fn], 8)),
  (42, ([.fn], 8)),
  (43, ([.fn], 8)),
  (44, ([.fn], 8)),
  (45, ([.fn], 8)),
  (46, ([.fn], 8)),
  (47, ([.slice], 24)),
  (48, ([.int, .slice, .slice, .slice], 80)),
  (49, ([.int, .slice, .slice, .slice], 80)),
  (50, ([.slice, .slice], 48)),
  (51, ([.slice, .slice], 48)),
  (52, ([.fn], 8)),
  (53, ([.fn], 8)),
  (54, ([.slice, .slice], 48)),
  (56, ([.fn], 8)),
  (57, ([.slice], 24)),
  (58, ([.int, .slice, .slice, .slice], 80)),
  (59, ([.int, .slice, .slice, .slice], 80)),
  (60, ([.fn], 8)),
  (61, ([.fn], 8)),
  (62, ([.fn], 8)),
  (63, ([.fn], 8)),
  (64, ([.fn], 8)),
  (65, ([.fn], 8)),
  (66, ([.fn], 8)),
  (67, ([.fn], 8)),
  (68, ([.fn], 8)),
  (69, ([.fn], 8)),
  (70, ([.slice], 24)),
  (71, ([.int, .slice], 32)),
  (72, ([.int, .slice], 32)),
  (73, ([.slice], 24)),
  (74, ([.slice, .slice], 48)),
  (75, ([.slice, .slice], 48)),
  (76, ([.fn], 8)),
  (77, ([.fn], 8)),
  (79, ([.fn], 8)),
  (80, ([.slice], 24)),
  (81, ([.int, .slice], 32)),
  (82, ([.int, .slice], 32)),
  (83, ([.fn], 8)),
  (84, ([.slice], 24)),
  (85, ([.slice, .slice], 48)),
  (86, ([.slice, .slice], 48)),
  (87, ([.fn], 8)),
  (88, ([.fn], 8)),
  (89, ([.fn], 8)),
  (90, ([.fn], 8)),
  (91, ([.fn], 8)),
  (92, ([.fn], 8)),
  (94, ([.fn], 8)),
  (95, ([.fn], 8)),
  (96, ([.fn], 8)),
  (98, ([.fn], 8)),
  (99, ([.fn], 8)),
  (100, ([.fn], 8)),
  (101, ([.int, .slice], 32)),
  (102, ([.int, .slice], 32)),
  (103, ([.fn], 8)),
  (105, ([.fn], 8)),
  (106, ([.int, .slice], 32)),
  (107, ([.fn], 8)),
  (108, ([.fn], 8)),
  (109, ([.fn], 8)),
  (110, ([.fn], 8)),
  (111, ([.fn], 8)),
  (112, ([.fn], 8)),
  (114, ([.fn], 8)),
  (115, ([.fn], 8)),
  (116, ([.fn], 8)),
  (117, ([.fn], 8)),
  (118, ([.fn], 8)),
  (119, ([.fn], 8)),
  (120, ([.fn], 8)),
  (121, ([.fn], 8)),
  (122, ([.ptr], 8)),
  (123, ([.ptr], 8)),
  (124, ([.fn], 8)),
  (125, ([.ptr], 8)),
  (126, ([.slice], 24)),
  (127, ([.int, .int, .slice, .slice, .slice, .slice, .slice, .slice, .bool], 168)),
  (128, ([.int, .int, .slice, .slice, .slice, .slice, .slice, .slice, .bool], 168)),
  (129, ([.fn], 8)),
  (130, ([.fn], 8)),
  (131, ([.fn], 8)),
  (132, ([.fn], 8)),
  (133, ([.fn], 8)),
  (134, ([.fn], 8)),
  (135, ([.fn], 8)),
  (136, ([.fn], 8)),
  (137, ([.fn], 8)),
  (138, ([.fn], 8)),
  (139, ([.fn], 8)),
  (140, ([.fn], 8)),
  (141, ([.fn], 8)),
  (142, ([.ptr], 8)),
  (143, ([.ptr], 8)),
  (144, ([.fn], 8)),
  (145, ([.fn], 8)),
  (146, ([.fn], 8)),
  (147, ([.fn], 8)),
  (148, ([.fn], 8)),
  (149, ([.fn], 8)),
  (150, ([.fn], 8)),
  (151, ([.fn], 8)),
  (152, ([.fn], 8)),
  (153, ([.fn], 8)),
  (154, ([.ptr], 8)),
  (155, ([.ptr], 8)),
  (157, ([.fn], 8)),
  (158, ([.fn], 8)),
  (159, ([.fn], 8)),
  (160, ([.fn], 8)),
  (161, ([.fn], 8)),
  (162, ([.fn], 8)),
  (164, ([.fn], 8)),
  (165, ([.fn], 8)),
  (166, ([.fn], 8)),
  (167, ([.fn], 8)),
  (168, ([.fn], 8)),
  (170, ([.fn], 8)),
  (171, ([.fn], 8)),
  (172, ([.fn], 8)),
  (173, ([.fn], 8)),
  (174, ([.fn], 8)),
  (175, ([.fn], 8)),
  (176, ([.slice], 24)),
  (177, ([.slice], 24)),
  (179, ([.fn], 8)),
  (180, ([.fn], 8)),
  (181, ([.fn], 8)),
  (182, ([.fn], 8)),
  (183, ([.fn], 8)),
  (184, ([.fn], 8)),
  (185, ([.ptr], 8)),
  (187, ([.fn], 8)),
  (188, ([.fn], 8)),
  (189, ([.fn], 8)),
  (190, ([.int, .int, .int, .int, .slice, .int, .slice], 88)),
  (191, ([.int, .int, .int, .int, .slice, .int, .slice], 88)),
  (192, ([.fn], 8)),
  (193, ([.fn], 8)),
  (194, ([.int, .slice, .int], 40)),
  (195, ([.int, .slice, .int], 40)),
  (196, ([.fn], 8)),
  (197, ([.int, .slice, .int], 40)),
  (198, ([.ptr], 8)),
  (199, ([.fn], 8)),
  (200, ([.fn], 8)),
  (201, ([.fn], 8)),
  (202, ([.fn], 8)),
  (203, ([.fn], 8)),
  (204, ([.fn], 8)),
  (205, ([.fn], 8)),
  (206, ([.fn], 8)),
  (207, ([.fn], 8)),
  (208, ([.slice], 24)),
  (209, ([.int, .int, .slice, .slice, .slice, .slice, .slice, .slice, .bool], 168)),
  (210, ([.int, .int, .slice, .slice, .slice, .slice, .slice, .slice, .bool], 168)),
  (211, ([.fn], 8)),
  (212, ([.fn], 8)),
  (213, ([.int, .slice], 32)),
  (214, ([.int, .slice], 32)),
  (215, ([.fn], 8)),
  (216, ([.fn], 8)),
  (217, ([.fn], 8)),
  (218, ([.fn], 8)),
  (219, ([.fn], 8)),
  (220, ([.fn], 8)),
  (221, ([.fn], 8)),
  (222, ([.fn], 8)),
  (223, ([.fn], 8)),
  (224, ([.fn], 8)),
  (225, ([.fn], 8)),
  (226, ([.fn], 8)),
  (227, ([.int, .slice, .slice], 56)),
  (228, ([.int, .slice, .slice], 56)),
  (229, ([.fn], 8)),
  (230, ([.fn], 8)),
  (231, ([.fn], 8)),
  (232, ([.fn], 8)),
  (233, ([.ptr], 8)),
  (234, ([.int, .slice, .slice], 56)),
  (235, ([.fn], 8)),
  (236, ([.fn], 8)),
  (237, ([.fn], 8)),
  (238, ([.fn], 8)),
  (239, ([.fn], 8)),
  (240, ([.fn], 8)),
  (241, ([.fn], 8)),
  (242, ([.fn], 8)),
  (243, ([.fn], 8)),
  (244, ([.int, .int, .int, .int, .slice, .int, .slice], 88)),
  (245, ([.ptr], 8)),
  (246, ([.ptr, .slice, .slice, .slice, .bool], 88)),
  (247, ([.ptr, .slice, .slice, .slice, .bool], 88)),
  (248, ([.fn], 8)),
  (249, ([.fn], 8)),
  (250, ([.slice], 24)),
  (252, ([.fn], 8)),
  (253, ([.fn], 8)),
  (254, ([.fn], 8)),
  (255, ([.fn], 8)),
  (256, ([.int, .slice, .int, .int, .int, .int, .int, .slice, .int, .slice, .int], 136)),
  (257, ([.int, .slice, .int, .int, .int, .int, .int, .slice, .int, .slice, .int], 136)),
  (258, ([.fn], 8)),
  (259, ([.fn], 8)),
  (260, ([.ptr], 8)),
  (261, ([.ptr, .int, .int, .slice], 48)),
  (262, ([.ptr, .int, .int, .slice], 48)),
  (263, ([.fn], 8)),
  (264, ([.fn], 8)),
  (265, ([.fn], 8)),
  (266, ([.fn], 8)),
  (267, ([.fn], 8)),
  (268, ([.ptr], 8)),
  (269, ([.fn], 8)),
  (270, ([.fn], 8)),
  (271, ([.fn], 8)),
  (272, ([.fn], 8)),
  (273, ([.fn], 8)),
  (274, ([.fn], 8)),
  (275, ([.fn], 8)),
  (276, ([.fn], 8)),
  (277, ([.fn], 8)),
  (278, ([.slice], 24)),
  (280, ([.fn], 8)),
  (281, ([.fn], 8)),
  (282, ([.fn], 8)),
  (283, ([.slice], 24)),
  (285, ([.fn], 8)),
  (286, ([.slice, .slice], 48)),
  (287, ([.slice, .slice], 48)),
  (288, ([.int, .int, .int, .int, .int, .int], 48)),
  (289, ([.fn], 8)),
  (290, ([.fn], 8)),
  (291, ([.fn], 8)),
  (292, ([.fn], 8)),
  (293, ([.fn], 8)),
  (294, ([.fn], 8)),
  (295, ([.fn], 8)),
  (296, ([.fn], 8)),
  (297, ([.fn], 8)),
  (298, ([.fn], 8)),
  (299, ([.fn], 8)),
  (300, ([.fn], 8)),
  (301, ([.fn], 8)),
  (302, ([.fn], 8)),
  (303, ([.fn], 8)),
  (304, ([.fn], 8)),
  (305, ([.fn], 8)),
  (306, ([.fn], 8)),
  (307, ([.fn], 8)),
  (308, ([.fn], 8)),
  (309, ([.fn], 8)),
  (310, ([.fn], 8)),
  (311, ([.fn], 8)),
  (312, ([.fn], 8)),
  (313, ([.fn], 8)),
  (314, ([.fn], 8)),
  (315, ([.fn], 8)),
  (316, ([.fn], 8)),
  (317, ([.fn], 8)),
  (318, ([.fn], 8)),
  (319, ([.fn], 8)),
  (320, ([.str, .bool, .bool, .bool], 24)),
  (321, ([.str, .bool, .bool, .bool], 24)),
  (323, ([.fn], 8)),
  (324, ([.fn], 8)),
  (325, ([.fn], 8)),
  (326, ([.ptr], 8)),
  (327, ([.fn], 8)),
  (328, ([.int, .int, .int, .int, .int, .int], 48)),
  (329, ([.fn], 8)),
  (330, ([.fn], 8)),
  (331, ([.fn], 8)),
  (332, ([.fn], 8)),
  (333, ([.fn], 8)),
  (334, ([.fn], 8)),
  (335, ([.int, .slice], 32)),
  (336, ([.ptr], 8)),
  (337, ([.fn], 8)),
  (338, ([.fn], 8)),
  (339, ([.fn], 8)),
  (340, ([.fn], 8)),
  (341, ([.fn], 8)),
  (342, ([.fn], 8)),
  (343, ([.fn], 8)),
  (344, ([.fn], 8)),
  (345, ([.fn], 8)),
  (346, ([.fn], 8)),
  (347, ([.fn], 8)),
  (348, ([.fn], 8)),
  (349, ([.fn], 8)),
  (351, ([.fn], 8)),
  (352, ([.fn], 8)),
  (353, ([.fn], 8)),
  (354, ([.fn], 8)),
  (355, ([.fn], 8)),
  (356, ([.fn], 8)),
  (357, ([.fn], 8)),
  (358, ([.fn], 8)),
  (359, ([.fn], 8)),
  (360, ([.int], 8)),
  (362, ([.fn], 8)),
  (363, ([.fn], 8)),
  (364, ([.fn], 8)),
  (366, ([.fn], 8)),
  (367, ([.fn], 8)),
  (369, ([.fn], 8)),
  (371, ([.fn], 8)),
  (372, ([.ptr], 8)),
  (373, ([.slice], 24)),
  (374, ([.slice], 24)),
  (375, ([.fn], 8)),
  (376, ([.fn], 8)),
  (378, ([.fn], 8)),
  (379, ([.fn], 8)),
  (380, ([.fn], 8)),
  (381, ([.ptr], 8)),
  (382, ([.fn], 8)),
  (383, ([.fn], 8)),
  (384, ([.ptr], 8)),
  (386, ([.fn], 8)),
  (387, ([.fn], 8)),
  (388, ([.ptr, .ptr, .ptr, .str], 40)),
  (389, ([.ptr, .ptr, .ptr, .str], 40)),
  (390, ([], 0)),
  (391, ([], 0)),
  (392, ([], 0)),
  (393, ([.byte], 1)),
  (394, ([.byte], 1)),
  (395, ([.fn], 8)),
  (396, ([.ptr], 8)),
  (401, ([.fn], 8))]
def zt : Nat → Option (List ZK × Nat) := lkZ ztl
theorem ztOk : ZtOk Try.prog zt := ztOk_of_list ztl (by kernel_rfl)
theorem mix : Try.prog.follows .mixedOrders = true := by kernel_rfl
end Go.Proofs.Ytgjlemedckhlfaa

/-
  The helpers of the laws over numbers, lists of numbers and lists of lists: sizes, copies, comparisons. No condition but that the sizes are at most 1048576.
-/
namespace Go.Proofs.Ytgjlemedckhlfaa
open Go.AI
set_option maxRecDepth 8000
def szR {α : Type} (left : Int) (l : List α) : Int := if left - l.length < 0 then -1 else left - l.length
theorem szR_le {α : Type} {left : Int} {l : List α} (h1 : -1 ≤ left) (h2 : left ≤ 1048576) : -1 ≤ szR left l ∧ szR left l ≤ 1048576 := by unfold szR; split <;> omega
theorem szR_ok {α : Type} {left : Int} {l : List α} (h2 : left ≤ 1048576) (h : ¬ szR left l < 0) : l.length ≤ 1048576 := by unfold szR at h; split at h <;> omega
def szL {α : Type} (f : Int → α → Int) : Int → List α → Int
  | left, [] => left
  | left, r :: rs => if f left r < 0 then -1 else szL f (f left r) rs
def szSl {α : Type} (f : Int → α → Int) (left : Int) (l : List α) : Int := if left - l.length < 0 then -1 else szL f (left - l.length) l
theorem szL_le {α : Type} {f : Int → α → Int} (hf : ∀ left x, -1 ≤ left → left ≤ 1048576 → -1 ≤ f left x ∧ f left x ≤ 1048576) : ∀ (l : List α) (left : Int), -1 ≤ left → left ≤ 1048576 → -1 ≤ szL f left l ∧ szL f left l ≤ 1048576
  | [], left, h1, h2 => ⟨h1, h2⟩
  | x :: l, left, h1, h2 => by
    unfold szL; split
    · omega
    · exact szL_le hf l _ (hf left x h1 h2).1 (hf left x h1 h2).2
theorem szSl_le {α : Type} {f : Int → α → Int} (hf : ∀ left x, -1 ≤ left → left ≤ 1048576 → -1 ≤ f left x ∧ f left x ≤ 1048576) {l : List α} {left : Int} (h1 : -1 ≤ left) (h2 : left ≤ 1048576) : -1 ≤ szSl f left l ∧ szSl f left l ≤ 1048576 := by
  unfold szSl; split
  · omega
  · exact szL_le hf _ _ (by omega) (by omega)
theorem szL_ok {α : Type} {f : Int → α → Int} {p : α → Prop} (hf : ∀ left x, -1 ≤ left → left ≤ 1048576 → -1 ≤ f left x ∧ f left x ≤ 1048576) (hp : ∀ left x, -1 ≤ left → left ≤ 1048576 → ¬ f left x < 0 → p x) : ∀ (l : List α) (left : Int), -1 ≤ left → left ≤ 1048576 → ¬ szL f left l < 0 → ∀ x ∈ l, p x
  | [], _, _, _, _, x, hx => by cases hx
  | y :: l, left, h1, h2, h, x, hx => by
    unfold szL at h
    split at h
    · exact absurd (by decide) h
    · rename_i hn
      rcases List.mem_cons.1 hx with rfl | hx
      · exact hp left _ h1 h2 hn
      · exact szL_ok hf hp l _ (hf left y h1 h2).1 (hf left y h1 h2).2 h x hx
/-- What a size that is not negative tells of a list. -/
theorem szSl_ok {α : Type} {f : Int → α → Int} {p : α → Prop} (hf : ∀ left x, -1 ≤ left → left ≤ 1048576 → -1 ≤ f left x ∧ f left x ≤ 1048576) (hp : ∀ left x, -1 ≤ left → left ≤ 1048576 → ¬ f left x < 0 → p x) {l : List α} {left : Int} (h1 : -1 ≤ left) (h2 : left ≤ 1048576) (h : ¬ szSl f left l < 0) :
    l.length ≤ 1048576 ∧ ∀ x ∈ l, p x := by
  unfold szSl at h
  split at h
  · exact absurd (by decide) h
  · exact ⟨by omega, szL_ok hf hp l _ (by omega) (by omega) h⟩
theorem c_szInt64S (l : List Int) (left : Int) (h1 : -1 ≤ left) (h2 : left ≤ 1048576) : Gives Try.prog 72 [.sl (l.map encI), .int left] (.int (szR left l)) := by
  refine fn_of_run tyOk ztOk mix Try.func72 rfl (by decide) Try.ntmps72 (fun w0 h => ?_)
  refine run_len (t := 0) rfl (fun hl => ?_)
  rw [List.length_map] at hl
  repeat' (first
      | (refine j_go ?_; first
        | refine j_op0 rfl rfl rfl rfl ?_ | (refine j_kBin rfl ?_; first | refine j_in rfl rfl ⟨by omega, by omega⟩ rfl rfl ?_) | (refine j_kLen rfl ?_; first | refine j_len rfl rfl rfl rfl rfl rfl ?_))
      | refine j_nil ?_
      | (refine r_go ?_; first | refine run_seq ?_ | refine run_region ?_ | (refine (run_if rfl (fun hb => ?_) (fun hb => ?_)) <;> first | (exfalso; omega) | skip) | refine run_ret ?_ | refine run_skip ?_)
      | refine seqQ_normal ?_ | refine seqQ_ret ?_)
  · exact end1 rfl (List.Sublist.refl _) (by unfold szR; rw [if_pos hb]; rfl) (.inl rfl)
  · exact end1 rfl (List.Sublist.refl _) (by unfold szR; rw [if_neg hb]) (.inl rfl)
theorem c_toInt64S (l : List (Int)) (hl : l.length ≤ 1048576) : Gives Try.prog 30 [.sl (l.map encI)] (.sl (l.map encI)) := by
  refine fn_of_run tyOk ztOk mix Try.func30 rfl (by decide) Try.ntmps30 (fun w0 h => ?_)
  repeat' (first
      | (refine j_go ?_; first
        | refine j_op0 rfl rfl rfl rfl ?_ | (refine j_kLen rfl ?_; first | refine j_len rfl rfl rfl rfl rfl rfl ?_))
      | refine j_nil ?_
      | (refine r_go ?_; first | refine run_seq ?_ | refine run_region ?_)
      | refine seqQ_normal ?_)
  refine j_makeI (g := encI) 0 rfl rfl rfl rfl rfl rfl rfl rfl rfl (by omega) rfl rfl (fun b => ?_)
  repeat' (first
      | (refine j_go ?_; first
        | refine j_op0 rfl rfl rfl rfl ?_)
      | refine j_nil ?_
      | (refine r_go ?_; first | refine run_seq ?_ | refine run_region ?_ | refine run_block ?_)
      | refine seqQ_normal ?_)
  refine run_loop (fun k : Nat => [(0, .sl (l.map encI)), (3, .os (some b) l.length l.length), (4, .int (k : Int))]) (fun k => ⟨some b, 2, l.length * 1, ((l.take k ++ List.replicate (l.length - k) 0).map encI).flatten⟩ :: h)
      (fun k => k ≤ l.length) (fun k => l.length - k) 0 ⟨rfl, rfl, rfl, trivial⟩ (by simp) (by omega) ?_
  intro k g1
  repeat' (first
      | (refine j_go ?_; first
        | refine j_op0 rfl rfl rfl rfl ?_ | (refine j_kIdx rfl ?_; first | refine j_idx rfl rfl rfl rfl rfl (by omega) rfl rfl rfl ?_ | refine j_midx rfl rfl rfl rfl rfl (by first | omega | (simp only [List.length_append, List.length_cons, List.length_nil]; omega)) rfl rfl ?_) | (refine j_kLen rfl ?_; first | refine j_len rfl rfl rfl rfl rfl rfl ?_))
      | refine j_nil ?_
      | (refine r_go ?_; first | refine run_seq ?_ | refine run_region ?_ | (refine (run_if rfl (fun hb => ?_) (fun hb => ?_)) <;> first | (exfalso; omega) | skip) | refine run_block ?_ | refine run_ret ?_ | refine run_exit ?_ | refine run_skip ?_)
      | refine seqQ_normal ?_ | refine seqQ_exit ?_ | refine blockQ_eq ?_ | refine loopQ_exit ?_)
  · have hk : k < l.length := by omega
    refine j_storeE 0 k (g := encI) l[k] rfl rfl rfl rfl rfl rfl rfl rfl rfl (fun _ => rfl : ∀ y, (encI y).length = 1) rfl (by simp; omega) ?_
    repeat' (first
      | (refine j_go ?_; first
        | refine j_op0 rfl rfl rfl rfl ?_ | (refine j_kBin rfl ?_; first | refine j_in rfl rfl ⟨by omega, by omega⟩ rfl rfl ?_))
      | refine j_nil ?_
      | (refine r_go ?_; first | refine run_region ?_)
      | refine seqQ_normal ?_ | refine blockQ_normal ?_)
    exact loopQ_next (k + 1) (by omega) (by omega) (by rw [← take_rep_set hk]; rfl) ⟨rfl, rfl, nx _, trivial⟩
  · have : k = l.length := by omega
    subst this
    refine end_view (view_freeze (g := encI) (z := 1) (ys := l) 0 2 rfl rfl (by simp) (fun _ => rfl : ∀ y, (encI y).length = 1) rfl rfl) ?_
    exact end1 rfl (List.Sublist.refl _) rfl (.inl rfl)
theorem c_eqInt64S (a b : List (Int)) : Gives Try.prog 34 [.sl (a.map encI), .sl (b.map encI)] (.raw (.bool (dec (a = b)))) := by
  refine fn_of_run tyOk ztOk mix Try.func34 rfl (by decide) Try.ntmps34 (fun w0 h => ?_)
  refine run_len (t := 0) rfl (fun hla => ?_)
  refine run_len (t := 1) rfl (fun hlb => ?_)
  rw [List.length_map] at hla hlb
  repeat' (first
      | (refine j_go ?_; first
        | refine j_op0 rfl rfl rfl rfl ?_ | (refine j_kLen rfl ?_; first | refine j_len rfl rfl rfl rfl rfl rfl ?_))
      | refine j_nil ?_
      | (refine r_go ?_; first | refine run_seq ?_ | refine run_region ?_ | (refine (run_ifn rfl (fun hb => ?_) (fun hb => ?_)) <;> first | (exfalso; omega) | skip) | refine run_block ?_ | refine run_ret ?_ | refine run_skip ?_)
      | refine seqQ_normal ?_ | refine seqQ_ret ?_)
  · exact end1 rfl (List.Sublist.refl _) (rb (dec_f (fun q => hb (by rw [q]))).symm) (.inl rfl)
  · have hn : a.length = b.length := by omega
    refine run_loop (fun k : Nat => [(0, .sl (a.map encI)), (1, .sl (b.map encI)), (5, .int (k : Int))]) (fun _ => h) (fun k => k ≤ a.length ∧ a.take k = b.take k) (fun k => a.length - k) 0 ⟨rfl, rfl, rfl, trivial⟩ rfl ⟨by omega, rfl⟩ ?_
    intro k ⟨g1, g2⟩
    repeat' (first
      | (refine j_go ?_; first
        | refine j_op0 rfl rfl rfl rfl ?_ | (refine j_kIdx rfl ?_; first | refine j_idx rfl rfl rfl rfl rfl (by omega) rfl rfl rfl ?_) | (refine j_kBin rfl ?_; first | refine j_in rfl rfl ⟨by omega, by omega⟩ rfl rfl ?_) | (refine j_kLen rfl ?_; first | refine j_len rfl rfl rfl rfl rfl rfl ?_))
      | refine j_nil ?_
      | (refine r_go ?_; first | refine run_seq ?_ | refine run_region ?_ | (refine (run_if rfl (fun hb => ?_) (fun hb => ?_)) <;> first | (exfalso; omega) | skip) | (refine (run_ifn rfl (fun hb => ?_) (fun hb => ?_)) <;> first | (exfalso; omega) | skip) | refine run_block ?_ | refine run_ret ?_ | refine run_exit ?_ | refine run_skip ?_ | refine run_regionD (by kernel_rfl) ?_)
      | refine seqQ_normal ?_ | refine seqQ_ret ?_ | refine seqQ_exit ?_ | refine blockQ_normal ?_ | refine blockQ_ret ?_ | refine blockQ_eq ?_ | refine loopQ_ret ?_ | refine loopQ_exit ?_)
    · exact end1 rfl (List.Sublist.refl _) (rb (dec_f (fun q => hb (by subst q; rfl))).symm) (.inl rfl)
    · exact loopQ_next (k + 1) ⟨by omega, take_eq_succ g2 (by omega) (by omega) hb⟩ (by omega) rfl ⟨rfl, rfl, nx _, trivial⟩
    · have hk : k = a.length := by omega
      subst hk
      exact end1 rfl (List.Sublist.refl _) (rb (dec_t (by rw [List.take_length, hn, List.take_length] at g2; exact g2)).symm) (.inl rfl)
theorem c_szInt64SS (l : List (List Int)) (left : Int) (h1 : -1 ≤ left) (h2 : left ≤ 1048576) : Gives Try.prog 75 [.sl (l.map (encS encI)), .int left] (.int (szSl szR left l)) := by
  refine fn_of_run tyOk ztOk mix Try.func75 rfl (by decide) Try.ntmps75 (fun w0 h => ?_)
  refine run_len (t := 0) rfl (fun hl => ?_)
  rw [List.length_map] at hl
  repeat' (first
      | (refine j_go ?_; first
        | refine j_op0 rfl rfl rfl rfl ?_ | (refine j_kBin rfl ?_; first | refine j_in rfl rfl ⟨by omega, by omega⟩ rfl rfl ?_) | (refine j_kLen rfl ?_; first | refine j_len rfl rfl rfl rfl rfl rfl ?_))
      | refine j_nil ?_
      | (refine r_go ?_; first | refine run_seq ?_ | refine run_region ?_ | (refine (run_if rfl (fun hb => ?_) (fun hb => ?_)) <;> first | (exfalso; omega) | skip) | refine run_block ?_ | refine run_ret ?_ | refine run_skip ?_)
      | refine seqQ_normal ?_ | refine seqQ_ret ?_)
  · exact end1 rfl (List.Sublist.refl _) (by unfold szSl; rw [if_pos hb]; rfl) (.inl rfl)
  · unfold szSl
    rw [if_neg hb]
    refine run_loop (fun s : Nat × Int => [(0, .sl (l.map (encS encI))), (1, .int s.2), (5, .int (s.1 : Int))]) (fun _ => h)
      (fun s => s.1 ≤ l.length ∧ (-1 ≤ s.2 ∧ s.2 ≤ 1048576) ∧ szL szR (left - l.length) l = szL szR s.2 (l.drop s.1)) (fun s => l.length - s.1) (0, left - l.length) ⟨rfl, rfl, rfl, trivial⟩ rfl ⟨by omega, by omega, rfl⟩ ?_
    intro ⟨k, s⟩ ⟨g1, g2, g3⟩
    dsimp only at g1 g2 g3 ⊢
    have gn : ∀ (hk : k < l.length), szL szR s (l.drop k) = if szR s l[k] < 0 then -1 else szL szR (szR s l[k]) (l.drop (k + 1)) := fun hk => by
      rw [List.drop_eq_getElem_cons hk, szL]
    repeat' (first
      | (refine j_go ?_; first
        | refine j_op0 rfl rfl rfl rfl ?_ | (refine j_kIdx rfl ?_; first | refine j_idx rfl rfl rfl rfl rfl (by omega) rfl rfl rfl ?_) | (refine j_kBin rfl ?_; first | refine j_in rfl rfl ⟨by omega, by omega⟩ rfl rfl ?_) | (refine j_kLen rfl ?_; first | refine j_len rfl rfl rfl rfl rfl rfl ?_) | (refine j_kCall rfl rfl rfl rfl ?_; first | refine jc (c_szInt64S _ _ (by omega) (by omega)) (LeL.refl _) rfl rfl ?_))
      | refine j_nil ?_
      | (refine r_go ?_; first | refine run_seq ?_ | refine run_region ?_ | (refine (run_if rfl (fun hb => ?_) (fun hb => ?_)) <;> first | (exfalso; omega) | skip) | refine run_block ?_ | refine run_ret ?_ | refine run_exit ?_ | refine run_skip ?_)
      | refine seqQ_normal ?_ | refine seqQ_ret ?_ | refine seqQ_exit ?_ | refine blockQ_normal ?_ | refine blockQ_ret ?_ | refine blockQ_eq ?_ | refine loopQ_ret ?_ | refine loopQ_exit ?_)
    · rename_i hk
      exact end1 rfl (List.Sublist.refl _) (by rw [g3, gn (by omega), if_pos hb]; rfl) (.inl rfl)
    · rename_i hk
      have hk' : k < l.length := by omega
      exact loopQ_next (k + 1, szR s l[k]) ⟨by dsimp only; omega, szR_le (by omega) (by omega), by rw [g3, gn hk', if_neg hb]⟩ (by dsimp only; omega) rfl ⟨rfl, rfl, nx _, trivial⟩
    · have : k = l.length := by omega
      subst this
      exact end1 rfl (List.Sublist.refl _) (by rw [g3, List.drop_length, szL]) (.inl rfl)
theorem c_toInt64SS (l : List (List Int)) (hl : l.length ≤ 1048576) (hl2 : ∀ x ∈ l, (fun r => r.length ≤ 1048576) x) : Gives Try.prog 82 [.sl (l.map (encS encI))] (.sl (l.map (encS encI))) := by
  refine fn_of_run tyOk ztOk mix Try.func82 rfl (by decide) Try.ntmps82 (fun w0 h => ?_)
  repeat' (first
      | (refine j_go ?_; first
        | refine j_op0 rfl rfl rfl rfl ?_ | (refine j_kLen rfl ?_; first | refine j_len rfl rfl rfl rfl rfl rfl ?_))
      | refine j_nil ?_
      | (refine r_go ?_; first | refine run_seq ?_ | refine run_region ?_)
      | refine seqQ_normal ?_)
  refine j_makeI (g := (encS encI)) [] rfl rfl rfl rfl rfl rfl rfl rfl rfl (by omega) rfl rfl (fun b => ?_)
  repeat' (first
      | (refine j_go ?_; first
        | refine j_op0 rfl rfl rfl rfl ?_)
      | refine j_nil ?_
      | (refine r_go ?_; first | refine run_seq ?_ | refine run_region ?_ | refine run_block ?_)
      | refine seqQ_normal ?_)
  refine run_loop (fun k : Nat => [(0, .sl (l.map (encS encI))), (3, .os (some b) l.length l.length), (4, .int (k : Int))]) (fun k => ⟨some b, 22, l.length * 1, ((l.take k ++ List.replicate (l.length - k) []).map (encS encI)).flatten⟩ :: h)
      (fun k => k ≤ l.length) (fun k => l.length - k) 0 ⟨rfl, rfl, rfl, trivial⟩ (by simp) (by omega) ?_
  intro k g1
  repeat' (first
      | (refine j_go ?_; first
        | refine j_op0 rfl rfl rfl rfl ?_ | (refine j_kIdx rfl ?_; first | refine j_idx rfl rfl rfl rfl rfl (by omega) rfl rfl rfl ?_ | refine j_midx rfl rfl rfl rfl rfl (by first | omega | (simp only [List.length_append, List.length_cons, List.length_nil]; omega)) rfl rfl ?_) | (refine j_kLen rfl ?_; first | refine j_len rfl rfl rfl rfl rfl rfl ?_) | (refine j_kCall rfl rfl rfl rfl ?_; first | refine jc (c_toInt64S _ (hl2 _ (List.getElem_mem _))) (LeL.refl _) rfl rfl ?_))
      | refine j_nil ?_
      | (refine r_go ?_; first | refine run_seq ?_ | refine run_region ?_ | (refine (run_if rfl (fun hb => ?_) (fun hb => ?_)) <;> first | (exfalso; omega) | skip) | refine run_block ?_ | refine run_ret ?_ | refine run_exit ?_ | refine run_skip ?_)
      | refine seqQ_normal ?_ | refine seqQ_exit ?_ | refine blockQ_eq ?_ | refine loopQ_exit ?_)
  · have hk : k < l.length := by omega
    refine j_storeE 0 k (g := (encS encI)) l[k] rfl rfl rfl rfl rfl rfl rfl rfl rfl (fun _ => rfl : ∀ y, ((encS encI) y).length = 1) rfl (by simp; omega) ?_
    repeat' (first
      | (refine j_go ?_; first
        | refine j_op0 rfl rfl rfl rfl ?_ | (refine j_kBin rfl ?_; first | refine j_in rfl rfl ⟨by omega, by omega⟩ rfl rfl ?_))
      | refine j_nil ?_
      | (refine r_go ?_; first | refine run_region ?_)
      | refine seqQ_normal ?_ | refine blockQ_normal ?_)
    exact loopQ_next (k + 1) (by omega) (by omega) (by rw [← take_rep_set hk]; rfl) ⟨rfl, rfl, nx _, trivial⟩
  · have : k = l.length := by omega
    subst this
    refine end_view (view_freeze (g := (encS encI)) (z := 1) (ys := l) 0 2 rfl rfl (by simp) (fun _ => rfl : ∀ y, ((encS encI) y).length = 1) rfl rfl) ?_
    exact end1 rfl (List.Sublist.refl _) rfl (.inl rfl)
theorem c_eqInt64SS (a b : List (List Int)) : Gives Try.prog 18 [.sl (a.map (encS encI)), .sl (b.map (encS encI))] (.raw (.bool (dec (a = b)))) := by
  refine fn_of_run tyOk ztOk mix Try.func18 rfl (by decide) Try.ntmps18 (fun w0 h => ?_)
  refine run_len (t := 0) rfl (fun hla => ?_)
  refine run_len (t := 1) rfl (fun hlb => ?_)
  rw [List.length_map] at hla hlb
  repeat' (first
      | (refine j_go ?_; first
        | refine j_op0 rfl rfl rfl rfl ?_ | (refine j_kLen rfl ?_; first | refine j_len rfl rfl rfl rfl rfl rfl ?_))
      | refine j_nil ?_
      | (refine r_go ?_; first | refine run_seq ?_ | refine run_region ?_ | (refine (run_ifn rfl (fun hb => ?_) (fun hb => ?_)) <;> first | (exfalso; omega) | skip) | refine run_block ?_ | refine run_ret ?_ | refine run_skip ?_)
      | refine seqQ_normal ?_ | refine seqQ_ret ?_)
  · exact end1 rfl (List.Sublist.refl _) (rb (dec_f (fun q => hb (by rw [q]))).symm) (.inl rfl)
  · have hn : a.length = b.length := by omega
    refine run_loop (fun k : Nat => [(0, .sl (a.map (encS encI))), (1, .sl (b.map (encS encI))), (5, .int (k : Int))]) (fun _ => h) (fun k => k ≤ a.length ∧ a.take k = b.take k) (fun k => a.length - k) 0 ⟨rfl, rfl, rfl, trivial⟩ rfl ⟨by omega, rfl⟩ ?_
    intro k ⟨g1, g2⟩
    repeat' (first
      | (refine j_go ?_; first
        | refine j_op0 rfl rfl rfl rfl ?_ | (refine j_kIdx rfl ?_; first | refine j_idx rfl rfl rfl rfl rfl (by omega) rfl rfl rfl ?_) | (refine j_kBin rfl ?_; first | refine j_in rfl rfl ⟨by omega, by omega⟩ rfl rfl ?_) | (refine j_kLen rfl ?_; first | refine j_len rfl rfl rfl rfl rfl rfl ?_) | (refine j_kCall rfl rfl rfl rfl ?_; first | refine jc (c_eqInt64S _ _) (LeL.refl _) rfl rfl ?_))
      | refine j_nil ?_
      | (refine r_go ?_; first | refine run_seq ?_ | refine run_region ?_ | (refine (run_if rfl (fun hb => ?_) (fun hb => ?_)) <;> first | (exfalso; omega) | skip) | (refine (run_ifn rfl (fun hb => ?_) (fun hb => ?_)) <;> first | (exfalso; omega) | skip) | refine run_block ?_ | refine run_ret ?_ | refine run_exit ?_ | refine run_skip ?_ | refine run_regionD (by kernel_rfl) ?_)
      | refine seqQ_normal ?_ | refine seqQ_ret ?_ | refine seqQ_exit ?_ | refine blockQ_normal ?_ | refine blockQ_ret ?_ | refine blockQ_eq ?_ | refine loopQ_ret ?_ | refine loopQ_exit ?_)
    · exact end1 rfl (List.Sublist.refl _) (rb (dec_f (fun q => hb (by subst q; rfl))).symm) (.inl rfl)
    · exact loopQ_next (k + 1) ⟨by omega, take_eq_succ g2 (by omega) (by omega) hb⟩ (by omega) rfl ⟨rfl, rfl, nx _, trivial⟩
    · have hk : k = a.length := by omega
      subst hk
      exact end1 rfl (List.Sublist.refl _) (rb (dec_t (by rw [List.take_length, hn, List.take_length] at g2; exact g2)).symm) (.inl rfl)
end Go.Proofs.Ytgjlemedckhlfaa
