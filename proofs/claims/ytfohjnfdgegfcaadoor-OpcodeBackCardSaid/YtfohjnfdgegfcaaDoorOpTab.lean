/-
  What opcode.Of, opcode.Known and gannetref23.Of answer to each byte. Conditions: none.
-/
import Derived.Test.YtfohjnfdgegfcaaDoorTabA0
import Derived.Test.YtfohjnfdgegfcaaDoorTabA1
import Derived.Test.YtfohjnfdgegfcaaDoorTabA2
import Derived.Test.YtfohjnfdgegfcaaDoorTabA3
import Derived.Test.YtfohjnfdgegfcaaDoorTabB0
import Derived.Test.YtfohjnfdgegfcaaDoorTabB1
import Derived.Test.YtfohjnfdgegfcaaDoorTabB2
import Derived.Test.YtfohjnfdgegfcaaDoorTabB3
namespace Go.Proofs.YtfohjnfdgegfcaaDoor
open Go Go.AE
set_option maxRecDepth 100000
/-- Of each byte: name, mode, size, cycles; whether it is known. -/
def opsO : List (Nat × List UInt8 × Nat × Nat × Nat × Bool) := [
  (0, [66, 82, 75], 1, 2, 8, true),
  (1, [79, 82, 65], 9, 2, 7, true),
  (2, [83, 88, 89], 0, 1, 3, true),
  (3, [83, 84, 48], 1, 2, 4, true),
  (4, [84, 83, 66], 2, 2, 6, true),
  (5, [79, 82, 65], 2, 2, 4, true),
  (6, [65, 83, 76], 2, 2, 6, true),
  (7, [82, 77, 66, 48], 2, 2, 7, true),
  (8, [80, 72, 80], 0, 1, 3, true),
  (9, [79, 82, 65], 1, 2, 2, true),
  (10, [65, 83, 76], 0, 1, 2, true),
  (11, [78, 79, 80], 0, 1, 2, false),
  (12, [84, 83, 66], 5, 3, 7, true),
  (13, [79, 82, 65], 5, 3, 5, true),
  (14, [65, 83, 76], 5, 3, 7, true),
  (15, [66, 66, 82, 48], 12, 3, 6, true),
  (16, [66, 80, 76], 11, 2, 2, true),
  (17, [79, 82, 65], 10, 2, 7, true),
  (18, [79, 82, 65], 8, 2, 7, true),
  (19, [83, 84, 49], 1, 2, 4, true),
  (20, [84, 82, 66], 2, 2, 6, true),
  (21, [79, 82, 65], 3, 2, 4, true),
  (22, [65, 83, 76], 3, 2, 6, true),
  (23, [82, 77, 66, 49], 2, 2, 7, true),
  (24, [67, 76, 67], 0, 1, 2, true),
  (25, [79, 82, 65], 7, 3, 5, true),
  (26, [73, 78, 67], 0, 1, 2, true),
  (27, [78, 79, 80], 0, 1, 2, false),
  (28, [84, 82, 66], 5, 3, 7, true),
  (29, [79, 82, 65], 6, 3, 5, true),
  (30, [65, 83, 76], 6, 3, 7, true),
  (31, [66, 66, 82, 49], 12, 3, 6, true),
  (32, [74, 83, 82], 5, 3, 7, true),
  (33, [65, 78, 68], 9, 2, 7, true),
  (34, [83, 65, 88], 0, 1, 3, true),
  (35, [83, 84, 50], 1, 2, 4, true),
  (36, [66, 73, 84], 2, 2, 4, true),
  (37, [65, 78, 68], 2, 2, 4, true),
  (38, [82, 79, 76], 2, 2, 6, true),
  (39, [82, 77, 66, 50], 2, 2, 7, true),
  (40, [80, 76, 80], 0, 1, 4, true),
  (41, [65, 78, 68], 1, 2, 2, true),
  (42, [82, 79, 76], 0, 1, 2, true),
  (43, [78, 79, 80], 0, 1, 2, false),
  (44, [66, 73, 84], 5, 3, 5, true),
  (45, [65, 78, 68], 5, 3, 5, true),
  (46, [82, 79, 76], 5, 3, 7, true),
  (47, [66, 66, 82, 50], 12, 3, 6, true),
  (48, [66, 77, 73], 11, 2, 2, true),
  (49, [65, 78, 68], 10, 2, 7, true),
  (50, [65, 78, 68], 8, 2, 7, true),
  (51, [78, 79, 80], 0, 1, 2, false),
  (52, [66, 73, 84], 3, 2, 4, true),
  (53, [65, 78, 68], 3, 2, 4, true),
  (54, [82, 79, 76], 3, 2, 6, true),
  (55, [82, 77, 66, 51], 2, 2, 7, true),
  (56, [83, 69, 67], 0, 1, 2, true),
  (57, [65, 78, 68], 7, 3, 5, true),
  (58, [68, 69, 67], 0, 1, 2, true),
  (59, [78, 79, 80], 0, 1, 2, false),
  (60, [66, 73, 84], 6, 3, 5, true),
  (61, [65, 78, 68], 6, 3, 5, true),
  (62, [82, 79, 76], 6, 3, 7, true),
  (63, [66, 66, 82, 51], 12, 3, 6, true),
  (64, [82, 84, 73], 0, 1, 7, true),
  (65, [69, 79, 82], 9, 2, 7, true),
  (66, [83, 65, 89], 0, 1, 3, true),
  (67, [84, 77, 65], 1, 2, 4, true),
  (68, [66, 83, 82], 11, 2, 8, true),
  (69, [69, 79, 82], 2, 2, 4, true),
  (70, [76, 83, 82], 2, 2, 6, true),
  (71, [82, 77, 66, 52], 2, 2, 7, true),
  (72, [80, 72, 65], 0, 1, 3, true),
  (73, [69, 79, 82], 1, 2, 2, true),
  (74, [76, 83, 82], 0, 1, 2, true),
  (75, [78, 79, 80], 0, 1, 2, false),
  (76, [74, 77, 80], 5, 3, 4, true),
  (77, [69, 79, 82], 5, 3, 5, true),
  (78, [76, 83, 82], 5, 3, 7, true),
  (79, [66, 66, 82, 52], 12, 3, 6, true),
  (80, [66, 86, 67], 11, 2, 2, true),
  (81, [69, 79, 82], 10, 2, 7, true),
  (82, [69, 79, 82], 8, 2, 7, true),
  (83, [84, 65, 77], 1, 2, 5, true),
  (84, [67, 83, 76], 0, 1, 3, true),
  (85, [69, 79, 82], 3, 2, 4, true),
  (86, [76, 83, 82], 3, 2, 6, true),
  (87, [82, 77, 66, 53], 2, 2, 7, true),
  (88, [67, 76, 73], 0, 1, 2, true),
  (89, [69, 79, 82], 7, 3, 5, true),
  (90, [80, 72, 89], 0, 1, 3, true),
  (91, [78, 79, 80], 0, 1, 2, false),
  (92, [78, 79, 80], 0, 1, 2, false),
  (93, [69, 79, 82], 6, 3, 5, true),
  (94, [76, 83, 82], 6, 3, 7, true),
  (95, [66, 66, 82, 53], 12, 3, 6, true),
  (96, [82, 84, 83], 0, 1, 7, true),
  (97, [65, 68, 67], 9, 2, 7, true),
  (98, [67, 76, 65], 0, 1, 2, true),
  (99, [78, 79, 80], 0, 1, 2, false),
  (100, [83, 84, 90], 2, 2, 4, true),
  (101, [65, 68, 67], 2, 2, 4, true),
  (102, [82, 79, 82], 2, 2, 6, true),
  (103, [82, 77, 66, 54], 2, 2, 7, true),
  (104, [80, 76, 65], 0, 1, 4, true),
  (105, [65, 68, 67], 1, 2, 2, true),
  (106, [82, 79, 82], 0, 1, 2, true),
  (107, [78, 79, 80], 0, 1, 2, false),
  (108, [74, 77, 80], 17, 3, 7, true),
  (109, [65, 68, 67], 5, 3, 5, true),
  (110, [82, 79, 82], 5, 3, 7, true),
  (111, [66, 66, 82, 54], 12, 3, 6, true),
  (112, [66, 86, 83], 11, 2, 2, true),
  (113, [65, 68, 67], 10, 2, 7, true),
  (114, [65, 68, 67], 8, 2, 7, true),
  (115, [84, 73, 73], 19, 7, 17, true),
  (116, [83, 84, 90], 3, 2, 4, true),
  (117, [65, 68, 67], 3, 2, 4, true),
  (118, [82, 79, 82], 3, 2, 6, true),
  (119, [82, 77, 66, 55], 2, 2, 7, true),
  (120, [83, 69, 73], 0, 1, 2, true),
  (121, [65, 68, 67], 7, 3, 5, true),
  (122, [80, 76, 89], 0, 1, 4, true),
  (123, [78, 79, 80], 0, 1, 2, false),
  (124, [74, 77, 80], 18, 3, 7, true),
  (125, [65, 68, 67], 6, 3, 5, true),
  (126, [82, 79, 82], 6, 3, 7, true),
  (127, [66, 66, 82, 55], 12, 3, 6, true),
  (128, [66, 82, 65], 11, 2, 4, true),
  (129, [83, 84, 65], 9, 2, 7, true),
  (130, [67, 76, 88], 0, 1, 2, true),
  (131, [84, 83, 84], 13, 3, 7, true),
  (132, [83, 84, 89], 2, 2, 4, true),
  (133, [83, 84, 65], 2, 2, 4, true),
  (134, [83, 84, 88], 2, 2, 4, true),
  (135, [83, 77, 66, 48], 2, 2, 7, true),
  (136, [68, 69, 89], 0, 1, 2, true),
  (137, [66, 73, 84], 1, 2, 2, true),
  (138, [84, 88, 65], 0, 1, 2, true),
  (139, [78, 79, 80], 0, 1, 2, false),
  (140, [83, 84, 89], 5, 3, 5, true),
  (141, [83, 84, 65], 5, 3, 5, true),
  (142, [83, 84, 88], 5, 3, 5, true),
  (143, [66, 66, 83, 48], 12, 3, 6, true),
  (144, [66, 67, 67], 11, 2, 2, true),
  (145, [83, 84, 65], 10, 2, 7, true),
  (146, [83, 84, 65], 8, 2, 7, true),
  (147, [84, 83, 84], 15, 4, 8, true),
  (148, [83, 84, 89], 3, 2, 4, true),
  (149, [83, 84, 65], 3, 2, 4, true),
  (150, [83, 84, 88], 4, 2, 4, true),
  (151, [83, 77, 66, 49], 2, 2, 7, true),
  (152, [84, 89, 65], 0, 1, 2, true),
  (153, [83, 84, 65], 7, 3, 5, true),
  (154, [84, 88, 83], 0, 1, 2, true),
  (155, [78, 79, 80], 0, 1, 2, false),
  (156, [83, 84, 90], 5, 3, 5, true),
  (157, [83, 84, 65], 6, 3, 5, true),
  (158, [83, 84, 90], 6, 3, 5, true),
  (159, [66, 66, 83, 49], 12, 3, 6, true),
  (160, [76, 68, 89], 1, 2, 2, true),
  (161, [76, 68, 65], 9, 2, 7, true),
  (162, [76, 68, 88], 1, 2, 2, true),
  (163, [84, 83, 84], 14, 3, 7, true),
  (164, [76, 68, 89], 2, 2, 4, true),
  (165, [76, 68, 65], 2, 2, 4, true),
  (166, [76, 68, 88], 2, 2, 4, true),
  (167, [83, 77, 66, 50], 2, 2, 7, true),
  (168, [84, 65, 89], 0, 1, 2, true),
  (169, [76, 68, 65], 1, 2, 2, true),
  (170, [84, 65, 88], 0, 1, 2, true),
  (171, [78, 79, 80], 0, 1, 2, false),
  (172, [76, 68, 89], 5, 3, 5, true),
  (173, [76, 68, 65], 5, 3, 5, true),
  (174, [76, 68, 88], 5, 3, 5, true),
  (175, [66, 66, 83, 50], 12, 3, 6, true),
  (176, [66, 67, 83], 11, 2, 2, true),
  (177, [76, 68, 65], 10, 2, 7, true),
  (178, [76, 68, 65], 8, 2, 7, true),
  (179, [84, 83, 84], 16, 4, 8, true),
  (180, [76, 68, 89], 3, 2, 4, true),
  (181, [76, 68, 65], 3, 2, 4, true),
  (182, [76, 68, 88], 4, 2, 4, true),
  (183, [83, 77, 66, 51], 2, 2, 7, true),
  (184, [67, 76, 86], 0, 1, 2, true),
  (185, [76, 68, 65], 7, 3, 5, true),
  (186, [84, 83, 88], 0, 1, 2, true),
  (187, [78, 79, 80], 0, 1, 2, false),
  (188, [76, 68, 89], 6, 3, 5, true),
  (189, [76, 68, 65], 6, 3, 5, true),
  (190, [76, 68, 88], 7, 3, 5, true),
  (191, [66, 66, 83, 51], 12, 3, 6, true),
  (192, [67, 80, 89], 1, 2, 2, true),
  (193, [67, 77, 80], 9, 2, 7, true),
  (194, [67, 76, 89], 0, 1, 2, true),
  (195, [84, 68, 68], 19, 7, 17, true),
  (196, [67, 80, 89], 2, 2, 4, true),
  (197, [67, 77, 80], 2, 2, 4, true),
  (198, [68, 69, 67], 2, 2, 6, true),
  (199, [83, 77, 66, 52], 2, 2, 7, true),
  (200, [73, 78, 89], 0, 1, 2, true),
  (201, [67, 77, 80], 1, 2, 2, true),
  (202, [68, 69, 88], 0, 1, 2, true),
  (203, [78, 79, 80], 0, 1, 2, false),
  (204, [67, 80, 89], 5, 3, 5, true),
  (205, [67, 77, 80], 5, 3, 5, true),
  (206, [68, 69, 67], 5, 3, 7, true),
  (207, [66, 66, 83, 52], 12, 3, 6, true),
  (208, [66, 78, 69], 11, 2, 2, true),
  (209, [67, 77, 80], 10, 2, 7, true),
  (210, [67, 77, 80], 8, 2, 7, true),
  (211, [84, 73, 78], 19, 7, 17, true),
  (212, [67, 83, 72], 0, 1, 3, true),
  (213, [67, 77, 80], 3, 2, 4, true),
  (214, [68, 69, 67], 3, 2, 6, true),
  (215, [83, 77, 66, 53], 2, 2, 7, true),
  (216, [67, 76, 68], 0, 1, 2, true),
  (217, [67, 77, 80], 7, 3, 5, true),
  (218, [80, 72, 88], 0, 1, 3, true),
  (219, [78, 79, 80], 0, 1, 2, false),
  (220, [78, 79, 80], 0, 1, 2, false),
  (221, [67, 77, 80], 6, 3, 5, true),
  (222, [68, 69, 67], 6, 3, 7, true),
  (223, [66, 66, 83, 53], 12, 3, 6, true),
  (224, [67, 80, 88], 1, 2, 2, true),
  (225, [83, 66, 67], 9, 2, 7, true),
  (226, [78, 79, 80], 0, 1, 2, false),
  (227, [84, 73, 65], 19, 7, 17, true),
  (228, [67, 80, 88], 2, 2, 4, true),
  (229, [83, 66, 67], 2, 2, 4, true),
  (230, [73, 78, 67], 2, 2, 6, true),
  (231, [83, 77, 66, 54], 2, 2, 7, true),
  (232, [73, 78, 88], 0, 1, 2, true),
  (233, [83, 66, 67], 1, 2, 2, true),
  (234, [78, 79, 80], 0, 1, 2, true),
  (235, [78, 79, 80], 0, 1, 2, false),
  (236, [67, 80, 88], 5, 3, 5, true),
  (237, [83, 66, 67], 5, 3, 5, true),
  (238, [73, 78, 67], 5, 3, 7, true),
  (239, [66, 66, 83, 54], 12, 3, 6, true),
  (240, [66, 69, 81], 11, 2, 2, true),
  (241, [83, 66, 67], 10, 2, 7, true),
  (242, [83, 66, 67], 8, 2, 7, true),
  (243, [84, 65, 73], 19, 7, 17, true),
  (244, [83, 69, 84], 0, 1, 2, true),
  (245, [83, 66, 67], 3, 2, 4, true),
  (246, [73, 78, 67], 3, 2, 6, true),
  (247, [83, 77, 66, 55], 2, 2, 7, true),
  (248, [83, 69, 68], 0, 1, 2, true),
  (249, [83, 66, 67], 7, 3, 5, true),
  (250, [80, 76, 88], 0, 1, 4, true),
  (251, [78, 79, 80], 0, 1, 2, false),
  (252, [78, 79, 80], 0, 1, 2, false),
  (253, [83, 66, 67], 6, 3, 5, true),
  (254, [73, 78, 67], 6, 3, 7, true),
  (255, [66, 66, 83, 55], 12, 3, 6, true)]
def tab34 : List Ent := tab34_0 ++ (tab34_1 ++ (tab34_2 ++ (tab34_3)))
theorem ok34 : ∀ e ∈ tab34, EntIs Tryd.prog 34 e := by
  intro e he
  simp only [tab34, List.mem_append] at he
  rcases he with h | h | h | h
  · exact ok34_0 e h
  · exact ok34_1 e h
  · exact ok34_2 e h
  · exact ok34_3 e h
def tab20 : List Ent := tab20_0 ++ (tab20_1 ++ (tab20_2 ++ (tab20_3)))
theorem ok20 : ∀ e ∈ tab20, EntIs Tryd.prog 20 e := by
  intro e he
  simp only [tab20, List.mem_append] at he
  rcases he with h | h | h | h
  · exact ok20_0 e h
  · exact ok20_1 e h
  · exact ok20_2 e h
  · exact ok20_3 e h
def tab35 : List Ent := opsO.map fun p => ⟨[By p.1], .bool p.2.2.2.2.2, []⟩
theorem ok35_0 : entsOk T shelfO 1000 300 20 Tryd.f35 (codeOf Tryd.f35) ((tab35.drop 0).take 32) = true := by kernel_rfl
theorem ok35_1 : entsOk T shelfO 1000 300 20 Tryd.f35 (codeOf Tryd.f35) ((tab35.drop 32).take 32) = true := by kernel_rfl
theorem ok35_2 : entsOk T shelfO 1000 300 20 Tryd.f35 (codeOf Tryd.f35) ((tab35.drop 64).take 32) = true := by kernel_rfl
theorem ok35_3 : entsOk T shelfO 1000 300 20 Tryd.f35 (codeOf Tryd.f35) ((tab35.drop 96).take 32) = true := by kernel_rfl
theorem ok35_4 : entsOk T shelfO 1000 300 20 Tryd.f35 (codeOf Tryd.f35) ((tab35.drop 128).take 32) = true := by kernel_rfl
theorem ok35_5 : entsOk T shelfO 1000 300 20 Tryd.f35 (codeOf Tryd.f35) ((tab35.drop 160).take 32) = true := by kernel_rfl
theorem ok35_6 : entsOk T shelfO 1000 300 20 Tryd.f35 (codeOf Tryd.f35) ((tab35.drop 192).take 32) = true := by kernel_rfl
theorem ok35_7 : entsOk T shelfO 1000 300 20 Tryd.f35 (codeOf Tryd.f35) ((tab35.drop 224).take 32) = true := by kernel_rfl
theorem ok35 : ∀ e ∈ tab35, EntIs Tryd.prog 35 e := by
  have h0 := entsOk_ok (f := 35) Tryd.func35 rfl ok35_0
  have h1 := entsOk_ok (f := 35) Tryd.func35 rfl ok35_1
  have h2 := entsOk_ok (f := 35) Tryd.func35 rfl ok35_2
  have h3 := entsOk_ok (f := 35) Tryd.func35 rfl ok35_3
  have h4 := entsOk_ok (f := 35) Tryd.func35 rfl ok35_4
  have h5 := entsOk_ok (f := 35) Tryd.func35 rfl ok35_5
  have h6 := entsOk_ok (f := 35) Tryd.func35 rfl ok35_6
  have h7 := entsOk_ok (f := 35) Tryd.func35 rfl ok35_7
  intro e he
  have hs : tab35 = (tab35.drop 0).take 32 ++ ((tab35.drop 32).take 32 ++ ((tab35.drop 64).take 32 ++ ((tab35.drop 96).take 32 ++ ((tab35.drop 128).take 32 ++ ((tab35.drop 160).take 32 ++ ((tab35.drop 192).take 32 ++ ((tab35.drop 224).take 32))))))) := by kernel_rfl
  rw [hs] at he
  simp only [List.mem_append] at he
  rcases he with h | h | h | h | h | h | h | h
  · exact h0 e h
  · exact h1 e h
  · exact h2 e h
  · exact h3 e h
  · exact h4 e h
  · exact h5 e h
  · exact h6 e h
  · exact h7 e h
theorem t34 : tab34 = opsO.map fun p => o34 p.1 p.2.1 p.2.2.1 p.2.2.2.1 p.2.2.2.2.1 := by kernel_rfl
theorem t20 : tab20 = opsO.map fun p => o20 p.1 p.2.1 p.2.2.1 p.2.2.2.1 p.2.2.2.2.1 p.2.2.2.2.2 := by kernel_rfl
theorem ix : opsO.map (·.1) = List.range 256 := by kernel_rfl
/-- What a byte means. -/
structure OpR where
  name : List UInt8
  mode : Nat
  size : Nat
  cycles : Nat
  known : Bool
def opR (b : Nat) : OpR := match opsO[b]? with
  | some p => ⟨p.2.1, p.2.2.1, p.2.2.2.1, p.2.2.2.2.1, p.2.2.2.2.2⟩
  | none => ⟨[], 0, 0, 0, false⟩
theorem opAt (b : Nat) (hb : b < 256) : (b, (opR b).name, (opR b).mode, (opR b).size, (opR b).cycles, (opR b).known) ∈ opsO := by
  have hlen : opsO.length = 256 := by simpa using congrArg List.length ix
  have hb' : b < opsO.length := by omega
  have h1 : (opsO[b]).1 = b := by
    have h : (opsO.map (·.1))[b]'(by simp; omega) = (List.range 256)[b]'(by simp; omega) := by
      congr 1 <;> exact ix
    simpa using h
  have : (b, (opR b).name, (opR b).mode, (opR b).size, (opR b).cycles, (opR b).known) = opsO[b] := by
    simp only [opR, List.getElem?_eq_getElem hb']
    exact Prod.ext h1.symm rfl
  rw [this]
  exact List.getElem_mem hb'
theorem of34 (b : Nat) (hb : b < 256) : EntIs Tryd.prog 34 (o34 b (opR b).name (opR b).mode (opR b).size (opR b).cycles) := ok34 _ (by rw [t34]; exact List.mem_map.2 ⟨_, opAt b hb, rfl⟩)
theorem of20 (b : Nat) (hb : b < 256) : EntIs Tryd.prog 20 (o20 b (opR b).name (opR b).mode (opR b).size (opR b).cycles (opR b).known) := ok20 _ (by rw [t20]; exact List.mem_map.2 ⟨_, opAt b hb, rfl⟩)
theorem of35 (b : Nat) (hb : b < 256) : EntIs Tryd.prog 35 ⟨[By b], .bool (opR b).known, []⟩ := ok35 _ (List.mem_map.2 ⟨_, opAt b hb, rfl⟩)
end Go.Proofs.YtfohjnfdgegfcaaDoor
