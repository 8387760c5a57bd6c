/-
  Of every byte, by facts: its letters, as the program and as the document write them. Conditions: none.
-/
import Derived.Test.YtfohjnfdgegfcaaDoorTimSym
import Derived.Test.YtfohjnfdgegfcaaDoorTimA0
import Derived.Test.YtfohjnfdgegfcaaDoorTimA1
import Derived.Test.YtfohjnfdgegfcaaDoorTimA2
import Derived.Test.YtfohjnfdgegfcaaDoorTimA3
import Derived.Test.YtfohjnfdgegfcaaDoorTimL0
import Derived.Test.YtfohjnfdgegfcaaDoorTimL1
import Derived.Test.YtfohjnfdgegfcaaDoorTimL2
import Derived.Test.YtfohjnfdgegfcaaDoorTimL3
namespace Go.Proofs.YtfohjnfdgegfcaaDoor
open Go Go.AE
set_option maxRecDepth 100000
/-- Of each byte: name, mode, size, cycles; whether it is known. -/
def opsL : List (Nat × List UInt8 × Nat × Nat × Nat × Bool) := [
  (0, [66, 82, 75], 1, 2, 8, true),
  (1, [79, 82, 65], 9, 2, 7, true),
  (2, [83, 88, 89], 0, 1, 3, true),
  (3, [83, 84, 48], 1, 2, 4, true),
  (4, [84, 83, 66], 2, 2, 6, true),
  (5, [79, 82, 65], 2, 2, 4, true),
  (6, [65, 83, 76], 2, 2, 6, true),
  (7, [82, 77, 66, 48], 2, 2, 7, true),
  (8, [80, 72, 80], 0, 1, 3, true),
  (9, [79, 82, 65], 1, 2, 2, true),
  (10, [65, 83, 76], 0, 1, 2, true),
  (11, [78, 79, 80], 0, 1, 2, false),
  (12, [84, 83, 66], 5, 3, 7, true),
  (13, [79, 82, 65], 5, 3, 5, true),
  (14, [65, 83, 76], 5, 3, 7, true),
  (15, [66, 66, 82, 48], 12, 3, 6, true),
  (16, [66, 80, 76], 11, 2, 2, true),
  (17, [79, 82, 65], 10, 2, 7, true),
  (18, [79, 82, 65], 8, 2, 7, true),
  (19, [83, 84, 49], 1, 2, 4, true),
  (20, [84, 82, 66], 2, 2, 6, true),
  (21, [79, 82, 65], 3, 2, 4, true),
  (22, [65, 83, 76], 3, 2, 6, true),
  (23, [82, 77, 66, 49], 2, 2, 7, true),
  (24, [67, 76, 67], 0, 1, 2, true),
  (25, [79, 82, 65], 7, 3, 5, true),
  (26, [73, 78, 67], 0, 1, 2, true),
  (27, [78, 79, 80], 0, 1, 2, false),
  (28, [84, 82, 66], 5, 3, 7, true),
  (29, [79, 82, 65], 6, 3, 5, true),
  (30, [65, 83, 76], 6, 3, 7, true),
  (31, [66, 66, 82, 49], 12, 3, 6, true),
  (32, [74, 83, 82], 5, 3, 7, true),
  (33, [65, 78, 68], 9, 2, 7, true),
  (34, [83, 65, 88], 0, 1, 3, true),
  (35, [83, 84, 50], 1, 2, 4, true),
  (36, [66, 73, 84], 2, 2, 4, true),
  (37, [65, 78, 68], 2, 2, 4, true),
  (38, [82, 79, 76], 2, 2, 6, true),
  (39, [82, 77, 66, 50], 2, 2, 7, true),
  (40, [80, 76, 80], 0, 1, 4, true),
  (41, [65, 78, 68], 1, 2, 2, true),
  (42, [82, 79, 76], 0, 1, 2, true),
  (43, [78, 79, 80], 0, 1, 2, false),
  (44, [66, 73, 84], 5, 3, 5, true),
  (45, [65, 78, 68], 5, 3, 5, true),
  (46, [82, 79, 76], 5, 3, 7, true),
  (47, [66, 66, 82, 50], 12, 3, 6, true),
  (48, [66, 77, 73], 11, 2, 2, true),
  (49, [65, 78, 68], 10, 2, 7, true),
  (50, [65, 78, 68], 8, 2, 7, true),
  (51, [78, 79, 80], 0, 1, 2, false),
  (52, [66, 73, 84], 3, 2, 4, true),
  (53, [65, 78, 68], 3, 2, 4, true),
  (54, [82, 79, 76], 3, 2, 6, true),
  (55, [82, 77, 66, 51], 2, 2, 7, true),
  (56, [83, 69, 67], 0, 1, 2, true),
  (57, [65, 78, 68], 7, 3, 5, true),
  (58, [68, 69, 67], 0, 1, 2, true),
  (59, [78, 79, 80], 0, 1, 2, false),
  (60, [66, 73, 84], 6, 3, 5, true),
  (61, [65, 78, 68], 6, 3, 5, true),
  (62, [82, 79, 76], 6, 3, 7, true),
  (63, [66, 66, 82, 51], 12, 3, 6, true),
  (64, [82, 84, 73], 0, 1, 7, true),
  (65, [69, 79, 82], 9, 2, 7, true),
  (66, [83, 65, 89], 0, 1, 3, true),
  (67, [84, 77, 65], 1, 2, 4, true),
  (68, [66, 83, 82], 11, 2, 8, true),
  (69, [69, 79, 82], 2, 2, 4, true),
  (70, [76, 83, 82], 2, 2, 6, true),
  (71, [82, 77, 66, 52], 2, 2, 7, true),
  (72, [80, 72, 65], 0, 1, 3, true),
  (73, [69, 79, 82], 1, 2, 2, true),
  (74, [76, 83, 82], 0, 1, 2, true),
  (75, [78, 79, 80], 0, 1, 2, false),
  (76, [74, 77, 80], 5, 3, 4, true),
  (77, [69, 79, 82], 5, 3, 5, true),
  (78, [76, 83, 82], 5, 3, 7, true),
  (79, [66, 66, 82, 52], 12, 3, 6, true),
  (80, [66, 86, 67], 11, 2, 2, true),
  (81, [69, 79, 82], 10, 2, 7, true),
  (82, [69, 79, 82], 8, 2, 7, true),
  (83, [84, 65, 77], 1, 2, 5, true),
  (84, [67, 83, 76], 0, 1, 3, true),
  (85, [69, 79, 82], 3, 2, 4, true),
  (86, [76, 83, 82], 3, 2, 6, true),
  (87, [82, 77, 66, 53], 2, 2, 7, true),
  (88, [67, 76, 73], 0, 1, 2, true),
  (89, [69, 79, 82], 7, 3, 5, true),
  (90, [80, 72, 89], 0, 1, 3, true),
  (91, [78, 79, 80], 0, 1, 2, false),
  (92, [78, 79, 80], 0, 1, 2, false),
  (93, [69, 79, 82], 6, 3, 5, true),
  (94, [76, 83, 82], 6, 3, 7, true),
  (95, [66, 66, 82, 53], 12, 3, 6, true),
  (96, [82, 84, 83], 0, 1, 7, true),
  (97, [65, 68, 67], 9, 2, 7, true),
  (98, [67, 76, 65], 0, 1, 2, true),
  (99, [78, 79, 80], 0, 1, 2, false),
  (100, [83, 84, 90], 2, 2, 4, true),
  (101, [65, 68, 67], 2, 2, 4, true),
  (102, [82, 79, 82], 2, 2, 6, true),
  (103, [82, 77, 66, 54], 2, 2, 7, true),
  (104, [80, 76, 65], 0, 1, 4, true),
  (105, [65, 68, 67], 1, 2, 2, true),
  (106, [82, 79, 82], 0, 1, 2, true),
  (107, [78, 79, 80], 0, 1, 2, false),
  (108, [74, 77, 80], 17, 3, 7, true),
  (109, [65, 68, 67], 5, 3, 5, true),
  (110, [82, 79, 82], 5, 3, 7, true),
  (111, [66, 66, 82, 54], 12, 3, 6, true),
  (112, [66, 86, 83], 11, 2, 2, true),
  (113, [65, 68, 67], 10, 2, 7, true),
  (114, [65, 68, 67], 8, 2, 7, true),
  (115, [84, 73, 73], 19, 7, 17, true),
  (116, [83, 84, 90], 3, 2, 4, true),
  (117, [65, 68, 67], 3, 2, 4, true),
  (118, [82, 79, 82], 3, 2, 6, true),
  (119, [82, 77, 66, 55], 2, 2, 7, true),
  (120, [83, 69, 73], 0, 1, 2, true),
  (121, [65, 68, 67], 7, 3, 5, true),
  (122, [80, 76, 89], 0, 1, 4, true),
  (123, [78, 79, 80], 0, 1, 2, false),
  (124, [74, 77, 80], 18, 3, 7, true),
  (125, [65, 68, 67], 6, 3, 5, true),
  (126, [82, 79, 82], 6, 3, 7, true),
  (127, [66, 66, 82, 55], 12, 3, 6, true),
  (128, [66, 82, 65], 11, 2, 4, true),
  (129, [83, 84, 65], 9, 2, 7, true),
  (130, [67, 76, 88], 0, 1, 2, true),
  (131, [84, 83, 84], 13, 3, 7, true),
  (132, [83, 84, 89], 2, 2, 4, true),
  (133, [83, 84, 65], 2, 2, 4, true),
  (134, [83, 84, 88], 2, 2, 4, true),
  (135, [83, 77, 66, 48], 2, 2, 7, true),
  (136, [68, 69, 89], 0, 1, 2, true),
  (137, [66, 73, 84], 1, 2, 2, true),
  (138, [84, 88, 65], 0, 1, 2, true),
  (139, [78, 79, 80], 0, 1, 2, false),
  (140, [83, 84, 89], 5, 3, 5, true),
  (141, [83, 84, 65], 5, 3, 5, true),
  (142, [83, 84, 88], 5, 3, 5, true),
  (143, [66, 66, 83, 48], 12, 3, 6, true),
  (144, [66, 67, 67], 11, 2, 2, true),
  (145, [83, 84, 65], 10, 2, 7, true),
  (146, [83, 84, 65], 8, 2, 7, true),
  (147, [84, 83, 84], 15, 4, 8, true),
  (148, [83, 84, 89], 3, 2, 4, true),
  (149, [83, 84, 65], 3, 2, 4, true),
  (150, [83, 84, 88], 4, 2, 4, true),
  (151, [83, 77, 66, 49], 2, 2, 7, true),
  (152, [84, 89, 65], 0, 1, 2, true),
  (153, [83, 84, 65], 7, 3, 5, true),
  (154, [84, 88, 83], 0, 1, 2, true),
  (155, [78, 79, 80], 0, 1, 2, false),
  (156, [83, 84, 90], 5, 3, 5, true),
  (157, [83, 84, 65], 6, 3, 5, true),
  (158, [83, 84, 90], 6, 3, 5, true),
  (159, [66, 66, 83, 49], 12, 3, 6, true),
  (160, [76, 68, 89], 1, 2, 2, true),
  (161, [76, 68, 65], 9, 2, 7, true),
  (162, [76, 68, 88], 1, 2, 2, true),
  (163, [84, 83, 84], 14, 3, 7, true),
  (164, [76, 68, 89], 2, 2, 4, true),
  (165, [76, 68, 65], 2, 2, 4, true),
  (166, [76, 68, 88], 2, 2, 4, true),
  (167, [83, 77, 66, 50], 2, 2, 7, true),
  (168, [84, 65, 89], 0, 1, 2, true),
  (169, [76, 68, 65], 1, 2, 2, true),
  (170, [84, 65, 88], 0, 1, 2, true),
  (171, [78, 79, 80], 0, 1, 2, false),
  (172, [76, 68, 89], 5, 3, 5, true),
  (173, [76, 68, 65], 5, 3, 5, true),
  (174, [76, 68, 88], 5, 3, 5, true),
  (175, [66, 66, 83, 50], 12, 3, 6, true),
  (176, [66, 67, 83], 11, 2, 2, true),
  (177, [76, 68, 65], 10, 2, 7, true),
  (178, [76, 68, 65], 8, 2, 7, true),
  (179, [84, 83, 84], 16, 4, 8, true),
  (180, [76, 68, 89], 3, 2, 4, true),
  (181, [76, 68, 65], 3, 2, 4, true),
  (182, [76, 68, 88], 4, 2, 4, true),
  (183, [83, 77, 66, 51], 2, 2, 7, true),
  (184, [67, 76, 86], 0, 1, 2, true),
  (185, [76, 68, 65], 7, 3, 5, true),
  (186, [84, 83, 88], 0, 1, 2, true),
  (187, [78, 79, 80], 0, 1, 2, false),
  (188, [76, 68, 89], 6, 3, 5, true),
  (189, [76, 68, 65], 6, 3, 5, true),
  (190, [76, 68, 88], 7, 3, 5, true),
  (191, [66, 66, 83, 51], 12, 3, 6, true),
  (192, [67, 80, 89], 1, 2, 2, true),
  (193, [67, 77, 80], 9, 2, 7, true),
  (194, [67, 76, 89], 0, 1, 2, true),
  (195, [84, 68, 68], 19, 7, 17, true),
  (196, [67, 80, 89], 2, 2, 4, true),
  (197, [67, 77, 80], 2, 2, 4, true),
  (198, [68, 69, 67], 2, 2, 6, true),
  (199, [83, 77, 66, 52], 2, 2, 7, true),
  (200, [73, 78, 89], 0, 1, 2, true),
  (201, [67, 77, 80], 1, 2, 2, true),
  (202, [68, 69, 88], 0, 1, 2, true),
  (203, [78, 79, 80], 0, 1, 2, false),
  (204, [67, 80, 89], 5, 3, 5, true),
  (205, [67, 77, 80], 5, 3, 5, true),
  (206, [68, 69, 67], 5, 3, 7, true),
  (207, [66, 66, 83, 52], 12, 3, 6, true),
  (208, [66, 78, 69], 11, 2, 2, true),
  (209, [67, 77, 80], 10, 2, 7, true),
  (210, [67, 77, 80], 8, 2, 7, true),
  (211, [84, 73, 78], 19, 7, 17, true),
  (212, [67, 83, 72], 0, 1, 3, true),
  (213, [67, 77, 80], 3, 2, 4, true),
  (214, [68, 69, 67], 3, 2, 6, true),
  (215, [83, 77, 66, 53], 2, 2, 7, true),
  (216, [67, 76, 68], 0, 1, 2, true),
  (217, [67, 77, 80], 7, 3, 5, true),
  (218, [80, 72, 88], 0, 1, 3, true),
  (219, [78, 79, 80], 0, 1, 2, false),
  (220, [78, 79, 80], 0, 1, 2, false),
  (221, [67, 77, 80], 6, 3, 5, true),
  (222, [68, 69, 67], 6, 3, 7, true),
  (223, [66, 66, 83, 53], 12, 3, 6, true),
  (224, [67, 80, 88], 1, 2, 2, true),
  (225, [83, 66, 67], 9, 2, 7, true),
  (226, [78, 79, 80], 0, 1, 2, false),
  (227, [84, 73, 65], 19, 7, 17, true),
  (228, [67, 80, 88], 2, 2, 4, true),
  (229, [83, 66, 67], 2, 2, 4, true),
  (230, [73, 78, 67], 2, 2, 6, true),
  (231, [83, 77, 66, 54], 2, 2, 7, true),
  (232, [73, 78, 88], 0, 1, 2, true),
  (233, [83, 66, 67], 1, 2, 2, true),
  (234, [78, 79, 80], 0, 1, 2, true),
  (235, [78, 79, 80], 0, 1, 2, false),
  (236, [67, 80, 88], 5, 3, 5, true),
  (237, [83, 66, 67], 5, 3, 5, true),
  (238, [73, 78, 67], 5, 3, 7, true),
  (239, [66, 66, 83, 54], 12, 3, 6, true),
  (240, [66, 69, 81], 11, 2, 2, true),
  (241, [83, 66, 67], 10, 2, 7, true),
  (242, [83, 66, 67], 8, 2, 7, true),
  (243, [84, 65, 73], 19, 7, 17, true),
  (244, [83, 69, 84], 0, 1, 2, true),
  (245, [83, 66, 67], 3, 2, 4, true),
  (246, [73, 78, 67], 3, 2, 6, true),
  (247, [83, 77, 66, 55], 2, 2, 7, true),
  (248, [83, 69, 68], 0, 1, 2, true),
  (249, [83, 66, 67], 7, 3, 5, true),
  (250, [80, 76, 88], 0, 1, 4, true),
  (251, [78, 79, 80], 0, 1, 2, false),
  (252, [78, 79, 80], 0, 1, 2, false),
  (253, [83, 66, 67], 6, 3, 5, true),
  (254, [73, 78, 67], 6, 3, 7, true),
  (255, [66, 66, 83, 55], 12, 3, 6, true)]
theorem t34 : tab34 = opsL.map fun p => o34 p.1 p.2.1 p.2.2.1 p.2.2.2.1 p.2.2.2.2.1 := by kernel_rfl
theorem t20 : tab20 = opsL.map fun p => o20 p.1 p.2.1 p.2.2.1 p.2.2.2.1 p.2.2.2.2.1 p.2.2.2.2.2 := by kernel_rfl
theorem t53 : tab53 = base.map fun p => o53 p.1 p.2.1 := by kernel_rfl
theorem ix : opsL.map (·.1) = List.range 256 := by kernel_rfl
theorem parts : base = (List.range 64).flatMap fun q => part q 4 := by kernel_rfl
def eqN (a b : List UInt8) : Bool := eqBs a b
/-- Of a word: it begins with F, which does not come again; letters alone; two at least, thirty at most. -/
def goodB (w : List UInt8) : Bool := Nat.ble 2 w.length && Nat.ble w.length 30 && (match w with | c :: l => beqB c 70 && l.all fun x => !(beqB x 70) && LET.any fun y => beqB y x | [] => false)
def fits (p : (Nat × List UInt8 × Nat × Nat × Nat × Bool) × (Nat × List UInt8 × Nat)) : Bool :=
  Nat.beq p.1.1 p.2.1 && (bif bit p.2.2.2 8 then Nat.beq p.1.2.2.1 19 && eqN p.2.2.1 (HEADS ++ ENDS) else !(Nat.beq p.1.2.2.1 19) && goodB (wd p.2.2.1 p.2.2.2 true true true) && goodB (wd p.2.2.1 p.2.2.2 true true false) && goodB (wd p.2.2.1 p.2.2.2 true false true) && goodB (wd p.2.2.1 p.2.2.2 true false false) && goodB (wd p.2.2.1 p.2.2.2 false true true) && goodB (wd p.2.2.1 p.2.2.2 false true false) && goodB (wd p.2.2.1 p.2.2.2 false false true) && goodB (wd p.2.2.1 p.2.2.2 false false false))
theorem zipped : ((opsL.zip base).all fits) = true := by kernel_rfl
theorem lens : base.length = 256 := by kernel_rfl
theorem part52 : ∀ q, q < 64 → ∀ e ∈ all8 o52 (part q 4), EntIs Tryd.prog 52 e := by
  intro q hq
  by_cases h0 : q < 16
  · have := part52_0 q h0
    rwa [show 0 + q = q from by omega] at this
  by_cases h1 : q < 32
  · have := part52_1 (q - 16) (by omega)
    rwa [show 16 + (q - 16) = q from by omega] at this
  by_cases h2 : q < 48
  · have := part52_2 (q - 32) (by omega)
    rwa [show 32 + (q - 32) = q from by omega] at this
  have := part52_3 (q - 48) (by omega)
  rwa [show 48 + (q - 48) = q from by omega] at this
theorem part26 : ∀ q, q < 64 → ∀ e ∈ all8 o26 (part q 4), EntIs Tryd.prog 26 e := by
  intro q hq
  by_cases h0 : q < 16
  · have := part26_0 q h0
    rwa [show 0 + q = q from by omega] at this
  by_cases h1 : q < 32
  · have := part26_1 (q - 16) (by omega)
    rwa [show 16 + (q - 16) = q from by omega] at this
  by_cases h2 : q < 48
  · have := part26_2 (q - 32) (by omega)
    rwa [show 32 + (q - 32) = q from by omega] at this
  have := part26_3 (q - 48) (by omega)
  rwa [show 48 + (q - 48) = q from by omega] at this
theorem mem_all8 (g : Nat → Bool → Bool → Bool → List UInt8 → Ent) : ∀ (l : List (Nat × List UInt8 × Nat)) (p : Nat × List UInt8 × Nat), p ∈ l → bit p.2.2 8 = false → ∀ t d k, g p.1 t d k (wd p.2.1 p.2.2 t d k) ∈ all8 g l
  | (b, s, n) :: l, p, hp, hb, t, d, k => by
    simp only [all8]
    rcases List.mem_cons.1 hp with rfl | hp
    · simp only at hb ⊢
      rw [hb]
      refine List.mem_append_left _ ?_
      cases t <;> cases d <;> cases k <;> simp [eight]
    · have := mem_all8 g l p hp hb t d k
      cases bit n 8
      · exact List.mem_append_right _ this
      · exact this
theorem word_of {p : Nat × List UInt8 × Nat} (hp : p ∈ base) (hb : bit p.2.2 8 = false) (t d k : Bool) : EntIs Tryd.prog 52 (o52 p.1 t d k (wd p.2.1 p.2.2 t d k)) ∧ EntIs Tryd.prog 26 (o26 p.1 t d k (wd p.2.1 p.2.2 t d k)) := by
  rw [parts] at hp
  obtain ⟨q, hq, hp⟩ := List.mem_flatMap.1 hp
  have hq := List.mem_range.1 hq
  exact ⟨part52 q hq _ (mem_all8 o52 _ p hp hb t d k), part26 q hq _ (mem_all8 o26 _ p hp hb t d k)⟩
/-- What is known of a word. -/
structure GoodW (w : List UInt8) : Prop where
  ne : w ≠ []
  two : 2 ≤ w.length
  most : w.length ≤ 393233
  fetch : ∃ l, w = 70 :: l ∧ ∀ c ∈ l, c ≠ 70
  letters : ∀ c ∈ w, c ∈ LET
theorem goodB_ok {w : List UInt8} (h : goodB w = true) : GoodW w := by
  unfold goodB at h
  simp only [Bool.and_eq_true, Nat.ble_eq] at h
  obtain ⟨⟨h1, h2⟩, h3⟩ := h
  cases w with
  | nil => cases h3
  | cons c l =>
    simp only [Bool.and_eq_true, List.all_eq_true, Bool.not_eq_true', beqB_eq, beq_iff_eq, List.any_eq_true] at h3
    obtain ⟨rfl, h3⟩ := h3
    refine ⟨by simp, h1, by omega, ⟨l, rfl, fun c hc => by have := (h3 c hc).1; simpa using this⟩, fun c hc => ?_⟩
    rcases List.mem_cons.1 hc with rfl | hc
    · decide
    · obtain ⟨y, hy, rfl⟩ := (h3 c hc).2
      exact hy
theorem reps_mem (n : Nat) : ∀ c ∈ reps n, c ∈ UNIT := by
  induction n with
  | zero => intro c hc; cases hc
  | succ n ih =>
    intro c hc
    simp only [reps, List.mem_append] at hc
    rcases hc with hc | hc
    · exact ih c hc
    · exact hc
theorem blkW_len (n : Int) : (blkW n).length = 17 + 6 * min n.toNat 65536 := by
  simp only [blkW, List.length_append, reps_len]
  simp only [List.length_cons, List.length_nil]
  omega
theorem blkW_good (n : Int) : GoodW (blkW n) := by
  have hl := blkW_len n
  have hu : ∀ c ∈ UNIT, c ∈ LET ∧ c ≠ 70 := by decide
  have hh : ∀ c ∈ HEADS.tail, c ∈ LET ∧ c ≠ 70 := by decide
  have he : ∀ c ∈ ENDS, c ∈ LET ∧ c ≠ 70 := by decide
  have key : ∀ c ∈ HEADS.tail ++ (reps (min n.toNat 65536) ++ ENDS), c ∈ LET ∧ c ≠ 70 := by
    intro c hc
    rw [List.mem_append, List.mem_append] at hc
    rcases hc with h | h | h
    · exact hh c h
    · exact hu c (reps_mem _ c h)
    · exact he c h
  have e : blkW n = 70 :: (HEADS.tail ++ (reps (min n.toNat 65536) ++ ENDS)) := by
    simp [blkW]
  refine ⟨by rw [e]; simp, by omega, by omega, ⟨_, e, fun c hc => (key c hc).2⟩, fun c hc => ?_⟩
  rw [e] at hc
  rcases List.mem_cons.1 hc with rfl | hc
  · decide
  · exact (key c hc).1

theorem at0 {f : FuncId} {aa : List Value} {v : Value} (h : EntIs Tryd.prog f ⟨aa, v, []⟩) (hv : plainC v = true) (m : Mem) : ACall Tryd.prog f aa m fun x m' => x = v ∧ m' = m := by
  refine (h m).mono ?_
  rintro x m' ⟨rfl, rfl⟩
  exact ⟨ren_plain _ hv, by show m ++ [] = m; simp⟩
/-- Of every byte, by facts: its operation; its letters, as the program and as the document write them. -/
theorem words (b : Nat) (hb : b < 256) (t d k : Bool) (n : Int) : ∃ nm md z c kn w,
    (∀ m, ACall Tryd.prog 20 [By b] m fun v m' => v = .agg ⟨[St nm, By md, In z, In c, .bool kn]⟩ ∧ m' = m) ∧
    (∀ m, ACall Tryd.prog 52 [By b, .agg ⟨[.bool t, .bool d, .bool k, I64 n]⟩] m fun v m' => v = S w ∧ m' = m) ∧
    (∀ m, ACall Tryd.prog 26 [By b, .bool t, .bool d, .bool k, I64 n] m fun v m' => v = S w ∧ m' = m) ∧ GoodW w ∧ (md = 19 → w = blkW n) := by
  have hm : b ∈ opsL.map (·.1) := by rw [ix]; exact List.mem_range.2 hb
  obtain ⟨i, hi, hbi⟩ := List.mem_iff_getElem.1 hm
  rw [List.length_map] at hi
  have hlen : opsL.length = 256 := by
    have := congrArg List.length ix
    simpa using this
  have hi2 : i < base.length := by rw [lens]; omega
  rw [List.getElem_map] at hbi
  have hz : (opsL[i], base[i]) ∈ opsL.zip base := by
    have : (opsL.zip base)[i]'(by simp [List.length_zip]; omega) = (opsL[i], base[i]) := List.getElem_zip
    rw [← this]
    exact List.getElem_mem _
  have hf := List.all_eq_true.1 zipped _ hz
  have hp : base[i] ∈ base := List.getElem_mem hi2
  have ho : opsL[i] ∈ opsL := List.getElem_mem hi
  have h20 := ok20 _ (by rw [t20]; exact List.mem_map.2 ⟨_, ho, rfl⟩)
  have h34 := ok34 _ (by rw [t34]; exact List.mem_map.2 ⟨_, ho, rfl⟩)
  have h53 := ok53 _ (by rw [t53]; exact List.mem_map.2 ⟨_, hp, rfl⟩)
  generalize opsL[i] = o at *
  generalize base[i] = p at *
  subst hbi
  unfold fits at hf
  simp only [Bool.and_eq_true] at hf
  obtain ⟨hpb, hf⟩ := hf
  have hpb := Nat.eq_of_beq_eq_true hpb
  refine ⟨o.2.1, o.2.2.1, o.2.2.2.1, o.2.2.2.2.1, o.2.2.2.2.2, ?_⟩
  cases h8 : bit p.2.2 8 with
  | true =>
    rw [h8] at hf
    simp only [cond_true, Bool.and_eq_true] at hf
    have h19 := Nat.eq_of_beq_eq_true hf.1
    have hs := eqBs_eq hf.2
    refine ⟨blkW n, at0 h20 rfl, ?_, ?_, blkW_good n, fun _ => rfl⟩
    · refine lift0 (f52b' o.1 t d k n o.2.1 o.2.2.2.1 o.2.2.2.2.1 ?_) rfl rfl
      rw [← h19]
      exact at0 h34 rfl
    · refine lift0 (f26b o.1 t d k n o.2.1 o.2.2.2.1 o.2.2.2.2.1 o.2.2.2.2.2 ?_ ?_) rfl rfl
      · rw [← h19]; exact at0 h20 rfl
      · rw [hpb, ← hs]; exact at0 h53 rfl
  | false =>
    rw [h8] at hf
    simp only [cond_false, Bool.and_eq_true, Bool.not_eq_true'] at hf
    obtain ⟨w1, w2⟩ := word_of hp h8 t d k
    refine ⟨wd p.2.1 p.2.2 t d k, at0 h20 rfl, ?_, ?_, ?_, fun h => ?_⟩
    · intro m
      rw [hpb]
      refine ACall.args (at0 w1 rfl m) fun g ws h => ?_
      cases h with
      | cons h1 h2 => cases h2 with
        | cons h2 h3 =>
          refine .cons h1 (.cons ?_ h3)
          cases h2 with
          | a h2 => cases h2 with
            | s h2 => cases h2
            | agg h2 =>
              refine .a (.agg ?_)
              cases h2 with
              | cons a1 h2 => cases h2 with
                | cons a2 h2 => cases h2 with
                  | cons a3 h2 => cases h2 with
                    | cons a4 h2 => exact .cons a1 (.cons a2 (.cons a3 (.cons (.top _ a4.scalar.2) h2)))
    · intro m
      rw [hpb]
      refine ACall.args (at0 w2 rfl m) fun g ws h => ?_
      cases h with
      | cons h1 h2 => cases h2 with
        | cons h2 h3 => cases h3 with
          | cons h3 h4 => cases h4 with
            | cons h4 h5 => cases h5 with
              | cons h5 h6 => exact .cons h1 (.cons h2 (.cons h3 (.cons h4 (.cons (.top _) h6))))
    · obtain ⟨⟨⟨⟨⟨⟨⟨⟨_, g1⟩, g2⟩, g3⟩, g4⟩, g5⟩, g6⟩, g7⟩, g8⟩ := hf
      cases t <;> cases d <;> cases k <;> exact goodB_ok (by assumption)
    · have := hf.1.1.1.1.1.1.1.1
      rw [h] at this
      cases this
end Go.Proofs.YtfohjnfdgegfcaaDoor
