/-
  The plain letters of each byte. Conditions: none.
-/
import Derived.Test.YtfohjnfdgegfcaaDoorTimBase
namespace Go.Proofs.YtfohjnfdgegfcaaDoor
open Go Go.AE
set_option maxRecDepth 100000
/-- Of each byte: its letters, what makes it longer (1: T; 2: D; 4: taken; 8: it is a block). -/
def base : List (Nat × List UInt8 × Nat) := [
  (0, [70, 79, 80, 80, 80, 86, 86, 68], 0),
  (1, [70, 79, 68, 76, 76, 68, 76], 1),
  (2, [70, 68, 68], 0),
  (3, [70, 79, 68, 83], 0),
  (4, [70, 79, 68, 76, 68, 83], 0),
  (5, [70, 79, 68, 76], 1),
  (6, [70, 79, 68, 76, 68, 83], 0),
  (7, [70, 79, 68, 76, 68, 68, 83], 0),
  (8, [70, 68, 80], 0),
  (9, [70, 79], 1),
  (10, [70, 68], 0),
  (11, [70, 68], 0),
  (12, [70, 79, 79, 68, 76, 68, 83], 0),
  (13, [70, 79, 79, 68, 76], 1),
  (14, [70, 79, 79, 68, 76, 68, 83], 0),
  (15, [70, 79, 79, 68, 76, 68], 4),
  (16, [70, 79], 4),
  (17, [70, 79, 68, 76, 76, 68, 76], 1),
  (18, [70, 79, 68, 76, 76, 68, 76], 1),
  (19, [70, 79, 68, 83], 0),
  (20, [70, 79, 68, 76, 68, 83], 0),
  (21, [70, 79, 68, 76], 1),
  (22, [70, 79, 68, 76, 68, 83], 0),
  (23, [70, 79, 68, 76, 68, 68, 83], 0),
  (24, [70, 68], 0),
  (25, [70, 79, 79, 68, 76], 1),
  (26, [70, 68], 0),
  (27, [70, 68], 0),
  (28, [70, 79, 79, 68, 76, 68, 83], 0),
  (29, [70, 79, 79, 68, 76], 1),
  (30, [70, 79, 79, 68, 76, 68, 83], 0),
  (31, [70, 79, 79, 68, 76, 68], 4),
  (32, [70, 79, 79, 68, 80, 80, 68], 0),
  (33, [70, 79, 68, 76, 76, 68, 76], 1),
  (34, [70, 68, 68], 0),
  (35, [70, 79, 68, 83], 0),
  (36, [70, 79, 68, 76], 0),
  (37, [70, 79, 68, 76], 1),
  (38, [70, 79, 68, 76, 68, 83], 0),
  (39, [70, 79, 68, 76, 68, 68, 83], 0),
  (40, [70, 68, 68, 85], 0),
  (41, [70, 79], 1),
  (42, [70, 68], 0),
  (43, [70, 68], 0),
  (44, [70, 79, 79, 68, 76], 0),
  (45, [70, 79, 79, 68, 76], 1),
  (46, [70, 79, 79, 68, 76, 68, 83], 0),
  (47, [70, 79, 79, 68, 76, 68], 4),
  (48, [70, 79], 4),
  (49, [70, 79, 68, 76, 76, 68, 76], 1),
  (50, [70, 79, 68, 76, 76, 68, 76], 1),
  (51, [70, 68], 0),
  (52, [70, 79, 68, 76], 0),
  (53, [70, 79, 68, 76], 1),
  (54, [70, 79, 68, 76, 68, 83], 0),
  (55, [70, 79, 68, 76, 68, 68, 83], 0),
  (56, [70, 68], 0),
  (57, [70, 79, 79, 68, 76], 1),
  (58, [70, 68], 0),
  (59, [70, 68], 0),
  (60, [70, 79, 79, 68, 76], 0),
  (61, [70, 79, 79, 68, 76], 1),
  (62, [70, 79, 79, 68, 76, 68, 83], 0),
  (63, [70, 79, 79, 68, 76, 68], 4),
  (64, [70, 68, 68, 85, 85, 85, 68], 0),
  (65, [70, 79, 68, 76, 76, 68, 76], 1),
  (66, [70, 68, 68], 0),
  (67, [70, 79, 68, 68], 0),
  (68, [70, 79, 68, 80, 80, 68, 68, 68], 0),
  (69, [70, 79, 68, 76], 1),
  (70, [70, 79, 68, 76, 68, 83], 0),
  (71, [70, 79, 68, 76, 68, 68, 83], 0),
  (72, [70, 68, 80], 0),
  (73, [70, 79], 1),
  (74, [70, 68], 0),
  (75, [70, 68], 0),
  (76, [70, 79, 79, 68], 0),
  (77, [70, 79, 79, 68, 76], 1),
  (78, [70, 79, 79, 68, 76, 68, 83], 0),
  (79, [70, 79, 79, 68, 76, 68], 4),
  (80, [70, 79], 4),
  (81, [70, 79, 68, 76, 76, 68, 76], 1),
  (82, [70, 79, 68, 76, 76, 68, 76], 1),
  (83, [70, 79, 68, 68, 68], 0),
  (84, [70, 68, 68], 0),
  (85, [70, 79, 68, 76], 1),
  (86, [70, 79, 68, 76, 68, 83], 0),
  (87, [70, 79, 68, 76, 68, 68, 83], 0),
  (88, [70, 68], 0),
  (89, [70, 79, 79, 68, 76], 1),
  (90, [70, 68, 80], 0),
  (91, [70, 68], 0),
  (92, [70, 68], 0),
  (93, [70, 79, 79, 68, 76], 1),
  (94, [70, 79, 79, 68, 76, 68, 83], 0),
  (95, [70, 79, 79, 68, 76, 68], 4),
  (96, [70, 68, 68, 85, 85, 68, 68], 0),
  (97, [70, 79, 68, 76, 76, 68, 76], 3),
  (98, [70, 68], 0),
  (99, [70, 68], 0),
  (100, [70, 79, 68, 83], 0),
  (101, [70, 79, 68, 76], 3),
  (102, [70, 79, 68, 76, 68, 83], 0),
  (103, [70, 79, 68, 76, 68, 68, 83], 0),
  (104, [70, 68, 68, 85], 0),
  (105, [70, 79], 3),
  (106, [70, 68], 0),
  (107, [70, 68], 0),
  (108, [70, 79, 79, 68, 76, 76, 68], 0),
  (109, [70, 79, 79, 68, 76], 3),
  (110, [70, 79, 79, 68, 76, 68, 83], 0),
  (111, [70, 79, 79, 68, 76, 68], 4),
  (112, [70, 79], 4),
  (113, [70, 79, 68, 76, 76, 68, 76], 3),
  (114, [70, 79, 68, 76, 76, 68, 76], 3),
  (115, [70, 80, 80, 80, 79, 79, 79, 79, 79, 79, 68, 68, 85, 85, 85, 68, 68], 8),
  (116, [70, 79, 68, 83], 0),
  (117, [70, 79, 68, 76], 3),
  (118, [70, 79, 68, 76, 68, 83], 0),
  (119, [70, 79, 68, 76, 68, 68, 83], 0),
  (120, [70, 68], 0),
  (121, [70, 79, 79, 68, 76], 3),
  (122, [70, 68, 68, 85], 0),
  (123, [70, 68], 0),
  (124, [70, 79, 79, 68, 76, 76, 68], 0),
  (125, [70, 79, 79, 68, 76], 3),
  (126, [70, 79, 79, 68, 76, 68, 83], 0),
  (127, [70, 79, 79, 68, 76, 68], 4),
  (128, [70, 79, 68, 68], 0),
  (129, [70, 79, 68, 76, 76, 68, 83], 0),
  (130, [70, 68], 0),
  (131, [70, 79, 79, 68, 68, 76, 68], 0),
  (132, [70, 79, 68, 83], 0),
  (133, [70, 79, 68, 83], 0),
  (134, [70, 79, 68, 83], 0),
  (135, [70, 79, 68, 76, 68, 68, 83], 0),
  (136, [70, 68], 0),
  (137, [70, 79], 0),
  (138, [70, 68], 0),
  (139, [70, 68], 0),
  (140, [70, 79, 79, 68, 83], 0),
  (141, [70, 79, 79, 68, 83], 0),
  (142, [70, 79, 79, 68, 83], 0),
  (143, [70, 79, 79, 68, 76, 68], 4),
  (144, [70, 79], 4),
  (145, [70, 79, 68, 76, 76, 68, 83], 0),
  (146, [70, 79, 68, 76, 76, 68, 83], 0),
  (147, [70, 79, 79, 79, 68, 68, 76, 68], 0),
  (148, [70, 79, 68, 83], 0),
  (149, [70, 79, 68, 83], 0),
  (150, [70, 79, 68, 83], 0),
  (151, [70, 79, 68, 76, 68, 68, 83], 0),
  (152, [70, 68], 0),
  (153, [70, 79, 79, 68, 83], 0),
  (154, [70, 68], 0),
  (155, [70, 68], 0),
  (156, [70, 79, 79, 68, 83], 0),
  (157, [70, 79, 79, 68, 83], 0),
  (158, [70, 79, 79, 68, 83], 0),
  (159, [70, 79, 79, 68, 76, 68], 4),
  (160, [70, 79], 0),
  (161, [70, 79, 68, 76, 76, 68, 76], 0),
  (162, [70, 79], 0),
  (163, [70, 79, 79, 68, 68, 76, 68], 0),
  (164, [70, 79, 68, 76], 0),
  (165, [70, 79, 68, 76], 0),
  (166, [70, 79, 68, 76], 0),
  (167, [70, 79, 68, 76, 68, 68, 83], 0),
  (168, [70, 68], 0),
  (169, [70, 79], 0),
  (170, [70, 68], 0),
  (171, [70, 68], 0),
  (172, [70, 79, 79, 68, 76], 0),
  (173, [70, 79, 79, 68, 76], 0),
  (174, [70, 79, 79, 68, 76], 0),
  (175, [70, 79, 79, 68, 76, 68], 4),
  (176, [70, 79], 4),
  (177, [70, 79, 68, 76, 76, 68, 76], 0),
  (178, [70, 79, 68, 76, 76, 68, 76], 0),
  (179, [70, 79, 79, 79, 68, 68, 76, 68], 0),
  (180, [70, 79, 68, 76], 0),
  (181, [70, 79, 68, 76], 0),
  (182, [70, 79, 68, 76], 0),
  (183, [70, 79, 68, 76, 68, 68, 83], 0),
  (184, [70, 68], 0),
  (185, [70, 79, 79, 68, 76], 0),
  (186, [70, 68], 0),
  (187, [70, 68], 0),
  (188, [70, 79, 79, 68, 76], 0),
  (189, [70, 79, 79, 68, 76], 0),
  (190, [70, 79, 79, 68, 76], 0),
  (191, [70, 79, 79, 68, 76, 68], 4),
  (192, [70, 79], 0),
  (193, [70, 79, 68, 76, 76, 68, 76], 0),
  (194, [70, 68], 0),
  (195, [70, 80, 80, 80, 79, 79, 79, 79, 79, 79, 68, 68, 85, 85, 85, 68, 68], 8),
  (196, [70, 79, 68, 76], 0),
  (197, [70, 79, 68, 76], 0),
  (198, [70, 79, 68, 76, 68, 83], 0),
  (199, [70, 79, 68, 76, 68, 68, 83], 0),
  (200, [70, 68], 0),
  (201, [70, 79], 0),
  (202, [70, 68], 0),
  (203, [70, 68], 0),
  (204, [70, 79, 79, 68, 76], 0),
  (205, [70, 79, 79, 68, 76], 0),
  (206, [70, 79, 79, 68, 76, 68, 83], 0),
  (207, [70, 79, 79, 68, 76, 68], 4),
  (208, [70, 79], 4),
  (209, [70, 79, 68, 76, 76, 68, 76], 0),
  (210, [70, 79, 68, 76, 76, 68, 76], 0),
  (211, [70, 80, 80, 80, 79, 79, 79, 79, 79, 79, 68, 68, 85, 85, 85, 68, 68], 8),
  (212, [70, 68, 68], 0),
  (213, [70, 79, 68, 76], 0),
  (214, [70, 79, 68, 76, 68, 83], 0),
  (215, [70, 79, 68, 76, 68, 68, 83], 0),
  (216, [70, 68], 0),
  (217, [70, 79, 79, 68, 76], 0),
  (218, [70, 68, 80], 0),
  (219, [70, 68], 0),
  (220, [70, 68], 0),
  (221, [70, 79, 79, 68, 76], 0),
  (222, [70, 79, 79, 68, 76, 68, 83], 0),
  (223, [70, 79, 79, 68, 76, 68], 4),
  (224, [70, 79], 0),
  (225, [70, 79, 68, 76, 76, 68, 76], 2),
  (226, [70, 68], 0),
  (227, [70, 80, 80, 80, 79, 79, 79, 79, 79, 79, 68, 68, 85, 85, 85, 68, 68], 8),
  (228, [70, 79, 68, 76], 0),
  (229, [70, 79, 68, 76], 2),
  (230, [70, 79, 68, 76, 68, 83], 0),
  (231, [70, 79, 68, 76, 68, 68, 83], 0),
  (232, [70, 68], 0),
  (233, [70, 79], 2),
  (234, [70, 68], 0),
  (235, [70, 68], 0),
  (236, [70, 79, 79, 68, 76], 0),
  (237, [70, 79, 79, 68, 76], 2),
  (238, [70, 79, 79, 68, 76, 68, 83], 0),
  (239, [70, 79, 79, 68, 76, 68], 4),
  (240, [70, 79], 4),
  (241, [70, 79, 68, 76, 76, 68, 76], 2),
  (242, [70, 79, 68, 76, 76, 68, 76], 2),
  (243, [70, 80, 80, 80, 79, 79, 79, 79, 79, 79, 68, 68, 85, 85, 85, 68, 68], 8),
  (244, [70, 68], 0),
  (245, [70, 79, 68, 76], 2),
  (246, [70, 79, 68, 76, 68, 83], 0),
  (247, [70, 79, 68, 76, 68, 68, 83], 0),
  (248, [70, 68], 0),
  (249, [70, 79, 79, 68, 76], 2),
  (250, [70, 68, 68, 85], 0),
  (251, [70, 68], 0),
  (252, [70, 68], 0),
  (253, [70, 79, 79, 68, 76], 2),
  (254, [70, 79, 79, 68, 76, 68, 83], 0),
  (255, [70, 79, 79, 68, 76, 68], 4)]
def o53 (b : Nat) (s : List UInt8) : Ent := ⟨[By b], St s, []⟩
def bit (n k : Nat) : Bool := Nat.beq (n / k % 2) 1
/-- The letters, by facts. -/
def wd (s : List UInt8) (n : Nat) (t d k : Bool) : List UInt8 := s ++ ((bif t && bit n 1 then [76, 68, 83] else []) ++ ((bif d && bit n 2 then [68] else []) ++ (bif k && bit n 4 then [68, 68] else [])))
def o52 (b : Nat) (t d k : Bool) (s : List UInt8) : Ent := ⟨[By b, .agg ⟨[.bool t, .bool d, .bool k, topV]⟩], St s, []⟩
def o26 (b : Nat) (t d k : Bool) (s : List UInt8) : Ent := ⟨[By b, .bool t, .bool d, .bool k, topV], St s, []⟩
def eight (f : Bool → Bool → Bool → Ent) : List Ent := [f true true true, f true true false, f true false true, f true false false, f false true true, f false true false, f false false true, f false false false]
def all8 (g : Nat → Bool → Bool → Bool → List UInt8 → Ent) : List (Nat × List UInt8 × Nat) → List Ent
  | [] => []
  | (b, s, n) :: l => bif bit n 8 then all8 g l else eight (fun t d k => g b t d k (wd s n t d k)) ++ all8 g l
def part (i w : Nat) : List (Nat × List UInt8 × Nat) := (base.drop (w * i)).take w
def tab53 : List Ent := base.map fun p => o53 p.1 p.2.1
theorem ok53_0 : entsOk T orcR 1000 300 20 Tryd.f53 (codeOf Tryd.f53) ((tab53.drop 0).take 8) = true := by kernel_rfl
theorem ok53_1 : entsOk T orcR 1000 300 20 Tryd.f53 (codeOf Tryd.f53) ((tab53.drop 8).take 8) = true := by kernel_rfl
theorem ok53_2 : entsOk T orcR 1000 300 20 Tryd.f53 (codeOf Tryd.f53) ((tab53.drop 16).take 8) = true := by kernel_rfl
theorem ok53_3 : entsOk T orcR 1000 300 20 Tryd.f53 (codeOf Tryd.f53) ((tab53.drop 24).take 8) = true := by kernel_rfl
theorem ok53_4 : entsOk T orcR 1000 300 20 Tryd.f53 (codeOf Tryd.f53) ((tab53.drop 32).take 8) = true := by kernel_rfl
theorem ok53_5 : entsOk T orcR 1000 300 20 Tryd.f53 (codeOf Tryd.f53) ((tab53.drop 40).take 8) = true := by kernel_rfl
theorem ok53_6 : entsOk T orcR 1000 300 20 Tryd.f53 (codeOf Tryd.f53) ((tab53.drop 48).take 8) = true := by kernel_rfl
theorem ok53_7 : entsOk T orcR 1000 300 20 Tryd.f53 (codeOf Tryd.f53) ((tab53.drop 56).take 8) = true := by kernel_rfl
theorem ok53_8 : entsOk T orcR 1000 300 20 Tryd.f53 (codeOf Tryd.f53) ((tab53.drop 64).take 8) = true := by kernel_rfl
theorem ok53_9 : entsOk T orcR 1000 300 20 Tryd.f53 (codeOf Tryd.f53) ((tab53.drop 72).take 8) = true := by kernel_rfl
theorem ok53_10 : entsOk T orcR 1000 300 20 Tryd.f53 (codeOf Tryd.f53) ((tab53.drop 80).take 8) = true := by kernel_rfl
theorem ok53_11 : entsOk T orcR 1000 300 20 Tryd.f53 (codeOf Tryd.f53) ((tab53.drop 88).take 8) = true := by kernel_rfl
theorem ok53_12 : entsOk T orcR 1000 300 20 Tryd.f53 (codeOf Tryd.f53) ((tab53.drop 96).take 8) = true := by kernel_rfl
theorem ok53_13 : entsOk T orcR 1000 300 20 Tryd.f53 (codeOf Tryd.f53) ((tab53.drop 104).take 8) = true := by kernel_rfl
theorem ok53_14 : entsOk T orcR 1000 300 20 Tryd.f53 (codeOf Tryd.f53) ((tab53.drop 112).take 8) = true := by kernel_rfl
theorem ok53_15 : entsOk T orcR 1000 300 20 Tryd.f53 (codeOf Tryd.f53) ((tab53.drop 120).take 8) = true := by kernel_rfl
theorem ok53_16 : entsOk T orcR 1000 300 20 Tryd.f53 (codeOf Tryd.f53) ((tab53.drop 128).take 8) = true := by kernel_rfl
theorem ok53_17 : entsOk T orcR 1000 300 20 Tryd.f53 (codeOf Tryd.f53) ((tab53.drop 136).take 8) = true := by kernel_rfl
theorem ok53_18 : entsOk T orcR 1000 300 20 Tryd.f53 (codeOf Tryd.f53) ((tab53.drop 144).take 8) = true := by kernel_rfl
theorem ok53_19 : entsOk T orcR 1000 300 20 Tryd.f53 (codeOf Tryd.f53) ((tab53.drop 152).take 8) = true := by kernel_rfl
theorem ok53_20 : entsOk T orcR 1000 300 20 Tryd.f53 (codeOf Tryd.f53) ((tab53.drop 160).take 8) = true := by kernel_rfl
theorem ok53_21 : entsOk T orcR 1000 300 20 Tryd.f53 (codeOf Tryd.f53) ((tab53.drop 168).take 8) = true := by kernel_rfl
theorem ok53_22 : entsOk T orcR 1000 300 20 Tryd.f53 (codeOf Tryd.f53) ((tab53.drop 176).take 8) = true := by kernel_rfl
theorem ok53_23 : entsOk T orcR 1000 300 20 Tryd.f53 (codeOf Tryd.f53) ((tab53.drop 184).take 8) = true := by kernel_rfl
theorem ok53_24 : entsOk T orcR 1000 300 20 Tryd.f53 (codeOf Tryd.f53) ((tab53.drop 192).take 8) = true := by kernel_rfl
theorem ok53_25 : entsOk T orcR 1000 300 20 Tryd.f53 (codeOf Tryd.f53) ((tab53.drop 200).take 8) = true := by kernel_rfl
theorem ok53_26 : entsOk T orcR 1000 300 20 Tryd.f53 (codeOf Tryd.f53) ((tab53.drop 208).take 8) = true := by kernel_rfl
theorem ok53_27 : entsOk T orcR 1000 300 20 Tryd.f53 (codeOf Tryd.f53) ((tab53.drop 216).take 8) = true := by kernel_rfl
theorem ok53_28 : entsOk T orcR 1000 300 20 Tryd.f53 (codeOf Tryd.f53) ((tab53.drop 224).take 8) = true := by kernel_rfl
theorem ok53_29 : entsOk T orcR 1000 300 20 Tryd.f53 (codeOf Tryd.f53) ((tab53.drop 232).take 8) = true := by kernel_rfl
theorem ok53_30 : entsOk T orcR 1000 300 20 Tryd.f53 (codeOf Tryd.f53) ((tab53.drop 240).take 8) = true := by kernel_rfl
theorem ok53_31 : entsOk T orcR 1000 300 20 Tryd.f53 (codeOf Tryd.f53) ((tab53.drop 248).take 8) = true := by kernel_rfl
theorem ok53 : ∀ e ∈ tab53, EntIs Tryd.prog 53 e := by
  have h0 := entsOk_ok (f := 53) Tryd.func53 rfl ok53_0
  have h1 := entsOk_ok (f := 53) Tryd.func53 rfl ok53_1
  have h2 := entsOk_ok (f := 53) Tryd.func53 rfl ok53_2
  have h3 := entsOk_ok (f := 53) Tryd.func53 rfl ok53_3
  have h4 := entsOk_ok (f := 53) Tryd.func53 rfl ok53_4
  have h5 := entsOk_ok (f := 53) Tryd.func53 rfl ok53_5
  have h6 := entsOk_ok (f := 53) Tryd.func53 rfl ok53_6
  have h7 := entsOk_ok (f := 53) Tryd.func53 rfl ok53_7
  have h8 := entsOk_ok (f := 53) Tryd.func53 rfl ok53_8
  have h9 := entsOk_ok (f := 53) Tryd.func53 rfl ok53_9
  have h10 := entsOk_ok (f := 53) Tryd.func53 rfl ok53_10
  have h11 := entsOk_ok (f := 53) Tryd.func53 rfl ok53_11
  have h12 := entsOk_ok (f := 53) Tryd.func53 rfl ok53_12
  have h13 := entsOk_ok (f := 53) Tryd.func53 rfl ok53_13
  have h14 := entsOk_ok (f := 53) Tryd.func53 rfl ok53_14
  have h15 := entsOk_ok (f := 53) Tryd.func53 rfl ok53_15
  have h16 := entsOk_ok (f := 53) Tryd.func53 rfl ok53_16
  have h17 := entsOk_ok (f := 53) Tryd.func53 rfl ok53_17
  have h18 := entsOk_ok (f := 53) Tryd.func53 rfl ok53_18
  have h19 := entsOk_ok (f := 53) Tryd.func53 rfl ok53_19
  have h20 := entsOk_ok (f := 53) Tryd.func53 rfl ok53_20
  have h21 := entsOk_ok (f := 53) Tryd.func53 rfl ok53_21
  have h22 := entsOk_ok (f := 53) Tryd.func53 rfl ok53_22
  have h23 := entsOk_ok (f := 53) Tryd.func53 rfl ok53_23
  have h24 := entsOk_ok (f := 53) Tryd.func53 rfl ok53_24
  have h25 := entsOk_ok (f := 53) Tryd.func53 rfl ok53_25
  have h26 := entsOk_ok (f := 53) Tryd.func53 rfl ok53_26
  have h27 := entsOk_ok (f := 53) Tryd.func53 rfl ok53_27
  have h28 := entsOk_ok (f := 53) Tryd.func53 rfl ok53_28
  have h29 := entsOk_ok (f := 53) Tryd.func53 rfl ok53_29
  have h30 := entsOk_ok (f := 53) Tryd.func53 rfl ok53_30
  have h31 := entsOk_ok (f := 53) Tryd.func53 rfl ok53_31
  intro e he
  have hs : tab53 = (tab53.drop 0).take 8 ++ ((tab53.drop 8).take 8 ++ ((tab53.drop 16).take 8 ++ ((tab53.drop 24).take 8 ++ ((tab53.drop 32).take 8 ++ ((tab53.drop 40).take 8 ++ ((tab53.drop 48).take 8 ++ ((tab53.drop 56).take 8 ++ ((tab53.drop 64).take 8 ++ ((tab53.drop 72).take 8 ++ ((tab53.drop 80).take 8 ++ ((tab53.drop 88).take 8 ++ ((tab53.drop 96).take 8 ++ ((tab53.drop 104).take 8 ++ ((tab53.drop 112).take 8 ++ ((tab53.drop 120).take 8 ++ ((tab53.drop 128).take 8 ++ ((tab53.drop 136).take 8 ++ ((tab53.drop 144).take 8 ++ ((tab53.drop 152).take 8 ++ ((tab53.drop 160).take 8 ++ ((tab53.drop 168).take 8 ++ ((tab53.drop 176).take 8 ++ ((tab53.drop 184).take 8 ++ ((tab53.drop 192).take 8 ++ ((tab53.drop 200).take 8 ++ ((tab53.drop 208).take 8 ++ ((tab53.drop 216).take 8 ++ ((tab53.drop 224).take 8 ++ ((tab53.drop 232).take 8 ++ ((tab53.drop 240).take 8 ++ ((tab53.drop 248).take 8))))))))))))))))))))))))))))))) := by kernel_rfl
  rw [hs] at he
  simp only [List.mem_append] at he
  rcases he with h | h | h | h | h | h | h | h | h | h | h | h | h | h | h | h | h | h | h | h | h | h | h | h | h | h | h | h | h | h | h | h
  · exact h0 e h
  · exact h1 e h
  · exact h2 e h
  · exact h3 e h
  · exact h4 e h
  · exact h5 e h
  · exact h6 e h
  · exact h7 e h
  · exact h8 e h
  · exact h9 e h
  · exact h10 e h
  · exact h11 e h
  · exact h12 e h
  · exact h13 e h
  · exact h14 e h
  · exact h15 e h
  · exact h16 e h
  · exact h17 e h
  · exact h18 e h
  · exact h19 e h
  · exact h20 e h
  · exact h21 e h
  · exact h22 e h
  · exact h23 e h
  · exact h24 e h
  · exact h25 e h
  · exact h26 e h
  · exact h27 e h
  · exact h28 e h
  · exact h29 e h
  · exact h30 e h
  · exact h31 e h
noncomputable def orcL : Orc Tryd.prog := orcR.more 53 tab53 ok53
end Go.Proofs.YtfohjnfdgegfcaaDoor
