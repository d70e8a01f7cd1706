/-
  Go read by value: lemmas (part 15): B0, C0.
-/
import Derived.Test.YtdeocbficanfaaaGreatDoorProg
import Derived.KernelRfl
import Derived.Test.YtdeocbficanfaaaGreatDoorX12
set_option linter.unusedVariables false
set_option linter.unusedSimpArgs false
set_option linter.unusedSectionVars false
namespace Go.Av
def tabL : List (Nat × TI) := [
  (1, ⟨1, .func, [.nilf]⟩),
  (2, ⟨1, .int .i64, [.int .i64]⟩),
  (3, ⟨1, .int .i64, [.int .i64]⟩),
  (4, ⟨1, .bool, [.bool]⟩),
  (5, ⟨1, .int .u8, [.int .u8]⟩),
  (6, ⟨1, .int .u8, [.int .u8]⟩),
  (7, ⟨4, .struct [(0, 1, false), (1, 1, false), (2, 1, false), (3, 1, false)], [.int .i64, .int .i64, .bool, .int .u8]⟩),
  (8, ⟨4, .struct [(0, 1, false), (1, 1, false), (2, 1, false), (3, 1, false)], [.int .i64, .int .i64, .bool, .int .u8]⟩),
  (9, ⟨1, .str, [.str]⟩),
  (10, ⟨1, .str, [.str]⟩),
  (11, ⟨1, .str, [.str]⟩),
  (12, ⟨1, .int .u64, [.int .u64]⟩),
  (13, ⟨2, .struct [(0, 1, false), (1, 1, false)], [.str, .int .u64]⟩),
  (14, ⟨2, .struct [(0, 1, false), (1, 1, false)], [.str, .int .u64]⟩),
  (15, ⟨1, .ptr 259, [.nilp]⟩),
  (16, ⟨1, .ptr 262, [.nilp]⟩),
  (17, ⟨1, .ptr 270, [.nilp]⟩),
  (18, ⟨1, .struct [(0, 1, false)], [.nilp]⟩),
  (19, ⟨1, .struct [(0, 1, false)], [.nilp]⟩),
  (21, ⟨1, .int .i32, [.int .i32]⟩),
  (22, ⟨1, .ptr 43, [.nilp]⟩),
  (23, ⟨1, .func, [.nilf]⟩),
  (24, ⟨1, .slice 38, [.slnil]⟩),
  (25, ⟨1, .int .i64, [.int .i64]⟩),
  (27, ⟨1, .func, [.nilf]⟩),
  (29, ⟨1, .func, [.nilf]⟩),
  (30, ⟨1, .func, [.nilf]⟩),
  (31, ⟨1, .func, [.nilf]⟩),
  (32, ⟨1, .func, [.nilf]⟩),
  (33, ⟨1, .slice 3, [.slnil]⟩),
  (34, ⟨1, .slice 33, [.slnil]⟩),
  (35, ⟨1, .func, [.nilf]⟩),
  (36, ⟨1, .slice 9, [.slnil]⟩),
  (37, ⟨5, .struct [(0, 1, false), (1, 1, false), (2, 1, false), (3, 1, false), (4, 1, false)], [.slnil, .str, .str, .slnil, .slnil]⟩),
  (38, ⟨5, .struct [(0, 1, false), (1, 1, false), (2, 1, false), (3, 1, false), (4, 1, false)], [.slnil, .str, .str, .slnil, .slnil]⟩),
  (40, ⟨1, .func, [.nilf]⟩),
  (41, ⟨1, .slice 22, [.slnil]⟩),
  (42, ⟨5, .struct [(0, 1, false), (1, 1, false), (2, 1, false), (3, 1, false), (4, 1, false)], [.int .i64, .int .i64, .str, .str, .slnil]⟩),
  (43, ⟨5, .struct [(0, 1, false), (1, 1, false), (2, 1, false), (3, 1, false), (4, 1, false)], [.int .i64, .int .i64, .str, .str, .slnil]⟩),
  (44, ⟨1, .func, [.nilf]⟩),
  (45, ⟨1, .func, [.nilf]⟩),
  (46, ⟨2, .struct [(0, 1, false), (1, 1, false)], [.slnil, .slnil]⟩),
  (47, ⟨2, .struct [(0, 1, false), (1, 1, false)], [.slnil, .slnil]⟩),
  (48, ⟨1, .slice 47, [.slnil]⟩),
  (49, ⟨1, .func, [.nilf]⟩),
  (50, ⟨1, .func, [.nilf]⟩),
  (52, ⟨1, .func, [.nilf]⟩),
  (53, ⟨1, .ptr 57, [.nilp]⟩),
  (55, ⟨1, .func, [.nilf]⟩),
  (56, ⟨3, .struct [(0, 1, false), (1, 1, false), (2, 1, false)], [.slnil, .slnil, .int .i64]⟩),
  (57, ⟨3, .struct [(0, 1, false), (1, 1, false), (2, 1, false)], [.slnil, .slnil, .int .i64]⟩),
  (58, ⟨1, .ptr 62, [.nilp]⟩),
  (60, ⟨1, .func, [.nilf]⟩),
  (61, ⟨3, .struct [(0, 1, false), (1, 1, false), (2, 1, false)], [.slnil, .slnil, .int .i64]⟩),
  (62, ⟨3, .struct [(0, 1, false), (1, 1, false), (2, 1, false)], [.slnil, .slnil, .int .i64]⟩),
  (63, ⟨1, .func, [.nilf]⟩),
  (64, ⟨1, .func, [.nilf]⟩),
  (65, ⟨1, .func, [.nilf]⟩),
  (66, ⟨1, .func, [.nilf]⟩),
  (67, ⟨1, .slice 4, [.slnil]⟩),
  (68, ⟨1, .func, [.nilf]⟩),
  (70, ⟨1, .func, [.nilf]⟩),
  (71, ⟨1, .slice 77, [.slnil]⟩),
  (73, ⟨1, .func, [.nilf]⟩),
  (75, ⟨1, .func, [.nilf]⟩),
  (76, ⟨4, .struct [(0, 1, false), (1, 1, false), (2, 1, false), (3, 1, false)], [.int .i64, .str, .int .i64, .int .i64]⟩),
  (77, ⟨4, .struct [(0, 1, false), (1, 1, false), (2, 1, false), (3, 1, false)], [.int .i64, .str, .int .i64, .int .i64]⟩),
  (78, ⟨1, .func, [.nilf]⟩),
  (79, ⟨1, .func, [.nilf]⟩),
  (80, ⟨1, .func, [.nilf]⟩),
  (81, ⟨1, .map 9 83, [.mnil]⟩),
  (82, ⟨1, .map 9 83, [.mnil]⟩),
  (83, ⟨1, .ptr 88, [.nilp]⟩),
  (84, ⟨1, .func, [.nilf]⟩),
  (85, ⟨1, .map 9 86, [.mnil]⟩),
  (86, ⟨1, .map 9 86, [.mnil]⟩),
  (87, ⟨5, .struct [(0, 1, false), (1, 1, false), (2, 1, false), (3, 1, false), (4, 1, false)], [.str, .slnil, .bool, .mnil, .nilp]⟩),
  (88, ⟨5, .struct [(0, 1, false), (1, 1, false), (2, 1, false), (3, 1, false), (4, 1, false)], [.str, .slnil, .bool, .mnil, .nilp]⟩),
  (89, ⟨1, .func, [.nilf]⟩),
  (90, ⟨1, .func, [.nilf]⟩),
  (91, ⟨1, .ptr 95, [.nilp]⟩),
  (92, ⟨1, .slice 100, [.slnil]⟩),
  (93, ⟨1, .slice 102, [.slnil]⟩),
  (94, ⟨2, .struct [(0, 1, false), (1, 1, false)], [.slnil, .slnil]⟩),
  (95, ⟨2, .struct [(0, 1, false), (1, 1, false)], [.slnil, .slnil]⟩),
  (96, ⟨1, .func, [.nilf]⟩),
  (97, ⟨1, .func, [.nilf]⟩),
  (98, ⟨1, .func, [.nilf]⟩),
  (99, ⟨4, .struct [(0, 1, false), (1, 1, false), (2, 1, false), (3, 1, false)], [.str, .slnil, .bool, .slnil]⟩),
  (100, ⟨4, .struct [(0, 1, false), (1, 1, false), (2, 1, false), (3, 1, false)], [.str, .slnil, .bool, .slnil]⟩),
  (101, ⟨6, .struct [(0, 1, false), (1, 1, false), (2, 4, true)], [.str, .slnil, .str, .slnil, .bool, .slnil]⟩),
  (102, ⟨6, .struct [(0, 1, false), (1, 1, false), (2, 4, true)], [.str, .slnil, .str, .slnil, .bool, .slnil]⟩),
  (103, ⟨1, .func, [.nilf]⟩),
  (104, ⟨1, .func, [.nilf]⟩),
  (106, ⟨1, .func, [.nilf]⟩),
  (108, ⟨1, .func, [.nilf]⟩),
  (109, ⟨1, .slice 21, [.slnil]⟩),
  (111, ⟨1, .func, [.nilf]⟩),
  (112, ⟨1, .func, [.nilf]⟩),
  (113, ⟨1, .func, [.nilf]⟩),
  (114, ⟨1, .func, [.nilf]⟩),
  (116, ⟨1, .func, [.nilf]⟩),
  (117, ⟨1, .func, [.nilf]⟩),
  (118, ⟨1, .slice 159, [.slnil]⟩),
  (119, ⟨1, .func, [.nilf]⟩),
  (120, ⟨1, .func, [.nilf]⟩),
  (121, ⟨1, .func, [.nilf]⟩),
  (122, ⟨1, .func, [.nilf]⟩),
  (123, ⟨1, .func, [.nilf]⟩),
  (124, ⟨1, .func, [.nilf]⟩),
  (125, ⟨1, .func, [.nilf]⟩),
  (126, ⟨1, .func, [.nilf]⟩),
  (127, ⟨1, .func, [.nilf]⟩),
  (128, ⟨1, .func, [.nilf]⟩),
  (129, ⟨1, .func, [.nilf]⟩),
  (130, ⟨1, .func, [.nilf]⟩),
  (131, ⟨1, .func, [.nilf]⟩),
  (132, ⟨1, .func, [.nilf]⟩),
  (133, ⟨1, .func, [.nilf]⟩),
  (134, ⟨1, .func, [.nilf]⟩),
  (136, ⟨1, .func, [.nilf]⟩),
  (137, ⟨1, .slice 192, [.slnil]⟩),
  (138, ⟨1, .struct [(0, 1, false)], [.slnil]⟩),
  (139, ⟨1, .struct [(0, 1, false)], [.slnil]⟩),
  (141, ⟨1, .func, [.nilf]⟩),
  (142, ⟨1, .func, [.nilf]⟩),
  (143, ⟨1, .func, [.nilf]⟩),
  (144, ⟨1, .func, [.nilf]⟩),
  (145, ⟨1, .func, [.nilf]⟩),
  (146, ⟨1, .func, [.nilf]⟩),
  (147, ⟨1, .func, [.nilf]⟩),
  (148, ⟨1, .func, [.nilf]⟩),
  (149, ⟨1, .func, [.nilf]⟩),
  (150, ⟨1, .func, [.nilf]⟩),
  (151, ⟨1, .func, [.nilf]⟩),
  (152, ⟨1, .func, [.nilf]⟩),
  (153, ⟨1, .func, [.nilf]⟩),
  (155, ⟨1, .func, [.nilf]⟩),
  (156, ⟨1, .func, [.nilf]⟩),
  (157, ⟨1, .func, [.nilf]⟩),
  (158, ⟨3, .struct [(0, 1, false), (1, 1, false), (2, 1, false)], [.slnil, .int .i64, .str]⟩),
  (159, ⟨3, .struct [(0, 1, false), (1, 1, false), (2, 1, false)], [.slnil, .int .i64, .str]⟩),
  (161, ⟨1, .func, [.nilf]⟩),
  (162, ⟨1, .func, [.nilf]⟩),
  (163, ⟨1, .func, [.nilf]⟩),
  (164, ⟨1, .func, [.nilf]⟩),
  (165, ⟨1, .func, [.nilf]⟩),
  (166, ⟨1, .func, [.nilf]⟩),
  (167, ⟨1, .func, [.nilf]⟩),
  (169, ⟨1, .func, [.nilf]⟩),
  (170, ⟨1, .func, [.nilf]⟩),
  (171, ⟨1, .func, [.nilf]⟩),
  (172, ⟨1, .slice 175, [.slnil]⟩),
  (173, ⟨1, .func, [.nilf]⟩),
  (174, ⟨7, .struct [(0, 1, false), (1, 1, false), (2, 1, false), (3, 1, false), (4, 1, false), (5, 1, false), (6, 1, false)], [.int .i64, .int .i64, .str, .str, .int .i64, .int .i64, .str]⟩),
  (175, ⟨7, .struct [(0, 1, false), (1, 1, false), (2, 1, false), (3, 1, false), (4, 1, false), (5, 1, false), (6, 1, false)], [.int .i64, .int .i64, .str, .str, .int .i64, .int .i64, .str]⟩),
  (176, ⟨1, .func, [.nilf]⟩),
  (177, ⟨1, .func, [.nilf]⟩),
  (179, ⟨1, .func, [.nilf]⟩),
  (180, ⟨1, .func, [.nilf]⟩),
  (181, ⟨1, .func, [.nilf]⟩),
  (182, ⟨1, .func, [.nilf]⟩),
  (183, ⟨1, .func, [.nilf]⟩),
  (184, ⟨1, .func, [.nilf]⟩),
  (185, ⟨1, .int .u64, [.int .u64]⟩),
  (186, ⟨1, .func, [.nilf]⟩),
  (187, ⟨1, .func, [.nilf]⟩),
  (188, ⟨1, .func, [.nilf]⟩),
  (189, ⟨1, .func, [.nilf]⟩),
  (190, ⟨1, .func, [.nilf]⟩),
  (191, ⟨5, .struct [(0, 1, false), (1, 1, false), (2, 1, false), (3, 1, false), (4, 1, false)], [.int .i64, .int .i64, .str, .str, .slnil]⟩),
  (192, ⟨5, .struct [(0, 1, false), (1, 1, false), (2, 1, false), (3, 1, false), (4, 1, false)], [.int .i64, .int .i64, .str, .str, .slnil]⟩),
  (193, ⟨1, .func, [.nilf]⟩),
  (194, ⟨1, .func, [.nilf]⟩),
  (195, ⟨1, .func, [.nilf]⟩),
  (196, ⟨1, .func, [.nilf]⟩),
  (197, ⟨1, .func, [.nilf]⟩),
  (198, ⟨1, .ptr 201, [.nilp]⟩),
  (199, ⟨1, .slice 5, [.slnil]⟩),
  (200, ⟨2, .struct [(0, 1, false), (1, 1, false)], [.nilp, .slnil]⟩),
  (201, ⟨2, .struct [(0, 1, false), (1, 1, false)], [.nilp, .slnil]⟩),
  (202, ⟨1, .func, [.nilf]⟩),
  (206, ⟨1, .func, [.nilf]⟩),
  (207, ⟨1, .func, [.nilf]⟩),
  (208, ⟨1, .func, [.nilf]⟩),
  (209, ⟨1, .func, [.nilf]⟩),
  (210, ⟨1, .func, [.nilf]⟩),
  (212, ⟨2, .struct [(0, 1, false), (1, 1, false)], [.int .u8, .int .u8]⟩),
  (213, ⟨2, .struct [(0, 1, false), (1, 1, false)], [.int .u8, .int .u8]⟩),
  (215, ⟨1, .func, [.nilf]⟩),
  (216, ⟨1, .int .u32, [.int .u32]⟩),
  (218, ⟨1, .func, [.nilf]⟩),
  (220, ⟨1, .func, [.nilf]⟩),
  (221, ⟨1, .func, [.nilf]⟩),
  (222, ⟨1, .func, [.nilf]⟩),
  (223, ⟨1, .func, [.nilf]⟩),
  (224, ⟨1, .func, [.nilf]⟩),
  (225, ⟨1, .slice 121, [.slnil]⟩),
  (226, ⟨1, .func, [.nilf]⟩),
  (227, ⟨1, .int .i64, [.int .i64]⟩),
  (229, ⟨1, .func, [.nilf]⟩),
  (230, ⟨1, .func, [.nilf]⟩),
  (231, ⟨1, .func, [.nilf]⟩),
  (233, ⟨1, .func, [.nilf]⟩),
  (234, ⟨1, .func, [.nilf]⟩),
  (235, ⟨1, .func, [.nilf]⟩),
  (236, ⟨1, .int .u64, [.int .u64]⟩),
  (237, ⟨1, .ptr 5, [.nilp]⟩),
  (238, ⟨1, .func, [.nilf]⟩),
  (239, ⟨1, .func, [.nilf]⟩),
  (240, ⟨1, .map 9 4, [.mnil]⟩),
  (241, ⟨1, .int .u64, [.int .u64]⟩),
  (242, ⟨1, .func, [.nilf]⟩),
  (243, ⟨1, .func, [.nilf]⟩),
  (244, ⟨1, .func, [.nilf]⟩),
  (245, ⟨1, .ptr 3, [.nilp]⟩),
  (246, ⟨1, .func, [.nilf]⟩),
  (248, ⟨1, .func, [.nilf]⟩),
  (249, ⟨1, .func, [.nilf]⟩),
  (250, ⟨1, .ptr 241, [.nilp]⟩),
  (251, ⟨1, .func, [.nilf]⟩),
  (253, ⟨1, .func, [.nilf]⟩),
  (254, ⟨1, .func, [.nilf]⟩),
  (255, ⟨1, .func, [.nilf]⟩),
  (256, ⟨1, .func, [.nilf]⟩),
  (257, ⟨1, .func, [.nilf]⟩),
  (258, ⟨4, .struct [(0, 1, false), (1, 1, false), (2, 1, false), (3, 1, false)], [.nilp, .nilp, .nilp, .str]⟩),
  (259, ⟨4, .struct [(0, 1, false), (1, 1, false), (2, 1, false), (3, 1, false)], [.nilp, .nilp, .nilp, .str]⟩),
  (261, ⟨0, .struct [(0, 0, true)], []⟩),
  (262, ⟨0, .struct [(0, 0, true)], []⟩),
  (263, ⟨1, .func, [.nilf]⟩),
  (264, ⟨1, .int .u8, [.int .u8]⟩),
  (265, ⟨1, .int .u8, [.int .u8]⟩),
  (266, ⟨1, .func, [.nilf]⟩),
  (267, ⟨1, .int .i32, [.int .i32]⟩),
  (268, ⟨1, .int .i32, [.int .i32]⟩),
  (269, ⟨11, .struct [(0, 1, false), (1, 1, false), (2, 1, false), (3, 1, false), (4, 1, false), (5, 1, false), (6, 1, false), (7, 1, false), (8, 1, false), (9, 1, false), (10, 1, false)], [.int .u64, .int .u64, .int .u32, .int .u8, .int .u8, .int .u8, .int .u8, .nilf, .nilp, .int .i32, .int .i32]⟩),
  (270, ⟨11, .struct [(0, 1, false), (1, 1, false), (2, 1, false), (3, 1, false), (4, 1, false), (5, 1, false), (6, 1, false), (7, 1, false), (8, 1, false), (9, 1, false), (10, 1, false)], [.int .u64, .int .u64, .int .u32, .int .u8, .int .u8, .int .u8, .int .u8, .nilf, .nilp, .int .i32, .int .i32]⟩)]
def tab : Tab := fun t => tabL.lookup t
theorem lookup_mem : ∀ {l : List (Nat × TI)} {t : Nat} {i : TI}, l.lookup t = some i → (t, i) ∈ l
  | (u, j) :: l, t, i, h => by
    rw [List.lookup_cons] at h
    split at h
    · rename_i e; cases h; rw [eq_of_beq e]; exact List.mem_cons_self
    · exact List.mem_cons_of_mem _ (lookup_mem h)
theorem tab_all : (tabL.all fun p => decide (tabOf Go.Proofs.Tryz.prog p.1 = some p.2)) = true := by kernel_rfl
theorem tab_ok : TabOK Go.Proofs.Tryz.prog tab := (tabOf_ok _).of fun t i h => by
  have := List.all_eq_true.1 tab_all _ (lookup_mem h)
  simpa using this
theorem mixedT : Go.Proofs.Tryz.prog.follows .mixedOrders = true := by kernel_rfl
@[simp] theorem tab1 : tab 1 = some ⟨1, .func, [.nilf]⟩ := rfl
@[simp] theorem tab2 : tab 2 = some ⟨1, .int .i64, [.int .i64]⟩ := rfl
@[simp] theorem tab3 : tab 3 = some ⟨1, .int .i64, [.int .i64]⟩ := rfl
@[simp] theorem tab4 : tab 4 = some ⟨1, .bool, [.bool]⟩ := rfl
@[simp] theorem tab5 : tab 5 = some ⟨1, .int .u8, [.int .u8]⟩ := rfl
@[simp] theorem tab6 : tab 6 = some ⟨1, .int .u8, [.int .u8]⟩ := rfl
@[simp] theorem tab7 : tab 7 = some ⟨4, .struct [(0, 1, false), (1, 1, false), (2, 1, false), (3, 1, false)], [.int .i64, .int .i64, .bool, .int .u8]⟩ := rfl
@[simp] theorem tab8 : tab 8 = some ⟨4, .struct [(0, 1, false), (1, 1, false), (2, 1, false), (3, 1, false)], [.int .i64, .int .i64, .bool, .int .u8]⟩ := rfl
@[simp] theorem tab9 : tab 9 = some ⟨1, .str, [.str]⟩ := rfl
@[simp] theorem tab10 : tab 10 = some ⟨1, .str, [.str]⟩ := rfl
@[simp] theorem tab11 : tab 11 = some ⟨1, .str, [.str]⟩ := rfl
@[simp] theorem tab12 : tab 12 = some ⟨1, .int .u64, [.int .u64]⟩ := rfl
@[simp] theorem tab13 : tab 13 = some ⟨2, .struct [(0, 1, false), (1, 1, false)], [.str, .int .u64]⟩ := rfl
@[simp] theorem tab14 : tab 14 = some ⟨2, .struct [(0, 1, false), (1, 1, false)], [.str, .int .u64]⟩ := rfl
@[simp] theorem tab15 : tab 15 = some ⟨1, .ptr 259, [.nilp]⟩ := rfl
@[simp] theorem tab16 : tab 16 = some ⟨1, .ptr 262, [.nilp]⟩ := rfl
@[simp] theorem tab17 : tab 17 = some ⟨1, .ptr 270, [.nilp]⟩ := rfl
@[simp] theorem tab18 : tab 18 = some ⟨1, .struct [(0, 1, false)], [.nilp]⟩ := rfl
@[simp] theorem tab19 : tab 19 = some ⟨1, .struct [(0, 1, false)], [.nilp]⟩ := rfl
@[simp] theorem tab21 : tab 21 = some ⟨1, .int .i32, [.int .i32]⟩ := rfl
@[simp] theorem tab22 : tab 22 = some ⟨1, .ptr 43, [.nilp]⟩ := rfl
@[simp] theorem tab23 : tab 23 = some ⟨1, .func, [.nilf]⟩ := rfl
@[simp] theorem tab24 : tab 24 = some ⟨1, .slice 38, [.slnil]⟩ := rfl
@[simp] theorem tab25 : tab 25 = some ⟨1, .int .i64, [.int .i64]⟩ := rfl
@[simp] theorem tab27 : tab 27 = some ⟨1, .func, [.nilf]⟩ := rfl
@[simp] theorem tab29 : tab 29 = some ⟨1, .func, [.nilf]⟩ := rfl
@[simp] theorem tab30 : tab 30 = some ⟨1, .func, [.nilf]⟩ := rfl
@[simp] theorem tab31 : tab 31 = some ⟨1, .func, [.nilf]⟩ := rfl
@[simp] theorem tab32 : tab 32 = some ⟨1, .func, [.nilf]⟩ := rfl
@[simp] theorem tab33 : tab 33 = some ⟨1, .slice 3, [.slnil]⟩ := rfl
@[simp] theorem tab34 : tab 34 = some ⟨1, .slice 33, [.slnil]⟩ := rfl
@[simp] theorem tab35 : tab 35 = some ⟨1, .func, [.nilf]⟩ := rfl
@[simp] theorem tab36 : tab 36 = some ⟨1, .slice 9, [.slnil]⟩ := rfl
@[simp] theorem tab37 : tab 37 = some ⟨5, .struct [(0, 1, false), (1, 1, false), (2, 1, false), (3, 1, false), (4, 1, false)], [.slnil, .str, .str, .slnil, .slnil]⟩ := rfl
@[simp] theorem tab38 : tab 38 = some ⟨5, .struct [(0, 1, false), (1, 1, false), (2, 1, false), (3, 1, false), (4, 1, false)], [.slnil, .str, .str, .slnil, .slnil]⟩ := rfl
@[simp] theorem tab40 : tab 40 = some ⟨1, .func, [.nilf]⟩ := rfl
@[simp] theorem tab41 : tab 41 = some ⟨1, .slice 22, [.slnil]⟩ := rfl
@[simp] theorem tab42 : tab 42 = some ⟨5, .struct [(0, 1, false), (1, 1, false), (2, 1, false), (3, 1, false), (4, 1, false)], [.int .i64, .int .i64, .str, .str, .slnil]⟩ := rfl
@[simp] theorem tab43 : tab 43 = some ⟨5, .struct [(0, 1, false), (1, 1, false), (2, 1, false), (3, 1, false), (4, 1, false)], [.int .i64, .int .i64, .str, .str, .slnil]⟩ := rfl
@[simp] theorem tab44 : tab 44 = some ⟨1, .func, [.nilf]⟩ := rfl
@[simp] theorem tab45 : tab 45 = some ⟨1, .func, [.nilf]⟩ := rfl
@[simp] theorem tab46 : tab 46 = some ⟨2, .struct [(0, 1, false), (1, 1, false)], [.slnil, .slnil]⟩ := rfl
@[simp] theorem tab47 : tab 47 = some ⟨2, .struct [(0, 1, false), (1, 1, false)], [.slnil, .slnil]⟩ := rfl
@[simp] theorem tab48 : tab 48 = some ⟨1, .slice 47, [.slnil]⟩ := rfl
@[simp] theorem tab49 : tab 49 = some ⟨1, .func, [.nilf]⟩ := rfl
@[simp] theorem tab50 : tab 50 = some ⟨1, .func, [.nilf]⟩ := rfl
@[simp] theorem tab52 : tab 52 = some ⟨1, .func, [.nilf]⟩ := rfl
@[simp] theorem tab53 : tab 53 = some ⟨1, .ptr 57, [.nilp]⟩ := rfl
@[simp] theorem tab55 : tab 55 = some ⟨1, .func, [.nilf]⟩ := rfl
@[simp] theorem tab56 : tab 56 = some ⟨3, .struct [(0, 1, false), (1, 1, false), (2, 1, false)], [.slnil, .slnil, .int .i64]⟩ := rfl
@[simp] theorem tab57 : tab 57 = some ⟨3, .struct [(0, 1, false), (1, 1, false), (2, 1, false)], [.slnil, .slnil, .int .i64]⟩ := rfl
@[simp] theorem tab58 : tab 58 = some ⟨1, .ptr 62, [.nilp]⟩ := rfl
@[simp] theorem tab60 : tab 60 = some ⟨1, .func, [.nilf]⟩ := rfl
@[simp] theorem tab61 : tab 61 = some ⟨3, .struct [(0, 1, false), (1, 1, false), (2, 1, false)], [.slnil, .slnil, .int .i64]⟩ := rfl
@[simp] theorem tab62 : tab 62 = some ⟨3, .struct [(0, 1, false), (1, 1, false), (2, 1, false)], [.slnil, .slnil, .int .i64]⟩ := rfl
@[simp] theorem tab63 : tab 63 = some ⟨1, .func, [.nilf]⟩ := rfl
@[simp] theorem tab64 : tab 64 = some ⟨1, .func, [.nilf]⟩ := rfl
@[simp] theorem tab65 : tab 65 = some ⟨1, .func, [.nilf]⟩ := rfl
@[simp] theorem tab66 : tab 66 = some ⟨1, .func, [.nilf]⟩ := rfl
@[simp] theorem tab67 : tab 67 = some ⟨1, .slice 4, [.slnil]⟩ := rfl
@[simp] theorem tab68 : tab 68 = some ⟨1, .func, [.nilf]⟩ := rfl
@[simp] theorem tab70 : tab 70 = some ⟨1, .func, [.nilf]⟩ := rfl
@[simp] theorem tab71 : tab 71 = some ⟨1, .slice 77, [.slnil]⟩ := rfl
@[simp] theorem tab73 : tab 73 = some ⟨1, .func, [.nilf]⟩ := rfl
@[simp] theorem tab75 : tab 75 = some ⟨1, .func, [.nilf]⟩ := rfl
@[simp] theorem tab76 : tab 76 = some ⟨4, .struct [(0, 1, false), (1, 1, false), (2, 1, false), (3, 1, false)], [.int .i64, .str, .int .i64, .int .i64]⟩ := rfl
@[simp] theorem tab77 : tab 77 = some ⟨4, .struct [(0, 1, false), (1, 1, false), (2, 1, false), (3, 1, false)], [.int .i64, .str, .int .i64, .int .i64]⟩ := rfl
@[simp] theorem tab78 : tab 78 = some ⟨1, .func, [.nilf]⟩ := rfl
@[simp] theorem tab79 : tab 79 = some ⟨1, .func, [.nilf]⟩ := rfl
@[simp] theorem tab80 : tab 80 = some ⟨1, .func, [.nilf]⟩ := rfl
@[simp] theorem tab81 : tab 81 = some ⟨1, .map 9 83, [.mnil]⟩ := rfl
@[simp] theorem tab82 : tab 82 = some ⟨1, .map 9 83, [.mnil]⟩ := rfl
@[simp] theorem tab83 : tab 83 = some ⟨1, .ptr 88, [.nilp]⟩ := rfl
@[simp] theorem tab84 : tab 84 = some ⟨1, .func, [.nilf]⟩ := rfl
@[simp] theorem tab85 : tab 85 = some ⟨1, .map 9 86, [.mnil]⟩ := rfl
@[simp] theorem tab86 : tab 86 = some ⟨1, .map 9 86, [.mnil]⟩ := rfl
@[simp] theorem tab87 : tab 87 = some ⟨5, .struct [(0, 1, false), (1, 1, false), (2, 1, false), (3, 1, false), (4, 1, false)], [.str, .slnil, .bool, .mnil, .nilp]⟩ := rfl
@[simp] theorem tab88 : tab 88 = some ⟨5, .struct [(0, 1, false), (1, 1, false), (2, 1, false), (3, 1, false), (4, 1, false)], [.str, .slnil, .bool, .mnil, .nilp]⟩ := rfl
@[simp] theorem tab89 : tab 89 = some ⟨1, .func, [.nilf]⟩ := rfl
@[simp] theorem tab90 : tab 90 = some ⟨1, .func, [.nilf]⟩ := rfl
@[simp] theorem tab91 : tab 91 = some ⟨1, .ptr 95, [.nilp]⟩ := rfl
@[simp] theorem tab92 : tab 92 = some ⟨1, .slice 100, [.slnil]⟩ := rfl
@[simp] theorem tab93 : tab 93 = some ⟨1, .slice 102, [.slnil]⟩ := rfl
@[simp] theorem tab94 : tab 94 = some ⟨2, .struct [(0, 1, false), (1, 1, false)], [.slnil, .slnil]⟩ := rfl
@[simp] theorem tab95 : tab 95 = some ⟨2, .struct [(0, 1, false), (1, 1, false)], [.slnil, .slnil]⟩ := rfl
@[simp] theorem tab96 : tab 96 = some ⟨1, .func, [.nilf]⟩ := rfl
@[simp] theorem tab97 : tab 97 = some ⟨1, .func, [.nilf]⟩ := rfl
@[simp] theorem tab98 : tab 98 = some ⟨1, .func, [.nilf]⟩ := rfl
@[simp] theorem tab99 : tab 99 = some ⟨4, .struct [(0, 1, false), (1, 1, false), (2, 1, false), (3, 1, false)], [.str, .slnil, .bool, .slnil]⟩ := rfl
@[simp] theorem tab100 : tab 100 = some ⟨4, .struct [(0, 1, false), (1, 1, false), (2, 1, false), (3, 1, false)], [.str, .slnil, .bool, .slnil]⟩ := rfl
@[simp] theorem tab101 : tab 101 = some ⟨6, .struct [(0, 1, false), (1, 1, false), (2, 4, true)], [.str, .slnil, .str, .slnil, .bool, .slnil]⟩ := rfl
@[simp] theorem tab102 : tab 102 = some ⟨6, .struct [(0, 1, false), (1, 1, false), (2, 4, true)], [.str, .slnil, .str, .slnil, .bool, .slnil]⟩ := rfl
@[simp] theorem tab103 : tab 103 = some ⟨1, .func, [.nilf]⟩ := rfl
@[simp] theorem tab104 : tab 104 = some ⟨1, .func, [.nilf]⟩ := rfl
@[simp] theorem tab106 : tab 106 = some ⟨1, .func, [.nilf]⟩ := rfl
@[simp] theorem tab108 : tab 108 = some ⟨1, .func, [.nilf]⟩ := rfl
@[simp] theorem tab109 : tab 109 = some ⟨1, .slice 21, [.slnil]⟩ := rfl
@[simp] theorem tab111 : tab 111 = some ⟨1, .func, [.nilf]⟩ := rfl
@[simp] theorem tab112 : tab 112 = some ⟨1, .func, [.nilf]⟩ := rfl
@[simp] theorem tab113 : tab 113 = some ⟨1, .func, [.nilf]⟩ := rfl
@[simp] theorem tab114 : tab 114 = some ⟨1, .func, [.nilf]⟩ := rfl
@[simp] theorem tab116 : tab 116 = some ⟨1, .func, [.nilf]⟩ := rfl
@[simp] theorem tab117 : tab 117 = some ⟨1, .func, [.nilf]⟩ := rfl
@[simp] theorem tab118 : tab 118 = some ⟨1, .slice 159, [.slnil]⟩ := rfl
@[simp] theorem tab119 : tab 119 = some ⟨1, .func, [.nilf]⟩ := rfl
@[simp] theorem tab120 : tab 120 = some ⟨1, .func, [.nilf]⟩ := rfl
@[simp] theorem tab121 : tab 121 = some ⟨1, .func, [.nilf]⟩ := rfl
@[simp] theorem tab122 : tab 122 = some ⟨1, .func, [.nilf]⟩ := rfl
@[simp] theorem tab123 : tab 123 = some ⟨1, .func, [.nilf]⟩ := rfl
@[simp] theorem tab124 : tab 124 = some ⟨1, .func, [.nilf]⟩ := rfl
@[simp] theorem tab125 : tab 125 = some ⟨1, .func, [.nilf]⟩ := rfl
@[simp] theorem tab126 : tab 126 = some ⟨1, .func, [.nilf]⟩ := rfl
@[simp] theorem tab127 : tab 127 = some ⟨1, .func, [.nilf]⟩ := rfl
@[simp] theorem tab128 : tab 128 = some ⟨1, .func, [.nilf]⟩ := rfl
@[simp] theorem tab129 : tab 129 = some ⟨1, .func, [.nilf]⟩ := rfl
@[simp] theorem tab130 : tab 130 = some ⟨1, .func, [.nilf]⟩ := rfl
@[simp] theorem tab131 : tab 131 = some ⟨1, .func, [.nilf]⟩ := rfl
@[simp] theorem tab132 : tab 132 = some ⟨1, .func, [.nilf]⟩ := rfl
@[simp] theorem tab133 : tab 133 = some ⟨1, .func, [.nilf]⟩ := rfl
@[simp] theorem tab134 : tab 134 = some ⟨1, .func, [.nilf]⟩ := rfl
@[simp] theorem tab136 : tab 136 = some ⟨1, .func, [.nilf]⟩ := rfl
@[simp] theorem tab137 : tab 137 = some ⟨1, .slice 192, [.slnil]⟩ := rfl
@[simp] theorem tab138 : tab 138 = some ⟨1, .struct [(0, 1, false)], [.slnil]⟩ := rfl
@[simp] theorem tab139 : tab 139 = some ⟨1, .struct [(0, 1, false)], [.slnil]⟩ := rfl
@[simp] theorem tab141 : tab 141 = some ⟨1, .func, [.nilf]⟩ := rfl
@[simp] theorem tab142 : tab 142 = some ⟨1, .func, [.nilf]⟩ := rfl
@[simp] theorem tab143 : tab 143 = some ⟨1, .func, [.nilf]⟩ := rfl
@[simp] theorem tab144 : tab 144 = some ⟨1, .func, [.nilf]⟩ := rfl
@[simp] theorem tab145 : tab 145 = some ⟨1, .func, [.nilf]⟩ := rfl
@[simp] theorem tab146 : tab 146 = some ⟨1, .func, [.nilf]⟩ := rfl
@[simp] theorem tab147 : tab 147 = some ⟨1, .func, [.nilf]⟩ := rfl
@[simp] theorem tab148 : tab 148 = some ⟨1, .func, [.nilf]⟩ := rfl
@[simp] theorem tab149 : tab 149 = some ⟨1, .func, [.nilf]⟩ := rfl
@[simp] theorem tab150 : tab 150 = some ⟨1, .func, [.nilf]⟩ := rfl
@[simp] theorem tab151 : tab 151 = some ⟨1, .func, [.nilf]⟩ := rfl
@[simp] theorem tab152 : tab 152 = some ⟨1, .func, [.nilf]⟩ := rfl
@[simp] theorem tab153 : tab 153 = some ⟨1, .func, [.nilf]⟩ := rfl
@[simp] theorem tab155 : tab 155 = some ⟨1, .func, [.nilf]⟩ := rfl
@[simp] theorem tab156 : tab 156 = some ⟨1, .func, [.nilf]⟩ := rfl
@[simp] theorem tab157 : tab 157 = some ⟨1, .func, [.nilf]⟩ := rfl
@[simp] theorem tab158 : tab 158 = some ⟨3, .struct [(0, 1, false), (1, 1, false), (2, 1, false)], [.slnil, .int .i64, .str]⟩ := rfl
@[simp] theorem tab159 : tab 159 = some ⟨3, .struct [(0, 1, false), (1, 1, false), (2, 1, false)], [.slnil, .int .i64, .str]⟩ := rfl
@[simp] theorem tab161 : tab 161 = some ⟨1, .func, [.nilf]⟩ := rfl
@[simp] theorem tab162 : tab 162 = some ⟨1, .func, [.nilf]⟩ := rfl
@[simp] theorem tab163 : tab 163 = some ⟨1, .func, [.nilf]⟩ := rfl
@[simp] theorem tab164 : tab 164 = some ⟨1, .func, [.nilf]⟩ := rfl
@[simp] theorem tab165 : tab 165 = some ⟨1, .func, [.nilf]⟩ := rfl
@[simp] theorem tab166 : tab 166 = some ⟨1, .func, [.nilf]⟩ := rfl
@[simp] theorem tab167 : tab 167 = some ⟨1, .func, [.nilf]⟩ := rfl
@[simp] theorem tab169 : tab 169 = some ⟨1, .func, [.nilf]⟩ := rfl
@[simp] theorem tab170 : tab 170 = some ⟨1, .func, [.nilf]⟩ := rfl
@[simp] theorem tab171 : tab 171 = some ⟨1, .func, [.nilf]⟩ := rfl
@[simp] theorem tab172 : tab 172 = some ⟨1, .slice 175, [.slnil]⟩ := rfl
@[simp] theorem tab173 : tab 173 = some ⟨1, .func, [.nilf]⟩ := rfl
@[simp] theorem tab174 : tab 174 = some ⟨7, .struct [(0, 1, false), (1, 1, false), (2, 1, false), (3, 1, false), (4, 1, false), (5, 1, false), (6, 1, false)], [.int .i64, .int .i64, .str, .str, .int .i64, .int .i64, .str]⟩ := rfl
@[simp] theorem tab175 : tab 175 = some ⟨7, .struct [(0, 1, false), (1, 1, false), (2, 1, false), (3, 1, false), (4, 1, false), (5, 1, false), (6, 1, false)], [.int .i64, .int .i64, .str, .str, .int .i64, .int .i64, .str]⟩ := rfl
@[simp] theorem tab176 : tab 176 = some ⟨1, .func, [.nilf]⟩ := rfl
@[simp] theorem tab177 : tab 177 = some ⟨1, .func, [.nilf]⟩ := rfl
@[simp] theorem tab179 : tab 179 = some ⟨1, .func, [.nilf]⟩ := rfl
@[simp] theorem tab180 : tab 180 = some ⟨1, .func, [.nilf]⟩ := rfl
@[simp] theorem tab181 : tab 181 = some ⟨1, .func, [.nilf]⟩ := rfl
@[simp] theorem tab182 : tab 182 = some ⟨1, .func, [.nilf]⟩ := rfl
@[simp] theorem tab183 : tab 183 = some ⟨1, .func, [.nilf]⟩ := rfl
@[simp] theorem tab184 : tab 184 = some ⟨1, .func, [.nilf]⟩ := rfl
@[simp] theorem tab185 : tab 185 = some ⟨1, .int .u64, [.int .u64]⟩ := rfl
@[simp] theorem tab186 : tab 186 = some ⟨1, .func, [.nilf]⟩ := rfl
@[simp] theorem tab187 : tab 187 = some ⟨1, .func, [.nilf]⟩ := rfl
@[simp] theorem tab188 : tab 188 = some ⟨1, .func, [.nilf]⟩ := rfl
@[simp] theorem tab189 : tab 189 = some ⟨1, .func, [.nilf]⟩ := rfl
@[simp] theorem tab190 : tab 190 = some ⟨1, .func, [.nilf]⟩ := rfl
@[simp] theorem tab191 : tab 191 = some ⟨5, .struct [(0, 1, false), (1, 1, false), (2, 1, false), (3, 1, false), (4, 1, false)], [.int .i64, .int .i64, .str, .str, .slnil]⟩ := rfl
@[simp] theorem tab192 : tab 192 = some ⟨5, .struct [(0, 1, false), (1, 1, false), (2, 1, false), (3, 1, false), (4, 1, false)], [.int .i64, .int .i64, .str, .str, .slnil]⟩ := rfl
@[simp] theorem tab193 : tab 193 = some ⟨1, .func, [.nilf]⟩ := rfl
@[simp] theorem tab194 : tab 194 = some ⟨1, .func, [.nilf]⟩ := rfl
@[simp] theorem tab195 : tab 195 = some ⟨1, .func, [.nilf]⟩ := rfl
@[simp] theorem tab196 : tab 196 = some ⟨1, .func, [.nilf]⟩ := rfl
@[simp] theorem tab197 : tab 197 = some ⟨1, .func, [.nilf]⟩ := rfl
@[simp] theorem tab198 : tab 198 = some ⟨1, .ptr 201, [.nilp]⟩ := rfl
@[simp] theorem tab199 : tab 199 = some ⟨1, .slice 5, [.slnil]⟩ := rfl
@[simp] theorem tab200 : tab 200 = some ⟨2, .struct [(0, 1, false), (1, 1, false)], [.nilp, .slnil]⟩ := rfl
@[simp] theorem tab201 : tab 201 = some ⟨2, .struct [(0, 1, false), (1, 1, false)], [.nilp, .slnil]⟩ := rfl
@[simp] theorem tab202 : tab 202 = some ⟨1, .func, [.nilf]⟩ := rfl
@[simp] theorem tab206 : tab 206 = some ⟨1, .func, [.nilf]⟩ := rfl
@[simp] theorem tab207 : tab 207 = some ⟨1, .func, [.nilf]⟩ := rfl
@[simp] theorem tab208 : tab 208 = some ⟨1, .func, [.nilf]⟩ := rfl
@[simp] theorem tab209 : tab 209 = some ⟨1, .func, [.nilf]⟩ := rfl
@[simp] theorem tab210 : tab 210 = some ⟨1, .func, [.nilf]⟩ := rfl
@[simp] theorem tab212 : tab 212 = some ⟨2, .struct [(0, 1, false), (1, 1, false)], [.int .u8, .int .u8]⟩ := rfl
@[simp] theorem tab213 : tab 213 = some ⟨2, .struct [(0, 1, false), (1, 1, false)], [.int .u8, .int .u8]⟩ := rfl
@[simp] theorem tab215 : tab 215 = some ⟨1, .func, [.nilf]⟩ := rfl
@[simp] theorem tab216 : tab 216 = some ⟨1, .int .u32, [.int .u32]⟩ := rfl
@[simp] theorem tab218 : tab 218 = some ⟨1, .func, [.nilf]⟩ := rfl
@[simp] theorem tab220 : tab 220 = some ⟨1, .func, [.nilf]⟩ := rfl
@[simp] theorem tab221 : tab 221 = some ⟨1, .func, [.nilf]⟩ := rfl
@[simp] theorem tab222 : tab 222 = some ⟨1, .func, [.nilf]⟩ := rfl
@[simp] theorem tab223 : tab 223 = some ⟨1, .func, [.nilf]⟩ := rfl
@[simp] theorem tab224 : tab 224 = some ⟨1, .func, [.nilf]⟩ := rfl
@[simp] theorem tab225 : tab 225 = some ⟨1, .slice 121, [.slnil]⟩ := rfl
@[simp] theorem tab226 : tab 226 = some ⟨1, .func, [.nilf]⟩ := rfl
@[simp] theorem tab227 : tab 227 = some ⟨1, .int .i64, [.int .i64]⟩ := rfl
@[simp] theorem tab229 : tab 229 = some ⟨1, .func, [.nilf]⟩ := rfl
@[simp] theorem tab230 : tab 230 = some ⟨1, .func, [.nilf]⟩ := rfl
@[simp] theorem tab231 : tab 231 = some ⟨1, .func, [.nilf]⟩ := rfl
@[simp] theorem tab233 : tab 233 = some ⟨1, .func, [.nilf]⟩ := rfl
@[simp] theorem tab234 : tab 234 = some ⟨1, .func, [.nilf]⟩ := rfl
@[simp] theorem tab235 : tab 235 = some ⟨1, .func, [.nilf]⟩ := rfl
@[simp] theorem tab236 : tab 236 = some ⟨1, .int .u64, [.int .u64]⟩ := rfl
@[simp] theorem tab237 : tab 237 = some ⟨1, .ptr 5, [.nilp]⟩ := rfl
@[simp] theorem tab238 : tab 238 = some ⟨1, .func, [.nilf]⟩ := rfl
@[simp] theorem tab239 : tab 239 = some ⟨1, .func, [.nilf]⟩ := rfl
@[simp] theorem tab240 : tab 240 = some ⟨1, .map 9 4, [.mnil]⟩ := rfl
@[simp] theorem tab241 : tab 241 = some ⟨1, .int .u64, [.int .u64]⟩ := rfl
@[simp] theorem tab242 : tab 242 = some ⟨1, .func, [.nilf]⟩ := rfl
@[simp] theorem tab243 : tab 243 = some ⟨1, .func, [.nilf]⟩ := rfl
@[simp] theorem tab244 : tab 244 = some ⟨1, .func, [.nilf]⟩ := rfl
@[simp] theorem tab245 : tab 245 = some ⟨1, .ptr 3, [.nilp]⟩ := rfl
@[simp] theorem tab246 : tab 246 = some ⟨1, .func, [.nilf]⟩ := rfl
@[simp] theorem tab248 : tab 248 = some ⟨1, .func, [.nilf]⟩ := rfl
@[simp] theorem tab249 : tab 249 = some ⟨1, .func, [.nilf]⟩ := rfl
@[simp] theorem tab250 : tab 250 = some ⟨1, .ptr 241, [.nilp]⟩ := rfl
@[simp] theorem tab251 : tab 251 = some ⟨1, .func, [.nilf]⟩ := rfl
@[simp] theorem tab253 : tab 253 = some ⟨1, .func, [.nilf]⟩ := rfl
@[simp] theorem tab254 : tab 254 = some ⟨1, .func, [.nilf]⟩ := rfl
@[simp] theorem tab255 : tab 255 = some ⟨1, .func, [.nilf]⟩ := rfl
@[simp] theorem tab256 : tab 256 = some ⟨1, .func, [.nilf]⟩ := rfl
@[simp] theorem tab257 : tab 257 = some ⟨1, .func, [.nilf]⟩ := rfl
@[simp] theorem tab258 : tab 258 = some ⟨4, .struct [(0, 1, false), (1, 1, false), (2, 1, false), (3, 1, false)], [.nilp, .nilp, .nilp, .str]⟩ := rfl
@[simp] theorem tab259 : tab 259 = some ⟨4, .struct [(0, 1, false), (1, 1, false), (2, 1, false), (3, 1, false)], [.nilp, .nilp, .nilp, .str]⟩ := rfl
@[simp] theorem tab261 : tab 261 = some ⟨0, .struct [(0, 0, true)], []⟩ := rfl
@[simp] theorem tab262 : tab 262 = some ⟨0, .struct [(0, 0, true)], []⟩ := rfl
@[simp] theorem tab263 : tab 263 = some ⟨1, .func, [.nilf]⟩ := rfl
@[simp] theorem tab264 : tab 264 = some ⟨1, .int .u8, [.int .u8]⟩ := rfl
@[simp] theorem tab265 : tab 265 = some ⟨1, .int .u8, [.int .u8]⟩ := rfl
@[simp] theorem tab266 : tab 266 = some ⟨1, .func, [.nilf]⟩ := rfl
@[simp] theorem tab267 : tab 267 = some ⟨1, .int .i32, [.int .i32]⟩ := rfl
@[simp] theorem tab268 : tab 268 = some ⟨1, .int .i32, [.int .i32]⟩ := rfl
@[simp] theorem tab269 : tab 269 = some ⟨11, .struct [(0, 1, false), (1, 1, false), (2, 1, false), (3, 1, false), (4, 1, false), (5, 1, false), (6, 1, false), (7, 1, false), (8, 1, false), (9, 1, false), (10, 1, false)], [.int .u64, .int .u64, .int .u32, .int .u8, .int .u8, .int .u8, .int .u8, .nilf, .nilp, .int .i32, .int .i32]⟩ := rfl
@[simp] theorem tab270 : tab 270 = some ⟨11, .struct [(0, 1, false), (1, 1, false), (2, 1, false), (3, 1, false), (4, 1, false), (5, 1, false), (6, 1, false), (7, 1, false), (8, 1, false), (9, 1, false), (10, 1, false)], [.int .u64, .int .u64, .int .u32, .int .u8, .int .u8, .int .u8, .int .u8, .nilf, .nilp, .int .i32, .int .i32]⟩ := rfl
attribute [simp] elemA byteA loadA packA TI.isAgg fieldA partA sliceA buildA fillA sliceLitA boxA allocA storeA lookA putA convA rangeA nextA mapA
end Go.Av
namespace Go.Av
abbrev Str := List UInt8
theorem wrap64 {n : Int} (h1 : -9223372036854775808 ≤ n) (h2 : n < 9223372036854775808) : IntKind.i64.wrap n = n := by
  unfold IntKind.wrap; simp [IntKind.bits, IntKind.signed]; omega
def Data (a : AV) : Prop := ∀ n m, cln n m a = a
def DataL (a : List AV) : Prop := ∀ n m, clnL n m a = a
theorem clnLL_map {α : Type} {f : α → List AV} (h : ∀ x, DataL (f x)) (n m : Nat) : ∀ l : List α, clnLL n m (l.map f) = l.map f
  | [] => rfl
  | x :: l => by simp only [List.map_cons, clnLL, h x n m, clnLL_map h n m l]
def ints (l : List Int) : List (List AV) := l.map fun n => [.int .i64 n]
@[simp] theorem ints_len (l : List Int) : (ints l).length = l.length := by simp [ints]
@[simp] theorem ints_eq_nil (l : List Int) : ints l = [] ↔ l = [] := by simp [ints]
@[simp] theorem ints_ok (l : List Int) : (ints l).all (fun x => x.all okCell) = true := by simp [ints]
@[simp] theorem ints_get (l : List Int) (i : Nat) : (ints l)[i]? = (l[i]?).map fun n => [.int .i64 n] := by simp [ints]
@[simp] theorem ints_getE (l : List Int) (i : Nat) (h : i < (ints l).length) : (ints l)[i] = [.int .i64 (l[i]'(by simpa using h))] := by simp [ints]
@[simp] theorem ints_cln (n m : Nat) (l : List Int) : clnLL n m (ints l) = ints l := clnLL_map (fun _ _ _ => rfl) n m l
theorem ints_append (a b : List Int) : ints (a ++ b) = ints a ++ ints b := by simp [ints]
@[simp] theorem ints_take (l : List Int) (i : Nat) : (ints l).take i = ints (l.take i) := by simp [ints]
@[simp] theorem ints_drop (l : List Int) (i : Nat) : (ints l).drop i = ints (l.drop i) := by simp [ints]
def strs (l : List Str) : List (List AV) := l.map fun s => [.str s]
@[simp] theorem strs_len (l : List Str) : (strs l).length = l.length := by simp [strs]
@[simp] theorem strs_eq_nil (l : List Str) : strs l = [] ↔ l = [] := by simp [strs]
@[simp] theorem strs_ok (l : List Str) : (strs l).all (fun x => x.all okCell) = true := by simp [strs]
@[simp] theorem strs_get (l : List Str) (i : Nat) : (strs l)[i]? = (l[i]?).map fun s => [.str s] := by simp [strs]
@[simp] theorem strs_getE (l : List Str) (i : Nat) (h : i < (strs l).length) : (strs l)[i] = [.str (l[i]'(by simpa using h))] := by simp [strs]
@[simp] theorem strs_cln (n m : Nat) (l : List Str) : clnLL n m (strs l) = strs l := clnLL_map (fun _ _ _ => rfl) n m l
theorem strs_append (a b : List Str) : strs (a ++ b) = strs a ++ strs b := by simp [strs]
@[simp] theorem strs_take (l : List Str) (i : Nat) : (strs l).take i = strs (l.take i) := by simp [strs]
@[simp] theorem strs_drop (l : List Str) (i : Nat) : (strs l).drop i = strs (l.drop i) := by simp [strs]
inductive Tr where
  | none
  | node (kind n : Int) (name mark : Str) (kids : List Tr)
mutual
def Tr.av : Tr → AV
  | .none => .nilp
  | .node k n a b l => .ptr [.int .i64 k, .int .i64 n, .str a, .str b, .sl 1 (Tr.avs l) .shut]
def Tr.avs : List Tr → List (List AV)
  | [] => []
  | t :: l => [t.av] :: Tr.avs l
end
theorem Tr.avs_map : ∀ l : List Tr, Tr.avs l = l.map fun t => [t.av]
  | [] => rfl
  | t :: l => by simp [Tr.avs, Tr.avs_map l]
@[simp] theorem avs_len (l : List Tr) : (Tr.avs l).length = l.length := by simp [Tr.avs_map]
@[simp] theorem avs_eq_nil (l : List Tr) : Tr.avs l = [] ↔ l = [] := by simp [Tr.avs_map]
theorem Tr.ok (t : Tr) : okCell t.av = true := by cases t <;> simp [Tr.av]
@[simp] theorem Tr.ok_not (t : Tr) : okCell t.av = true := t.ok
@[simp] theorem avs_ok (l : List Tr) : (Tr.avs l).all (fun x => x.all okCell) = true := by simp [Tr.avs_map]
@[simp] theorem avs_get (l : List Tr) (i : Nat) : (Tr.avs l)[i]? = (l[i]?).map fun t => [t.av] := by simp [Tr.avs_map]
@[simp] theorem avs_getE (l : List Tr) (i : Nat) (h : i < (Tr.avs l).length) : (Tr.avs l)[i] = [(l[i]'(by simpa using h)).av] := by simp [Tr.avs_map]
theorem avs_append (a b : List Tr) : Tr.avs (a ++ b) = Tr.avs a ++ Tr.avs b := by simp [Tr.avs_map]
@[simp] theorem avs_take (l : List Tr) (i : Nat) : (Tr.avs l).take i = Tr.avs (l.take i) := by simp [Tr.avs_map]
@[simp] theorem avs_drop (l : List Tr) (i : Nat) : (Tr.avs l).drop i = Tr.avs (l.drop i) := by simp [Tr.avs_map]
mutual
theorem Tr.data : ∀ t : Tr, Data t.av
  | .none, _, _ => rfl
  | .node k n a b l, p, q => by simp [Tr.av, cln, clnL, Tr.datas l p q, clnOwn]
theorem Tr.datas : ∀ (l : List Tr) (n m : Nat), clnLL n m (Tr.avs l) = Tr.avs l
  | [], _, _ => rfl
  | t :: l, n, m => by simp [Tr.avs, clnLL, clnL, Tr.data t n m, Tr.datas l n m]
end
@[simp] theorem Tr.cln_av (n m : Nat) (t : Tr) : cln n m t.av = t.av := t.data n m
@[simp] theorem Tr.cln_avs (n m : Nat) (l : List Tr) : clnLL n m (Tr.avs l) = Tr.avs l := Tr.datas l n m
@[simp] theorem Tr.cells_av (t : Tr) : cellsA t.av = some [t.av] := by cases t <;> simp [Tr.av]
theorem binA_ptr_nil {T : Tab} {t e : TypeId} {s : Nat} {z : List ZC} (h : T t = some ⟨s, .ptr e, z⟩) (cs : List AV) : binA T .eql t (.ptr cs) .nilp = some (.bool false) ∧ binA T .neq t (.ptr cs) .nilp = some (.bool true) := by
  simp [binA, h, nilA, isNilA]
theorem binA_nil_nil {T : Tab} {t e : TypeId} {s : Nat} {z : List ZC} (h : T t = some ⟨s, .ptr e, z⟩) : binA T .eql t .nilp .nilp = some (.bool true) ∧ binA T .neq t .nilp .nilp = some (.bool false) := by
  simp [binA, h, nilA, isNilA]
@[simp] theorem eqn22p (cs : List AV) : binA tab .eql 22 (.ptr cs) .nilp = some (.bool false) := (binA_ptr_nil tab22 cs).1
@[simp] theorem nen22p (cs : List AV) : binA tab .neq 22 (.ptr cs) .nilp = some (.bool true) := (binA_ptr_nil tab22 cs).2
@[simp] theorem eqn22n : binA tab .eql 22 .nilp .nilp = some (.bool true) := (binA_nil_nil tab22).1
@[simp] theorem nen22n : binA tab .neq 22 .nilp .nilp = some (.bool false) := (binA_nil_nil tab22).2
@[simp] theorem eqn83p (cs : List AV) : binA tab .eql 83 (.ptr cs) .nilp = some (.bool false) := (binA_ptr_nil tab83 cs).1
@[simp] theorem nen83p (cs : List AV) : binA tab .neq 83 (.ptr cs) .nilp = some (.bool true) := (binA_ptr_nil tab83 cs).2
@[simp] theorem eqn83n : binA tab .eql 83 .nilp .nilp = some (.bool true) := (binA_nil_nil tab83).1
@[simp] theorem nen83n : binA tab .neq 83 .nilp .nilp = some (.bool false) := (binA_nil_nil tab83).2
mutual
def Tr.cnt : Tr → Nat
  | .none => 0
  | .node _ _ _ _ l => 1 + Tr.cnts l
def Tr.cnts : List Tr → Nat
  | [] => 0
  | t :: l => t.cnt + Tr.cnts l
end
mutual
def Tr.deep : Tr → Nat
  | .none => 0
  | .node _ _ _ _ l => 1 + Tr.deeps l
def Tr.deeps : List Tr → Nat
  | [] => 0
  | t :: l => max t.deep (Tr.deeps l)
end
mutual
def Tr.hole : Tr → Bool
  | .none => true
  | .node _ _ _ _ l => Tr.holes l
def Tr.holes : List Tr → Bool
  | [] => false
  | t :: l => t.hole || Tr.holes l
end
theorem Tr.cnts_take (l : List Tr) (i : Nat) (h : i < l.length) : Tr.cnts (l.take (i + 1)) = Tr.cnts (l.take i) + (l[i]).cnt := by
  induction l generalizing i with
  | nil => simp at h
  | cons t l ih =>
    cases i with
    | zero => simp [Tr.cnts]
    | succ i => simp only [List.take_succ_cons, Tr.cnts, List.getElem_cons_succ]; rw [ih i (by simpa using h)]; omega
theorem Tr.deeps_take (l : List Tr) (i : Nat) (h : i < l.length) : Tr.deeps (l.take (i + 1)) = max (Tr.deeps (l.take i)) (l[i]).deep := by
  induction l generalizing i with
  | nil => simp at h
  | cons t l ih =>
    cases i with
    | zero => simp [Tr.deeps]
    | succ i => simp only [List.take_succ_cons, Tr.deeps, List.getElem_cons_succ]; rw [ih i (by simpa using h)]; omega
theorem Tr.cnts_le (l : List Tr) (i : Nat) (h : i < l.length) : (l[i]).cnt ≤ Tr.cnts l := by
  induction l generalizing i with
  | nil => simp at h
  | cons t l ih =>
    cases i with
    | zero => simp [Tr.cnts]
    | succ i => simp only [Tr.cnts, List.getElem_cons_succ]; have := ih i (by simpa using h); omega
theorem Tr.cnts_take_le (l : List Tr) (i : Nat) : Tr.cnts (l.take i) ≤ Tr.cnts l := by
  induction l generalizing i with
  | nil => simp [Tr.cnts]
  | cons t l ih =>
    cases i with
    | zero => simp [Tr.cnts]
    | succ i => simp only [List.take_succ_cons, Tr.cnts]; have := ih i; omega
mutual
theorem Tr.deep_le : ∀ t : Tr, t.deep ≤ t.cnt
  | .none => Nat.le_refl _
  | .node _ _ _ _ l => by have := Tr.deeps_le l; simp only [Tr.deep, Tr.cnt]; omega
theorem Tr.deeps_le : ∀ l : List Tr, Tr.deeps l ≤ Tr.cnts l
  | [] => Nat.le_refl _
  | t :: l => by have := Tr.deep_le t; have := Tr.deeps_le l; simp only [Tr.deeps, Tr.cnts]; omega
end
mutual
def Tr.slim : Tr → Prop
  | .none => True
  | .node _ _ _ _ l => l.length ≤ 67108864 ∧ Tr.slims l
def Tr.slims : List Tr → Prop
  | [] => True
  | t :: l => t.slim ∧ Tr.slims l
end
theorem Tr.slims_get : ∀ (l : List Tr) (i : Nat) (h : i < l.length), Tr.slims l → (l[i]).slim
  | t :: l, 0, _, h => h.1
  | t :: l, i + 1, hi, h => by simpa using Tr.slims_get l i (by simpa using hi) h.2
structure Link where
  site : List Int
  space : Str
  name : Str
  by' : List Int
  rest : List Str
attribute [simp] cln clnL clnLL clnOwn Gr.refl wrap64 List.getElem?_cons_zero
def mu0 : TypeId → Bool := fun _ => false
@[simp] theorem mu0_eq (t : TypeId) : mu0 t = false := rfl
section
open Go.Proofs
variable {W0 : World} {Q : Exit → St → Prop} {ops : Array Oper} {late : List Nat} {H0 : Hp}
theorem aSq {st : St} {x y : Code} (h : AWP Tryz.prog W0 x st (thenA (fun st => AWP Tryz.prog W0 y st Q) Q)) : AWP Tryz.prog W0 (.seq x y) st Q := awp_seq h
theorem aRt {st : St} (h : Q .ret st) : AWP Tryz.prog W0 .ret st Q := awp_ret h
theorem aSk {st : St} (h : Q .normal st) : AWP Tryz.prog W0 .skip st Q := awp_skip h
theorem aEx {st : St} {id : Nat} (h : Q (.exit id) st) : AWP Tryz.prog W0 (.exit id) st Q := awp_exit h
theorem aBl {st : St} {id : Nat} {c : Code} (h : AWP Tryz.prog W0 c st (inBlockA id Q)) : AWP Tryz.prog W0 (.block id c) st Q := awp_block h
theorem tN {st : St} {K : St → Prop} (h : K st) : thenA K Q .normal st := h
theorem tR {st : St} {K : St → Prop} (h : Q .ret st) : thenA K Q .ret st := h
theorem tE {st : St} {K : St → Prop} {id : Nat} (h : Q (.exit id) st) : thenA K Q (.exit id) st := h
theorem iR {st : St} {id : Nat} (h : Q .ret st) : inBlockA id Q .ret st := h
theorem rg (id : Nat) {l : List Oper} {st : St} (h : AOps Tryz.prog W0 l.toArray l st Q) : AWP Tryz.prog W0 (.region id l.toArray false) st Q := awp_region h
theorem ru {id : Nat} {l : List Oper} {st st' : St} (k : Q .normal st') (h : runA tab mu0 l.toArray l st = some st' := by simp (disch := omega); with_reducible rfl) : AWP Tryz.prog W0 (.region id l.toArray false) st Q := awp_run tab_ok h k
theorem tk {l : List Oper} {st : St} (n : Nat) {st' : St} (k : AOps Tryz.prog W0 ops (l.drop n) st' Q) (h : runA tab mu0 ops (l.take n) st = some st' := by simp (disch := omega); with_reducible rfl) : AOps Tryz.prog W0 ops l st Q := aops_take n tab_ok h k
theorem te {rest : List Oper} {st : St} {o : Oper} {r : Hp × AV} {b : Bool} (ht : b = true → AOps Tryz.prog W0 ops rest (St.put { st with H := r.1 } o.dst (.bool true)) Q) (hf : b = false → AOps Tryz.prog W0 ops rest (St.put { st with H := r.1 } o.dst (.bool false)) Q)
    (hs : stepA tab mu0 ops st o = some r := by simp (disch := omega); with_reducible rfl) (hr : r.2 = .bool b := by rfl) : AOps Tryz.prog W0 ops (o :: rest) st Q := aops_test tab_ok hs hr ht hf
theorem fc {st : St} {rest : List Oper} {o : Oper} {c : Call} {f : FuncId} {d : Nat} {args : List AV} (hen : enters Tryz.prog f)
    (h : SF Tryz.prog W0 f args st.H fun r H' => AOps Tryz.prog W0 ops rest (St.put { st with H := H' } (some d) r) Q)
    (ho : o.op = .call c := by rfl) (hc : c.callee = .value (.func f) := by rfl) (hg : o.guard = none := by rfl) (hd : o.dst = some d := by rfl) (ha : c.args.toList.map st.eval = args := by simp; rfl) : AOps Tryz.prog W0 ops (o :: rest) st Q := aops_fn ho hc hg hd hen ha h
theorem fg {st : St} {rest : List Oper} {o : Oper} {c : Call} {f : FuncId} {d j : Nat} {want : Bool} {args : List AV} (hen : enters Tryz.prog f)
    (h : SF Tryz.prog W0 f args st.H fun r H' => AOps Tryz.prog W0 ops rest (St.put { st with H := H' } (some d) r) Q)
    (ho : o.op = .call c := by rfl) (hc : c.callee = .value (.func f) := by rfl) (hg : o.guard = some (j, want) := by rfl) (hd : o.dst = some d := by rfl) (hw : gwant want st (dstO (nthO ops.toList j)) = some true := by simp)
    (ha : c.args.toList.map st.eval = args := by simp; rfl) : AOps Tryz.prog W0 ops (o :: rest) st Q := aops_fnG ho hc hg hd hw hen ha h
theorem dn {st : St} (h : Q .normal st) : AOps Tryz.prog W0 ops [] st Q := aops_nil h
theorem dr (id : Nat) {l : List Oper} {st : St} (plan : List (Nat × Bool)) (late : List Nat) (h : ADr Tryz.prog W0 tab mu0 l.toArray late st.H Q plan st)
    (hchk : (plan.length == l.length && Region.noSelect l.toArray && planOK l.toArray late plan (Array.replicate l.length false)) = true := by decide +kernel) : AWP Tryz.prog W0 (.region id l.toArray true) st Q := awp_draw plan late tab_ok mixedT hchk h
theorem da (n : Nat) {p : List (Nat × Bool)} {st st' : St} (k : st'.H = H0 → ADr Tryz.prog W0 tab mu0 ops late H0 Q (p.drop n) st') (hH : st.H = H0 := by rfl) (hk : ((p.take n).all (keepAt ops late)) = true := by decide +kernel)
    (h : runD tab mu0 ops (p.take n) st = some st' := by simp (disch := omega); with_reducible rfl) : ADr Tryz.prog W0 tab mu0 ops late H0 Q p st := adr_take n hH hk h k
theorem dl {p : List (Nat × Bool)} {st st' : St} (k : Q .normal st') (hH : st.H = H0 := by rfl) (hk : (p.all (keepAt ops late)) = true := by decide +kernel) (h : runD tab mu0 ops p st = some st' := by simp (disch := omega); with_reducible rfl) : ADr Tryz.prog W0 tab mu0 ops late H0 Q p st := adr_all hH hk h k
theorem dx {p : List (Nat × Bool)} {st st' : St} (k : Q .normal st') (hk : (p.all fun x => late.contains x.1 && !x.2) = true := by decide +kernel) (h : runD tab mu0 ops p st = some st' := by simp (disch := omega); with_reducible rfl) : ADr Tryz.prog W0 tab mu0 ops late H0 Q p st := adr_tail hk h k
theorem dh (m : Nat) {p : List (Nat × Bool)} {n : Nat} {e e' : List (Nat × AV)} (k : ADr Tryz.prog W0 tab mu0 ops late H0 Q (p.drop m) ⟨n, e', H0⟩) (hk : ((p.take m).all (keepAt' ops)) = true := by decide +kernel) (h : runD tab mu0 ops (p.take m) ⟨n, e, noHp⟩ = some ⟨n, e', noHp⟩ := by simp (disch := omega); with_reducible rfl) : ADr Tryz.prog W0 tab mu0 ops late H0 Q p ⟨n, e, H0⟩ := adr_takeH m hk h k
theorem de {i : Nat} {tk : Bool} {p : List (Nat × Bool)} {st : St} {o : Oper} {b : Bool} {r : Hp × AV} (ht : b = true → ADr Tryz.prog W0 tab mu0 ops late H0 Q p (St.put st o.dst (.bool true))) (hf : b = false → ADr Tryz.prog W0 tab mu0 ops late H0 Q p (St.put st o.dst (.bool false)))
    (hH : st.H = H0 := by rfl) (ha : (!tk || aheadOf ops late i) = true := by decide +kernel) (ho : nthO ops.toList i = some o := by simp; rfl) (hs' : stepA tab mu0 ops st o = some r := by simp (disch := omega); with_reducible rfl) (hr1 : r.1 = st.H := by rfl) (hr2 : r.2 = .bool b := by rfl) : ADr Tryz.prog W0 tab mu0 ops late H0 Q ((i, tk) :: p) st := adr_test hH ha ho hs' hr1 hr2 ht hf
theorem ds {i : Nat} {tk : Bool} {p : List (Nat × Bool)} {st : St} {o : Oper} {y : AV} {r : Hp × AV} (h : ADr Tryz.prog W0 tab mu0 ops late H0 Q p (St.put st o.dst y)) (hH : st.H = H0 := by rfl) (ha : (!tk || aheadOf ops late i) = true := by decide +kernel)
    (ho : nthO ops.toList i = some o := by simp; rfl) (hs' : stepA tab mu0 ops st o = some r := by simp (disch := omega); with_reducible rfl) (hr1 : r.1 = st.H := by rfl) (hr2 : r.2 = y := by rfl) : ADr Tryz.prog W0 tab mu0 ops late H0 Q ((i, tk) :: p) st := adr_step hH ha ho hs' hr1 hr2 h
theorem df {i : Nat} {p : List (Nat × Bool)} {st : St} {o : Oper} {c : Call} {f : FuncId} {d : Nat} {args : List AV} (hen : enters Tryz.prog f)
    (h : SF Tryz.prog W0 f args st.H fun r H' => (late.contains i = true ∨ H' = H0) ∧ ADr Tryz.prog W0 tab mu0 ops late H0 Q p (St.put { st with H := H' } (some d) r))
    (hi : ops[i]? = some o := by rfl) (ho : o.op = .call c := by rfl) (hc : c.callee = .value (.func f) := by rfl) (hg : o.guard = none := by rfl) (hd : o.dst = some d := by rfl) (ha : c.args.toList.map st.eval = args := by simp; rfl) : ADr Tryz.prog W0 tab mu0 ops late H0 Q ((i, false) :: p) st := adr_fn hi ho hc hg hd hen ha h
theorem dg {i : Nat} {p : List (Nat × Bool)} {st : St} {o : Oper} {c : Call} {f : FuncId} {d j : Nat} {want : Bool} {args : List AV} (hen : enters Tryz.prog f)
    (h : SF Tryz.prog W0 f args st.H fun r H' => (late.contains i = true ∨ H' = H0) ∧ ADr Tryz.prog W0 tab mu0 ops late H0 Q p (St.put { st with H := H' } (some d) r))
    (hi : ops[i]? = some o := by rfl) (ho : o.op = .call c := by rfl) (hc : c.callee = .value (.func f) := by rfl) (hg : o.guard = some (j, want) := by rfl) (hd : o.dst = some d := by rfl) (hw : gwant want st (dstO (nthO ops.toList j)) = some true := by simp) (ha : c.args.toList.map st.eval = args := by simp; rfl) : ADr Tryz.prog W0 tab mu0 ops late H0 Q ((i, false) :: p) st := adr_fnG hi ho hc hg hd hw hen ha h
end
end Go.Av
