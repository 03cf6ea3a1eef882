/- A verified symbolic run of functions, part 12: lemmas, no claim of their own. -/
import Derived.Test.YtjbfcdgbjgjliaaGreatDoorS11
import Derived.KernelRfl
import Derived.Lib.ItoaNum
import Derived.Test.YtjbfcdgbjgjliaaGreatDoorProg
import Derived.Laws.FloatBits
namespace Go.Sx
def lookTT : List (Nat × TD) → Nat → Option TD
  | [], _ => none
  | (k, v) :: r, t => if k == t then some v else lookTT r t
def tab1 : List (Nat × TD) := [
  (1, ⟨1, 8, false, .sc, some .fnp, [.one .nilf]⟩),
  (2, ⟨1, 8, false, .sc, some (.int .i64), [.one (.int .i64 0)]⟩),
  (3, ⟨1, 8, false, .sc, some (.int .i64), [.one (.int .i64 0)]⟩),
  (4, ⟨1, 1, false, .sc, some .bool, [.one (.bool false)]⟩),
  (5, ⟨1, 1, false, .sc, some (.int .u8), [.one (.int .u8 0)]⟩),
  (6, ⟨1, 1, false, .sc, some (.int .u8), [.one (.int .u8 0)]⟩),
  (7, ⟨4, 24, true, .strct [(0, 1, false), (1, 1, false), (2, 1, false), (3, 1, false)], some (.pair (.int .i64) (.pair (.int .i64) (.pair .bool (.int .u8)))), [.one (.int .i64 0), .one (.int .i64 0), .one (.bool false), .one (.int .u8 0)]⟩),
  (8, ⟨4, 24, true, .strct [(0, 1, false), (1, 1, false), (2, 1, false), (3, 1, false)], some (.pair (.int .i64) (.pair (.int .i64) (.pair .bool (.int .u8)))), [.one (.int .i64 0), .one (.int .i64 0), .one (.bool false), .one (.int .u8 0)]⟩),
  (9, ⟨1, 16, false, .sc, some .str, [.one (.str [])]⟩),
  (10, ⟨1, 16, false, .sc, some .str, [.one (.str [])]⟩),
  (11, ⟨1, 16, false, .sc, some .str, [.one (.str [])]⟩),
  (12, ⟨1, 8, false, .sc, some (.int .u64), [.one (.int .u64 0)]⟩),
  (13, ⟨2, 24, true, .strct [(0, 1, false), (1, 1, false)], some (.pair .str (.int .u64)), [.one (.str []), .one (.int .u64 0)]⟩),
  (14, ⟨2, 24, true, .strct [(0, 1, false), (1, 1, false)], some (.pair .str (.int .u64)), [.one (.str []), .one (.int .u64 0)]⟩),
  (15, ⟨1, 8, false, .sc, none, [.one .nilp]⟩),
  (16, ⟨1, 8, false, .sc, none, [.one .nilp]⟩),
  (17, ⟨1, 8, false, .sc, none, [.one .nilp]⟩),
  (18, ⟨1, 8, true, .strct [(0, 1, false)], none, [.one .nilp]⟩),
  (19, ⟨1, 8, true, .strct [(0, 1, false)], none, [.one .nilp]⟩),
  (21, ⟨1, 4, false, .sc, some (.int .i32), [.one (.int .i32 0)]⟩),
  (22, ⟨1, 24, false, .slc 61, some (.sl (.flt .f32)), [.one .nils]⟩),
  (23, ⟨3, 72, true, .strct [(0, 1, false), (1, 1, false), (2, 1, false)], some (.pair (.sl (.flt .f32)) (.pair (.sl (.flt .f32)) (.sl (.flt .f32)))), [.one .nils, .one .nils, .one .nils]⟩),
  (24, ⟨3, 72, true, .strct [(0, 1, false), (1, 1, false), (2, 1, false)], some (.pair (.sl (.flt .f32)) (.pair (.sl (.flt .f32)) (.sl (.flt .f32)))), [.one .nils, .one .nils, .one .nils]⟩),
  (25, ⟨1, 8, false, .sc, some .fnp, [.one .nilf]⟩),
  (26, ⟨1, 8, false, .sc, some .fnp, [.one .nilf]⟩),
  (27, ⟨1, 8, false, .sc, some (.int .i64), [.one (.int .i64 0)]⟩),
  (29, ⟨1, 8, false, .sc, some .fnp, [.one .nilf]⟩),
  (30, ⟨3, 72, true, .strct [(0, 1, false), (1, 1, false), (2, 1, false)], some (.pair (.sl (.flt .f32)) (.pair (.sl (.flt .f32)) (.sl (.flt .f32)))), [.one .nils, .one .nils, .one .nils]⟩),
  (31, ⟨1, 8, false, .sc, some .fnp, [.one .nilf]⟩),
  (32, ⟨1, 8, false, .sc, some .fnp, [.one .nilf]⟩),
  (33, ⟨1, 8, false, .sc, some .fnp, [.one .nilf]⟩),
  (34, ⟨1, 8, false, .sc, some .fnp, [.one .nilf]⟩),
  (35, ⟨1, 24, false, .slc 3, some (.sl (.int .i64)), [.one .nils]⟩),
  (37, ⟨1, 8, false, .sc, some .fnp, [.one .nilf]⟩),
  (38, ⟨1, 8, false, .sc, some .fnp, [.one .nilf]⟩),
  (39, ⟨1, 8, false, .sc, some .fnp, [.one .nilf]⟩),
  (40, ⟨1, 8, false, .sc, some .fnp, [.one .nilf]⟩),
  (41, ⟨1, 24, false, .slc 24, some (.sl (.pair (.sl (.flt .f32)) (.pair (.sl (.flt .f32)) (.sl (.flt .f32))))), [.one .nils]⟩),
  (42, ⟨1, 24, false, .slc 22, some (.sl (.sl (.flt .f32))), [.one .nils]⟩),
  (43, ⟨1, 8, false, .sc, some .fnp, [.one .nilf]⟩),
  (44, ⟨1, 8, false, .sc, some .fnp, [.one .nilf]⟩),
  (45, ⟨1, 8, false, .sc, some .fnp, [.one .nilf]⟩),
  (47, ⟨1, 8, false, .sc, some .fnp, [.one .nilf]⟩),
  (48, ⟨1, 24, false, .slc 30, some (.sl (.pair (.sl (.flt .f32)) (.pair (.sl (.flt .f32)) (.sl (.flt .f32))))), [.one .nils]⟩),
  (49, ⟨1, 8, false, .sc, some .fnp, [.one .nilf]⟩),
  (50, ⟨1, 24, false, .slc 60, some (.sl (.arr 4 (.cpx .f32))), [.one .nils]⟩),
  (52, ⟨1, 8, false, .sc, some .fnp, [.one .nilf]⟩),
  (53, ⟨1, 8, false, .sc, some .fnp, [.one .nilf]⟩),
  (54, ⟨1, 8, false, .sc, some .fnp, [.one .nilf]⟩),
  (55, ⟨1, 8, false, .sc, some .fnp, [.one .nilf]⟩),
  (56, ⟨2, 16, true, .strct [(0, 1, false), (1, 1, false)], some (.pair (.int .i64) (.int .i64)), [.one (.int .i64 0), .one (.int .i64 0)]⟩),
  (57, ⟨2, 16, true, .strct [(0, 1, false), (1, 1, false)], some (.pair (.int .i64) (.int .i64)), [.one (.int .i64 0), .one (.int .i64 0)]⟩),
  (58, ⟨1, 8, false, .sc, some .fnp, [.one .nilf]⟩),
  (59, ⟨1, 8, false, .sc, some (.cpx .f32), [.one (.cpx .f32 0 0)]⟩),
  (60, ⟨4, 32, true, .arr 4 59, some (.arr 4 (.cpx .f32)), [.arr 4 (.cpx .f32) (List.replicate 4 (Ty.d (.cpx .f32)))]⟩),
  (61, ⟨1, 4, false, .sc, some (.flt .f32), [.one (.flt .f32 0)]⟩),
  (62, ⟨1, 8, false, .sc, some .fnp, [.one .nilf]⟩),
  (63, ⟨1, 8, false, .sc, some .fnp, [.one .nilf]⟩),
  (64, ⟨1, 8, false, .sc, some .fnp, [.one .nilf]⟩),
  (65, ⟨1, 8, false, .sc, some .fnp, [.one .nilf]⟩),
  (66, ⟨1, 8, false, .sc, some .fnp, [.one .nilf]⟩),
  (67, ⟨1, 8, false, .sc, some .fnp, [.one .nilf]⟩),
  (69, ⟨1, 8, false, .sc, some .fnp, [.one .nilf]⟩),
  (71, ⟨1, 8, false, .sc, some .fnp, [.one .nilf]⟩),
  (72, ⟨1, 8, false, .sc, some .fnp, [.one .nilf]⟩),
  (73, ⟨1, 8, false, .sc, some .fnp, [.one .nilf]⟩),
  (74, ⟨1, 8, false, .sc, some .fnp, [.one .nilf]⟩),
  (75, ⟨1, 8, false, .sc, some .fnp, [.one .nilf]⟩),
  (76, ⟨1, 24, false, .slc 134, some (.sl (.sl .bool)), [.one .nils]⟩),
  (78, ⟨1, 8, false, .sc, some .fnp, [.one .nilf]⟩),
  (79, ⟨1, 8, false, .sc, some .fnp, [.one .nilf]⟩),
  (81, ⟨1, 8, false, .sc, some .fnp, [.one .nilf]⟩),
  (82, ⟨1, 8, false, .sc, some .fnp, [.one .nilf]⟩),
  (83, ⟨1, 8, false, .sc, some .fnp, [.one .nilf]⟩),
  (84, ⟨1, 8, false, .sc, some .fnp, [.one .nilf]⟩),
  (85, ⟨1, 8, false, .sc, some .fnp, [.one .nilf]⟩),
  (87, ⟨1, 8, false, .sc, some .fnp, [.one .nilf]⟩),
  (89, ⟨1, 8, false, .sc, some .fnp, [.one .nilf]⟩),
  (90, ⟨2, 8, true, .arr 2 61, some (.arr 2 (.flt .f32)), [.arr 2 (.flt .f32) (List.replicate 2 (Ty.d (.flt .f32)))]⟩),
  (92, ⟨1, 8, false, .sc, some .fnp, [.one .nilf]⟩),
  (93, ⟨1, 8, false, .sc, some .fnp, [.one .nilf]⟩),
  (95, ⟨1, 8, false, .sc, some .fnp, [.one .nilf]⟩),
  (96, ⟨4, 16, true, .arr 4 61, some (.arr 4 (.flt .f32)), [.arr 4 (.flt .f32) (List.replicate 4 (Ty.d (.flt .f32)))]⟩),
  (98, ⟨1, 8, false, .sc, some .fnp, [.one .nilf]⟩),
  (100, ⟨1, 8, false, .sc, some .fnp, [.one .nilf]⟩),
  (101, ⟨1, 8, false, .sc, some .fnp, [.one .nilf]⟩),
  (103, ⟨1, 8, false, .sc, some .fnp, [.one .nilf]⟩),
  (104, ⟨1, 8, false, .sc, some .fnp, [.one .nilf]⟩),
  (105, ⟨2, 16, true, .strct [(0, 1, false), (1, 1, false)], some (.pair (.int .i64) (.int .i64)), [.one (.int .i64 0), .one (.int .i64 0)]⟩),
  (106, ⟨2, 16, true, .strct [(0, 1, false), (1, 1, false)], some (.pair (.int .i64) (.int .i64)), [.one (.int .i64 0), .one (.int .i64 0)]⟩),
  (107, ⟨4, 32, true, .strct [(0, 2, true), (2, 1, false), (3, 1, false)], some (.pair (.pair (.int .i64) (.int .i64)) (.pair (.flt .f32) (.int .i64))), [.one (.int .i64 0), .one (.int .i64 0), .one (.flt .f32 0), .one (.int .i64 0)]⟩),
  (108, ⟨4, 32, true, .strct [(0, 2, true), (2, 1, false), (3, 1, false)], some (.pair (.pair (.int .i64) (.int .i64)) (.pair (.flt .f32) (.int .i64))), [.one (.int .i64 0), .one (.int .i64 0), .one (.flt .f32 0), .one (.int .i64 0)]⟩),
  (109, ⟨1, 8, false, .sc, some .fnp, [.one .nilf]⟩),
  (110, ⟨1, 8, false, .sc, some .fnp, [.one .nilf]⟩),
  (111, ⟨1, 8, false, .sc, some .fnp, [.one .nilf]⟩),
  (112, ⟨1, 8, false, .sc, some .fnp, [.one .nilf]⟩),
  (113, ⟨1, 8, false, .sc, some .fnp, [.one .nilf]⟩),
  (114, ⟨1, 8, false, .sc, some .fnp, [.one .nilf]⟩),
  (115, ⟨1, 16, false, .sc, some (.cpx .f64), [.one (.cpx .f64 0 0)]⟩),
  (116, ⟨4, 64, true, .arr 4 115, some (.arr 4 (.cpx .f64)), [.arr 4 (.cpx .f64) (List.replicate 4 (Ty.d (.cpx .f64)))]⟩),
  (118, ⟨1, 8, false, .sc, some .fnp, [.one .nilf]⟩),
  (119, ⟨1, 8, false, .sc, some .fnp, [.one .nilf]⟩),
  (120, ⟨1, 8, false, .sc, some .fnp, [.one .nilf]⟩),
  (121, ⟨1, 8, false, .sc, some .fnp, [.one .nilf]⟩),
  (122, ⟨1, 8, false, .sc, some (.flt .f64), [.one (.flt .f64 0)]⟩),
  (123, ⟨1, 8, false, .sc, some .fnp, [.one .nilf]⟩),
  (124, ⟨1, 8, false, .sc, some .fnp, [.one .nilf]⟩),
  (125, ⟨1, 8, false, .sc, some .fnp, [.one .nilf]⟩),
  (126, ⟨1, 8, false, .sc, some .fnp, [.one .nilf]⟩),
  (128, ⟨1, 8, false, .sc, some .fnp, [.one .nilf]⟩),
  (129, ⟨1, 8, false, .sc, some .fnp, [.one .nilf]⟩),
  (130, ⟨1, 2, false, .sc, some (.int .u16), [.one (.int .u16 0)]⟩),
  (131, ⟨1, 8, false, .sc, some .fnp, [.one .nilf]⟩),
  (132, ⟨3, 72, true, .arr 3 22, some (.arr 3 (.sl (.flt .f32))), [.arr 3 (.sl (.flt .f32)) (List.replicate 3 (Ty.d (.sl (.flt .f32))))]⟩),
  (133, ⟨1, 8, false, .sc, some .fnp, [.one .nilf]⟩),
  (134, ⟨1, 24, false, .slc 4, some (.sl .bool), [.one .nils]⟩),
  (135, ⟨1, 1, false, .sc, some (.int .i8), [.one (.int .i8 0)]⟩),
  (136, ⟨4, 4, true, .arr 4 135, some (.arr 4 (.int .i8)), [.arr 4 (.int .i8) (List.replicate 4 (Ty.d (.int .i8)))]⟩),
  (137, ⟨16, 16, true, .arr 4 136, some (.arr 4 (.arr 4 (.int .i8))), [.arr 4 (.arr 4 (.int .i8)) (List.replicate 4 (Ty.d (.arr 4 (.int .i8))))]⟩),
  (138, ⟨1, 24, false, .slc 135, some (.sl (.int .i8)), [.one .nils]⟩),
  (139, ⟨1, 8, false, .sc, some .fnp, [.one .nilf]⟩),
  (140, ⟨1, 8, false, .sc, some .fnp, [.one .nilf]⟩),
  (141, ⟨1, 2, false, .sc, some (.int .i16), [.one (.int .i16 0)]⟩),
  (142, ⟨4, 8, true, .arr 4 141, some (.arr 4 (.int .i16)), [.arr 4 (.int .i16) (List.replicate 4 (Ty.d (.int .i16)))]⟩),
  (143, ⟨8, 16, true, .arr 8 141, some (.arr 8 (.int .i16)), [.arr 8 (.int .i16) (List.replicate 8 (Ty.d (.int .i16)))]⟩),
  (144, ⟨2, 2, true, .arr 2 5, some (.arr 2 (.int .u8)), [.arr 2 (.int .u8) (List.replicate 2 (Ty.d (.int .u8)))]⟩),
  (145, ⟨1, 8, false, .sc, some .fnp, [.one .nilf]⟩),
  (146, ⟨1, 8, false, .sc, some .fnp, [.one .nilf]⟩),
  (148, ⟨1, 8, false, .sc, some .fnp, [.one .nilf]⟩),
  (150, ⟨1, 8, false, .sc, some .fnp, [.one .nilf]⟩),
  (151, ⟨1, 8, false, .sc, some .fnp, [.one .nilf]⟩),
  (153, ⟨1, 8, false, .sc, some .fnp, [.one .nilf]⟩),
  (154, ⟨1, 8, false, .sc, some .fnp, [.one .nilf]⟩),
  (155, ⟨1, 24, false, .slc 9, some (.sl .str), [.one .nils]⟩),
  (156, ⟨1, 8, false, .sc, some .fnp, [.one .nilf]⟩),
  (157, ⟨1, 8, false, .sc, some .fnp, [.one .nilf]⟩),
  (158, ⟨1, 8, false, .sc, some .fnp, [.one .nilf]⟩),
  (159, ⟨1, 8, false, .sc, some .fnp, [.one .nilf]⟩),
  (160, ⟨1, 8, false, .sc, some .fnp, [.one .nilf]⟩),
  (161, ⟨1, 8, false, .sc, some .fnp, [.one .nilf]⟩),
  (162, ⟨1, 8, false, .sc, some .fnp, [.one .nilf]⟩),
  (163, ⟨1, 8, false, .sc, some .fnp, [.one .nilf]⟩),
  (164, ⟨1, 8, false, .sc, some .fnp, [.one .nilf]⟩),
  (165, ⟨1, 8, false, .sc, some .fnp, [.one .nilf]⟩),
  (166, ⟨1, 8, false, .sc, some .fnp, [.one .nilf]⟩),
  (167, ⟨1, 8, false, .sc, some .fnp, [.one .nilf]⟩),
  (168, ⟨1, 8, false, .sc, some .fnp, [.one .nilf]⟩),
  (169, ⟨1, 8, false, .sc, some .fnp, [.one .nilf]⟩),
  (170, ⟨1, 8, false, .sc, some .fnp, [.one .nilf]⟩),
  (171, ⟨4, 32, true, .arr 4 3, some (.arr 4 (.int .i64)), [.arr 4 (.int .i64) (List.replicate 4 (Ty.d (.int .i64)))]⟩),
  (172, ⟨8, 64, true, .arr 4 57, some (.arr 4 (.pair (.int .i64) (.int .i64))), [.arr 4 (.pair (.int .i64) (.int .i64)) (List.replicate 4 (Ty.d (.pair (.int .i64) (.int .i64))))]⟩),
  (173, ⟨1, 8, false, .sc, some .fnp, [.one .nilf]⟩),
  (174, ⟨1, 8, false, .sc, some .fnp, [.one .nilf]⟩),
  (175, ⟨3, 72, true, .strct [(0, 1, false), (1, 1, false), (2, 1, false)], some (.pair (.sl (.int .i64)) (.pair (.sl (.int .i64)) (.sl (.int .i64)))), [.one .nils, .one .nils, .one .nils]⟩),
  (176, ⟨3, 72, true, .strct [(0, 1, false), (1, 1, false), (2, 1, false)], some (.pair (.sl (.int .i64)) (.pair (.sl (.int .i64)) (.sl (.int .i64)))), [.one .nils, .one .nils, .one .nils]⟩),
  (177, ⟨1, 8, false, .sc, some .fnp, [.one .nilf]⟩),
  (178, ⟨1, 8, false, .sc, some .fnp, [.one .nilf]⟩),
  (180, ⟨1, 8, false, .sc, some .fnp, [.one .nilf]⟩),
  (181, ⟨1, 8, false, .sc, some .fnp, [.one .nilf]⟩),
  (182, ⟨1, 8, false, .sc, some .fnp, [.one .nilf]⟩),
  (184, ⟨1, 8, false, .sc, some .fnp, [.one .nilf]⟩),
  (185, ⟨1, 8, false, .sc, some .fnp, [.one .nilf]⟩),
  (186, ⟨1, 8, false, .sc, some .fnp, [.one .nilf]⟩),
  (187, ⟨1, 8, false, .sc, some .fnp, [.one .nilf]⟩),
  (188, ⟨1, 24, false, .slc 35, some (.sl (.sl (.int .i64))), [.one .nils]⟩),
  (189, ⟨1, 8, false, .sc, some .fnp, [.one .nilf]⟩),
  (191, ⟨1, 8, false, .sc, some .fnp, [.one .nilf]⟩),
  (192, ⟨1, 8, false, .sc, some .fnp, [.one .nilf]⟩),
  (193, ⟨1, 8, false, .sc, some .fnp, [.one .nilf]⟩),
  (194, ⟨1, 8, false, .sc, some .fnp, [.one .nilf]⟩),
  (195, ⟨1, 8, false, .sc, some .fnp, [.one .nilf]⟩),
  (196, ⟨1, 8, false, .sc, some .fnp, [.one .nilf]⟩),
  (197, ⟨1, 8, false, .sc, some .fnp, [.one .nilf]⟩),
  (198, ⟨1, 8, false, .sc, some .fnp, [.one .nilf]⟩),
  (199, ⟨1, 8, false, .sc, some .fnp, [.one .nilf]⟩),
  (200, ⟨1, 8, false, .sc, some .fnp, [.one .nilf]⟩),
  (201, ⟨1, 8, false, .sc, some .fnp, [.one .nilf]⟩),
  (202, ⟨1, 8, false, .sc, some .fnp, [.one .nilf]⟩),
  (203, ⟨1, 8, false, .sc, some .fnp, [.one .nilf]⟩),
  (204, ⟨1, 24, false, .slc 27, some (.sl (.int .i64)), [.one .nils]⟩),
  (205, ⟨1, 8, false, .sc, some .fnp, [.one .nilf]⟩),
  (206, ⟨1, 8, false, .sc, some .fnp, [.one .nilf]⟩),
  (207, ⟨1, 8, false, .sc, some .fnp, [.one .nilf]⟩),
  (208, ⟨1, 8, false, .map 3 212, none, [.one .nilm]⟩),
  (209, ⟨1, 8, false, .sc, some .fnp, [.one .nilf]⟩),
  (210, ⟨1, 8, false, .sc, some .fnp, [.one .nilf]⟩),
  (211, ⟨2, 24, true, .strct [(0, 1, false), (1, 1, false)], some (.pair .str .fnp), [.one (.str []), .one .nilf]⟩),
  (212, ⟨2, 24, true, .strct [(0, 1, false), (1, 1, false)], some (.pair .str .fnp), [.one (.str []), .one .nilf]⟩),
  (213, ⟨1, 8, false, .sc, some .fnp, [.one .nilf]⟩),
  (214, ⟨1, 8, false, .sc, none, [.one .nilp]⟩),
  (215, ⟨1, 8, false, .sc, none, [.one .nilp]⟩),
  (216, ⟨1, 8, false, .sc, some .fnp, [.one .nilf]⟩),
  (217, ⟨1, 8, false, .sc, some .fnp, [.one .nilf]⟩),
  (218, ⟨1, 8, false, .sc, some .fnp, [.one .nilf]⟩),
  (219, ⟨1, 8, false, .sc, some .fnp, [.one .nilf]⟩),
  (220, ⟨1, 8, false, .sc, some .fnp, [.one .nilf]⟩),
  (222, ⟨1, 8, false, .sc, some .fnp, [.one .nilf]⟩),
  (223, ⟨1, 8, false, .sc, some .fnp, [.one .nilf]⟩),
  (224, ⟨1, 8, false, .sc, none, [.one .nilp]⟩),
  (225, ⟨2, 32, true, .strct [(0, 1, false), (1, 1, false)], some (.pair (.sl .str) .bool), [.one .nils, .one (.bool false)]⟩),
  (226, ⟨2, 32, true, .strct [(0, 1, false), (1, 1, false)], some (.pair (.sl .str) .bool), [.one .nils, .one (.bool false)]⟩),
  (228, ⟨1, 8, false, .sc, some .fnp, [.one .nilf]⟩),
  (229, ⟨1, 8, false, .sc, some .fnp, [.one .nilf]⟩),
  (230, ⟨1, 8, false, .sc, some .fnp, [.one .nilf]⟩),
  (231, ⟨1, 8, false, .sc, some .fnp, [.one .nilf]⟩),
  (233, ⟨1, 8, false, .sc, some .fnp, [.one .nilf]⟩),
  (234, ⟨1, 8, false, .sc, some .fnp, [.one .nilf]⟩),
  (235, ⟨1, 8, false, .sc, some .fnp, [.one .nilf]⟩),
  (236, ⟨1, 8, false, .sc, some .fnp, [.one .nilf]⟩),
  (237, ⟨1, 8, false, .sc, some .fnp, [.one .nilf]⟩),
  (238, ⟨1, 8, false, .sc, some .fnp, [.one .nilf]⟩),
  (239, ⟨1, 8, false, .sc, some .fnp, [.one .nilf]⟩),
  (240, ⟨1, 8, false, .sc, some .fnp, [.one .nilf]⟩),
  (241, ⟨1, 8, false, .sc, some .fnp, [.one .nilf]⟩),
  (242, ⟨1, 8, false, .sc, some .fnp, [.one .nilf]⟩),
  (243, ⟨1, 8, false, .sc, some .fnp, [.one .nilf]⟩),
  (244, ⟨1, 8, false, .sc, some .fnp, [.one .nilf]⟩),
  (245, ⟨1, 8, false, .sc, some .fnp, [.one .nilf]⟩),
  (246, ⟨1, 8, false, .sc, some .fnp, [.one .nilf]⟩),
  (247, ⟨1, 8, false, .sc, none, [.one .nilp]⟩),
  (248, ⟨1, 24, false, .slc 5, some (.sl (.int .u8)), [.one .nils]⟩),
  (249, ⟨2, 32, true, .strct [(0, 1, false), (1, 1, false)], none, [.one .nilp, .one .nils]⟩),
  (250, ⟨2, 32, true, .strct [(0, 1, false), (1, 1, false)], none, [.one .nilp, .one .nils]⟩),
  (251, ⟨1, 8, false, .sc, some .fnp, [.one .nilf]⟩),
  (255, ⟨1, 8, false, .sc, some .fnp, [.one .nilf]⟩),
  (256, ⟨1, 8, false, .sc, some .fnp, [.one .nilf]⟩),
  (257, ⟨1, 8, false, .sc, some .fnp, [.one .nilf]⟩),
  (258, ⟨1, 8, false, .sc, some .fnp, [.one .nilf]⟩),
  (259, ⟨1, 8, false, .sc, some .fnp, [.one .nilf]⟩),
  (260, ⟨1, 8, false, .sc, some .fnp, [.one .nilf]⟩),
  (261, ⟨1, 8, false, .sc, some .fnp, [.one .nilf]⟩),
  (262, ⟨1, 8, false, .sc, some .fnp, [.one .nilf]⟩),
  (264, ⟨1, 8, false, .sc, some .fnp, [.one .nilf]⟩),
  (265, ⟨1, 8, false, .sc, some .fnp, [.one .nilf]⟩),
  (266, ⟨1, 8, false, .sc, none, [.one .nilp]⟩),
  (267, ⟨1, 8, false, .sc, some .fnp, [.one .nilf]⟩),
  (268, ⟨1, 8, false, .sc, some .fnp, [.one .nilf]⟩),
  (269, ⟨1, 8, false, .sc, some .fnp, [.one .nilf]⟩),
  (270, ⟨1, 8, false, .sc, some .fnp, [.one .nilf]⟩),
  (271, ⟨1, 8, false, .sc, some .fnp, [.one .nilf]⟩),
  (272, ⟨1, 8, false, .sc, some (.int .u64), [.one (.int .u64 0)]⟩),
  (273, ⟨1, 8, false, .sc, some .fnp, [.one .nilf]⟩),
  (275, ⟨1, 8, false, .sc, some .fnp, [.one .nilf]⟩),
  (276, ⟨24, 24, true, .arr 24 5, some (.arr 24 (.int .u8)), [.arr 24 (.int .u8) (List.replicate 24 (Ty.d (.int .u8)))]⟩),
  (277, ⟨1, 8, false, .sc, some .fnp, [.one .nilf]⟩),
  (278, ⟨1, 8, false, .sc, some .fnp, [.one .nilf]⟩),
  (280, ⟨1, 8, false, .sc, some .fnp, [.one .nilf]⟩),
  (282, ⟨1, 8, false, .sc, some .fnp, [.one .nilf]⟩),
  (283, ⟨1, 8, false, .sc, some .fnp, [.one .nilf]⟩),
  (284, ⟨1, 8, false, .sc, some .fnp, [.one .nilf]⟩),
  (286, ⟨1, 8, false, .sc, some .fnp, [.one .nilf]⟩),
  (287, ⟨1, 8, false, .sc, some (.int .i64), [.one (.int .i64 0)]⟩),
  (289, ⟨1, 8, false, .sc, some .fnp, [.one .nilf]⟩),
  (290, ⟨1, 8, false, .sc, none, [.one .nilp]⟩),
  (291, ⟨1, 8, false, .sc, some .fnp, [.one .nilf]⟩),
  (292, ⟨1, 8, false, .sc, some .fnp, [.one .nilf]⟩),
  (293, ⟨1, 8, false, .sc, some .fnp, [.one .nilf]⟩),
  (294, ⟨1, 8, false, .sc, some .fnp, [.one .nilf]⟩),
  (295, ⟨1, 8, false, .sc, some .fnp, [.one .nilf]⟩),
  (296, ⟨20, 160, true, .arr 20 272, some (.arr 20 (.int .u64)), [.arr 20 (.int .u64) (List.replicate 20 (Ty.d (.int .u64)))]⟩),
  (297, ⟨1, 4, false, .sc, some (.int .u32), [.one (.int .u32 0)]⟩),
  (298, ⟨65, 65, true, .arr 65 5, some (.arr 65 (.int .u8)), [.arr 65 (.int .u8) (List.replicate 65 (Ty.d (.int .u8)))]⟩),
  (299, ⟨1, 8, false, .sc, some (.int .u64), [.one (.int .u64 0)]⟩),
  (300, ⟨1, 8, false, .sc, some .fnp, [.one .nilf]⟩),
  (302, ⟨1, 8, false, .sc, some .fnp, [.one .nilf]⟩),
  (303, ⟨1, 8, false, .sc, some .fnp, [.one .nilf]⟩),
  (306, ⟨1, 8, false, .sc, some .fnp, [.one .nilf]⟩),
  (307, ⟨1, 8, false, .sc, some .fnp, [.one .nilf]⟩),
  (308, ⟨256, 256, true, .arr 256 5, some (.arr 256 (.int .u8)), [.arr 256 (.int .u8) (List.replicate 256 (Ty.d (.int .u8)))]⟩),
  (309, ⟨2, 2, true, .strct [(0, 1, false), (1, 1, false)], some (.pair (.int .u8) (.int .u8)), [.one (.int .u8 0), .one (.int .u8 0)]⟩),
  (310, ⟨2, 2, true, .strct [(0, 1, false), (1, 1, false)], some (.pair (.int .u8) (.int .u8)), [.one (.int .u8 0), .one (.int .u8 0)]⟩),
  (311, ⟨32, 32, true, .arr 16 310, some (.arr 16 (.pair (.int .u8) (.int .u8))), [.arr 16 (.pair (.int .u8) (.int .u8)) (List.replicate 16 (Ty.d (.pair (.int .u8) (.int .u8))))]⟩),
  (313, ⟨1, 8, false, .sc, some .fnp, [.one .nilf]⟩),
  (314, ⟨1, 8, false, .sc, some .fnp, [.one .nilf]⟩),
  (315, ⟨1, 8, false, .sc, none, [.one .nilp]⟩),
  (316, ⟨1, 16, true, .strct [(0, 1, false)], some .str, [.one (.str [])]⟩),
  (317, ⟨1, 16, true, .strct [(0, 1, false)], some .str, [.one (.str [])]⟩),
  (318, ⟨32, 32, true, .arr 32 5, some (.arr 32 (.int .u8)), [.arr 32 (.int .u8) (List.replicate 32 (Ty.d (.int .u8)))]⟩),
  (319, ⟨64, 64, true, .arr 64 5, some (.arr 64 (.int .u8)), [.arr 64 (.int .u8) (List.replicate 64 (Ty.d (.int .u8)))]⟩),
  (320, ⟨4, 40, true, .strct [(0, 1, false), (1, 1, false), (2, 1, false), (3, 1, false)], none, [.one .nilp, .one .nilp, .one .nilp, .one (.str [])]⟩),
  (321, ⟨4, 40, true, .strct [(0, 1, false), (1, 1, false), (2, 1, false), (3, 1, false)], none, [.one .nilp, .one .nilp, .one .nilp, .one (.str [])]⟩),
  (325, ⟨1, 1, false, .sc, some (.int .u8), [.one (.int .u8 0)]⟩),
  (326, ⟨1, 1, false, .sc, some (.int .u8), [.one (.int .u8 0)]⟩),
  (327, ⟨1, 8, false, .sc, some .fnp, [.one .nilf]⟩),
  (328, ⟨1, 4, false, .sc, some (.int .i32), [.one (.int .i32 0)]⟩),
  (329, ⟨1, 4, false, .sc, some (.int .i32), [.one (.int .i32 0)]⟩),
  (330, ⟨11, 48, true, .strct [(0, 1, false), (1, 1, false), (2, 1, false), (3, 1, false), (4, 1, false), (5, 1, false), (6, 1, false), (7, 1, false), (8, 1, false), (9, 1, false), (10, 1, false)], none, [.one (.int .u64 0), .one (.int .u64 0), .one (.int .u32 0), .one (.int .u8 0), .one (.int .u8 0), .one (.int .u8 0), .one (.int .u8 0), .one .nilf, .one .nilp, .one (.int .i32 0), .one (.int .i32 0)]⟩),
  (331, ⟨11, 48, true, .strct [(0, 1, false), (1, 1, false), (2, 1, false), (3, 1, false), (4, 1, false), (5, 1, false), (6, 1, false), (7, 1, false), (8, 1, false), (9, 1, false), (10, 1, false)], none, [.one (.int .u64 0), .one (.int .u64 0), .one (.int .u32 0), .one (.int .u8 0), .one (.int .u8 0), .one (.int .u8 0), .one (.int .u8 0), .one .nilf, .one .nilp, .one (.int .i32 0), .one (.int .i32 0)]⟩)]
def eqs1 : List Nat := [3, 9, 56, 57, 60, 90, 96, 105, 106, 107, 108, 116, 136, 137, 142, 143, 144, 171, 172, 276, 296, 298, 308, 309, 310, 311, 316, 317, 318, 319]
end Go.Sx

/- The seat's table of types against its program; what a contract needs. -/
namespace Go.Sx
def chkAll (P : Program) (l : List (Nat × TD)) : Bool := l.all fun x => tdChk P x.1 x.2
theorem tab1_ok : chkAll Proofs.Tryz.prog tab1 = true := by
  decide +kernel
theorem lookTT_mem : ∀ {l : List (Nat × TD)} {t : Nat} {d : TD}, lookTT l t = some d → (t, d) ∈ l
  | [], _, _, h => by simp [lookTT] at h
  | (k, v) :: r, t, d, h => by
    simp only [lookTT] at h
    split at h
    · rename_i e; cases h; simp at e; subst e; simp
    · exact List.mem_cons_of_mem _ (lookTT_mem h)
theorem tt_ok {P : Program} {l : List (Nat × TD)} (ha : chkAll P l = true) : ∀ t d, lookTT l t = some d → TDok P t d := by
  intro t d h
  exact tdChk_ok (List.all_eq_true.1 ha _ (lookTT_mem h))
noncomputable abbrev P1 : Program := Proofs.Tryz.prog
def eqOk1 (P : Program) (l : List Nat) : Bool := l.all fun t => match lookTT tab1 t with
  | some d => match d.ty with
    | some u => eqChk P (lookTT tab1) 16 t u && !P.eqGuardType P.depth t
    | none => false
  | none => false
theorem eqs1_ok : eqOk1 P1 eqs1 = true := by decide +kernel
theorem eq1 : ∀ t d u, eqs1.contains t = true → lookTT tab1 t = some d → d.ty = some u → eqChk P1 (lookTT tab1) 16 t u = true ∧ P1.eqGuardType P1.depth t = false := by
  intro t d u h1 h2 h3
  have := List.all_eq_true.1 eqs1_ok t (by simpa using h1)
  rw [h2] at this
  simp only [h3, Bool.and_eq_true, Bool.not_eq_true'] at this
  exact this
def gl1 : Nat → Option ((t : Ty) × t.T) := fun g => match g with
  | 0 => some ⟨.arr 4 (.pair (.int .i64) (.int .i64)), [(1, 0), (0, -1), (-1, 0), (0, 1)]⟩
  | 2 => some ⟨.arr 20 (.int .u64), Lib.pow10Tab⟩
  | _ => none
def lookF : List (Nat × Func) → Nat → Option Func
  | [], _ => none
  | (k, v) :: r, t => if k == t then some v else lookF r t
def fbOk (P : Program) : List (Nat × Func) → Prop
  | [] => True
  | (f, fn) :: r => (P.funcs[f]? = some fn ∧ (fn.name == "runtime.NumGoroutine") = false ∧ ∃ c, fn.body = some c ∧ codeOk fn.ntmps c = true) ∧ fbOk P r
theorem fb_ok {P : Program} : ∀ {l : List (Nat × Func)}, fbOk P l → ∀ f fn, lookF l f = some fn → P.funcs[f]? = some fn ∧ (fn.name == "runtime.NumGoroutine") = false ∧ ∃ c, fn.body = some c ∧ codeOk fn.ntmps c = true
  | [], _, f, fn, h => by simp [lookF] at h
  | (k, v) :: r, hl, f, fn, h => by
    simp only [lookF] at h
    split at h
    · rename_i e
      simp at e
      subst e
      cases h
      exact hl.1
    · exact fb_ok hl.2 f fn h
def lookS : List (Nat × FSpec) → Nat → Option FSpec
  | [], _ => none
  | (k, v) :: r, t => if k == t then some v else lookS r t
def spOk (P : Program) : List (Nat × FSpec) → Prop
  | [] => True
  | (f, s) :: r => (SpecOk P gl1 f s ∧ ∃ fn c, P.funcs[f]? = some fn ∧ fn.body = some c ∧ (fn.name == "runtime.NumGoroutine") = false) ∧ spOk P r
theorem sp_ok {P : Program} : ∀ {l : List (Nat × FSpec)}, spOk P l → ∀ f s, lookS l f = some s → SpecOk P gl1 f s ∧ ∃ fn c, P.funcs[f]? = some fn ∧ fn.body = some c ∧ (fn.name == "runtime.NumGoroutine") = false
  | [], _, f, s, h => by simp [lookS] at h
  | (k, v) :: r, hl, f, s, h => by
    simp only [lookS] at h
    split at h
    · rename_i e
      simp at e
      subst e
      cases h
      exact hl.1
    · exact sp_ok hl.2 f s h
theorem mix1 : P1.follows .mixedOrders = true := by kernel_rfl
def h0 : Hints := ⟨fun _ _ _ => none, 0⟩
def ex1 : Nat → Option ExK := fun f => match f with
  | 200 => some .floor64
  | 214 => some .from64
  | 215 => some .bits64
  | _ => none
theorem ex1_ok : ∀ f k, ex1 f = some k → ∃ fn, P1.funcs[f]? = some fn ∧ (fn.name == "runtime.NumGoroutine") = false ∧ fn.body.isNone = true ∧ Extern.findNext fn = none ∧ Extern.find fn = some (exRow k) := by
  intro f k h
  unfold ex1 at h
  split at h
  · cases h; exact ⟨Proofs.Tryz.f200, by kernel_rfl, rfl, rfl, by kernel_rfl, by kernel_rfl⟩
  · cases h; exact ⟨Proofs.Tryz.f214, by kernel_rfl, rfl, rfl, by kernel_rfl, by kernel_rfl⟩
  · cases h; exact ⟨Proofs.Tryz.f215, by kernel_rfl, rfl, rfl, by kernel_rfl, by kernel_rfl⟩
  · cases h
def pts : List (Nat × Nat) := [(181, 0), (182, 1), (183, 2)]
noncomputable def envN (tdv : Bool) (sp : List (Nat × FSpec)) (fb : List (Nat × Func)) : Env := { P := P1, tt := lookTT tab1, gl := gl1, sp := lookS sp, fb := lookF fb, eq := fun t => eqs1.contains t, tdv := tdv, pt := fun _ => none, ex := ex1 }
theorem envN_ok (tdv : Bool) {sp : List (Nat × FSpec)} {fb : List (Nat × Func)} (h1 : spOk P1 sp) (h2 : fbOk P1 fb) : EnvOk (envN tdv sp fb) := ⟨tt_ok tab1_ok, sp_ok h1, eq1, fun _ _ h => (by cases h), fb_ok h2, ex1_ok⟩
def ptRun (off : Nat) : List V → Option (Nat × Nat)
  | [.one (.ptr id o)] => some (id, o + off)
  | _ => none
def lookN : List (Nat × Nat) → Nat → Option Nat
  | [], _ => none
  | (k, v) :: r, t => if k == t then some v else lookN r t
def pt1 : FuncId → Option (List V → Option (Nat × Nat)) := fun f => (lookN pts f).map ptRun
theorem ptRun_ok {f off : Nat} {fn : Func} {c : Code} (hf : P1.funcs[f]? = some fn) (hn : (fn.name == "runtime.NumGoroutine") = false) (hb : fn.body = some c) (hc : codeOk fn.ntmps c = true)
    (h : ∀ id o, inlN (envN false [] [(f, fn)]) h0 1 f [.one (.ptr id o)] (fun _ => none) [] (id + 1) [] (fun v _ _ _ => v = .val (.one (.ptr id (o + off))))) : PtOk P1 gl1 f (ptRun off) ∧ ∃ fn c, P1.funcs[f]? = some fn ∧ fn.body = some c ∧ (fn.name == "runtime.NumGoroutine") = false := by
  refine ⟨pt_ok (E := envN false [] [(f, fn)]) (envN_ok false trivial ⟨⟨hf, hn, c, hb, hc⟩, trivial⟩) mix1 (hn := h0) (d := 1) ?_, fn, c, hf, hb, hn⟩
  intro vs p hr
  unfold ptRun at hr
  split at hr
  · rename_i id o
    cases hr
    exact ⟨fun n hv => hv _ (List.mem_singleton.2 rfl), id + 1, Nat.lt_succ_self _, fun v hv => by rw [List.mem_singleton.1 hv]; exact Nat.lt_succ_self _, h id o⟩
  · cases hr
theorem ptf181 (id o : Nat) : inlN (envN false [] [(181, Proofs.Tryz.f181)]) h0 1 181 [.one (.ptr id o)] (fun _ => none) [] (id + 1) [] (fun v _ _ _ => v = .val (.one (.ptr id (o + 0)))) := by
  have h : inlN (envN false [] [(181, Proofs.Tryz.f181)]) h0 1 181 [.one (.ptr id o)] (fun _ => none) [] (id + 1) [] (fun v _ _ _ => v = .val (.one (.ptr id (o + 0)))) = (SV.val (.one (.ptr id (o + 0))) = SV.val (.one (.ptr id (o + 0)))) := by kernel_rfl
  rw [h]
theorem ptf182 (id o : Nat) : inlN (envN false [] [(182, Proofs.Tryz.f182)]) h0 1 182 [.one (.ptr id o)] (fun _ => none) [] (id + 1) [] (fun v _ _ _ => v = .val (.one (.ptr id (o + 1)))) := by
  have h : inlN (envN false [] [(182, Proofs.Tryz.f182)]) h0 1 182 [.one (.ptr id o)] (fun _ => none) [] (id + 1) [] (fun v _ _ _ => v = .val (.one (.ptr id (o + 1)))) = (SV.val (.one (.ptr id (o + 1))) = SV.val (.one (.ptr id (o + 1)))) := by kernel_rfl
  rw [h]
theorem ptf183 (id o : Nat) : inlN (envN false [] [(183, Proofs.Tryz.f183)]) h0 1 183 [.one (.ptr id o)] (fun _ => none) [] (id + 1) [] (fun v _ _ _ => v = .val (.one (.ptr id (o + 2)))) := by
  have h : inlN (envN false [] [(183, Proofs.Tryz.f183)]) h0 1 183 [.one (.ptr id o)] (fun _ => none) [] (id + 1) [] (fun v _ _ _ => v = .val (.one (.ptr id (o + 2)))) = (SV.val (.one (.ptr id (o + 2))) = SV.val (.one (.ptr id (o + 2)))) := by kernel_rfl
  rw [h]
theorem pts_ok : ∀ f off, lookN pts f = some off → PtOk P1 gl1 f (ptRun off) ∧ ∃ fn c, P1.funcs[f]? = some fn ∧ fn.body = some c ∧ (fn.name == "runtime.NumGoroutine") = false := by
  intro f off h
  simp only [pts, lookN] at h
  split at h
  · rename_i e
    simp at e h
    subst e h
    exact ptRun_ok (fn := Proofs.Tryz.f181) (by kernel_rfl) (by kernel_rfl) rfl (by kernel_rfl) ptf181
  split at h
  · rename_i e
    simp at e h
    subst e h
    exact ptRun_ok (fn := Proofs.Tryz.f182) (by kernel_rfl) (by kernel_rfl) rfl (by kernel_rfl) ptf182
  split at h
  · rename_i e
    simp at e h
    subst e h
    exact ptRun_ok (fn := Proofs.Tryz.f183) (by kernel_rfl) (by kernel_rfl) rfl (by kernel_rfl) ptf183
  cases h
theorem pt1_ok : ∀ f run, pt1 f = some run → PtOk P1 gl1 f run ∧ ∃ fn c, P1.funcs[f]? = some fn ∧ fn.body = some c ∧ (fn.name == "runtime.NumGoroutine") = false := by
  intro f run h
  obtain ⟨off, h1, rfl⟩ := Option.map_eq_some_iff.1 h
  exact pts_ok f off h1
noncomputable def env (tdv : Bool) (sp : List (Nat × FSpec)) (fb : List (Nat × Func)) : Env := { P := P1, tt := lookTT tab1, gl := gl1, sp := lookS sp, fb := lookF fb, eq := fun t => eqs1.contains t, tdv := tdv, pt := pt1, ex := ex1 }
theorem env_ok (tdv : Bool) {sp : List (Nat × FSpec)} {fb : List (Nat × Func)} (h1 : spOk P1 sp) (h2 : fbOk P1 fb) : EnvOk (env tdv sp fb) := ⟨tt_ok tab1_ok, sp_ok h1, eq1, pt1_ok, fb_ok h2, ex1_ok⟩
@[reducible] def iV (n : Int) : V := .one (.int .i64 n)
@[reducible] def bV (b : Bool) : V := .one (.bool b)
@[reducible] def sV (l : List UInt8) : V := .one (.str l)
def hu (n : Nat) : Hints := ⟨fun _ _ _ => none, n⟩
end Go.Sx

/- General functions and lemmas of contracts. -/
namespace Go.Sx.U
def whenE (b : Bool) (e : Int) : Int := if b then e else 0
def within (n lo hi : Int) : Int := if n < lo ∨ hi < n then 3 else 0
def first : List Int → Int
  | [] => 0
  | x :: r => if x = 0 then first r else x
def Bytes (s : List Int) : Prop := ∀ b ∈ s, 0 ≤ b ∧ b ≤ 255
end Go.Sx.U
namespace Go.Sx
open U
def liveO : List Nat → List (Nat × Option AObj) → List (Nat × Option AObj)
  | _, [] => []
  | seen, (k, v) :: r => if seen.contains k then liveO seen r else match v with
    | some o => (k, some o) :: liveO (k :: seen) r
    | none => liveO (k :: seen) r
def St.at (s : St) (keep : List Nat) (new : List (Nat × SV)) : St := ⟨new ++ keepT keep s.tm, liveO [] s.ob, s.nx, s.lr⟩
@[reducible] def tI (t : Nat) (n : Int) : Nat × SV := (t, .val (iV n))
def listOf (s : St) (t : Nat) : Option ((u : Ty) × List u.T) := match lookT s.tm t with
  | some (.val (.one c)) => rowOf (lookO s.ob) c
  | _ => none
def hFirst (tl tn ti : Nat) (s : St) : Option LInv := match listOf s tl with
  | some ⟨.int .i64, xs⟩ => some ⟨Nat, fun i => s.at [tl, tn] [tI ti i], fun i => i ≤ List.length xs ∧ first xs = first (List.drop i xs), fun i => List.length xs - i⟩
  | _ => none
def listAs (s : St) (t : Nat) (u : Ty) : Option (List u.T) := match lookT s.tm t with
  | some (.val (.one c)) => rowAs (lookO s.ob) u c
  | _ => none
def intOfT (s : St) (t : Nat) : Option Int := match lookT s.tm t with
  | some (.val (.one (.int .i64 n))) => some n
  | _ => none
def ownOf (s : St) (t : Nat) : List Nat := match lookT s.tm t with
  | some (.val (.one (.own id))) => [id]
  | _ => []
def lessO (s : St) (ts : List Nat) : List (Nat × Option AObj) := (liveO [] s.ob).filter fun x => !(ts.flatMap (ownOf s)).contains x.1
theorem getD_of {α : Type} {xs : List α} {i : Nat} {d : α} (h : i < xs.length) : List.getD xs i d = xs[i] := by
  rw [List.getD_eq_getElem?_getD, List.getElem?_eq_getElem h]; rfl
def Sp1 (f : FuncId) (s : FSpec) : Prop := SpecOk P1 gl1 f s ∧ ∃ fn c, P1.funcs[f]? = some fn ∧ fn.body = some c ∧ (fn.name == "runtime.NumGoroutine") = false
theorem fn_of (tdv : Bool) (sp : List (Nat × FSpec)) (fb : List (Nat × Func)) (hn : Hints) (d : Nat) (fn : Func) {f : FuncId} {c : Code} {args : List V} {r : SV} (h1 : spOk P1 sp) (h2 : fbOk P1 fb) (hf : P1.funcs[f]? = some fn) (hb : fn.body = some c) (hc : codeOk fn.ntmps c = true)
    (hlen : Nat.ble args.length fn.ntmps = true) (hpa : args.all pureV = true) (hpr : resPure r = true) (h : exF (env tdv sp fb) hn d f fn args r) : Fn P1 gl1 f args r false :=
  exF_sound (E := env tdv sp fb) (env_ok tdv h1 h2) mix1 hf hb hc (Nat.le_of_ble_eq_true hlen) hpa hpr h
theorem fn_ofr (tdv : Bool) (sp : List (Nat × FSpec)) (fb : List (Nat × Func)) (hn : Hints) (d : Nat) (fn : Func) {f : FuncId} {c : Code} {args : List V} {r : SV} (h1 : spOk P1 sp) (h2 : fbOk P1 fb) (hf : P1.funcs[f]? = some fn) (hb : fn.body = some c) (hc : codeOk fn.ntmps c = true)
    (hlen : Nat.ble args.length fn.ntmps = true) (hpa : args.all pureV = true) (hpr : resPure r = true) (h : exFr (env tdv sp fb) hn d f fn args r) : Fn P1 gl1 f args r true :=
  exFr_sound (E := env tdv sp fb) (env_ok tdv h1 h2) mix1 hf hb hc (Nat.le_of_ble_eq_true hlen) hpa hpr h
theorem first_drop (xs : List Int) (g : Nat) (h : g < xs.length) : first (xs.drop g) = if xs[g] = 0 then first (xs.drop (g + 1)) else xs[g] := by
  rw [List.drop_eq_getElem_cons h]; rfl
end Go.Sx

namespace Go.Sx.U
open Ieee
theorem num_lit (b : Nat) (s : Bool) (m : Nat) (e : Int) (h : single.read b = .number s m e) (v : Int) (hv : signed s m (e + 149).toNat = v) : numW b = true ∧ vW b = v := ⟨numW_of h, by rw [vW_num h, hv]⟩
theorem hi_val : numW 1149239296 = true ∧ vW 1149239296 = 1024 * ((2 ^ 149 : Nat) : Int) :=
  num_lit _ false 8388608 (-13) (by decide) _ (by decide)
theorem lo_val : numW 3296722944 = true ∧ vW 3296722944 = -1024 * ((2 ^ 149 : Nat) : Int) :=
  num_lit _ true 8388608 (-13) (by decide) _ (by decide)
theorem cmp_lt (a b : Int) : (some (compare a b) == some Ordering.lt) = decide (a < b) := by
  by_cases h : a < b
  · rw [Int.compare_eq_lt.2 h]; simp [h]
  · have : compare a b ≠ .lt := fun e => h (Int.compare_eq_lt.1 e)
    simp [h, this]
theorem cmp_gt (a b : Int) : (some (compare a b) == some Ordering.gt) = decide (b < a) := by
  by_cases h : b < a
  · rw [Int.compare_eq_gt.2 h]; simp [h]
  · have : compare a b ≠ .gt := fun e => h (Int.compare_eq_gt.1 e)
    simp [h, this]
theorem cmp_eq (a b : Int) : (some (compare a b) == some Ordering.eq) = decide (a = b) := by
  by_cases h : a = b
  · subst h; simp
  · have : compare a b ≠ .eq := fun e => h (Int.compare_eq_eq.1 e)
    simp [h, this]
theorem cmp_ne (a b : Int) : (some (compare a b) != some Ordering.eq) = decide (a ≠ b) := by
  unfold bne
  rw [cmp_eq]
  by_cases h : a = b <;> simp [h]
theorem lt_lo {b : Nat} (h : numW b = true) : (single.order b 3296722944 == some .lt) = decide (vW b < -1024 * ((2 ^ 149 : Nat) : Int)) := by
  rw [order_val h lo_val.1, lo_val.2, cmp_lt]
theorem gt_hi {b : Nat} (h : numW b = true) : (single.order b 1149239296 == some .gt) = decide (1024 * ((2 ^ 149 : Nat) : Int) < vW b) := by
  rw [order_val h hi_val.1, hi_val.2, cmp_gt]
theorem pos149 : (0 : Int) < ((2 ^ 149 : Nat) : Int) := Int.natCast_pos.2 (Nat.two_pow_pos _)
theorem in_step {b : Nat} (h : numW b = true) (h1 : ¬ vW b < -1024 * ((2 ^ 149 : Nat) : Int)) (h2 : ¬ 1024 * ((2 ^ 149 : Nat) : Int) < vW b) :
    ∃ y, single.mul 1098907648 b = some y ∧ (single.read y).toInt .zero = some (six b) ∧ (-16384 ≤ six b ∧ six b ≤ 16384) ∧ numW y = true ∧ vW y = 16 * vW b := by
  have hb : (vW b).natAbs < 2 ^ 160 := by omega
  obtain ⟨y, e1, e2, e3⟩ := mul_16 h (Nat.le_refl _) hb
  refine ⟨y, e1, ?_, ?_, e2, e3⟩
  · rw [toInt_val e2, e3]; rfl
  · have hq := pos149
    unfold six
    have g1 : -16384 * ((2 ^ 149 : Nat) : Int) ≤ 16 * vW b := by omega
    have g2 : 16 * vW b ≤ 16384 * ((2 ^ 149 : Nat) : Int) := by omega
    generalize ((2 ^ 149 : Nat) : Int) = q at *
    generalize 16 * vW b = v at *
    have k1 : -16384 = (-16384 * q).tdiv q := (Int.mul_tdiv_cancel _ (by omega)).symm
    have k2 : 16384 = (16384 * q).tdiv q := (Int.mul_tdiv_cancel _ (by omega)).symm
    constructor
    · rw [k1]; exact Int.tdiv_le_tdiv hq g1
    · rw [k2]; exact Int.tdiv_le_tdiv hq g2
theorem six_ne {b y : Nat} (hs : -16384 ≤ six b ∧ six b ≤ 16384) (hy : numW y = true) (hv : vW y = 16 * vW b) :
    (single.order (single.nearest (decide (six b < 0)) (six b).natAbs 0) y != some .eq) = decide (¬ 16 * vW b = six b * ((2 ^ 149 : Nat) : Int)) := by
  obtain ⟨n1, n2⟩ := nearest_int (n := six b) (by omega)
  rw [order_val n1 hy, n2, hv, cmp_ne]
  congr 1
  apply propext
  constructor
  · intro h e; exact h e.symm
  · intro h e; exact h e.symm
theorem six_step {b : Nat} (h : chkS b = 0) : ∃ y, single.mul 1098907648 b = some y ∧ (single.read y).toInt .zero = some (six b) ∧ (-16384 ≤ six b ∧ six b ≤ 16384) := by
  obtain ⟨h1, h2, h3, h4⟩ := chkS_zero.1 h
  have hq := pos149
  have g1 : -16384 * ((2 ^ 149 : Nat) : Int) ≤ six b * ((2 ^ 149 : Nat) : Int) := Int.mul_le_mul_of_nonneg_right h3 (Int.le_of_lt hq)
  have g2 : six b * ((2 ^ 149 : Nat) : Int) ≤ 16384 * ((2 ^ 149 : Nat) : Int) := Int.mul_le_mul_of_nonneg_right h4 (Int.le_of_lt hq)
  rw [← h2] at g1 g2
  obtain ⟨y, e1, e2, e3, _⟩ := in_step h1 (by omega) (by omega)
  exact ⟨y, e1, e2, e3⟩
theorem num_litD (b : Nat) (s : Bool) (m : Nat) (e : Int) (h : double.read b = .number s m e) : numWD b = true ∧ vWD b = signed s m (e + 1074).toNat := ⟨numW_ofD h, vW_numD h⟩
theorem U_add : U = 149 + U2 := rfl
theorem unit_D : ((2 ^ U : Nat) : Int) = ((2 ^ 149 : Nat) : Int) * ((2 ^ U2 : Nat) : Int) := by rw [U_add, Nat.pow_add, Int.natCast_mul]
theorem posU2 : (0 : Int) < ((2 ^ U2 : Nat) : Int) := Int.natCast_pos.2 (Nat.two_pow_pos _)
theorem hi_valD : numWD 4652218415073722368 = true ∧ vWD 4652218415073722368 = 1024 * ((2 ^ 149 : Nat) : Int) * ((2 ^ U2 : Nat) : Int) := by
  obtain ⟨h1, h2⟩ := num_litD 4652218415073722368 false 4503599627370496 (-42) (by decide)
  refine ⟨h1, ?_⟩
  rw [h2, Int.mul_assoc, ← unit_D, signed_eq]
  obtain ⟨V, hV⟩ : ∃ V : Nat, ((-42 : Int) + 1074).toNat = V := ⟨_, rfl⟩
  have hU : U = V + 42 := by rw [U_eq]; omega
  rw [hV, hU, Nat.pow_add]
  generalize 2 ^ V = q
  simp
  omega
theorem lo_valD : numWD 13875590451928498176 = true ∧ vWD 13875590451928498176 = -1024 * ((2 ^ 149 : Nat) : Int) * ((2 ^ U2 : Nat) : Int) := by
  obtain ⟨h1, h2⟩ := num_litD 13875590451928498176 true 4503599627370496 (-42) (by decide)
  refine ⟨h1, ?_⟩
  rw [h2, Int.mul_assoc, ← unit_D, signed_eq]
  obtain ⟨V, hV⟩ : ∃ V : Nat, ((-42 : Int) + 1074).toNat = V := ⟨_, rfl⟩
  have hU : U = V + 42 := by rw [U_eq]; omega
  rw [hV, hU, Nat.pow_add]
  generalize 2 ^ V = q
  simp
  omega
theorem lt_loD {b y : Nat} (h : numWD y = true) (hv : vWD y = vW b * ((2 ^ U2 : Nat) : Int)) : (double.order y 13875590451928498176 == some .lt) = decide (vW b < -1024 * ((2 ^ 149 : Nat) : Int)) := by
  rw [order_valD h lo_valD.1, lo_valD.2, hv, compare_scale posU2, cmp_lt]
theorem gt_hiD {b y : Nat} (h : numWD y = true) (hv : vWD y = vW b * ((2 ^ U2 : Nat) : Int)) : (double.order y 4652218415073722368 == some .gt) = decide (1024 * ((2 ^ 149 : Nat) : Int) < vW b) := by
  rw [order_valD h hi_valD.1, hi_valD.2, hv, compare_scale posU2, cmp_gt]
theorem in_stepD {b y : Nat} (h : numWD y = true) (hv : vWD y = vW b * ((2 ^ U2 : Nat) : Int)) (h1 : ¬ vW b < -1024 * ((2 ^ 149 : Nat) : Int)) (h2 : ¬ 1024 * ((2 ^ 149 : Nat) : Int) < vW b) :
    ∃ z, double.mul 4625196817309499392 y = some z ∧ numWD z = true ∧ (double.order z (flo z) != some .eq) = decide (¬ 16 * vW b = six b * ((2 ^ 149 : Nat) : Int)) := by
  have hb : (vW b).natAbs < 2 ^ (11 + 149) := by omega
  obtain ⟨T, hT⟩ : ∃ T, 11 + 149 + U2 = T := ⟨_, rfl⟩
  have hTn : T = 1085 := by rw [← hT, U2_eq]
  have hy : (vWD y).natAbs < 2 ^ T := by
    have e6 : (2 : Nat) ^ T = 2 ^ (11 + 149) * 2 ^ U2 := by rw [← hT, Nat.pow_add 2 (11 + 149) U2]
    rw [hv, Int.natAbs_mul, Int.natAbs_natCast, e6]
    exact Nat.mul_lt_mul_of_pos_right hb (Nat.two_pow_pos _)
  obtain ⟨z, e1, e2, e3⟩ := mul_16D h (Nat.le_of_eq hTn) hy
  have hz : (vWD z).natAbs < 2 ^ (4 + T) := by
    have e5 : (2 : Nat) ^ (4 + T) = 16 * 2 ^ T := by rw [Nat.pow_add 2 4 T]
    rw [e3, Int.natAbs_mul, e5]
    exact Nat.mul_lt_mul_of_pos_left hy (by decide)
  obtain ⟨f1, ⟨t, f2⟩, f3⟩ := floor_val e2 (by omega) hz
  refine ⟨z, e1, e2, ?_⟩
  rw [order_valD e2 f1, cmp_ne]
  congr 1
  apply propext
  have hq := pos149
  have hp := posU2
  have hd : vWD z = 16 * vW b * ((2 ^ U2 : Nat) : Int) := by rw [e3, hv, Int.mul_assoc]
  constructor
  · intro hne he
    apply hne
    refine (f3 (six b) ?_).symm
    rw [hd, he, unit_D, Int.mul_assoc]
  · intro hne he
    apply hne
    rw [he, f2, unit_D] at hd
    rw [← Int.mul_assoc] at hd
    have := Int.eq_of_mul_eq_mul_right (by omega) hd
    unfold six
    rw [← this, Int.mul_tdiv_cancel _ (by omega)]
end Go.Sx.U

/- Floats of 32 bits: exact sums and products of samples. -/
namespace Go.Sx.U
open Ieee
def isS (b : Nat) (n : Int) : Prop := numW b = true ∧ 16 * vW b = n * ((2 ^ 149 : Nat) : Int)
theorem isS_smp {n : Int} (h : n.natAbs < 16777216) : isS (smp n) n := ⟨(smp_num h).2.1, (smp_num h).2.2⟩
theorem sgn_abs {s : Bool} {A q : Nat} {k : Int} (hq : 0 < q) (h : (if s then -1 else 1) * (A : Int) = k * (q : Int)) : A = k.natAbs * q ∧ k = (if s then -1 else 1) * (k.natAbs : Int) := by
  have h1 : A = k.natAbs * q := by
    have := congrArg Int.natAbs h
    rw [Int.natAbs_mul, Int.natAbs_mul, Int.natAbs_natCast, Int.natAbs_natCast] at this
    cases s <;> simpa using this
  refine ⟨h1, ?_⟩
  subst h1
  have hq' : (q : Int) ≠ 0 := by omega
  rw [Int.natCast_mul, ← Int.mul_assoc] at h
  exact (Int.eq_of_mul_eq_mul_right hq' h).symm
theorem sgn_xor (s t : Bool) : (if (s ^^ t) = true then (-1 : Int) else 1) = (if s then -1 else 1) * (if t then -1 else 1) := by cases s <;> cases t <;> rfl
end Go.Sx.U

/- Floats of 64 bits: exact sums and products of small numbers. -/
namespace Go.Sx.U
open Ieee
def U3 : Nat := 1070
def UU : Nat := 2148
theorem U3_eq : U3 = 1070 := rfl
theorem Ui : ((U : Nat) : Int) = 1074 := rfl
theorem UUi : ((UU : Nat) : Int) = 2148 := rfl
def isD (b : Nat) (n : Int) : Prop := numWD b = true ∧ 16 * vWD b = n * ((2 ^ U : Nat) : Int)
theorem pwU : 2 ^ U = 2 ^ U3 * 16 := by
  have e : U = U3 + 4 := rfl
  rw [e, Nat.pow_add]
theorem posU : (0 : Int) < ((2 ^ U : Nat) : Int) := Int.natCast_pos.2 (Nat.two_pow_pos _)
theorem isD_order {a b : Nat} {m n : Int} (ha : isD a m) (hb : isD b n) : double.order a b = some (compare m n) := by
  rw [order_valD ha.1 hb.1, ← compare_scale (p := 16) (by decide), Int.mul_comm _ 16, Int.mul_comm (vWD b) 16, ha.2, hb.2, compare_scale posU]
theorem nearest_d {neg : Bool} {mag N S : Nat} {place : Int} (hS : 4 ≤ S) (hp : -(S : Int) ≤ place) (hv : mag * 2 ^ (place + S).toNat = N * 2 ^ (S - 4)) (hN : N < 16777216) :
    isD (double.nearest neg mag place) ((if neg then -1 else 1) * (N : Int)) := by
  by_cases h0 : N = 0
  · subst h0
    rw [Nat.zero_mul] at hv
    have hm : mag = 0 := by
      rcases Nat.mul_eq_zero.1 hv with h | h
      · exact h
      · have := Nat.two_pow_pos (place + S).toNat
        omega
    subst hm
    have := nearest_0D neg place
    refine ⟨numW_ofD this, ?_⟩
    rw [vW_numD this, signed_eq]
    simp
  · by_cases hpl : place ≤ -4
    · have hm : mag = N * 2 ^ (-4 - place).toNat := by
        have e : S - 4 = (-4 - place).toNat + (place + S).toNat := by omega
        rw [e, Nat.pow_add, ← Nat.mul_assoc] at hv
        exact Nat.eq_of_mul_eq_mul_right (Nat.two_pow_pos _) hv
      have hl : N.log2 < 24 := (Nat.log2_lt h0 (k := 24)).2 hN
      obtain ⟨m, last, r1, r2⟩ := nearest_exactD (neg := neg) (mag := mag) (c := N) (k := (-4 - place).toNat) (place := place) hm h0 (by omega) (by omega) (by
        rw [hm, log2_shift h0]; omega)
      refine ⟨numW_ofD r1, ?_⟩
      rw [vW_numD r1, signed_eq, r2]
      have e : (place + ((-4 - place).toNat : Int) + 1074).toNat = U3 := by have := U3_eq; omega
      rw [e]
      rw [pwU]
      generalize 2 ^ U3 = q
      rw [Int.natCast_mul, Int.natCast_mul]
      rw [Int.mul_left_comm, Int.mul_assoc (if neg = true then -1 else 1)]
      congr 1
      rw [Int.mul_left_comm, Int.mul_comm (16 : Int)]
      rfl
    · have hm : mag * 2 ^ (place + 4).toNat = N := by
        have e : (place + S).toNat = (place + 4).toNat + (S - 4) := by omega
        rw [e, Nat.pow_add, ← Nat.mul_assoc] at hv
        exact Nat.eq_of_mul_eq_mul_right (Nat.two_pow_pos _) hv
      have hm0 : mag ≠ 0 := by
        intro h; rw [h, Nat.zero_mul] at hm; exact h0 hm.symm
      have hle : mag ≤ N := by
        rw [← hm]; exact Nat.le_mul_of_pos_right _ (Nat.two_pow_pos _)
      have hl : (mag * 2 ^ (place + 4).toNat).log2 < 24 := by
        rw [hm]; exact (Nat.log2_lt h0 (k := 24)).2 hN
      rw [log2_shift hm0] at hl
      obtain ⟨m, last, r1, r2⟩ := nearest_exactD (neg := neg) (mag := mag) (c := mag) (k := 0) (place := place) (by simp) hm0 (by omega) (by omega) (by omega)
      refine ⟨numW_ofD r1, ?_⟩
      rw [vW_numD r1, signed_eq, r2]
      have e : (place + ((0 : Nat) : Int) + 1074).toNat = (place + 4).toNat + U3 := by have := U3_eq; omega
      rw [e, Nat.pow_add, ← Nat.mul_assoc, hm]
      rw [pwU]
      generalize 2 ^ U3 = q
      rw [Int.natCast_mul, Int.natCast_mul]
      rw [Int.mul_left_comm, Int.mul_assoc (if neg = true then -1 else 1)]
      congr 1
      rw [Int.mul_left_comm, Int.mul_comm (16 : Int)]
      rfl
theorem sum_d {s t : Bool} {m n : Nat} {i j x y : Int} (h1 : -1074 ≤ i) (h2 : -1074 ≤ j) (va : 16 * signed s m (i + 1074).toNat = x * ((2 ^ U : Nat) : Int)) (vb : 16 * signed t n (j + 1074).toNat = y * ((2 ^ U : Nat) : Int)) (h : (x + y).natAbs < 16777216) :
    ∃ z, ((Datum.number s m i).sum (.number t n j)).map double.write = some z ∧ isD z (x + y) := by
  simp only [Datum.sum, Option.map_some, Format.write]
  refine ⟨_, rfl, ?_⟩
  have q1 : (i + 1074).toNat = (i - min i j).toNat + (min i j + 1074).toNat := by omega
  have q2 : (j + 1074).toNat = (j - min i j).toNat + (min i j + 1074).toNat := by omega
  rw [q1, signed_add] at va
  rw [q2, signed_add] at vb
  have hb0 : -((U : Nat) : Int) ≤ min i j := by have := Ui; omega
  generalize min i j = base at *
  generalize hA : signed s m (i - base).toNat = A at *
  generalize hB : signed t n (j - base).toNat = B at *
  have tot : 16 * ((A + B) * ((2 ^ (base + 1074).toNat : Nat) : Int)) = (x + y) * ((2 ^ U : Nat) : Int) := by
    rw [Int.add_mul, Int.mul_add, va, vb, Int.add_mul]
  have nat : (A + B).natAbs * 2 ^ (base + 1074).toNat = (x + y).natAbs * 2 ^ (U - 4) := by
    have := congrArg Int.natAbs tot
    rw [Int.natAbs_mul, Int.natAbs_mul, Int.natAbs_mul, Int.natAbs_natCast, Int.natAbs_natCast] at this
    have e2 : 2 ^ U = 16 * 2 ^ (U - 4) := by rw [show U - 4 = U3 from rfl, pwU, Nat.mul_comm]
    rw [e2, Nat.mul_left_comm ((x + y).natAbs)] at this
    exact Nat.eq_of_mul_eq_mul_left (by decide : 0 < 16) this
  have key := nearest_d (neg := if A + B = 0 then s && t else decide (A + B < 0)) (S := U) (by decide) hb0 (by rw [Ui]; exact nat) h
  have hp : (0 : Int) < ((2 ^ (base + 1074).toNat : Nat) : Int) := Int.natCast_pos.2 (Nat.two_pow_pos _)
  have hq := posU
  generalize ((2 ^ (base + 1074).toNat : Nat) : Int) = p at *
  generalize hQ : ((2 ^ U : Nat) : Int) = q at *
  have e : (if (if A + B = 0 then s && t else decide (A + B < 0)) = true then -1 else 1) * (((x + y).natAbs : Nat) : Int) = x + y := by
    generalize A + B = T at *
    generalize x + y = X at *
    rcases Int.lt_trichotomy T 0 with k | k | k
    · have k1 : X * q < 0 := by rw [← tot]; have := Int.mul_neg_of_neg_of_pos k hp; omega
      have k2 : X < 0 := by
        by_cases c : X < 0
        · exact c
        · have := Int.mul_nonneg (show 0 ≤ X by omega) (show 0 ≤ q by omega)
          omega
      have e3 : (if T = 0 then s && t else decide (T < 0)) = true := by rw [if_neg (by omega), decide_eq_true k]
      rw [e3, if_pos rfl]
      omega
    · subst k
      rw [Int.zero_mul, Int.mul_zero] at tot
      have : X = 0 := by
        rcases Int.mul_eq_zero.1 tot.symm with h | h
        · exact h
        · omega
      subst this
      simp
    · have k1 : 0 < X * q := by rw [← tot]; have := Int.mul_pos k hp; omega
      have k2 : 0 < X := by
        by_cases c : 0 < X
        · exact c
        · have := Int.mul_nonneg (show 0 ≤ -X by omega) (show 0 ≤ q by omega)
          rw [Int.neg_mul] at this
          omega
      have e3 : (if T = 0 then s && t else decide (T < 0)) = false := by rw [if_neg (by omega), decide_eq_false (by omega)]
      rw [e3, if_neg (by decide)]
      omega
  rw [e] at key
  exact key
theorem add_d {a b : Nat} {x y : Int} (ha : isD a x) (hb : isD b y) (h : (x + y).natAbs < 16777216) : ∃ z, double.add a b = some z ∧ isD z (x + y) := by
  obtain ⟨s, m, i, e1⟩ := num_ofD ha.1
  obtain ⟨t, n, j, e2⟩ := num_ofD hb.1
  have va := ha.2
  have vb := hb.2
  rw [vW_numD e1] at va
  rw [vW_numD e2] at vb
  unfold Format.add
  rw [e1, e2]
  exact sum_d (read_numD e1).1 (read_numD e2).1 va vb h
theorem sub_d {a b : Nat} {x y : Int} (ha : isD a x) (hb : isD b y) (h : (x - y).natAbs < 16777216) : ∃ z, double.sub a b = some z ∧ isD z (x - y) := by
  obtain ⟨s, m, i, e1⟩ := num_ofD ha.1
  obtain ⟨t, n, j, e2⟩ := num_ofD hb.1
  have va := ha.2
  have vb := hb.2
  rw [vW_numD e1] at va
  rw [vW_numD e2] at vb
  unfold Format.sub
  rw [e1, e2]
  have vb' : 16 * signed (!t) n (j + 1074).toNat = (-y) * ((2 ^ U : Nat) : Int) := by
    rw [Int.neg_mul, ← vb, signed_eq, signed_eq]
    cases t <;> simp <;> omega
  exact sum_d (read_numD e1).1 (read_numD e2).1 va vb' h
theorem mul_d {a b : Nat} {k n : Int} (ha : isD a (16 * k)) (hb : isD b n) (h : (k * n).natAbs < 16777216) : ∃ z, double.mul a b = some z ∧ isD z (k * n) := by
  obtain ⟨s, m, i, e1⟩ := num_ofD ha.1
  obtain ⟨t, l, j, e2⟩ := num_ofD hb.1
  have h1 := (read_numD e1).1
  have h2 := (read_numD e2).1
  have va := ha.2
  have vb := hb.2
  rw [vW_numD e1, signed_eq] at va
  rw [vW_numD e2, signed_eq] at vb
  unfold Format.mul
  rw [e1, e2]
  simp only [Datum.product, Option.map_some, Format.write]
  refine ⟨_, rfl, ?_⟩
  have va' : (if s then -1 else 1) * ((m * 2 ^ (i + 1074).toNat : Nat) : Int) = k * ((2 ^ U : Nat) : Int) := by
    rw [Int.mul_assoc 16] at va
    exact Int.eq_of_mul_eq_mul_left (by decide) va
  have vb' : (if t then -1 else 1) * ((16 * (l * 2 ^ (j + 1074).toNat) : Nat) : Int) = n * ((2 ^ U : Nat) : Int) := by
    rw [← vb, Int.natCast_mul 16]
    rw [Int.mul_left_comm]
    rfl
  obtain ⟨a1, a2⟩ := sgn_abs (Nat.two_pow_pos U) va'
  obtain ⟨b1, b2⟩ := sgn_abs (Nat.two_pow_pos U) vb'
  have nat : m * l * 2 ^ (i + j + ((UU : Nat) : Int)).toNat = (k * n).natAbs * 2 ^ (UU - 4) := by
    have e : (i + j + ((UU : Nat) : Int)).toNat = (i + 1074).toNat + (j + 1074).toNat := by have := UUi; omega
    have e3 : m * l * (2 ^ (i + 1074).toNat * 2 ^ (j + 1074).toNat) = (m * 2 ^ (i + 1074).toNat) * (l * 2 ^ (j + 1074).toNat) := by
      rw [Nat.mul_assoc, Nat.mul_assoc, Nat.mul_left_comm l]
    have b3 : l * 2 ^ (j + 1074).toNat = n.natAbs * 2 ^ U3 := by
      have e2 : 2 ^ U = 16 * 2 ^ U3 := by rw [pwU, Nat.mul_comm]
      rw [e2, Nat.mul_left_comm n.natAbs] at b1
      exact Nat.eq_of_mul_eq_mul_left (by decide : 0 < 16) b1
    rw [e, Nat.pow_add, e3, a1, b3, Int.natAbs_mul]
    rw [show (UU - 4 : Nat) = U + U3 from rfl, Nat.pow_add 2 U U3]
    generalize 2 ^ U = p
    generalize 2 ^ U3 = q
    rw [Nat.mul_assoc, Nat.mul_assoc, Nat.mul_left_comm p]
  have key := nearest_d (neg := s ^^ t) (mag := m * l) (place := i + j) (S := UU) (by decide) (by have := UUi; omega) nat h
  have e : (if (s ^^ t) = true then -1 else 1) * (((k * n).natAbs : Nat) : Int) = k * n := by
    rw [sgn_xor, Int.natAbs_mul, Int.natCast_mul]
    rw [Int.mul_assoc, Int.mul_left_comm (if t = true then -1 else 1), ← b2, ← Int.mul_assoc, ← a2]
  rw [e] at key
  exact key
theorem mul_commD {a b : Nat} (ha : numWD a = true) (hb : numWD b = true) : double.mul a b = double.mul b a := by
  obtain ⟨s, m, i, e1⟩ := num_ofD ha
  obtain ⟨t, n, j, e2⟩ := num_ofD hb
  unfold Format.mul
  rw [e1, e2]
  simp only [Datum.product, Option.map_some]
  rw [Bool.xor_comm, Nat.mul_comm, Int.add_comm]
theorem mul_d' {a b : Nat} {k n : Int} (ha : isD a n) (hb : isD b (16 * k)) (h : (n * k).natAbs < 16777216) : ∃ z, double.mul a b = some z ∧ isD z (n * k) := by
  rw [mul_commD ha.1 hb.1, Int.mul_comm n k]
  exact mul_d hb ha (by rw [Int.mul_comm]; exact h)
theorem isD_int {n : Int} (h : n.natAbs < 1048576) : isD (FloatKind.nearest .f64 n) (16 * n) := by
  have := nearest_d (neg := decide (n < 0)) (mag := n.natAbs) (N := 16 * n.natAbs) (S := 4) (place := 0) (by decide) (by decide) (by simp [Nat.mul_comm]) (by omega)
  have e : (if decide (n < 0) = true then -1 else 1) * ((16 * n.natAbs : Nat) : Int) = 16 * n := by
    by_cases k : n < 0
    · rw [decide_eq_true k, if_pos rfl]; omega
    · rw [decide_eq_false k, if_neg (by decide)]; omega
  rw [e] at this
  exact this
theorem pwV : 2 ^ 149 * 2 ^ U2 = 2 ^ U := by
  have e : U = 149 + U2 := rfl
  rw [e, Nat.pow_add]
theorem conv_d {b : Nat} {n : Int} (h : isS b n) : ∃ y, convF .f32 .f64 b = some y ∧ isD y n := by
  obtain ⟨y, h1, h2, h3, h4⟩ := conv_num h.1
  obtain ⟨s, m, e, e1⟩ := num_of h.1
  rw [e1] at h1
  refine ⟨y, ?_, h3, ?_⟩
  · unfold convF
    rw [if_neg (by decide)]
    rw [show FloatKind.f32.decode b = .number s m e from e1]
    show (bif (double.read (double.write (.number s m e))).isInfinity then none else some (double.write (.number s m e))) = some y
    rw [h1, h2]; rfl
  · rw [h4, ← Int.mul_assoc, h.2, Int.mul_assoc]
    exact congrArg (n * ·) ((Int.natCast_mul _ _).symm.trans (congrArg (fun q : Nat => (q : Int)) pwV))
theorem cmul_d {a b c d : Nat} {A B C D : Int} (ha : isD a A) (hb : isD b B) (hc : isD c (16 * C)) (hd : isD d (16 * D)) (h1 : (A * C).natAbs < 8388608) (h2 : (B * D).natAbs < 8388608) (h3 : (A * D).natAbs < 8388608) (h4 : (B * C).natAbs < 8388608) :
    ∃ z, cmulF a b c d = some z ∧ isD z.1 (A * C - B * D) ∧ isD z.2 (A * D + B * C) := by
  obtain ⟨p, p1, p2⟩ := mul_d' ha hc (by omega)
  obtain ⟨q, q1, q2⟩ := mul_d' hb hd (by omega)
  obtain ⟨r, r1, r2⟩ := mul_d' ha hd (by omega)
  obtain ⟨s, s1, s2⟩ := mul_d' hb hc (by omega)
  obtain ⟨x, x1, x2⟩ := sub_d p2 q2 (by omega)
  obtain ⟨y, y1, y2⟩ := add_d r2 s2 (by omega)
  refine ⟨(x, y), ?_, x2, y2⟩
  unfold cmulF
  show (match double.mul a c, double.mul b d, double.mul a d, double.mul b c with
    | some p, some q, some r, some s => match double.sub p q, double.add r s with
      | some x, some y => some (x, y)
      | _, _ => none
    | _, _, _, _ => none) = _
  rw [p1, q1, r1, s1]
  show (match double.sub p q, double.add r s with
      | some x, some y => some (x, y)
      | _, _ => none) = _
  rw [x1, y1]
theorem eq_d {a b : Nat} {m n : Int} (ha : isD a m) (hb : isD b n) : Op.floatEq .f64 a b = decide (m = n) := by
  show (double.order a b == some .eq) = _
  rw [isD_order ha hb, cmp_eq]
end Go.Sx.U

/- Plain functions and hints. -/
namespace Go.Sx
open U
end Go.Sx
namespace Go.Sx
open U
def sp99 : FSpec := ⟨fun vs => match vs with
  | [.one (.bool b), .one (.int .i64 e)] => some ([], .val (iV (whenE b e)))
  | _ => none, true⟩
end Go.Sx

/- What the engine asks, written out (printed by a program). -/
namespace Go.Sx
open U
theorem vc99 (b : Bool) (e : Int) : exF (env false [] []) h0 0 99 Proofs.Tryz.f99 [bV b, iV e] (.val (iV (whenE b e))) = (splitB b (e = whenE b e ∧ True) ((0 : Int) = whenE b e ∧ True)) := by
  kernel_rfl
end Go.Sx

/- Contracts. -/
namespace Go.Sx
open U
theorem bneZ {n : Int} : (n != 0) = true ↔ n ≠ 0 := by simp
theorem bneF {n : Int} : (n != 0) = false ↔ n = 0 := by simp
theorem bcond_r (a b : Bool) : (bif a then b else false) = (a && b) := by cases a <;> rfl
theorem bcond_l (a b : Bool) : (bif a then true else b) = (a || b) := by cases a <;> rfl
theorem fn99 (b : Bool) (e : Int)  : Fn P1 gl1 99 [bV b, iV e] (.val (iV (whenE b e))) true := by
  refine Fn.flat ?_ rfl
  refine fn_of false [] [] h0 0 Proofs.Tryz.f99 trivial trivial (by kernel_rfl) rfl (by kernel_rfl) rfl rfl rfl ?_
  rw [vc99]
  try simp only [splitB_iff, -eq_self]
  cases b <;> simp [whenE]
theorem so99_ : SpecOk P1 gl1 99 sp99 := by
  intro vs ps r h _
  simp only [sp99] at h
  split at h
  · cases h; exact fn99 _ _ 
  · cases h
theorem so99 : Sp1 99 sp99 := ⟨so99_, Proofs.Tryz.f99, _, by kernel_rfl, rfl, by kernel_rfl⟩
end Go.Sx

/- Plain functions and hints. -/
namespace Go.Sx.U
def signI (line : Int) : Int := if line % 2 = 1 then -1 else 1
def roundI (a d : Int) : Int := (2 * a + d) / (2 * d)
end Go.Sx.U
namespace Go.Sx
open U
abbrev gsT : Ty := .pair (.int .i64) (.int .i64)
@[reducible] def fV (b : Nat) : V := .one (.flt .f32 b)
def h95 : Hints := ⟨fun f k s => match f, k with
  | 95, 2 => hFirst 5 6 7 s
  | _, _ => none, 0⟩
@[reducible] noncomputable def fb175 : Nat × Func := (175, Proofs.Tryz.f175)
@[reducible] noncomputable def fb176 : Nat × Func := (176, Proofs.Tryz.f176)
@[reducible] noncomputable def fb199 : Nat × Func := (199, Proofs.Tryz.f199)
def sp141 : FSpec := ⟨fun vs => match vs with
  | [.one (.flt .f32 b), .one (.int .i64 n)] => if n = 1024 then some ([], .val (iV (chkS b))) else none
  | _ => none, true⟩
def sp174 : FSpec := ⟨fun vs => match vs with
  | [.one (.flt .f32 b), .one (.int .i64 n)] => if n = 1024 then some ([], .val (iV (chkS b))) else none
  | _ => none, true⟩
end Go.Sx
namespace Go.Sx
open U
def sp104 : FSpec := ⟨fun vs => match vs with
  | [.one (.bool b), .one (.int .i64 e)] => some ([], .val (iV (whenE b e)))
  | _ => none, true⟩
def sp198 : FSpec := ⟨fun vs => match vs with
  | [.one (.bool b), .one (.int .i64 e)] => some ([], .val (iV (whenE b e)))
  | _ => none, true⟩
def sp96 : FSpec := ⟨fun vs => match vs with
  | [.one (.int .i64 n), .one (.int .i64 lo), .one (.int .i64 hi)] => some ([], .val (iV (within n lo hi)))
  | _ => none, true⟩
def sp95 : FSpec := ⟨fun vs => match vs with
  | [.one (.sl (.int .i64) xs)] => some ([List.length xs ≤ 1000000000], .val (iV (first xs)))
  | _ => none, true⟩
def sp170 : FSpec := ⟨fun vs => match vs with
  | [.one (.int .i64 n)] => some ([0 ≤ n], .val (iV (signI n)))
  | _ => none, true⟩
def sp120 : FSpec := ⟨fun vs => match vs with
  | [.one (.int .i64 a), .one (.int .i64 d)] => some ([-1000000000 ≤ a ∧ a ≤ 1000000000, 0 < d ∧ d ≤ 1000000000], .val (iV (roundI a d)))
  | _ => none, true⟩
def sp136 : FSpec := ⟨fun vs => match vs with
  | [.one (.flt .f32 b)] => some ([], .val (iV (chkS b)))
  | _ => none, true⟩
def sp177 : FSpec := ⟨fun vs => match vs with
  | [.one (.flt .f64 y)] => some ([numWD y = true], .val (.one (.flt .f64 (flo y))))
  | _ => none, true⟩
def sp69 : FSpec := ⟨fun vs => match vs with
  | [.one (.flt .f32 b)] => some ([], .val (iV (chkS b)))
  | _ => none, true⟩
def sp137 : FSpec := ⟨fun vs => match vs with
  | [.one (.flt .f32 b)] => some ([chkS b = 0], .val (iV (six b)))
  | _ => none, true⟩
def sp110 : FSpec := ⟨fun vs => match vs with
  | [.one (.int .i64 n)] => some ([-8388608 ≤ n ∧ n ≤ 8388608], .val (fV (smp n)))
  | _ => none, true⟩
def sp86 : FSpec := ⟨fun vs => match vs with
  | [.one (.flt .f32 b)] => some ([chkS b = 0], .val (iV (six b)))
  | _ => none, true⟩
end Go.Sx

/- What the engine asks, written out (printed by a program). -/
namespace Go.Sx
open U
theorem vc104 (b : Bool) (e : Int) : exF (env false [] []) h0 0 104 Proofs.Tryz.f104 [bV b, iV e] (.val (iV (whenE b e))) = (splitB b (e = whenE b e ∧ True) ((0 : Int) = whenE b e ∧ True)) := by
  kernel_rfl
theorem vc198 (b : Bool) (e : Int) : exF (env false [] []) h0 0 198 Proofs.Tryz.f198 [bV b, iV e] (.val (iV (whenE b e))) = (splitB b (e = whenE b e ∧ True) ((0 : Int) = whenE b e ∧ True)) := by
  kernel_rfl
theorem vc96 (n lo hi : Int) : exF (env false [(104, sp104)] []) h0 0 96 Proofs.Tryz.f96 [iV n, iV lo, iV hi] (.val (iV (within n lo hi))) = (whenE (bif decide (n < lo) then true else decide (hi < n)) (3 : Int) = within n lo hi ∧ True) := by
  kernel_rfl
theorem vc95 (xs : List Int) : exF (env false [] []) h95 0 95 Proofs.Tryz.f95 [.one (.sl (.int .i64) xs)] (.val (iV (first xs))) = (let q0 := (↑(List.length xs) : Int); (∃ (g : Nat), (g ≤ List.length xs ∧ first xs = first (List.drop g xs)) ∧ (0 : Int) = (↑g : Int) ∧ q0 = q0 ∧ xs = xs ∧ True) ∧ ∀ (g : Nat), g ≤ List.length xs ∧ first xs = first (List.drop g xs) → splitB (decide ((↑g : Int) < q0)) (((0 : Int) ≤ (↑g : Int) ∧ (↑g : Int) < q0) ∧ splitB (List.getD xs g (0 : Int) != (0 : Int)) (List.getD xs g (0 : Int) = first xs ∧ True) (fits IntKind.i64 ((↑g : Int) + (1 : Int)) ∧ ∃ (g' : Nat), (g' ≤ List.length xs ∧ first xs = first (List.drop g' xs)) ∧ List.length xs - g' < List.length xs - g ∧ (↑g : Int) + (1 : Int) = (↑g' : Int) ∧ q0 = q0 ∧ xs = xs ∧ True)) ((0 : Int) = first xs ∧ True)) := by
  kernel_rfl
theorem vc170 (n : Int) : exF (env false [] []) h0 0 170 Proofs.Tryz.f170 [iV n] (.val (iV (signI n))) = (((0 : Int) ≤ n ∧ (0 : Int) < (2 : Int)) ∧ splitB (n % (2 : Int) == (1 : Int)) ((-1 : Int) = signI n ∧ True) ((1 : Int) = signI n ∧ True)) := by
  kernel_rfl
theorem vc120 (a d : Int) : exF (env true [] []) h0 0 120 Proofs.Tryz.f120 [iV a, iV d] (.val (iV (roundI a d))) = (let q2 := (IntKind.wrap IntKind.i64 ((2 : Int) * a) + d); let q0 := (IntKind.wrap IntKind.i64 q2); let q1 := (IntKind.wrap IntKind.i64 ((2 : Int) * d)); (IntKind.wrap IntKind.i64 ((2 : Int) * d) ≠ (0 : Int) ∧ fits IntKind.i64 (Int.tdiv q0 q1)) ∧ splitB (decide (IntKind.wrap IntKind.i64 q2 < IntKind.wrap IntKind.i64 (Int.tdiv q0 q1 * IntKind.wrap IntKind.i64 ((2 : Int) * d)))) (IntKind.wrap IntKind.i64 (Int.tdiv q0 q1 - (1 : Int)) = roundI a d ∧ True) (Int.tdiv q0 q1 = roundI a d ∧ True)) := by
  kernel_rfl
theorem vc174 (b : Nat) : exF (env false [(198, sp198)] []) h0 0 174 Proofs.Tryz.f174 [fV b, iV 1024] (.val (iV (chkS b))) = (let q1 := (FloatKind.format FloatKind.f32); let q2 := (Ieee.Format.mul q1 (1098907648 : Nat) b); let q0 := (Ieee.Datum.toInt Ieee.Toward.zero (FloatKind.decode FloatKind.f32 (Option.getD q2 (0 : Nat)))); let q3 := (FloatKind.nearest FloatKind.f32 (1024 : Int)); Option.isSome (Ieee.Format.sub q1 b b) = true ∧ splitB (Ieee.Format.order q1 (Option.getD (Ieee.Format.sub q1 b b) (0 : Nat)) (0 : Nat) != some Ordering.eq) ((1 : Int) = chkS b ∧ True) (splitB (bif Ieee.Format.order q1 b (Op.negFloat FloatKind.f32 q3) == some Ordering.lt then true else Ieee.Format.order q1 b q3 == some Ordering.gt) ((3 : Int) = chkS b ∧ True) (Option.isSome q2 = true ∧ (Option.isSome q0 = true ∧ IntKind.min IntKind.i64 ≤ Option.getD q0 (0 : Int) ∧ Option.getD q0 (0 : Int) ≤ IntKind.max IntKind.i64) ∧ Option.isSome q2 = true ∧ whenE (Ieee.Format.order q1 (FloatKind.nearest FloatKind.f32 (Option.getD q0 (0 : Int))) (Option.getD q2 (0 : Nat)) != some Ordering.eq) (3 : Int) = chkS b ∧ True))) := by
  kernel_rfl
theorem vc174b (_u : Unit) : exF (env false [(198, sp198)] []) h0 0 174 Proofs.Tryz.f174 [.one (.odd .f32 none), iV 1024] (.val (iV 1)) = ((1 : Int) = (1 : Int) ∧ True) := by
  kernel_rfl
theorem vc174c (_u : Unit) : exF (env false [(198, sp198)] []) h0 0 174 Proofs.Tryz.f174 [.one (.odd .f32 (some true)), iV 1024] (.val (iV 1)) = ((1 : Int) = (1 : Int) ∧ True) := by
  kernel_rfl
theorem vc174d (_u : Unit) : exF (env false [(198, sp198)] []) h0 0 174 Proofs.Tryz.f174 [.one (.odd .f32 (some false)), iV 1024] (.val (iV 1)) = ((1 : Int) = (1 : Int) ∧ True) := by
  kernel_rfl
theorem vc136 (b : Nat) : exF (env false [(174, sp174)] []) h0 0 136 Proofs.Tryz.f136 [fV b] (.val (iV (chkS b))) = (chkS b = chkS b ∧ True) := by
  kernel_rfl
theorem vc177 (y : Nat) : exF (env false [] []) h0 0 177 Proofs.Tryz.f177 [.one (.flt .f64 y)] (.val (.one (.flt .f64 (flo y)))) = (Ieee.Datum.isNaN (FloatKind.decode FloatKind.f64 y) = false ∧ FloatKind.encode FloatKind.f64 (Ieee.Datum.integral Ieee.Toward.down (FloatKind.decode FloatKind.f64 y)) = flo y ∧ True) := by
  kernel_rfl
theorem vc141 (b : Nat) : exF (env false [(99, sp99), (177, sp177)] [fb175, fb176, fb199]) h0 3 141 Proofs.Tryz.f141 [fV b, iV 1024] (.val (iV (chkS b))) = (let q1 := (Option.getD (convF FloatKind.f32 FloatKind.f64 b) (0 : Nat)); let q2 := (FloatKind.format FloatKind.f64); let q8 := (FloatKind.nearest FloatKind.f64 (-1024 : Int)); let q5 := (FloatKind.nearest FloatKind.f64 (1024 : Int)); let q3 := (bif Ieee.Format.order q2 q1 q5 == some Ordering.gt then true else Ieee.Format.order q2 q1 q8 == some Ordering.lt); let q4 := (Ieee.Format.mul q2 (4625196817309499392 : Nat) q1); let q7 := (Option.getD q4 (0 : Nat)); let q0 := (((Ieee.Format.order q2 q1 q5 == some Ordering.gt) = false → fits IntKind.i64 (-1024 : Int)) ∧ (q3 = false → Option.isSome q4 = true) ∧ (q3 = false → Option.isSome q4 = true) ∧ (q3 = false → numWD q7 = true) ∧ whenE (bif bif Ieee.Format.order q2 q1 q5 == some Ordering.gt then true else Ieee.Format.order q2 q1 q8 == some Ordering.lt then true else Ieee.Format.order q2 q7 (flo q7) != some Ordering.eq) (3 : Int) = chkS b ∧ True); let q6 := (Ieee.Format.order q2 q1 q1 != some Ordering.eq); Option.isSome (convF FloatKind.f32 FloatKind.f64 b) = true ∧ (q6 = false → splitB (bif Ieee.Format.order q2 q1 q1 != some Ordering.eq then true else Ieee.Format.order q2 (Int.toNat (bits BinOp.andNot IntKind.u64 (↑q1 : Int) (9223372036854775808 : Int))) (9218868437227405311 : Nat) == some Ordering.gt) ((1 : Int) = chkS b ∧ True) q0) ∧ (q6 = !false → splitB (bif Ieee.Format.order q2 q1 q1 != some Ordering.eq then true else false) ((1 : Int) = chkS b ∧ True) q0)) := by
  kernel_rfl
theorem vc141b (_u : Unit) : exF (env false [(99, sp99), (177, sp177)] [fb175, fb176, fb199]) h0 3 141 Proofs.Tryz.f141 [.one (.odd .f32 none), iV 1024] (.val (iV 1)) = ((true = false → False) ∧ (true = !false → (1 : Int) = (1 : Int) ∧ True)) := by
  kernel_rfl
theorem vc69 (b : Nat) : exF (env false [(141, sp141)] []) h0 0 69 Proofs.Tryz.f69 [fV b] (.val (iV (chkS b))) = (chkS b = chkS b ∧ True) := by
  kernel_rfl
theorem vc137 (b : Nat) : exF (env false [] []) h0 0 137 Proofs.Tryz.f137 [fV b] (.val (iV (six b))) = (Option.isSome (Ieee.Format.mul (FloatKind.format FloatKind.f32) (1098907648 : Nat) b) = true ∧ (Option.isSome (Ieee.Datum.toInt Ieee.Toward.zero (FloatKind.decode FloatKind.f32 (Option.getD (Ieee.Format.mul (FloatKind.format FloatKind.f32) (1098907648 : Nat) b) (0 : Nat)))) = true ∧ IntKind.min IntKind.i64 ≤ Option.getD (Ieee.Datum.toInt Ieee.Toward.zero (FloatKind.decode FloatKind.f32 (Option.getD (Ieee.Format.mul (FloatKind.format FloatKind.f32) (1098907648 : Nat) b) (0 : Nat)))) (0 : Int) ∧ Option.getD (Ieee.Datum.toInt Ieee.Toward.zero (FloatKind.decode FloatKind.f32 (Option.getD (Ieee.Format.mul (FloatKind.format FloatKind.f32) (1098907648 : Nat) b) (0 : Nat)))) (0 : Int) ≤ IntKind.max IntKind.i64) ∧ Option.getD (Ieee.Datum.toInt Ieee.Toward.zero (FloatKind.decode FloatKind.f32 (Option.getD (Ieee.Format.mul (FloatKind.format FloatKind.f32) (1098907648 : Nat) b) (0 : Nat)))) (0 : Int) = six b ∧ True) := by
  kernel_rfl
theorem vc110 (n : Int) : exF (env false [] []) h0 0 110 Proofs.Tryz.f110 [iV n] (.val (fV (smp n))) = (Option.isSome (Ieee.Format.div (FloatKind.format FloatKind.f32) (FloatKind.nearest FloatKind.f32 n) (1098907648 : Nat)) = true ∧ Option.getD (Ieee.Format.div (FloatKind.format FloatKind.f32) (FloatKind.nearest FloatKind.f32 n) (1098907648 : Nat)) (0 : Nat) = smp n ∧ True) := by
  kernel_rfl
theorem vc86 (b : Nat) : exF (env false [] []) h0 0 86 Proofs.Tryz.f86 [fV b] (.val (iV (six b))) = (Option.isSome (Ieee.Format.mul (FloatKind.format FloatKind.f32) (1098907648 : Nat) b) = true ∧ (Option.isSome (Ieee.Datum.toInt Ieee.Toward.zero (FloatKind.decode FloatKind.f32 (Option.getD (Ieee.Format.mul (FloatKind.format FloatKind.f32) (1098907648 : Nat) b) (0 : Nat)))) = true ∧ IntKind.min IntKind.i64 ≤ Option.getD (Ieee.Datum.toInt Ieee.Toward.zero (FloatKind.decode FloatKind.f32 (Option.getD (Ieee.Format.mul (FloatKind.format FloatKind.f32) (1098907648 : Nat) b) (0 : Nat)))) (0 : Int) ∧ Option.getD (Ieee.Datum.toInt Ieee.Toward.zero (FloatKind.decode FloatKind.f32 (Option.getD (Ieee.Format.mul (FloatKind.format FloatKind.f32) (1098907648 : Nat) b) (0 : Nat)))) (0 : Int) ≤ IntKind.max IntKind.i64) ∧ Option.getD (Ieee.Datum.toInt Ieee.Toward.zero (FloatKind.decode FloatKind.f32 (Option.getD (Ieee.Format.mul (FloatKind.format FloatKind.f32) (1098907648 : Nat) b) (0 : Nat)))) (0 : Int) = six b ∧ True) := by
  kernel_rfl
end Go.Sx
