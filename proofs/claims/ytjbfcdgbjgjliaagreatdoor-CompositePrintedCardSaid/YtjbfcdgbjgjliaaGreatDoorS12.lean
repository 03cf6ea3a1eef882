/- A verified symbolic run of functions, part 12: lemmas, no claim of their own. -/
import Derived.Test.YtjbfcdgbjgjliaaGreatDoorS11
import Derived.KernelRfl
import Derived.Lib.ItoaNum
import Derived.Test.YtjbfcdgbjgjliaaGreatDoorProg
import Derived.Laws.FloatBits
namespace Go.Sx
def lookTT : List (Nat × TD) → Nat → Option TD
  | [], _ => none
  | (k, v) :: r, t => if k == t then some v else lookTT r t
def tab1 : List (Nat × TD) := [
  (1, ⟨1, 8, false, .sc, some .fnp, [.one .nilf]⟩),
  (2, ⟨1, 8, false, .sc, some (.int .i64), [.one (.int .i64 0)]⟩),
  (3, ⟨1, 8, false, .sc, some (.int .i64), [.one (.int .i64 0)]⟩),
  (4, ⟨1, 1, false, .sc, some .bool, [.one (.bool false)]⟩),
  (5, ⟨1, 1, false, .sc, some (.int .u8), [.one (.int .u8 0)]⟩),
  (6, ⟨1, 1, false, .sc, some (.int .u8), [.one (.int .u8 0)]⟩),
  (7, ⟨4, 24, true, .strct [(0, 1, false), (1, 1, false), (2, 1, false), (3, 1, false)], some (.pair (.int .i64) (.pair (.int .i64) (.pair .bool (.int .u8)))), [.one (.int .i64 0), .one (.int .i64 0), .one (.bool false), .one (.int .u8 0)]⟩),
  (8, ⟨4, 24, true, .strct [(0, 1, false), (1, 1, false), (2, 1, false), (3, 1, false)], some (.pair (.int .i64) (.pair (.int .i64) (.pair .bool (.int .u8)))), [.one (.int .i64 0), .one (.int .i64 0), .one (.bool false), .one (.int .u8 0)]⟩),
  (9, ⟨1, 16, false, .sc, some .str, [.one (.str [])]⟩),
  (10, ⟨1, 16, false, .sc, some .str, [.one (.str [])]⟩),
  (11, ⟨1, 16, false, .sc, some .str, [.one (.str [])]⟩),
  (12, ⟨1, 8, false, .sc, some (.int .u64), [.one (.int .u64 0)]⟩),
  (13, ⟨2, 24, true, .strct [(0, 1, false), (1, 1, false)], some (.pair .str (.int .u64)), [.one (.str []), .one (.int .u64 0)]⟩),
  (14, ⟨2, 24, true, .strct [(0, 1, false), (1, 1, false)], some (.pair .str (.int .u64)), [.one (.str []), .one (.int .u64 0)]⟩),
  (15, ⟨1, 8, false, .sc, none, [.one .nilp]⟩),
  (16, ⟨1, 8, false, .sc, none, [.one .nilp]⟩),
  (17, ⟨1, 8, false, .sc, none, [.one .nilp]⟩),
  (18, ⟨1, 8, true, .strct [(0, 1, false)], none, [.one .nilp]⟩),
  (19, ⟨1, 8, true, .strct [(0, 1, false)], none, [.one .nilp]⟩),
  (21, ⟨1, 4, false, .sc, some (.int .i32), [.one (.int .i32 0)]⟩),
  (22, ⟨1, 24, false, .slc 61, some (.sl (.flt .f32)), [.one .nils]⟩),
  (23, ⟨3, 72, true, .strct [(0, 1, false), (1, 1, false), (2, 1, false)], some (.pair (.sl (.flt .f32)) (.pair (.sl (.flt .f32)) (.sl (.flt .f32)))), [.one .nils, .one .nils, .one .nils]⟩),
  (24, ⟨3, 72, true, .strct [(0, 1, false), (1, 1, false), (2, 1, false)], some (.pair (.sl (.flt .f32)) (.pair (.sl (.flt .f32)) (.sl (.flt .f32)))), [.one .nils, .one .nils, .one .nils]⟩),
  (25, ⟨1, 8, false, .sc, some .fnp, [.one .nilf]⟩),
  (26, ⟨1, 8, false, .sc, some .fnp, [.one .nilf]⟩),
  (27, ⟨1, 8, false, .sc, some (.int .i64), [.one (.int .i64 0)]⟩),
  (29, ⟨1, 8, false, .sc, some .fnp, [.one .nilf]⟩),
  (30, ⟨3, 72, true, .strct [(0, 1, false), (1, 1, false), (2, 1, false)], some (.pair (.sl (.flt .f32)) (.pair (.sl (.flt .f32)) (.sl (.flt .f32)))), [.one .nils, .one .nils, .one .nils]⟩),
  (31, ⟨1, 8, false, .sc, some .fnp, [.one .nilf]⟩),
  (32, ⟨1, 8, false, .sc, some .fnp, [.one .nilf]⟩),
  (33, ⟨1, 8, false, .sc, some .fnp, [.one .nilf]⟩),
  (34, ⟨1, 8, false, .sc, some .fnp, [.one .nilf]⟩),
  (35, ⟨1, 24, false, .slc 3, some (.sl (.int .i64)), [.one .nils]⟩),
  (37, ⟨1, 8, false, .sc, some .fnp, [.one .nilf]⟩),
  (38, ⟨1, 8, false, .sc, some .fnp, [.one .nilf]⟩),
  (39, ⟨1, 8, false, .sc, some .fnp, [.one .nilf]⟩),
  (40, ⟨1, 8, false, .sc, some .fnp, [.one .nilf]⟩),
  (41, ⟨1, 24, false, .slc 24, some (.sl (.pair (.sl (.flt .f32)) (.pair (.sl (.flt .f32)) (.sl (.flt .f32))))), [.one .nils]⟩),
  (42, ⟨1, 24, false, .slc 22, some (.sl (.sl (.flt .f32))), [.one .nils]⟩),
  (43, ⟨1, 8, false, .sc, some .fnp, [.one .nilf]⟩),
  (44, ⟨1, 8, false, .sc, some .fnp, [.one .nilf]⟩),
  (45, ⟨1, 8, false, .sc, some .fnp, [.one .nilf]⟩),
  (47, ⟨1, 8, false, .sc, some .fnp, [.one .nilf]⟩),
  (48, ⟨1, 24, false, .slc 30, some (.sl (.pair (.sl (.flt .f32)) (.pair (.sl (.flt .f32)) (.sl (.flt .f32))))), [.one .nils]⟩),
  (49, ⟨1, 8, false, .sc, some .fnp, [.one .nilf]⟩),
  (50, ⟨1, 24, false, .slc 60, some (.sl (.arr 4 (.cpx .f32))), [.one .nils]⟩),
  (52, ⟨1, 8, false, .sc, some .fnp, [.one .nilf]⟩),
  (53, ⟨1, 8, false, .sc, some .fnp, [.one .nilf]⟩),
  (54, ⟨1, 8, false, .sc, some .fnp, [.one .nilf]⟩),
  (55, ⟨1, 8, false, .sc, some .fnp, [.one .nilf]⟩),
  (56, ⟨2, 16, true, .strct [(0, 1, false), (1, 1, false)], some (.pair (.int .i64) (.int .i64)), [.one (.int .i64 0), .one (.int .i64 0)]⟩),
  (57, ⟨2, 16, true, .strct [(0, 1, false), (1, 1, false)], some (.pair (.int .i64) (.int .i64)), [.one (.int .i64 0), .one (.int .i64 0)]⟩),
  (58, ⟨1, 8, false, .sc, some .fnp, [.one .nilf]⟩),
  (59, ⟨1, 8, false, .sc, some (.cpx .f32), [.one (.cpx .f32 0 0)]⟩),
  (60, ⟨4, 32, true, .arr 4 59, some (.arr 4 (.cpx .f32)), [.arr 4 (.cpx .f32) (List.replicate 4 (Ty.d (.cpx .f32)))]⟩),
  (61, ⟨1, 4, false, .sc, some (.flt .f32), [.one (.flt .f32 0)]⟩),
  (62, ⟨1, 8, false, .sc, some .fnp, [.one .nilf]⟩),
  (63, ⟨1, 8, false, .sc, some .fnp, [.one .nilf]⟩),
  (64, ⟨1, 8, false, .sc, some .fnp, [.one .nilf]⟩),
  (65, ⟨1, 8, false, .sc, some .fnp, [.one .nilf]⟩),
  (66, ⟨1, 8, false, .sc, some .fnp, [.one .nilf]⟩),
  (67, ⟨1, 8, false, .sc, some .fnp, [.one .nilf]⟩),
  (69, ⟨1, 8, false, .sc, some .fnp, [.one .nilf]⟩),
  (71, ⟨1, 8, false, .sc, some .fnp, [.one .nilf]⟩),
  (72, ⟨1, 8, false, .sc, some .fnp, [.one .nilf]⟩),
  (73, ⟨1, 8, false, .sc, some .fnp, [.one .nilf]⟩),
  (74, ⟨1, 8, false, .sc, some .fnp, [.one .nilf]⟩),
  (75, ⟨1, 8, false, .sc, some .fnp, [.one .nilf]⟩),
  (76, ⟨1, 24, false, .slc 134, some (.sl (.sl .bool)), [.one .nils]⟩),
  (78, ⟨1, 8, false, .sc, some .fnp, [.one .nilf]⟩),
  (79, ⟨1, 8, false, .sc, some .fnp, [.one .nilf]⟩),
  (81, ⟨1, 8, false, .sc, some .fnp, [.one .nilf]⟩),
  (82, ⟨1, 8, false, .sc, some .fnp, [.one .nilf]⟩),
  (83, ⟨1, 8, false, .sc, some .fnp, [.one .nilf]⟩),
  (84, ⟨1, 8, false, .sc, some .fnp, [.one .nilf]⟩),
  (85, ⟨1, 8, false, .sc, some .fnp, [.one .nilf]⟩),
  (87, ⟨1, 8, false, .sc, some .fnp, [.one .nilf]⟩),
  (89, ⟨1, 8, false, .sc, some .fnp, [.one .nilf]⟩),
  (90, ⟨2, 8, true, .arr 2 61, some (.arr 2 (.flt .f32)), [.arr 2 (.flt .f32) (List.replicate 2 (Ty.d (.flt .f32)))]⟩),
  (92, ⟨1, 8, false, .sc, some .fnp, [.one .nilf]⟩),
  (93, ⟨1, 8, false, .sc, some .fnp, [.one .nilf]⟩),
  (95, ⟨1, 8, false, .sc, some .fnp, [.one .nilf]⟩),
  (96, ⟨4, 16, true, .arr 4 61, some (.arr 4 (.flt .f32)), [.arr 4 (.flt .f32) (List.replicate 4 (Ty.d (.flt .f32)))]⟩),
  (98, ⟨1, 8, false, .sc, some .fnp, [.one .nilf]⟩),
  (100, ⟨1, 8, false, .sc, some .fnp, [.one .nilf]⟩),
  (101, ⟨1, 8, false, .sc, some .fnp, [.one .nilf]⟩),
  (103, ⟨1, 8, false, .sc, some .fnp, [.one .nilf]⟩),
  (104, ⟨1, 8, false, .sc, some .fnp, [.one .nilf]⟩),
  (105, ⟨2, 16, true, .strct [(0, 1, false), (1, 1, false)], some (.pair (.int .i64) (.int .i64)), [.one (.int .i64 0), .one (.int .i64 0)]⟩),
  (106, ⟨2, 16, true, .strct [(0, 1, false), (1, 1, false)], some (.pair (.int .i64) (.int .i64)), [.one (.int .i64 0), .one (.int .i64 0)]⟩),
  (107, ⟨4, 32, true, .strct [(0, 2, true), (2, 1, false), (3, 1, false)], some (.pair (.pair (.int .i64) (.int .i64)) (.pair (.flt .f32) (.int .i64))), [.one (.int .i64 0), .one (.int .i64 0), .one (.flt .f32 0), .one (.int .i64 0)]⟩),
  (108, ⟨4, 32, true, .strct [(0, 2, true), (2, 1, false), (3, 1, false)], some (.pair (.pair (.int .i64) (.int .i64)) (.pair (.flt .f32) (.int .i64))), [.one (.int .i64 0), .one (.int .i64 0), .one (.flt .f32 0), .one (.int .i64 0)]⟩),
  (109, ⟨1, 8, false, .sc, some .fnp, [.one .nilf]⟩),
  (110, ⟨1, 8, false, .sc, some .fnp, [.one .nilf]⟩),
  (111, ⟨1, 8, false, .sc, some .fnp, [.one .nilf]⟩),
  (112, ⟨1, 8, false, .sc, some .fnp, [.one .nilf]⟩),
  (113, ⟨1, 8, false, .sc, some .fnp, [.one .nilf]⟩),
  (114, ⟨1, 8, false, .sc, some .fnp, [.one .nilf]⟩),
  (115, ⟨1, 16, false, .sc, some (.cpx .f64), [.one (.cpx .f64 0 0)]⟩),
  (116, ⟨4, 64, true, .arr 4 115, some (.arr 4 (.cpx .f64)), [.arr 4 (.cpx .f64) (List.replicate 4 (Ty.d (.cpx .f64)))]⟩),
  (118, ⟨1, 8, false, .sc, some .fnp, [.one .nilf]⟩),
  (119, ⟨1, 8, false, .sc, some .fnp, [.one .nilf]⟩),
  (120, ⟨1, 8, false, .sc, some .fnp, [.one .nilf]⟩),
  (121, ⟨1, 8, false, .sc, some .fnp, [.one .nilf]⟩),
  (122, ⟨1, 8, false, .sc, some (.flt .f64), [.one (.flt .f64 0)]⟩),
  (123, ⟨1, 8, false, .sc, some .fnp, [.one .nilf]⟩),
  (124, ⟨1, 8, false, .sc, some .fnp, [.one .nilf]⟩),
  (125, ⟨1, 8, false, .sc, some .fnp, [.one .nilf]⟩),
  (126, ⟨1, 8, false, .sc, some .fnp, [.one .nilf]⟩),
  (128, ⟨1, 8, false, .sc, some .fnp, [.one .nilf]⟩),
  (129, ⟨1, 8, false, .sc, some .fnp, [.one .nilf]⟩),
  (130, ⟨1, 2, false, .sc, some (.int .u16), [.one (.int .u16 0)]⟩),
  (131, ⟨1, 8, false, .sc, some .fnp, [.one .nilf]⟩),
  (132, ⟨3, 72, true, .arr 3 22, some (.arr 3 (.sl (.flt .f32))), [.arr 3 (.sl (.flt .f32)) (List.replicate 3 (Ty.d (.sl (.flt .f32))))]⟩),
  (133, ⟨1, 8, false, .sc, some .fnp, [.one .nilf]⟩),
  (134, ⟨1, 24, false, .slc 4, some (.sl .bool), [.one .nils]⟩),
  (135, ⟨1, 1, false, .sc, some (.int .i8), [.one (.int .i8 0)]⟩),
  (136, ⟨4, 4, true, .arr 4 135, some (.arr 4 (.int .i8)), [.arr 4 (.int .i8) (List.replicate 4 (Ty.d (.int .i8)))]⟩),
  (137, ⟨16, 16, true, .arr 4 136, some (.arr 4 (.arr 4 (.int .i8))), [.arr 4 (.arr 4 (.int .i8)) (List.replicate 4 (Ty.d (.arr 4 (.int .i8))))]⟩),
  (138, ⟨1, 24, false, .slc 135, some (.sl (.int .i8)), [.one .nils]⟩),
  (139, ⟨1, 8, false, .sc, some .fnp, [.one .nilf]⟩),
  (140, ⟨1, 8, false, .sc, some .fnp, [.one .nilf]⟩),
  (141, ⟨1, 2, false, .sc, some (.int .i16), [.one (.int .i16 0)]⟩),
  (142, ⟨4, 8, true, .arr 4 141, some (.arr 4 (.int .i16)), [.arr 4 (.int .i16) (List.replicate 4 (Ty.d (.int .i16)))]⟩),
  (143, ⟨8, 16, true, .arr 8 141, some (.arr 8 (.int .i16)), [.arr 8 (.int .i16) (List.replicate 8 (Ty.d (.int .i16)))]⟩),
  (144, ⟨2, 2, true, .arr 2 5, some (.arr 2 (.int .u8)), [.arr 2 (.int .u8) (List.replicate 2 (Ty.d (.int .u8)))]⟩),
  (145, ⟨1, 8, false, .sc, some .fnp, [.one .nilf]⟩),
  (146, ⟨1, 8, false, .sc, some .fnp, [.one .nilf]⟩),
  (148, ⟨1, 8, false, .sc, some .fnp, [.one .nilf]⟩),
  (150, ⟨1, 8, false, .sc, some .fnp, [.one .nilf]⟩),
  (151, ⟨1, 8, false, .sc, some .fnp, [.one .nilf]⟩),
  (153, ⟨1, 8, false, .sc, some .fnp, [.one .nilf]⟩),
  (154, ⟨1, 8, false, .sc, some .fnp, [.one .nilf]⟩),
  (155, ⟨1, 24, false, .slc 9, some (.sl .str), [.one .nils]⟩),
  (156, ⟨1, 8, false, .sc, some .fnp, [.one .nilf]⟩),
  (157, ⟨1, 8, false, .sc, some .fnp, [.one .nilf]⟩),
  (158, ⟨1, 8, false, .sc, some .fnp, [.one .nilf]⟩),
  (159, ⟨1, 8, false, .sc, some .fnp, [.one .nilf]⟩),
  (160, ⟨1, 8, false, .sc, some .fnp, [.one .nilf]⟩),
  (161, ⟨1, 8, false, .sc, some .fnp, [.one .nilf]⟩),
  (162, ⟨1, 8, false, .sc, some .fnp, [.one .nilf]⟩),
  (163, ⟨1, 8, false, .sc, some .fnp, [.one .nilf]⟩),
  (164, ⟨1, 8, false, .sc, some .fnp, [.one .nilf]⟩),
  (165, ⟨1, 8, false, .sc, some .fnp, [.one .nilf]⟩),
  (166, ⟨1, 8, false, .sc, some .fnp, [.one .nilf]⟩),
  (167, ⟨1, 8, false, .sc, some .fnp, [.one .nilf]⟩),
  (168, ⟨1, 8, false, .sc, some .fnp, [.one .nilf]⟩),
  (169, ⟨1, 8, false, .sc, some .fnp, [.one .nilf]⟩),
  (170, ⟨1, 8, false, .sc, some .fnp, [.one .nilf]⟩),
  (171, ⟨4, 32, true, .arr 4 3, some (.arr 4 (.int .i64)), [.arr 4 (.int .i64) (List.replicate 4 (Ty.d (.int .i64)))]⟩),
  (172, ⟨8, 64, true, .arr 4 57, some (.arr 4 (.pair (.int .i64) (.int .i64))), [.arr 4 (.pair (.int .i64) (.int .i64)) (List.replicate 4 (Ty.d (.pair (.int .i64) (.int .i64))))]⟩),
  (173, ⟨1, 8, false, .sc, some .fnp, [.one .nilf]⟩),
  (174, ⟨1, 8, false, .sc, some .fnp, [.one .nilf]⟩),
  (175, ⟨3, 72, true, .strct [(0, 1, false), (1, 1, false), (2, 1, false)], some (.pair (.sl (.int .i64)) (.pair (.sl (.int .i64)) (.sl (.int .i64)))), [.one .nils, .one .nils, .one .nils]⟩),
  (176, ⟨3, 72, true, .strct [(0, 1, false), (1, 1, false), (2, 1, false)], some (.pair (.sl (.int .i64)) (.pair (.sl (.int .i64)) (.sl (.int .i64)))), [.one .nils, .one .nils, .one .nils]⟩),
  (177, ⟨1, 8, false, .sc, some .fnp, [.one .nilf]⟩),
  (178, ⟨1, 8, false, .sc, some .fnp, [.one .nilf]⟩),
  (180, ⟨1, 8, false, .sc, some .fnp, [.one .nilf]⟩),
  (181, ⟨1, 8, false, .sc, some .fnp, [.one .nilf]⟩),
  (182, ⟨1, 8, false, .sc, some .fnp, [.one .nilf]⟩),
  (184, ⟨1, 8, false, .sc, some .fnp, [.one .nilf]⟩),
  (185, ⟨1, 8, false, .sc, some .fnp, [.one .nilf]⟩),
  (186, ⟨1, 8, false, .sc, some .fnp, [.one .nilf]⟩),
  (187, ⟨1, 8, false, .sc, some .fnp, [.one .nilf]⟩),
  (188, ⟨1, 24, false, .slc 35, some (.sl (.sl (.int .i64))), [.one .nils]⟩),
  (189, ⟨1, 8, false, .sc, some .fnp, [.one .nilf]⟩),
  (191, ⟨1, 8, false, .sc, some .fnp, [.one .nilf]⟩),
  (192, ⟨1, 8, false, .sc, some .fnp, [.one .nilf]⟩),
  (193, ⟨1, 8, false, .sc, some .fnp, [.one .nilf]⟩),
  (194, ⟨1, 8, false, .sc, some .fnp, [.one .nilf]⟩),
  (195, ⟨1, 8, false, .sc, some .fnp, [.one .nilf]⟩),
  (196, ⟨1, 8, false, .sc, some .fnp, [.one .nilf]⟩),
  (197, ⟨1, 8, false, .sc, some .fnp, [.one .nilf]⟩),
  (198, ⟨1, 8, false, .sc, some .fnp, [.one .nilf]⟩),
  (199, ⟨1, 8, false, .sc, some .fnp, [.one .nilf]⟩),
  (200, ⟨1, 8, false, .sc, some .fnp, [.one .nilf]⟩),
  (201, ⟨1, 8, false, .sc, some .fnp, [.one .nilf]⟩),
  (202, ⟨1, 8, false, .sc, some .fnp, [.one .nilf]⟩),
  (203, ⟨1, 8, false, .sc, some .fnp, [.one .nilf]⟩),
  (204, ⟨1, 24, false, .slc 27, some (.sl (.int .i64)), [.one .nils]⟩),
  (205, ⟨1, 8, false, .sc, some .fnp, [.one .nilf]⟩),
  (206, ⟨1, 8, false, .sc, some .fnp, [.one .nilf]⟩),
  (207, ⟨1, 8, false, .sc, some .fnp, [.one .nilf]⟩),
  (208, ⟨1, 8, false, .map 3 212, none, [.one .nilm]⟩),
  (209, ⟨1, 8, false, .sc, some .fnp, [.one .nilf]⟩),
  (210, ⟨1, 8, false, .sc, some .fnp, [.one .nilf]⟩),
  (211, ⟨2, 24, true, .strct [(0, 1, false), (1, 1, false)], some (.pair .str .fnp), [.one (.str []), .one .nilf]⟩),
  (212, ⟨2, 24, true, .strct [(0, 1, false), (1, 1, false)], some (.pair .str .fnp), [.one (.str []), .one .nilf]⟩),
  (213, ⟨1, 8, false, .sc, some .fnp, [.one .nilf]⟩),
  (214, ⟨1, 8, false, .sc, none, [.one .nilp]⟩),
  (215, ⟨1, 8, false, .sc, none, [.one .nilp]⟩),
  (216, ⟨1, 8, false, .sc, some .fnp, [.one .nilf]⟩),
  (217, ⟨1, 8, false, .sc, some .fnp, [.one .nilf]⟩),
  (218, ⟨1, 8, false, .sc, some .fnp, [.one .nilf]⟩),
  (219, ⟨1, 8, false, .sc, some .fnp, [.one .nilf]⟩),
  (220, ⟨1, 8, false, .sc, some .fnp, [.one .nilf]⟩),
  (222, ⟨1, 8, false, .sc, some .fnp, [.one .nilf]⟩),
  (223, ⟨1, 8, false, .sc, some .fnp, [.one .nilf]⟩),
  (224, ⟨1, 8, false, .sc, none, [.one .nilp]⟩),
  (225, ⟨2, 32, true, .strct [(0, 1, false), (1, 1, false)], some (.pair (.sl .str) .bool), [.one .nils, .one (.bool false)]⟩),
  (226, ⟨2, 32, true, .strct [(0, 1, false), (1, 1, false)], some (.pair (.sl .str) .bool), [.one .nils, .one (.bool false)]⟩),
  (228, ⟨1, 8, false, .sc, some .fnp, [.one .nilf]⟩),
  (229, ⟨1, 8, false, .sc, some .fnp, [.one .nilf]⟩),
  (230, ⟨1, 8, false, .sc, some .fnp, [.one .nilf]⟩),
  (231, ⟨1, 8, false, .sc, some .fnp, [.one .nilf]⟩),
  (233, ⟨1, 8, false, .sc, some .fnp, [.one .nilf]⟩),
  (234, ⟨1, 8, false, .sc, some .fnp, [.one .nilf]⟩),
  (235, ⟨1, 8, false, .sc, some .fnp, [.one .nilf]⟩),
  (236, ⟨1, 8, false, .sc, some .fnp, [.one .nilf]⟩),
  (237, ⟨1, 8, false, .sc, some .fnp, [.one .nilf]⟩),
  (238, ⟨1, 8, false, .sc, some .fnp, [.one .nilf]⟩),
  (239, ⟨1, 8, false, .sc, some .fnp, [.one .nilf]⟩),
  (240, ⟨1, 8, false, .sc, some .fnp, [.one .nilf]⟩),
  (241, ⟨1, 8, false, .sc, some .fnp, [.one .nilf]⟩),
  (242, ⟨1, 8, false, .sc, some .fnp, [.one .nilf]⟩),
  (243, ⟨1, 8, false, .sc, some .fnp, [.one .nilf]⟩),
  (244, ⟨1, 8, false, .sc, some .fnp, [.one .nilf]⟩),
  (245, ⟨1, 8, false, .sc, some .fnp, [.one .nilf]⟩),
  (246, ⟨1, 8, false, .sc, some .fnp, [.one .nilf]⟩),
  (247, ⟨1, 8, false, .sc, none, [.one .nilp]⟩),
  (248, ⟨1, 24, false, .slc 5, some (.sl (.int .u8)), [.one .nils]⟩),
  (249, ⟨2, 32, true, .strct [(0, 1, false), (1, 1, false)], none, [.one .nilp, .one .nils]⟩),
  (250, ⟨2, 32, true, .strct [(0, 1, false), (1, 1, false)], none, [.one .nilp, .one .nils]⟩),
  (251, ⟨1, 8, false, .sc, some .fnp, [.one .nilf]⟩),
  (253, ⟨1, 16, false, .ifc, none, [.one (.err false)]⟩),
  (255, ⟨1, 8, false, .sc, some .fnp, [.one .nilf]⟩),
  (256, ⟨1, 8, false, .sc, some .fnp, [.one .nilf]⟩),
  (257, ⟨1, 8, false, .sc, some .fnp, [.one .nilf]⟩),
  (258, ⟨1, 8, false, .sc, some .fnp, [.one .nilf]⟩),
  (259, ⟨1, 8, false, .sc, some .fnp, [.one .nilf]⟩),
  (260, ⟨1, 8, false, .sc, some .fnp, [.one .nilf]⟩),
  (261, ⟨1, 8, false, .sc, some .fnp, [.one .nilf]⟩),
  (262, ⟨1, 8, false, .sc, some .fnp, [.one .nilf]⟩),
  (264, ⟨1, 8, false, .sc, some .fnp, [.one .nilf]⟩),
  (265, ⟨1, 8, false, .sc, some .fnp, [.one .nilf]⟩),
  (266, ⟨1, 8, false, .sc, none, [.one .nilp]⟩),
  (267, ⟨1, 8, false, .sc, some .fnp, [.one .nilf]⟩),
  (268, ⟨1, 8, false, .sc, some .fnp, [.one .nilf]⟩),
  (269, ⟨1, 8, false, .sc, some .fnp, [.one .nilf]⟩),
  (270, ⟨1, 8, false, .sc, some .fnp, [.one .nilf]⟩),
  (271, ⟨1, 8, false, .sc, some .fnp, [.one .nilf]⟩),
  (272, ⟨1, 8, false, .sc, some (.int .u64), [.one (.int .u64 0)]⟩),
  (273, ⟨1, 8, false, .sc, some .fnp, [.one .nilf]⟩),
  (275, ⟨1, 8, false, .sc, some .fnp, [.one .nilf]⟩),
  (276, ⟨24, 24, true, .arr 24 5, some (.arr 24 (.int .u8)), [.arr 24 (.int .u8) (List.replicate 24 (Ty.d (.int .u8)))]⟩),
  (277, ⟨1, 8, false, .sc, some .fnp, [.one .nilf]⟩),
  (278, ⟨1, 8, false, .sc, some .fnp, [.one .nilf]⟩),
  (280, ⟨1, 8, false, .sc, some .fnp, [.one .nilf]⟩),
  (282, ⟨1, 8, false, .sc, some .fnp, [.one .nilf]⟩),
  (283, ⟨1, 8, false, .sc, some .fnp, [.one .nilf]⟩),
  (284, ⟨1, 8, false, .sc, some .fnp, [.one .nilf]⟩),
  (286, ⟨1, 8, false, .sc, some .fnp, [.one .nilf]⟩),
  (287, ⟨1, 8, false, .sc, some (.int .i64), [.one (.int .i64 0)]⟩),
  (289, ⟨1, 8, false, .sc, some .fnp, [.one .nilf]⟩),
  (290, ⟨1, 8, false, .sc, none, [.one .nilp]⟩),
  (291, ⟨1, 8, false, .sc, some .fnp, [.one .nilf]⟩),
  (292, ⟨1, 8, false, .sc, some .fnp, [.one .nilf]⟩),
  (293, ⟨1, 8, false, .sc, some .fnp, [.one .nilf]⟩),
  (294, ⟨1, 8, false, .sc, some .fnp, [.one .nilf]⟩),
  (295, ⟨1, 8, false, .sc, some .fnp, [.one .nilf]⟩),
  (296, ⟨20, 160, true, .arr 20 272, some (.arr 20 (.int .u64)), [.arr 20 (.int .u64) (List.replicate 20 (Ty.d (.int .u64)))]⟩),
  (297, ⟨1, 4, false, .sc, some (.int .u32), [.one (.int .u32 0)]⟩),
  (298, ⟨65, 65, true, .arr 65 5, some (.arr 65 (.int .u8)), [.arr 65 (.int .u8) (List.replicate 65 (Ty.d (.int .u8)))]⟩),
  (299, ⟨1, 8, false, .sc, some (.int .u64), [.one (.int .u64 0)]⟩),
  (300, ⟨1, 8, false, .sc, some .fnp, [.one .nilf]⟩),
  (302, ⟨1, 8, false, .sc, some .fnp, [.one .nilf]⟩),
  (303, ⟨1, 8, false, .sc, some .fnp, [.one .nilf]⟩),
  (306, ⟨1, 8, false, .sc, some .fnp, [.one .nilf]⟩),
  (307, ⟨1, 8, false, .sc, some .fnp, [.one .nilf]⟩),
  (308, ⟨256, 256, true, .arr 256 5, some (.arr 256 (.int .u8)), [.arr 256 (.int .u8) (List.replicate 256 (Ty.d (.int .u8)))]⟩),
  (309, ⟨2, 2, true, .strct [(0, 1, false), (1, 1, false)], some (.pair (.int .u8) (.int .u8)), [.one (.int .u8 0), .one (.int .u8 0)]⟩),
  (310, ⟨2, 2, true, .strct [(0, 1, false), (1, 1, false)], some (.pair (.int .u8) (.int .u8)), [.one (.int .u8 0), .one (.int .u8 0)]⟩),
  (311, ⟨32, 32, true, .arr 16 310, some (.arr 16 (.pair (.int .u8) (.int .u8))), [.arr 16 (.pair (.int .u8) (.int .u8)) (List.replicate 16 (Ty.d (.pair (.int .u8) (.int .u8))))]⟩),
  (313, ⟨1, 8, false, .sc, some .fnp, [.one .nilf]⟩),
  (314, ⟨1, 8, false, .sc, some .fnp, [.one .nilf]⟩),
  (315, ⟨1, 8, false, .sc, none, [.one .nilp]⟩),
  (316, ⟨1, 16, true, .strct [(0, 1, false)], some .str, [.one (.str [])]⟩),
  (317, ⟨1, 16, true, .strct [(0, 1, false)], some .str, [.one (.str [])]⟩),
  (318, ⟨32, 32, true, .arr 32 5, some (.arr 32 (.int .u8)), [.arr 32 (.int .u8) (List.replicate 32 (Ty.d (.int .u8)))]⟩),
  (319, ⟨64, 64, true, .arr 64 5, some (.arr 64 (.int .u8)), [.arr 64 (.int .u8) (List.replicate 64 (Ty.d (.int .u8)))]⟩),
  (320, ⟨4, 40, true, .strct [(0, 1, false), (1, 1, false), (2, 1, false), (3, 1, false)], none, [.one .nilp, .one .nilp, .one .nilp, .one (.str [])]⟩),
  (321, ⟨4, 40, true, .strct [(0, 1, false), (1, 1, false), (2, 1, false), (3, 1, false)], none, [.one .nilp, .one .nilp, .one .nilp, .one (.str [])]⟩),
  (325, ⟨1, 1, false, .sc, some (.int .u8), [.one (.int .u8 0)]⟩),
  (326, ⟨1, 1, false, .sc, some (.int .u8), [.one (.int .u8 0)]⟩),
  (327, ⟨1, 8, false, .sc, some .fnp, [.one .nilf]⟩),
  (328, ⟨1, 4, false, .sc, some (.int .i32), [.one (.int .i32 0)]⟩),
  (329, ⟨1, 4, false, .sc, some (.int .i32), [.one (.int .i32 0)]⟩),
  (330, ⟨11, 48, true, .strct [(0, 1, false), (1, 1, false), (2, 1, false), (3, 1, false), (4, 1, false), (5, 1, false), (6, 1, false), (7, 1, false), (8, 1, false), (9, 1, false), (10, 1, false)], none, [.one (.int .u64 0), .one (.int .u64 0), .one (.int .u32 0), .one (.int .u8 0), .one (.int .u8 0), .one (.int .u8 0), .one (.int .u8 0), .one .nilf, .one .nilp, .one (.int .i32 0), .one (.int .i32 0)]⟩),
  (331, ⟨11, 48, true, .strct [(0, 1, false), (1, 1, false), (2, 1, false), (3, 1, false), (4, 1, false), (5, 1, false), (6, 1, false), (7, 1, false), (8, 1, false), (9, 1, false), (10, 1, false)], none, [.one (.int .u64 0), .one (.int .u64 0), .one (.int .u32 0), .one (.int .u8 0), .one (.int .u8 0), .one (.int .u8 0), .one (.int .u8 0), .one .nilf, .one .nilp, .one (.int .i32 0), .one (.int .i32 0)]⟩)]
def eqs1 : List Nat := [3, 9, 56, 57, 60, 90, 96, 105, 106, 107, 108, 116, 136, 137, 142, 143, 144, 171, 172, 276, 296, 298, 308, 309, 310, 311, 316, 317, 318, 319]
end Go.Sx

namespace Go.Sx
def chkAll (P : Program) (l : List (Nat × TD)) : Bool := l.all fun x => tdChk P x.1 x.2
theorem tab1_ok : chkAll Proofs.Tryz.prog tab1 = true := by
  decide +kernel
theorem lookTT_mem : ∀ {l : List (Nat × TD)} {t : Nat} {d : TD}, lookTT l t = some d → (t, d) ∈ l
  | [], _, _, h => by simp [lookTT] at h
  | (k, v) :: r, t, d, h => by
    simp only [lookTT] at h
    split at h
    · rename_i e; cases h; simp at e; subst e; simp
    · exact List.mem_cons_of_mem _ (lookTT_mem h)
theorem tt_ok {P : Program} {l : List (Nat × TD)} (ha : chkAll P l = true) : ∀ t d, lookTT l t = some d → TDok P t d := by
  intro t d h
  exact tdChk_ok (List.all_eq_true.1 ha _ (lookTT_mem h))
noncomputable abbrev P1 : Program := Proofs.Tryz.prog
def eqOk1 (P : Program) (l : List Nat) : Bool := l.all fun t => match lookTT tab1 t with
  | some d => match d.ty with
    | some u => eqChk P (lookTT tab1) 16 t u && !P.eqGuardType P.depth t
    | none => false
  | none => false
theorem eqs1_ok : eqOk1 P1 eqs1 = true := by decide +kernel
theorem eq1 : ∀ t d u, eqs1.contains t = true → lookTT tab1 t = some d → d.ty = some u → eqChk P1 (lookTT tab1) 16 t u = true ∧ P1.eqGuardType P1.depth t = false := by
  intro t d u h1 h2 h3
  have := List.all_eq_true.1 eqs1_ok t (by simpa using h1)
  rw [h2] at this
  simp only [h3, Bool.and_eq_true, Bool.not_eq_true'] at this
  exact this
def gl1 : Nat → Option ((t : Ty) × t.T) := fun g => match g with
  | 0 => some ⟨.arr 4 (.pair (.int .i64) (.int .i64)), [(1, 0), (0, -1), (-1, 0), (0, 1)]⟩
  | 2 => some ⟨.arr 20 (.int .u64), Lib.pow10Tab⟩
  | 3 => some ⟨.opq false, ()⟩
  | 4 => some ⟨.opq true, ()⟩
  | 5 => some ⟨.opq true, ()⟩
  | _ => none
def lookF : List (Nat × Func) → Nat → Option Func
  | [], _ => none
  | (k, v) :: r, t => if k == t then some v else lookF r t
def fbOk (P : Program) : List (Nat × Func) → Prop
  | [] => True
  | (f, fn) :: r => (P.funcs[f]? = some fn ∧ (fn.name == "runtime.NumGoroutine") = false ∧ ∃ c, fn.body = some c ∧ codeOk fn.ntmps c = true) ∧ fbOk P r
theorem fb_ok {P : Program} : ∀ {l : List (Nat × Func)}, fbOk P l → ∀ f fn, lookF l f = some fn → P.funcs[f]? = some fn ∧ (fn.name == "runtime.NumGoroutine") = false ∧ ∃ c, fn.body = some c ∧ codeOk fn.ntmps c = true
  | [], _, f, fn, h => by simp [lookF] at h
  | (k, v) :: r, hl, f, fn, h => by
    simp only [lookF] at h
    split at h
    · rename_i e
      simp at e
      subst e
      cases h
      exact hl.1
    · exact fb_ok hl.2 f fn h
def lookS : List (Nat × FSpec) → Nat → Option FSpec
  | [], _ => none
  | (k, v) :: r, t => if k == t then some v else lookS r t
def spOk (P : Program) : List (Nat × FSpec) → Prop
  | [] => True
  | (f, s) :: r => (SpecOk P gl1 f s ∧ ∃ fn c, P.funcs[f]? = some fn ∧ fn.body = some c ∧ (fn.name == "runtime.NumGoroutine") = false) ∧ spOk P r
theorem sp_ok {P : Program} : ∀ {l : List (Nat × FSpec)}, spOk P l → ∀ f s, lookS l f = some s → SpecOk P gl1 f s ∧ ∃ fn c, P.funcs[f]? = some fn ∧ fn.body = some c ∧ (fn.name == "runtime.NumGoroutine") = false
  | [], _, f, s, h => by simp [lookS] at h
  | (k, v) :: r, hl, f, s, h => by
    simp only [lookS] at h
    split at h
    · rename_i e
      simp at e
      subst e
      cases h
      exact hl.1
    · exact sp_ok hl.2 f s h
theorem mix1 : P1.follows .mixedOrders = true := by kernel_rfl
def h0 : Hints := ⟨fun _ _ _ => none, 0⟩
def ex1 : Nat → Option ExK := fun f => match f with
  | 200 => some .floor64
  | 214 => some .from64
  | 215 => some .bits64
  | _ => none
theorem ex1_ok : ∀ f k, ex1 f = some k → ∃ fn, P1.funcs[f]? = some fn ∧ (fn.name == "runtime.NumGoroutine") = false ∧ fn.body.isNone = true ∧ Extern.findNext fn = none ∧ Extern.find fn = some (exRow k) := by
  intro f k h
  unfold ex1 at h
  split at h
  · cases h; exact ⟨Proofs.Tryz.f200, by kernel_rfl, rfl, rfl, by kernel_rfl, by kernel_rfl⟩
  · cases h; exact ⟨Proofs.Tryz.f214, by kernel_rfl, rfl, rfl, by kernel_rfl, by kernel_rfl⟩
  · cases h; exact ⟨Proofs.Tryz.f215, by kernel_rfl, rfl, rfl, by kernel_rfl, by kernel_rfl⟩
  · cases h
def pts : List (Nat × Nat) := [(181, 0), (182, 1), (183, 2)]
noncomputable def envN (tdv : Bool) (sp : List (Nat × FSpec)) (fb : List (Nat × Func)) : Env := { P := P1, tt := lookTT tab1, gl := gl1, sp := lookS sp, fb := lookF fb, eq := fun t => eqs1.contains t, tdv := tdv, pt := fun _ => none, ex := ex1 }
theorem envN_ok (tdv : Bool) {sp : List (Nat × FSpec)} {fb : List (Nat × Func)} (h1 : spOk P1 sp) (h2 : fbOk P1 fb) : EnvOk (envN tdv sp fb) := ⟨tt_ok tab1_ok, sp_ok h1, eq1, fun _ _ h => (by cases h), fb_ok h2, ex1_ok⟩
def ptRun (off : Nat) : List V → Option (Nat × Nat)
  | [.one (.ptr id o)] => some (id, o + off)
  | _ => none
def lookN : List (Nat × Nat) → Nat → Option Nat
  | [], _ => none
  | (k, v) :: r, t => if k == t then some v else lookN r t
def pt1 : FuncId → Option (List V → Option (Nat × Nat)) := fun f => (lookN pts f).map ptRun
theorem ptRun_ok {f off : Nat} {fn : Func} {c : Code} (hf : P1.funcs[f]? = some fn) (hn : (fn.name == "runtime.NumGoroutine") = false) (hb : fn.body = some c) (hc : codeOk fn.ntmps c = true)
    (h : ∀ id o, inlN (envN false [] [(f, fn)]) h0 1 f [.one (.ptr id o)] (fun _ => none) [] (id + 1) [] (fun v _ _ _ => v = .val (.one (.ptr id (o + off))))) : PtOk P1 gl1 f (ptRun off) ∧ ∃ fn c, P1.funcs[f]? = some fn ∧ fn.body = some c ∧ (fn.name == "runtime.NumGoroutine") = false := by
  refine ⟨pt_ok (E := envN false [] [(f, fn)]) (envN_ok false trivial ⟨⟨hf, hn, c, hb, hc⟩, trivial⟩) mix1 (hn := h0) (d := 1) ?_, fn, c, hf, hb, hn⟩
  intro vs p hr
  unfold ptRun at hr
  split at hr
  · rename_i id o
    cases hr
    exact ⟨fun n hv => hv _ (List.mem_singleton.2 rfl), id + 1, Nat.lt_succ_self _, fun v hv => by rw [List.mem_singleton.1 hv]; exact Nat.lt_succ_self _, h id o⟩
  · cases hr
theorem ptf181 (id o : Nat) : inlN (envN false [] [(181, Proofs.Tryz.f181)]) h0 1 181 [.one (.ptr id o)] (fun _ => none) [] (id + 1) [] (fun v _ _ _ => v = .val (.one (.ptr id (o + 0)))) := by
  have h : inlN (envN false [] [(181, Proofs.Tryz.f181)]) h0 1 181 [.one (.ptr id o)] (fun _ => none) [] (id + 1) [] (fun v _ _ _ => v = .val (.one (.ptr id (o + 0)))) = (SV.val (.one (.ptr id (o + 0))) = SV.val (.one (.ptr id (o + 0)))) := by kernel_rfl
  rw [h]
theorem ptf182 (id o : Nat) : inlN (envN false [] [(182, Proofs.Tryz.f182)]) h0 1 182 [.one (.ptr id o)] (fun _ => none) [] (id + 1) [] (fun v _ _ _ => v = .val (.one (.ptr id (o + 1)))) := by
  have h : inlN (envN false [] [(182, Proofs.Tryz.f182)]) h0 1 182 [.one (.ptr id o)] (fun _ => none) [] (id + 1) [] (fun v _ _ _ => v = .val (.one (.ptr id (o + 1)))) = (SV.val (.one (.ptr id (o + 1))) = SV.val (.one (.ptr id (o + 1)))) := by kernel_rfl
  rw [h]
theorem ptf183 (id o : Nat) : inlN (envN false [] [(183, Proofs.Tryz.f183)]) h0 1 183 [.one (.ptr id o)] (fun _ => none) [] (id + 1) [] (fun v _ _ _ => v = .val (.one (.ptr id (o + 2)))) := by
  have h : inlN (envN false [] [(183, Proofs.Tryz.f183)]) h0 1 183 [.one (.ptr id o)] (fun _ => none) [] (id + 1) [] (fun v _ _ _ => v = .val (.one (.ptr id (o + 2)))) = (SV.val (.one (.ptr id (o + 2))) = SV.val (.one (.ptr id (o + 2)))) := by kernel_rfl
  rw [h]
theorem pts_ok : ∀ f off, lookN pts f = some off → PtOk P1 gl1 f (ptRun off) ∧ ∃ fn c, P1.funcs[f]? = some fn ∧ fn.body = some c ∧ (fn.name == "runtime.NumGoroutine") = false := by
  intro f off h
  simp only [pts, lookN] at h
  split at h
  · rename_i e
    simp at e h
    subst e h
    exact ptRun_ok (fn := Proofs.Tryz.f181) (by kernel_rfl) (by kernel_rfl) rfl (by kernel_rfl) ptf181
  split at h
  · rename_i e
    simp at e h
    subst e h
    exact ptRun_ok (fn := Proofs.Tryz.f182) (by kernel_rfl) (by kernel_rfl) rfl (by kernel_rfl) ptf182
  split at h
  · rename_i e
    simp at e h
    subst e h
    exact ptRun_ok (fn := Proofs.Tryz.f183) (by kernel_rfl) (by kernel_rfl) rfl (by kernel_rfl) ptf183
  cases h
theorem pt1_ok : ∀ f run, pt1 f = some run → PtOk P1 gl1 f run ∧ ∃ fn c, P1.funcs[f]? = some fn ∧ fn.body = some c ∧ (fn.name == "runtime.NumGoroutine") = false := by
  intro f run h
  obtain ⟨off, h1, rfl⟩ := Option.map_eq_some_iff.1 h
  exact pts_ok f off h1
noncomputable def env (tdv : Bool) (sp : List (Nat × FSpec)) (fb : List (Nat × Func)) : Env := { P := P1, tt := lookTT tab1, gl := gl1, sp := lookS sp, fb := lookF fb, eq := fun t => eqs1.contains t, tdv := tdv, pt := pt1, ex := ex1 }
theorem env_ok (tdv : Bool) {sp : List (Nat × FSpec)} {fb : List (Nat × Func)} (h1 : spOk P1 sp) (h2 : fbOk P1 fb) : EnvOk (env tdv sp fb) := ⟨tt_ok tab1_ok, sp_ok h1, eq1, pt1_ok, fb_ok h2, ex1_ok⟩
@[reducible] def iV (n : Int) : V := .one (.int .i64 n)
@[reducible] def bV (b : Bool) : V := .one (.bool b)
@[reducible] def sV (l : List UInt8) : V := .one (.str l)
def hu (n : Nat) : Hints := ⟨fun _ _ _ => none, n⟩
end Go.Sx

namespace Go.Sx.U
def whenE (b : Bool) (e : Int) : Int := if b then e else 0
def within (n lo hi : Int) : Int := if n < lo ∨ hi < n then 3 else 0
def first : List Int → Int
  | [] => 0
  | x :: r => if x = 0 then first r else x
def Bytes (s : List Int) : Prop := ∀ b ∈ s, 0 ≤ b ∧ b ≤ 255
end Go.Sx.U
namespace Go.Sx
open U
def liveO : List Nat → List (Nat × Option AObj) → List (Nat × Option AObj)
  | _, [] => []
  | seen, (k, v) :: r => if seen.contains k then liveO seen r else match v with
    | some o => (k, some o) :: liveO (k :: seen) r
    | none => liveO (k :: seen) r
def St.at (s : St) (keep : List Nat) (new : List (Nat × SV)) : St := ⟨new ++ keepT keep s.tm, liveO [] s.ob, s.nx, s.lr⟩
@[reducible] def tI (t : Nat) (n : Int) : Nat × SV := (t, .val (iV n))
def listOf (s : St) (t : Nat) : Option ((u : Ty) × List u.T) := match lookT s.tm t with
  | some (.val (.one c)) => rowOf (lookO s.ob) c
  | _ => none
def hFirst (tl tn ti : Nat) (s : St) : Option LInv := match listOf s tl with
  | some ⟨.int .i64, xs⟩ => some ⟨Nat, fun i => s.at [tl, tn] [tI ti i], fun i => i ≤ List.length xs ∧ first xs = first (List.drop i xs), fun i => List.length xs - i⟩
  | _ => none
def listAs (s : St) (t : Nat) (u : Ty) : Option (List u.T) := match lookT s.tm t with
  | some (.val (.one c)) => rowAs (lookO s.ob) u c
  | _ => none
def intOfT (s : St) (t : Nat) : Option Int := match lookT s.tm t with
  | some (.val (.one (.int .i64 n))) => some n
  | _ => none
def ownOf (s : St) (t : Nat) : List Nat := match lookT s.tm t with
  | some (.val (.one (.own id))) => [id]
  | _ => []
def lessO (s : St) (ts : List Nat) : List (Nat × Option AObj) := (liveO [] s.ob).filter fun x => !(ts.flatMap (ownOf s)).contains x.1
theorem getD_of {α : Type} {xs : List α} {i : Nat} {d : α} (h : i < xs.length) : List.getD xs i d = xs[i] := by
  rw [List.getD_eq_getElem?_getD, List.getElem?_eq_getElem h]; rfl
def Sp1 (f : FuncId) (s : FSpec) : Prop := SpecOk P1 gl1 f s ∧ ∃ fn c, P1.funcs[f]? = some fn ∧ fn.body = some c ∧ (fn.name == "runtime.NumGoroutine") = false
theorem fn_of (tdv : Bool) (sp : List (Nat × FSpec)) (fb : List (Nat × Func)) (hn : Hints) (d : Nat) (fn : Func) {f : FuncId} {c : Code} {args : List V} {r : SV} (h1 : spOk P1 sp) (h2 : fbOk P1 fb) (hf : P1.funcs[f]? = some fn) (hb : fn.body = some c) (hc : codeOk fn.ntmps c = true)
    (hlen : Nat.ble args.length fn.ntmps = true) (hpa : args.all pureV = true) (hpr : resPure r = true) (h : exF (env tdv sp fb) hn d f fn args r) : Fn P1 gl1 f args r false :=
  exF_sound (E := env tdv sp fb) (env_ok tdv h1 h2) mix1 hf hb hc (Nat.le_of_ble_eq_true hlen) hpa hpr h
theorem fn_ofr (tdv : Bool) (sp : List (Nat × FSpec)) (fb : List (Nat × Func)) (hn : Hints) (d : Nat) (fn : Func) {f : FuncId} {c : Code} {args : List V} {r : SV} (h1 : spOk P1 sp) (h2 : fbOk P1 fb) (hf : P1.funcs[f]? = some fn) (hb : fn.body = some c) (hc : codeOk fn.ntmps c = true)
    (hlen : Nat.ble args.length fn.ntmps = true) (hpa : args.all pureV = true) (hpr : resPure r = true) (h : exFr (env tdv sp fb) hn d f fn args r) : Fn P1 gl1 f args r true :=
  exFr_sound (E := env tdv sp fb) (env_ok tdv h1 h2) mix1 hf hb hc (Nat.le_of_ble_eq_true hlen) hpa hpr h
theorem first_drop (xs : List Int) (g : Nat) (h : g < xs.length) : first (xs.drop g) = if xs[g] = 0 then first (xs.drop (g + 1)) else xs[g] := by
  rw [List.drop_eq_getElem_cons h]; rfl
end Go.Sx

namespace Go.Sx.U
open Ieee
theorem num_lit (b : Nat) (s : Bool) (m : Nat) (e : Int) (h : single.read b = .number s m e) (v : Int) (hv : signed s m (e + 149).toNat = v) : numW b = true ∧ vW b = v := ⟨numW_of h, by rw [vW_num h, hv]⟩
theorem hi_val : numW 1149239296 = true ∧ vW 1149239296 = 1024 * ((2 ^ 149 : Nat) : Int) :=
  num_lit _ false 8388608 (-13) (by decide) _ (by decide)
theorem lo_val : numW 3296722944 = true ∧ vW 3296722944 = -1024 * ((2 ^ 149 : Nat) : Int) :=
  num_lit _ true 8388608 (-13) (by decide) _ (by decide)
theorem cmp_lt (a b : Int) : (some (compare a b) == some Ordering.lt) = decide (a < b) := by
  by_cases h : a < b
  · rw [Int.compare_eq_lt.2 h]; simp [h]
  · have : compare a b ≠ .lt := fun e => h (Int.compare_eq_lt.1 e)
    simp [h, this]
theorem cmp_gt (a b : Int) : (some (compare a b) == some Ordering.gt) = decide (b < a) := by
  by_cases h : b < a
  · rw [Int.compare_eq_gt.2 h]; simp [h]
  · have : compare a b ≠ .gt := fun e => h (Int.compare_eq_gt.1 e)
    simp [h, this]
theorem cmp_eq (a b : Int) : (some (compare a b) == some Ordering.eq) = decide (a = b) := by
  by_cases h : a = b
  · subst h; simp
  · have : compare a b ≠ .eq := fun e => h (Int.compare_eq_eq.1 e)
    simp [h, this]
theorem cmp_ne (a b : Int) : (some (compare a b) != some Ordering.eq) = decide (a ≠ b) := by
  unfold bne
  rw [cmp_eq]
  by_cases h : a = b <;> simp [h]
theorem lt_lo {b : Nat} (h : numW b = true) : (single.order b 3296722944 == some .lt) = decide (vW b < -1024 * ((2 ^ 149 : Nat) : Int)) := by
  rw [order_val h lo_val.1, lo_val.2, cmp_lt]
theorem gt_hi {b : Nat} (h : numW b = true) : (single.order b 1149239296 == some .gt) = decide (1024 * ((2 ^ 149 : Nat) : Int) < vW b) := by
  rw [order_val h hi_val.1, hi_val.2, cmp_gt]
theorem pos149 : (0 : Int) < ((2 ^ 149 : Nat) : Int) := Int.natCast_pos.2 (Nat.two_pow_pos _)
theorem in_step {b : Nat} (h : numW b = true) (h1 : ¬ vW b < -1024 * ((2 ^ 149 : Nat) : Int)) (h2 : ¬ 1024 * ((2 ^ 149 : Nat) : Int) < vW b) :
    ∃ y, single.mul 1098907648 b = some y ∧ (single.read y).toInt .zero = some (six b) ∧ (-16384 ≤ six b ∧ six b ≤ 16384) ∧ numW y = true ∧ vW y = 16 * vW b := by
  have hb : (vW b).natAbs < 2 ^ 160 := by omega
  obtain ⟨y, e1, e2, e3⟩ := mul_16 h (Nat.le_refl _) hb
  refine ⟨y, e1, ?_, ?_, e2, e3⟩
  · rw [toInt_val e2, e3]; rfl
  · have hq := pos149
    unfold six
    have g1 : -16384 * ((2 ^ 149 : Nat) : Int) ≤ 16 * vW b := by omega
    have g2 : 16 * vW b ≤ 16384 * ((2 ^ 149 : Nat) : Int) := by omega
    generalize ((2 ^ 149 : Nat) : Int) = q at *
    generalize 16 * vW b = v at *
    have k1 : -16384 = (-16384 * q).tdiv q := (Int.mul_tdiv_cancel _ (by omega)).symm
    have k2 : 16384 = (16384 * q).tdiv q := (Int.mul_tdiv_cancel _ (by omega)).symm
    constructor
    · rw [k1]; exact Int.tdiv_le_tdiv hq g1
    · rw [k2]; exact Int.tdiv_le_tdiv hq g2
theorem six_ne {b y : Nat} (hs : -16384 ≤ six b ∧ six b ≤ 16384) (hy : numW y = true) (hv : vW y = 16 * vW b) :
    (single.order (single.nearest (decide (six b < 0)) (six b).natAbs 0) y != some .eq) = decide (¬ 16 * vW b = six b * ((2 ^ 149 : Nat) : Int)) := by
  obtain ⟨n1, n2⟩ := nearest_int (n := six b) (by omega)
  rw [order_val n1 hy, n2, hv, cmp_ne]
  congr 1
  apply propext
  constructor
  · intro h e; exact h e.symm
  · intro h e; exact h e.symm
theorem six_step {b : Nat} (h : chkS b = 0) : ∃ y, single.mul 1098907648 b = some y ∧ (single.read y).toInt .zero = some (six b) ∧ (-16384 ≤ six b ∧ six b ≤ 16384) := by
  obtain ⟨h1, h2, h3, h4⟩ := chkS_zero.1 h
  have hq := pos149
  have g1 : -16384 * ((2 ^ 149 : Nat) : Int) ≤ six b * ((2 ^ 149 : Nat) : Int) := Int.mul_le_mul_of_nonneg_right h3 (Int.le_of_lt hq)
  have g2 : six b * ((2 ^ 149 : Nat) : Int) ≤ 16384 * ((2 ^ 149 : Nat) : Int) := Int.mul_le_mul_of_nonneg_right h4 (Int.le_of_lt hq)
  rw [← h2] at g1 g2
  obtain ⟨y, e1, e2, e3, _⟩ := in_step h1 (by omega) (by omega)
  exact ⟨y, e1, e2, e3⟩
theorem num_litD (b : Nat) (s : Bool) (m : Nat) (e : Int) (h : double.read b = .number s m e) : numWD b = true ∧ vWD b = signed s m (e + 1074).toNat := ⟨numW_ofD h, vW_numD h⟩
theorem U_add : U = 149 + U2 := rfl
theorem unit_D : ((2 ^ U : Nat) : Int) = ((2 ^ 149 : Nat) : Int) * ((2 ^ U2 : Nat) : Int) := by rw [U_add, Nat.pow_add, Int.natCast_mul]
theorem posU2 : (0 : Int) < ((2 ^ U2 : Nat) : Int) := Int.natCast_pos.2 (Nat.two_pow_pos _)
theorem hi_valD : numWD 4652218415073722368 = true ∧ vWD 4652218415073722368 = 1024 * ((2 ^ 149 : Nat) : Int) * ((2 ^ U2 : Nat) : Int) := by
  obtain ⟨h1, h2⟩ := num_litD 4652218415073722368 false 4503599627370496 (-42) (by decide)
  refine ⟨h1, ?_⟩
  rw [h2, Int.mul_assoc, ← unit_D, signed_eq]
  obtain ⟨V, hV⟩ : ∃ V : Nat, ((-42 : Int) + 1074).toNat = V := ⟨_, rfl⟩
  have hU : U = V + 42 := by rw [U_eq]; omega
  rw [hV, hU, Nat.pow_add]
  generalize 2 ^ V = q
  simp
  omega
theorem lo_valD : numWD 13875590451928498176 = true ∧ vWD 13875590451928498176 = -1024 * ((2 ^ 149 : Nat) : Int) * ((2 ^ U2 : Nat) : Int) := by
  obtain ⟨h1, h2⟩ := num_litD 13875590451928498176 true 4503599627370496 (-42) (by decide)
  refine ⟨h1, ?_⟩
  rw [h2, Int.mul_assoc, ← unit_D, signed_eq]
  obtain ⟨V, hV⟩ : ∃ V : Nat, ((-42 : Int) + 1074).toNat = V := ⟨_, rfl⟩
  have hU : U = V + 42 := by rw [U_eq]; omega
  rw [hV, hU, Nat.pow_add]
  generalize 2 ^ V = q
  simp
  omega
theorem lt_loD {b y : Nat} (h : numWD y = true) (hv : vWD y = vW b * ((2 ^ U2 : Nat) : Int)) : (double.order y 13875590451928498176 == some .lt) = decide (vW b < -1024 * ((2 ^ 149 : Nat) : Int)) := by
  rw [order_valD h lo_valD.1, lo_valD.2, hv, compare_scale posU2, cmp_lt]
theorem gt_hiD {b y : Nat} (h : numWD y = true) (hv : vWD y = vW b * ((2 ^ U2 : Nat) : Int)) : (double.order y 4652218415073722368 == some .gt) = decide (1024 * ((2 ^ 149 : Nat) : Int) < vW b) := by
  rw [order_valD h hi_valD.1, hi_valD.2, hv, compare_scale posU2, cmp_gt]
theorem in_stepD {b y : Nat} (h : numWD y = true) (hv : vWD y = vW b * ((2 ^ U2 : Nat) : Int)) (h1 : ¬ vW b < -1024 * ((2 ^ 149 : Nat) : Int)) (h2 : ¬ 1024 * ((2 ^ 149 : Nat) : Int) < vW b) :
    ∃ z, double.mul 4625196817309499392 y = some z ∧ numWD z = true ∧ (double.order z (flo z) != some .eq) = decide (¬ 16 * vW b = six b * ((2 ^ 149 : Nat) : Int)) := by
  have hb : (vW b).natAbs < 2 ^ (11 + 149) := by omega
  obtain ⟨T, hT⟩ : ∃ T, 11 + 149 + U2 = T := ⟨_, rfl⟩
  have hTn : T = 1085 := by rw [← hT, U2_eq]
  have hy : (vWD y).natAbs < 2 ^ T := by
    have e6 : (2 : Nat) ^ T = 2 ^ (11 + 149) * 2 ^ U2 := by rw [← hT, Nat.pow_add 2 (11 + 149) U2]
    rw [hv, Int.natAbs_mul, Int.natAbs_natCast, e6]
    exact Nat.mul_lt_mul_of_pos_right hb (Nat.two_pow_pos _)
  obtain ⟨z, e1, e2, e3⟩ := mul_16D h (Nat.le_of_eq hTn) hy
  have hz : (vWD z).natAbs < 2 ^ (4 + T) := by
    have e5 : (2 : Nat) ^ (4 + T) = 16 * 2 ^ T := by rw [Nat.pow_add 2 4 T]
    rw [e3, Int.natAbs_mul, e5]
    exact Nat.mul_lt_mul_of_pos_left hy (by decide)
  obtain ⟨f1, ⟨t, f2⟩, f3⟩ := floor_val e2 (by omega) hz
  refine ⟨z, e1, e2, ?_⟩
  rw [order_valD e2 f1, cmp_ne]
  congr 1
  apply propext
  have hq := pos149
  have hp := posU2
  have hd : vWD z = 16 * vW b * ((2 ^ U2 : Nat) : Int) := by rw [e3, hv, Int.mul_assoc]
  constructor
  · intro hne he
    apply hne
    refine (f3 (six b) ?_).symm
    rw [hd, he, unit_D, Int.mul_assoc]
  · intro hne he
    apply hne
    rw [he, f2, unit_D] at hd
    rw [← Int.mul_assoc] at hd
    have := Int.eq_of_mul_eq_mul_right (by omega) hd
    unfold six
    rw [← this, Int.mul_tdiv_cancel _ (by omega)]
end Go.Sx.U

namespace Go.Sx
open U
def h22 : Hints := ⟨fun f k s => match f, k with
  | 22, 2 => hFirst 0 2 3 s
  | _, _ => none, 0⟩
end Go.Sx
namespace Go.Sx
open U
def sp99 : FSpec := ⟨fun vs => match vs with
  | [.one (.bool b), .one (.int .i64 e)] => some ([], .val (iV (whenE b e)))
  | _ => none, true⟩
def sp22 : FSpec := ⟨fun vs => match vs with
  | [.one (.sl (.int .i64) xs)] => some ([List.length xs ≤ 1000000000], .val (iV (first xs)))
  | _ => none, true⟩
end Go.Sx

namespace Go.Sx
open U
theorem vc99 (b : Bool) (e : Int) : exF (env false [] []) h0 0 99 Proofs.Tryz.f99 [bV b, iV e] (.val (iV (whenE b e))) = (splitB b (e = whenE b e ∧ True) ((0 : Int) = whenE b e ∧ True)) := by
  kernel_rfl
theorem vc22 (xs : List Int) : exF (env false [] []) h22 0 22 Proofs.Tryz.f22 [.one (.sl (.int .i64) xs)] (.val (iV (first xs))) = ((∃ (g : Nat), (g ≤ List.length xs ∧ first xs = first (List.drop g xs)) ∧ (0 : Int) = (↑g : Int) ∧ (0 : Int) = (0 : Int) ∧ xs = xs ∧ True) ∧ ∀ (g : Nat), let q0 := ((0 : Int) ≤ (↑g : Int) ∧ (↑g : Int) < (↑(List.length xs) : Int)); g ≤ List.length xs ∧ first xs = first (List.drop g xs) → splitB (decide ((↑g : Int) < (↑(List.length xs) : Int))) (q0 ∧ splitB (List.getD xs g (0 : Int) != (0 : Int)) (q0 ∧ List.getD xs g (0 : Int) = first xs ∧ True) (fits IntKind.i64 ((↑g : Int) + (1 : Int)) ∧ ∃ (g' : Nat), (g' ≤ List.length xs ∧ first xs = first (List.drop g' xs)) ∧ List.length xs - g' < List.length xs - g ∧ (↑g : Int) + (1 : Int) = (↑g' : Int) ∧ (0 : Int) = (0 : Int) ∧ xs = xs ∧ True)) ((0 : Int) = first xs ∧ True)) := by
  kernel_rfl
end Go.Sx

namespace Go.Sx
open U
theorem bneZ {n : Int} : (n != 0) = true ↔ n ≠ 0 := by simp
theorem bneF {n : Int} : (n != 0) = false ↔ n = 0 := by simp
theorem bcond_r (a b : Bool) : (bif a then b else false) = (a && b) := by cases a <;> rfl
theorem bcond_l (a b : Bool) : (bif a then true else b) = (a || b) := by cases a <;> rfl
theorem fn99 (b : Bool) (e : Int)  : Fn P1 gl1 99 [bV b, iV e] (.val (iV (whenE b e))) true := by
  refine Fn.flat ?_ rfl
  refine fn_of false [] [] h0 0 Proofs.Tryz.f99 trivial trivial (by kernel_rfl) rfl (by kernel_rfl) rfl rfl rfl ?_
  rw [vc99]
  try simp only [splitB_iff, -eq_self]
  cases b <;> simp [whenE]
theorem so99_ : SpecOk P1 gl1 99 sp99 := by
  intro vs ps r h _
  simp only [sp99] at h
  split at h
  · cases h; exact fn99 _ _ 
  · cases h
theorem so99 : Sp1 99 sp99 := ⟨so99_, Proofs.Tryz.f99, _, by kernel_rfl, rfl, by kernel_rfl⟩
theorem fn22 (xs : List Int) (hl : xs.length ≤ 1000000000) : Fn P1 gl1 22 [.one (.sl (.int .i64) xs)] (.val (iV (first xs))) true := by
  refine Fn.flat ?_ rfl
  refine fn_of false [] [] h22 0 Proofs.Tryz.f22 trivial trivial (by kernel_rfl) rfl (by kernel_rfl) rfl rfl rfl ?_
  rw [vc22]
  try simp only [splitB_iff, -eq_self]
  refine ⟨⟨0, by simp, by simp⟩, fun g hg => ⟨fun hlt => ?_, fun hge => ?_⟩⟩
  · have hlt' : g < xs.length := by simpa using hlt
    rw [getD_of hlt', hg.2, first_drop xs g hlt']
    refine ⟨by omega, fun h => ⟨by omega, ?_⟩, fun h => ⟨by simp only [fits]; omega, g + 1, ⟨by omega, ?_⟩, by omega, by simp⟩⟩
    · rw [if_neg (by simpa using h)]; simp
    · rw [if_pos (by simpa using h)]
  · have hge' : ¬ g < xs.length := by simpa using hge
    rw [hg.2, List.drop_of_length_le (by omega)]
    simp [first]
theorem so22_ : SpecOk P1 gl1 22 sp22 := by
  intro vs ps r h hp
  simp only [sp22] at h
  split at h
  · cases h; exact fn22 _ (hp _ (.head _))
  · cases h
theorem so22 : Sp1 22 sp22 := ⟨so22_, Proofs.Tryz.f22, _, by kernel_rfl, rfl, by kernel_rfl⟩
end Go.Sx

namespace Go.Sx.U
def signI (line : Int) : Int := if line % 2 = 1 then -1 else 1
def roundI (a d : Int) : Int := (2 * a + d) / (2 * d)
end Go.Sx.U
namespace Go.Sx
open U
abbrev gsT : Ty := .pair (.int .i64) (.int .i64)
@[reducible] def fV (b : Nat) : V := .one (.flt .f32 b)
def h95 : Hints := ⟨fun f k s => match f, k with
  | 95, 2 => hFirst 5 6 7 s
  | _, _ => none, 0⟩
@[reducible] noncomputable def fb175 : Nat × Func := (175, Proofs.Tryz.f175)
@[reducible] noncomputable def fb176 : Nat × Func := (176, Proofs.Tryz.f176)
@[reducible] noncomputable def fb199 : Nat × Func := (199, Proofs.Tryz.f199)
def sp141 : FSpec := ⟨fun vs => match vs with
  | [.one (.flt .f32 b), .one (.int .i64 n)] => if n = 1024 then some ([], .val (iV (chkS b))) else none
  | _ => none, true⟩
def sp174 : FSpec := ⟨fun vs => match vs with
  | [.one (.flt .f32 b), .one (.int .i64 n)] => if n = 1024 then some ([], .val (iV (chkS b))) else none
  | _ => none, true⟩
end Go.Sx
namespace Go.Sx
open U
def sp104 : FSpec := ⟨fun vs => match vs with
  | [.one (.bool b), .one (.int .i64 e)] => some ([], .val (iV (whenE b e)))
  | _ => none, true⟩
def sp198 : FSpec := ⟨fun vs => match vs with
  | [.one (.bool b), .one (.int .i64 e)] => some ([], .val (iV (whenE b e)))
  | _ => none, true⟩
def sp96 : FSpec := ⟨fun vs => match vs with
  | [.one (.int .i64 n), .one (.int .i64 lo), .one (.int .i64 hi)] => some ([], .val (iV (within n lo hi)))
  | _ => none, true⟩
def sp95 : FSpec := ⟨fun vs => match vs with
  | [.one (.sl (.int .i64) xs)] => some ([List.length xs ≤ 1000000000], .val (iV (first xs)))
  | _ => none, true⟩
def sp170 : FSpec := ⟨fun vs => match vs with
  | [.one (.int .i64 n)] => some ([0 ≤ n], .val (iV (signI n)))
  | _ => none, true⟩
def sp120 : FSpec := ⟨fun vs => match vs with
  | [.one (.int .i64 a), .one (.int .i64 d)] => some ([-1000000000 ≤ a ∧ a ≤ 1000000000, 0 < d ∧ d ≤ 1000000000], .val (iV (roundI a d)))
  | _ => none, true⟩
def sp136 : FSpec := ⟨fun vs => match vs with
  | [.one (.flt .f32 b)] => some ([], .val (iV (chkS b)))
  | _ => none, true⟩
def sp177 : FSpec := ⟨fun vs => match vs with
  | [.one (.flt .f64 y)] => some ([numWD y = true], .val (.one (.flt .f64 (flo y))))
  | _ => none, true⟩
def sp69 : FSpec := ⟨fun vs => match vs with
  | [.one (.flt .f32 b)] => some ([], .val (iV (chkS b)))
  | _ => none, true⟩
def sp137 : FSpec := ⟨fun vs => match vs with
  | [.one (.flt .f32 b)] => some ([chkS b = 0], .val (iV (six b)))
  | _ => none, true⟩
def sp110 : FSpec := ⟨fun vs => match vs with
  | [.one (.int .i64 n)] => some ([-8388608 ≤ n ∧ n ≤ 8388608], .val (fV (smp n)))
  | _ => none, true⟩
end Go.Sx

namespace Go.Sx
open U
theorem vc104 (b : Bool) (e : Int) : exF (env false [] []) h0 0 104 Proofs.Tryz.f104 [bV b, iV e] (.val (iV (whenE b e))) = (splitB b (e = whenE b e ∧ True) ((0 : Int) = whenE b e ∧ True)) := by
  kernel_rfl
theorem vc198 (b : Bool) (e : Int) : exF (env false [] []) h0 0 198 Proofs.Tryz.f198 [bV b, iV e] (.val (iV (whenE b e))) = (splitB b (e = whenE b e ∧ True) ((0 : Int) = whenE b e ∧ True)) := by
  kernel_rfl
theorem vc96 (n lo hi : Int) : exF (env false [(104, sp104)] []) h0 0 96 Proofs.Tryz.f96 [iV n, iV lo, iV hi] (.val (iV (within n lo hi))) = (whenE (bif decide (n < lo) then true else decide (hi < n)) (3 : Int) = within n lo hi ∧ True) := by
  kernel_rfl
theorem vc95 (xs : List Int) : exF (env false [] []) h95 0 95 Proofs.Tryz.f95 [.one (.sl (.int .i64) xs)] (.val (iV (first xs))) = (let q0 := (↑(List.length xs) : Int); (∃ (g : Nat), (g ≤ List.length xs ∧ first xs = first (List.drop g xs)) ∧ (0 : Int) = (↑g : Int) ∧ q0 = q0 ∧ xs = xs ∧ True) ∧ ∀ (g : Nat), g ≤ List.length xs ∧ first xs = first (List.drop g xs) → splitB (decide ((↑g : Int) < q0)) (((0 : Int) ≤ (↑g : Int) ∧ (↑g : Int) < q0) ∧ splitB (List.getD xs g (0 : Int) != (0 : Int)) (List.getD xs g (0 : Int) = first xs ∧ True) (fits IntKind.i64 ((↑g : Int) + (1 : Int)) ∧ ∃ (g' : Nat), (g' ≤ List.length xs ∧ first xs = first (List.drop g' xs)) ∧ List.length xs - g' < List.length xs - g ∧ (↑g : Int) + (1 : Int) = (↑g' : Int) ∧ q0 = q0 ∧ xs = xs ∧ True)) ((0 : Int) = first xs ∧ True)) := by
  kernel_rfl
theorem vc170 (n : Int) : exF (env false [] []) h0 0 170 Proofs.Tryz.f170 [iV n] (.val (iV (signI n))) = (((0 : Int) ≤ n ∧ (0 : Int) < (2 : Int)) ∧ splitB (n % (2 : Int) == (1 : Int)) ((-1 : Int) = signI n ∧ True) ((1 : Int) = signI n ∧ True)) := by
  kernel_rfl
theorem vc120 (a d : Int) : exF (env true [] []) h0 0 120 Proofs.Tryz.f120 [iV a, iV d] (.val (iV (roundI a d))) = (let q2 := (IntKind.wrap IntKind.i64 ((2 : Int) * a) + d); let q0 := (IntKind.wrap IntKind.i64 q2); let q1 := (IntKind.wrap IntKind.i64 ((2 : Int) * d)); (IntKind.wrap IntKind.i64 ((2 : Int) * d) ≠ (0 : Int) ∧ fits IntKind.i64 (Int.tdiv q0 q1)) ∧ splitB (decide (IntKind.wrap IntKind.i64 q2 < IntKind.wrap IntKind.i64 (Int.tdiv q0 q1 * IntKind.wrap IntKind.i64 ((2 : Int) * d)))) (IntKind.wrap IntKind.i64 (Int.tdiv q0 q1 - (1 : Int)) = roundI a d ∧ True) (Int.tdiv q0 q1 = roundI a d ∧ True)) := by
  kernel_rfl
theorem vc174 (b : Nat) : exF (env false [(198, sp198)] []) h0 0 174 Proofs.Tryz.f174 [fV b, iV 1024] (.val (iV (chkS b))) = (let q1 := (FloatKind.format FloatKind.f32); let q2 := (Ieee.Format.mul q1 (1098907648 : Nat) b); let q0 := (Ieee.Datum.toInt Ieee.Toward.zero (FloatKind.decode FloatKind.f32 (Option.getD q2 (0 : Nat)))); let q3 := (FloatKind.nearest FloatKind.f32 (1024 : Int)); Option.isSome (Ieee.Format.sub q1 b b) = true ∧ splitB (Ieee.Format.order q1 (Option.getD (Ieee.Format.sub q1 b b) (0 : Nat)) (0 : Nat) != some Ordering.eq) ((1 : Int) = chkS b ∧ True) (splitB (bif Ieee.Format.order q1 b (Op.negFloat FloatKind.f32 q3) == some Ordering.lt then true else Ieee.Format.order q1 b q3 == some Ordering.gt) ((3 : Int) = chkS b ∧ True) (Option.isSome q2 = true ∧ (Option.isSome q0 = true ∧ IntKind.min IntKind.i64 ≤ Option.getD q0 (0 : Int) ∧ Option.getD q0 (0 : Int) ≤ IntKind.max IntKind.i64) ∧ Option.isSome q2 = true ∧ whenE (Ieee.Format.order q1 (FloatKind.nearest FloatKind.f32 (Option.getD q0 (0 : Int))) (Option.getD q2 (0 : Nat)) != some Ordering.eq) (3 : Int) = chkS b ∧ True))) := by
  kernel_rfl
theorem vc174b (_u : Unit) : exF (env false [(198, sp198)] []) h0 0 174 Proofs.Tryz.f174 [.one (.odd .f32 none), iV 1024] (.val (iV 1)) = ((1 : Int) = (1 : Int) ∧ True) := by
  kernel_rfl
theorem vc174c (_u : Unit) : exF (env false [(198, sp198)] []) h0 0 174 Proofs.Tryz.f174 [.one (.odd .f32 (some true)), iV 1024] (.val (iV 1)) = ((1 : Int) = (1 : Int) ∧ True) := by
  kernel_rfl
theorem vc174d (_u : Unit) : exF (env false [(198, sp198)] []) h0 0 174 Proofs.Tryz.f174 [.one (.odd .f32 (some false)), iV 1024] (.val (iV 1)) = ((1 : Int) = (1 : Int) ∧ True) := by
  kernel_rfl
theorem vc136 (b : Nat) : exF (env false [(174, sp174)] []) h0 0 136 Proofs.Tryz.f136 [fV b] (.val (iV (chkS b))) = (chkS b = chkS b ∧ True) := by
  kernel_rfl
theorem vc177 (y : Nat) : exF (env false [] []) h0 0 177 Proofs.Tryz.f177 [.one (.flt .f64 y)] (.val (.one (.flt .f64 (flo y)))) = (Ieee.Datum.isNaN (FloatKind.decode FloatKind.f64 y) = false ∧ FloatKind.encode FloatKind.f64 (Ieee.Datum.integral Ieee.Toward.down (FloatKind.decode FloatKind.f64 y)) = flo y ∧ True) := by
  kernel_rfl
theorem vc141 (b : Nat) : exF (env false [(99, sp99), (177, sp177)] [fb175, fb176, fb199]) h0 3 141 Proofs.Tryz.f141 [fV b, iV 1024] (.val (iV (chkS b))) = (let q1 := (Option.getD (convF FloatKind.f32 FloatKind.f64 b) (0 : Nat)); let q2 := (FloatKind.format FloatKind.f64); let q8 := (FloatKind.nearest FloatKind.f64 (-1024 : Int)); let q5 := (FloatKind.nearest FloatKind.f64 (1024 : Int)); let q3 := (bif Ieee.Format.order q2 q1 q5 == some Ordering.gt then true else Ieee.Format.order q2 q1 q8 == some Ordering.lt); let q4 := (Ieee.Format.mul q2 (4625196817309499392 : Nat) q1); let q7 := (Option.getD q4 (0 : Nat)); let q0 := (((Ieee.Format.order q2 q1 q5 == some Ordering.gt) = false → fits IntKind.i64 (-1024 : Int)) ∧ (q3 = false → Option.isSome q4 = true) ∧ (q3 = false → Option.isSome q4 = true) ∧ (q3 = false → numWD q7 = true) ∧ whenE (bif bif Ieee.Format.order q2 q1 q5 == some Ordering.gt then true else Ieee.Format.order q2 q1 q8 == some Ordering.lt then true else Ieee.Format.order q2 q7 (flo q7) != some Ordering.eq) (3 : Int) = chkS b ∧ True); let q6 := (Ieee.Format.order q2 q1 q1 != some Ordering.eq); Option.isSome (convF FloatKind.f32 FloatKind.f64 b) = true ∧ (q6 = false → splitB (bif Ieee.Format.order q2 q1 q1 != some Ordering.eq then true else Ieee.Format.order q2 (Int.toNat (bits BinOp.andNot IntKind.u64 (↑q1 : Int) (9223372036854775808 : Int))) (9218868437227405311 : Nat) == some Ordering.gt) ((1 : Int) = chkS b ∧ True) q0) ∧ (q6 = !false → splitB (bif Ieee.Format.order q2 q1 q1 != some Ordering.eq then true else false) ((1 : Int) = chkS b ∧ True) q0)) := by
  kernel_rfl
theorem vc141b (_u : Unit) : exF (env false [(99, sp99), (177, sp177)] [fb175, fb176, fb199]) h0 3 141 Proofs.Tryz.f141 [.one (.odd .f32 none), iV 1024] (.val (iV 1)) = ((true = false → False) ∧ (true = !false → (1 : Int) = (1 : Int) ∧ True)) := by
  kernel_rfl
theorem vc69 (b : Nat) : exF (env false [(141, sp141)] []) h0 0 69 Proofs.Tryz.f69 [fV b] (.val (iV (chkS b))) = (chkS b = chkS b ∧ True) := by
  kernel_rfl
theorem vc137 (b : Nat) : exF (env false [] []) h0 0 137 Proofs.Tryz.f137 [fV b] (.val (iV (six b))) = (Option.isSome (Ieee.Format.mul (FloatKind.format FloatKind.f32) (1098907648 : Nat) b) = true ∧ (Option.isSome (Ieee.Datum.toInt Ieee.Toward.zero (FloatKind.decode FloatKind.f32 (Option.getD (Ieee.Format.mul (FloatKind.format FloatKind.f32) (1098907648 : Nat) b) (0 : Nat)))) = true ∧ IntKind.min IntKind.i64 ≤ Option.getD (Ieee.Datum.toInt Ieee.Toward.zero (FloatKind.decode FloatKind.f32 (Option.getD (Ieee.Format.mul (FloatKind.format FloatKind.f32) (1098907648 : Nat) b) (0 : Nat)))) (0 : Int) ∧ Option.getD (Ieee.Datum.toInt Ieee.Toward.zero (FloatKind.decode FloatKind.f32 (Option.getD (Ieee.Format.mul (FloatKind.format FloatKind.f32) (1098907648 : Nat) b) (0 : Nat)))) (0 : Int) ≤ IntKind.max IntKind.i64) ∧ Option.getD (Ieee.Datum.toInt Ieee.Toward.zero (FloatKind.decode FloatKind.f32 (Option.getD (Ieee.Format.mul (FloatKind.format FloatKind.f32) (1098907648 : Nat) b) (0 : Nat)))) (0 : Int) = six b ∧ True) := by
  kernel_rfl
theorem vc110 (n : Int) : exF (env false [] []) h0 0 110 Proofs.Tryz.f110 [iV n] (.val (fV (smp n))) = (Option.isSome (Ieee.Format.div (FloatKind.format FloatKind.f32) (FloatKind.nearest FloatKind.f32 n) (1098907648 : Nat)) = true ∧ Option.getD (Ieee.Format.div (FloatKind.format FloatKind.f32) (FloatKind.nearest FloatKind.f32 n) (1098907648 : Nat)) (0 : Nat) = smp n ∧ True) := by
  kernel_rfl
end Go.Sx

namespace Go.Sx
open U
theorem fn104 (b : Bool) (e : Int)  : Fn P1 gl1 104 [bV b, iV e] (.val (iV (whenE b e))) true := by
  refine Fn.flat ?_ rfl
  refine fn_of false [] [] h0 0 Proofs.Tryz.f104 trivial trivial (by kernel_rfl) rfl (by kernel_rfl) rfl rfl rfl ?_
  rw [vc104]
  try simp only [splitB_iff, -eq_self]
  cases b <;> simp [whenE]
theorem so104_ : SpecOk P1 gl1 104 sp104 := by
  intro vs ps r h _
  simp only [sp104] at h
  split at h
  · cases h; exact fn104 _ _ 
  · cases h
theorem so104 : Sp1 104 sp104 := ⟨so104_, Proofs.Tryz.f104, _, by kernel_rfl, rfl, by kernel_rfl⟩
theorem fn198 (b : Bool) (e : Int)  : Fn P1 gl1 198 [bV b, iV e] (.val (iV (whenE b e))) true := by
  refine Fn.flat ?_ rfl
  refine fn_of false [] [] h0 0 Proofs.Tryz.f198 trivial trivial (by kernel_rfl) rfl (by kernel_rfl) rfl rfl rfl ?_
  rw [vc198]
  try simp only [splitB_iff, -eq_self]
  cases b <;> simp [whenE]
theorem so198_ : SpecOk P1 gl1 198 sp198 := by
  intro vs ps r h _
  simp only [sp198] at h
  split at h
  · cases h; exact fn198 _ _ 
  · cases h
theorem so198 : Sp1 198 sp198 := ⟨so198_, Proofs.Tryz.f198, _, by kernel_rfl, rfl, by kernel_rfl⟩
theorem fn96 (n lo hi : Int)  : Fn P1 gl1 96 [iV n, iV lo, iV hi] (.val (iV (within n lo hi))) true := by
  refine Fn.flat ?_ rfl
  refine fn_of false [(104, sp104)] [] h0 0 Proofs.Tryz.f96 ⟨so104, trivial⟩ trivial (by kernel_rfl) rfl (by kernel_rfl) rfl rfl rfl ?_
  rw [vc96]
  try simp only [splitB_iff, -eq_self]
  unfold within
  by_cases h1 : n < lo <;> by_cases h2 : hi < n <;> simp [h1, h2, whenE]
theorem so96_ : SpecOk P1 gl1 96 sp96 := by
  intro vs ps r h _
  simp only [sp96] at h
  split at h
  · cases h; exact fn96 _ _ _ 
  · cases h
theorem so96 : Sp1 96 sp96 := ⟨so96_, Proofs.Tryz.f96, _, by kernel_rfl, rfl, by kernel_rfl⟩
theorem fn95 (xs : List Int) (hl : xs.length ≤ 1000000000) : Fn P1 gl1 95 [.one (.sl (.int .i64) xs)] (.val (iV (first xs))) true := by
  refine Fn.flat ?_ rfl
  refine fn_of false [] [] h95 0 Proofs.Tryz.f95 trivial trivial (by kernel_rfl) rfl (by kernel_rfl) rfl rfl rfl ?_
  rw [vc95]
  try simp only [splitB_iff, -eq_self]
  refine ⟨⟨0, by simp, by simp⟩, fun g hg => ⟨fun hlt => ?_, fun hge => ?_⟩⟩
  · have hlt' : g < xs.length := by simpa using hlt
    rw [getD_of hlt', hg.2, first_drop xs g hlt']
    refine ⟨by omega, fun h => ⟨?_, trivial⟩, fun h => ⟨by simp only [fits]; omega, g + 1, ⟨by omega, ?_⟩, by omega, by simp⟩⟩
    · rw [if_neg (by simpa using h)]
    · rw [if_pos (by simpa using h)]
  · have hge' : ¬ g < xs.length := by simpa using hge
    rw [hg.2, List.drop_of_length_le (by omega)]
    simp [first]
theorem so95_ : SpecOk P1 gl1 95 sp95 := by
  intro vs ps r h hp
  simp only [sp95] at h
  split at h
  · cases h; exact fn95 _ (hp _ (.head _))
  · cases h
theorem so95 : Sp1 95 sp95 := ⟨so95_, Proofs.Tryz.f95, _, by kernel_rfl, rfl, by kernel_rfl⟩
theorem div_uniq {d x y r s : Int} (hr : 0 ≤ r ∧ r < d) (hs : 0 ≤ s ∧ s < d) (h : d * x + r = d * y + s) : x = y := by
  have key : ∀ {x y r s : Int}, 0 ≤ r ∧ r < d → 0 ≤ s ∧ s < d → d * x + r = d * y + s → ¬ x < y := by
    intro x y r s hr hs h hlt
    have := Int.mul_le_mul_of_nonneg_left (show x + 1 ≤ y by omega) (show 0 ≤ d by omega)
    rw [Int.mul_add, Int.mul_one] at this
    omega
  have h1 := key hr hs h
  have h2 := key hs hr h.symm
  omega
theorem floor_tdiv {a d : Int} (hd : 0 < d) : (a < a.tdiv d * d → a.tdiv d - 1 = a / d) ∧ (¬ a < a.tdiv d * d → a.tdiv d = a / d) := by
  have h1 := Int.emod_nonneg a (show d ≠ 0 by omega)
  have h2 := Int.emod_lt_of_pos a hd
  have h3 := Int.mul_ediv_add_emod a d
  by_cases ha : 0 ≤ a
  · rw [Int.tdiv_eq_ediv_of_nonneg ha]
    refine ⟨fun h => ?_, fun _ => rfl⟩
    rw [Int.mul_comm] at h
    omega
  · have g1 := Int.emod_nonneg (-a) (show d ≠ 0 by omega)
    have g2 := Int.emod_lt_of_pos (-a) hd
    have g3 := Int.mul_ediv_add_emod (-a) d
    have e : a.tdiv d = -((-a) / d) := by
      have : a = -(-a) := by omega
      rw [this, Int.neg_tdiv, Int.tdiv_eq_ediv_of_nonneg (by omega)]
      simp
    rw [e, Int.mul_comm]
    generalize (-a) / d = q at *
    generalize (-a) % d = r at *
    have e2 : d * -q = -(d * q) := by rw [Int.mul_neg]
    have e3 : d * (-q - 1) = -(d * q) - d := by rw [Int.mul_sub, Int.mul_neg, Int.mul_one]
    refine ⟨fun h => div_uniq (d := d) (r := d - r) (s := a % d) (by omega) ⟨h1, h2⟩ (by omega), fun h => div_uniq (d := d) (r := 0) (s := a % d) (by omega) ⟨h1, h2⟩ (by omega)⟩
theorem tdiv_le {a d B : Int} (_hd : 0 < d) (ha : -B ≤ a ∧ a ≤ B) : -B ≤ a.tdiv d ∧ a.tdiv d ≤ B ∧ (-B ≤ a.tdiv d * d ∧ a.tdiv d * d ≤ B) := by
  have h1 := Int.natAbs_tdiv a d
  have h2 : a.natAbs / d.natAbs ≤ a.natAbs := Nat.div_le_self _ _
  have h3 : a.natAbs / d.natAbs * d.natAbs ≤ a.natAbs := Nat.div_mul_le_self _ _
  have h4 : (a.tdiv d * d).natAbs ≤ a.natAbs := by rw [Int.natAbs_mul, h1]; exact h3
  have h5 : (a.tdiv d).natAbs ≤ a.natAbs := by rw [h1]; exact h2
  clear h1 h2 h3
  omega
theorem fitw {n : Int} (h : -9223372036854775808 ≤ n ∧ n ≤ 9223372036854775807) : IntKind.wrap .i64 n = n := fits_wrap h
theorem fn170 (n : Int) (hn : 0 ≤ n) : Fn P1 gl1 170 [iV n] (.val (iV (signI n))) true := by
  refine Fn.flat ?_ rfl
  refine fn_of false [] [] h0 0 Proofs.Tryz.f170 trivial trivial (by kernel_rfl) rfl (by kernel_rfl) rfl rfl rfl ?_
  rw [vc170]
  try simp only [splitB_iff, -eq_self]
  unfold signI
  refine ⟨⟨hn, by decide⟩, fun h => ?_, fun h => ?_⟩
  · rw [if_pos (by simpa using h)]; simp
  · rw [if_neg (by simpa using h)]; simp
theorem so170_ : SpecOk P1 gl1 170 sp170 := by
  intro vs ps r h hp
  simp only [sp170] at h
  split at h
  · cases h; exact fn170 _ (hp _ (.head _))
  · cases h
theorem so170 : Sp1 170 sp170 := ⟨so170_, Proofs.Tryz.f170, _, by kernel_rfl, rfl, by kernel_rfl⟩
theorem fn120 (a d : Int) (ha : -1000000000 ≤ a ∧ a ≤ 1000000000) (hd : 0 < d ∧ d ≤ 1000000000) : Fn P1 gl1 120 [iV a, iV d] (.val (iV (roundI a d))) true := by
  refine Fn.flat ?_ rfl
  refine fn_of true [] [] h0 0 Proofs.Tryz.f120 trivial trivial (by kernel_rfl) rfl (by kernel_rfl) rfl rfl rfl ?_
  rw [vc120]
  try simp only [splitB_iff, -eq_self]
  have hd2 : 0 < 2 * d := by omega
  obtain ⟨t1, t2, t3, t4⟩ := tdiv_le (a := 2 * a + d) (B := 4000000000) hd2 (by omega)
  obtain ⟨f1, f2⟩ := floor_tdiv (a := 2 * a + d) hd2
  simp only [fitw (n := 2 * a) (by omega), fitw (n := 2 * d) (by omega), fitw (n := 2 * a + d) (by omega), fitw (n := (2 * a + d).tdiv (2 * d) * (2 * d)) (by omega), fitw (n := (2 * a + d).tdiv (2 * d) - 1) (by omega)]
  refine ⟨⟨by omega, by simp only [fits]; omega⟩, fun h => ?_, fun h => ?_⟩
  · exact ⟨f1 (of_decide_eq_true h), trivial⟩
  · exact ⟨f2 (of_decide_eq_false h), trivial⟩
theorem so120_ : SpecOk P1 gl1 120 sp120 := by
  intro vs ps r h hp
  simp only [sp120] at h
  split at h
  · cases h; exact fn120 _ _ (hp _ (.head _)) (hp _ (.tail _ (.head _)))
  · cases h
theorem so120 : Sp1 120 sp120 := ⟨so120_, Proofs.Tryz.f120, _, by kernel_rfl, rfl, by kernel_rfl⟩
theorem lit_hi : FloatKind.nearest .f32 1024 = 1149239296 := by decide +kernel
theorem lit_lo : Op.negFloat .f32 1149239296 = 3296722944 := by decide +kernel
theorem lit_hiD : FloatKind.nearest .f64 1024 = 4652218415073722368 := by decide +kernel
theorem lit_loD : FloatKind.nearest .f64 (-1024) = 13875590451928498176 := by decide +kernel
theorem fmt32 : FloatKind.format .f32 = Ieee.single := rfl
theorem fmt64 : FloatKind.format .f64 = Ieee.double := rfl
theorem zero_eq : (Ieee.Format.order Ieee.single 0 0 != some Ordering.eq) = false := by decide +kernel
theorem fn174 (b : Nat) (hb : numW b = true) : Fn P1 gl1 174 [fV b, iV 1024] (.val (iV (chkS b))) true := by
  refine Fn.flat ?_ rfl
  refine fn_of false [(198, sp198)] [] h0 0 Proofs.Tryz.f174 ⟨so198, trivial⟩ trivial (by kernel_rfl) rfl (by kernel_rfl) rfl rfl rfl ?_
  rw [vc174]
  try simp only [splitB_iff, -eq_self]
  simp only [fmt32, lit_hi, lit_lo, sub_self hb, lt_lo hb, gt_hi hb, Option.isSome_some, Option.getD_some, zero_eq, bcond_l, Bool.or_eq_true, Bool.or_eq_false_iff, decide_eq_true_eq, decide_eq_false_iff_not]
  unfold chkS
  rw [if_pos hb]
  refine ⟨trivial, fun h => (by cases h), fun _ => ⟨fun h => ?_, fun h => ?_⟩⟩
  · rw [if_pos (by rcases h with h | h; exact .inr h; exact .inl h)]; exact ⟨rfl, trivial⟩
  · obtain ⟨y, e1, e2, e3, e4, e5⟩ := in_step hb h.1 h.2
    have e2' : Ieee.Datum.toInt .zero (FloatKind.decode .f32 y) = some (six b) := e2
    have e6 : (Ieee.Format.order Ieee.single (FloatKind.nearest .f32 (six b)) y != some Ordering.eq) = decide (¬ 16 * vW b = six b * ((2 ^ 149 : Nat) : Int)) := six_ne e3 e4 e5
    have hn : ¬ (1024 * ((2 ^ 149 : Nat) : Int) < vW b ∨ vW b < -1024 * ((2 ^ 149 : Nat) : Int)) := by
      rintro (h' | h')
      · exact h.2 h'
      · exact h.1 h'
    rw [if_neg hn]
    simp only [e1, e2', e6, Option.isSome_some, Option.getD_some]
    refine ⟨trivial, ⟨trivial, ?_, ?_⟩, trivial, ?_, trivial⟩
    · show (-9223372036854775808 : Int) ≤ _; omega
    · show _ ≤ (9223372036854775807 : Int); omega
    · unfold whenE
      by_cases hq : 16 * vW b = six b * ((2 ^ 149 : Nat) : Int)
      · rw [if_pos hq, decide_eq_false (p := ¬ 16 * vW b = six b * ((2 ^ 149 : Nat) : Int)) (fun h => h hq)]; rfl
      · rw [if_neg hq, decide_eq_true (p := ¬ 16 * vW b = six b * ((2 ^ 149 : Nat) : Int)) hq]; rfl
theorem fn174b   : Fn P1 gl1 174 [.one (.odd .f32 none), iV 1024] (.val (iV 1)) true := by
  refine Fn.flat ?_ rfl
  refine fn_of false [(198, sp198)] [] h0 0 Proofs.Tryz.f174 ⟨so198, trivial⟩ trivial (by kernel_rfl) rfl (by kernel_rfl) rfl rfl rfl ?_
  rw [vc174b ()]
  try simp only [splitB_iff, -eq_self]
  exact ⟨rfl, trivial⟩
theorem fn174c   : Fn P1 gl1 174 [.one (.odd .f32 (some true)), iV 1024] (.val (iV 1)) true := by
  refine Fn.flat ?_ rfl
  refine fn_of false [(198, sp198)] [] h0 0 Proofs.Tryz.f174 ⟨so198, trivial⟩ trivial (by kernel_rfl) rfl (by kernel_rfl) rfl rfl rfl ?_
  rw [vc174c ()]
  try simp only [splitB_iff, -eq_self]
  exact ⟨rfl, trivial⟩
theorem fn174d   : Fn P1 gl1 174 [.one (.odd .f32 (some false)), iV 1024] (.val (iV 1)) true := by
  refine Fn.flat ?_ rfl
  refine fn_of false [(198, sp198)] [] h0 0 Proofs.Tryz.f174 ⟨so198, trivial⟩ trivial (by kernel_rfl) rfl (by kernel_rfl) rfl rfl rfl ?_
  rw [vc174d ()]
  try simp only [splitB_iff, -eq_self]
  exact ⟨rfl, trivial⟩
theorem Fn.args {P : Program} {gl : Nat → Option ((t : Ty) × t.T)} {f : FuncId} {a a' : List V} {r : SV} {fr : Bool} (h : Fn P gl f a' r fr) (hd : ∀ H vs, DenVs ρ0 H a vs → DenVs ρ0 H a' vs) : Fn P gl f a r fr :=
  fun w H vs h1 h2 h3 => h w H vs h1 h2 (hd H vs h3)
theorem odd_of {b : Nat} (h : numW b = false) : (FloatKind.f32.decode b).isNaN = true ∨ ∃ s, FloatKind.f32.decode b = .infinity s := by
  unfold numW isNum at h
  have e : FloatKind.f32.decode b = Ieee.single.read b := rfl
  rw [e]
  cases hd : Ieee.single.read b with
  | number => rw [hd] at h; cases h
  | infinity s => exact .inr ⟨s, rfl⟩
  | nan => exact .inl rfl
theorem chk_odd {b : Nat} (h : numW b = false) : chkS b = 1 := by
  unfold chkS
  rw [if_neg (by rw [h]; decide)]
theorem fn174a (b : Nat) : Fn P1 gl1 174 [fV b, iV 1024] (.val (iV (chkS b))) true := by
  cases hb : numW b with
  | true => exact fn174 b hb
  | false =>
    rw [chk_odd hb]
    rcases odd_of hb with h | ⟨s, h⟩
    · exact Fn.args fn174b fun H vs d => by
        obtain ⟨v, r, rfl, hv, hr⟩ := d
        exact ⟨v, r, rfl, ⟨b, hv, h⟩, hr⟩
    · cases s
      · exact Fn.args fn174d fun H vs d => by
          obtain ⟨v, r, rfl, hv, hr⟩ := d
          exact ⟨v, r, rfl, ⟨b, hv, h⟩, hr⟩
      · exact Fn.args fn174c fun H vs d => by
          obtain ⟨v, r, rfl, hv, hr⟩ := d
          exact ⟨v, r, rfl, ⟨b, hv, h⟩, hr⟩
theorem so174_ : SpecOk P1 gl1 174 sp174 := by
  intro vs ps r h hp
  simp only [sp174] at h
  split at h
  · split at h
    · rename_i e
      subst e
      cases h
      exact fn174a _
    · cases h
  · cases h
theorem so174 : Sp1 174 sp174 := ⟨so174_, Proofs.Tryz.f174, _, by kernel_rfl, rfl, by kernel_rfl⟩
theorem fn136 (b : Nat)  : Fn P1 gl1 136 [fV b] (.val (iV (chkS b))) true := by
  refine Fn.flat ?_ rfl
  refine fn_of false [(174, sp174)] [] h0 0 Proofs.Tryz.f136 ⟨so174, trivial⟩ trivial (by kernel_rfl) rfl (by kernel_rfl) rfl rfl rfl ?_
  rw [vc136]
  try simp only [splitB_iff, -eq_self]
  exact ⟨rfl, trivial⟩
theorem so136_ : SpecOk P1 gl1 136 sp136 := by
  intro vs ps r h _
  simp only [sp136] at h
  split at h
  · cases h; exact fn136 _ 
  · cases h
theorem so136 : Sp1 136 sp136 := ⟨so136_, Proofs.Tryz.f136, _, by kernel_rfl, rfl, by kernel_rfl⟩
theorem conv_some {b : Nat} (hb : numW b = true) : ∃ y, convF .f32 .f64 b = some y ∧ numWD y = true ∧ vWD y = vW b * ((2 ^ U2 : Nat) : Int) := by
  obtain ⟨y, h1, h2, h3, h4⟩ := conv_num hb
  obtain ⟨s, m, e, e1⟩ := num_of hb
  refine ⟨y, ?_, h3, h4⟩
  have hd : FloatKind.f32.decode b = .number s m e := e1
  rw [e1] at h1
  unfold convF
  rw [if_neg (by decide), hd]
  have h1' : FloatKind.f64.encode (.number s m e) = y := h1
  have h2' : (FloatKind.f64.decode y).isInfinity = false := h2
  simp only [h1', h2', cond_false]
theorem conv_lt {b y : Nat} (h : convF .f32 .f64 b = some y) : y < 18446744073709551616 := by
  unfold convF at h
  rw [if_neg (by decide)] at h
  split at h
  · cases h
  · cases h; exact Ieee.Format.write_lt _ _
  · rename_i g m e _
    cases hi : (FloatKind.f64.decode (FloatKind.f64.encode (.number g m e))).isInfinity with
    | true => rw [hi] at h; cases h
    | false => rw [hi] at h; cases h; exact Ieee.Format.write_lt _ _
theorem conv_inf {b : Nat} {s : Bool} (h : FloatKind.f32.decode b = .infinity s) : convF .f32 .f64 b = some (if s then 18442240474082181120 else 9218868437227405312) := by
  unfold convF
  rw [if_neg (by decide), h]
  cases s <;> rfl
theorem abs_bits {y : Nat} (h : y < 18446744073709551616) : bits .andNot .u64 (y : Int) 9223372036854775808 = ((y % 9223372036854775808 : Nat) : Int) := by
  have e1 : (~~~ (BitVec.ofInt IntKind.u64.bits 9223372036854775808)) = (9223372036854775807#64) := rfl
  have e2 : (BitVec.ofInt IntKind.u64.bits (y : Int) &&& ~~~ (BitVec.ofInt IntKind.u64.bits 9223372036854775808)).toNat = y % 9223372036854775808 := by
    rw [e1]
    show (BitVec.ofInt 64 (y : Int) &&& 9223372036854775807#64).toNat = _
    rw [BitVec.toNat_and, BitVec.ofInt_natCast, BitVec.toNat_ofNat, Nat.mod_eq_of_lt (show y < 2 ^ 64 from h)]
    show y &&& (2 ^ 63 - 1) = y % 2 ^ 63
    exact Nat.and_two_pow_sub_one_eq_mod y 63
  unfold bits
  simp only [e2]
  apply fits_wrap
  have := Nat.mod_lt y (show 9223372036854775808 > 0 by decide)
  simp only [fits]
  omega
theorem read_topD {b : Nat} {s : Bool} {m : Nat} {e : Int} (h : Ieee.double.read b = .number s m e) : e ≤ 971 := by
  unfold Ieee.Format.read at h
  simp only [double_binadeD, double_infD, double_signD, double_leastD] at h
  split at h
  · cases h; omega
  · split at h
    · cases h; omega
    · split at h <;> cases h
theorem max_gt {y : Nat} (h : numWD y = true) : (Ieee.double.order y 9218868437227405311 == some .gt) = false := by
  have hm : Ieee.double.read 9218868437227405311 = .number false 9007199254740991 971 := by decide +kernel
  rw [order_valD h (numW_ofD hm), cmp_gt]
  apply decide_eq_false
  obtain ⟨s, m, e, e1⟩ := num_ofD h
  obtain ⟨h1, h2⟩ := read_numD e1
  have h3 := read_topD e1
  rw [vW_numD hm, vW_numD e1, signed_eq, signed_eq]
  have h4 : m * 2 ^ (e + 1074).toNat ≤ 9007199254740991 * 2 ^ ((971 : Int) + 1074).toNat := Nat.mul_le_mul (by omega) (Nat.pow_le_pow_right (by decide) (by omega))
  generalize m * 2 ^ (e + 1074).toNat = p at *
  generalize 9007199254740991 * 2 ^ ((971 : Int) + 1074).toNat = q at *
  cases s <;> simp <;> omega
theorem numWD_abs {y : Nat} (h : numWD y = true) : numWD (y % 9223372036854775808) = true := by
  obtain ⟨s, m, e, e1⟩ := num_ofD h
  unfold numWD isNum
  unfold Ieee.Format.read at e1 ⊢
  simp only [double_binadeD, double_infD, double_signD, double_leastD, Nat.mod_mod] at e1 ⊢
  split at e1
  · rename_i hq; rw [if_pos hq]
  · rename_i hq
    rw [if_neg hq]
    split at e1
    · rename_i hq2; rw [if_pos hq2]
    · split at e1 <;> cases e1
theorem num_noNaN {y : Nat} (h : numWD y = true) : (FloatKind.f64.decode y).isNaN = false := by
  obtain ⟨s, m, e, e1⟩ := num_ofD h
  have e2 : FloatKind.f64.decode y = .number s m e := e1
  rw [e2]; rfl
theorem fn177 (y : Nat) (h : numWD y = true) : Fn P1 gl1 177 [.one (.flt .f64 y)] (.val (.one (.flt .f64 (flo y)))) true := by
  refine Fn.flat ?_ rfl
  refine fn_of false [] [] h0 0 Proofs.Tryz.f177 trivial trivial (by kernel_rfl) rfl (by kernel_rfl) rfl rfl rfl ?_
  rw [vc177]
  try simp only [splitB_iff, -eq_self]
  exact ⟨num_noNaN h, rfl, trivial⟩
theorem so177_ : SpecOk P1 gl1 177 sp177 := by
  intro vs ps r h hp
  simp only [sp177] at h
  split at h
  · cases h; exact fn177 _ (hp _ (.head _))
  · cases h
theorem so177 : Sp1 177 sp177 := ⟨so177_, Proofs.Tryz.f177, _, by kernel_rfl, rfl, by kernel_rfl⟩
theorem fn141 (b : Nat) (hb : (FloatKind.f32.decode b).isNaN = false) : Fn P1 gl1 141 [fV b, iV 1024] (.val (iV (chkS b))) true := by
  refine Fn.flat ?_ rfl
  refine fn_of false [(99, sp99), (177, sp177)] [fb175, fb176, fb199] h0 3 Proofs.Tryz.f141 ⟨so99, so177, trivial⟩ ⟨⟨by kernel_rfl, by kernel_rfl, _, rfl, by kernel_rfl⟩, ⟨by kernel_rfl, by kernel_rfl, _, rfl, by kernel_rfl⟩, ⟨by kernel_rfl, by kernel_rfl, _, rfl, by kernel_rfl⟩, trivial⟩ (by kernel_rfl) rfl (by kernel_rfl) rfl rfl rfl ?_
  rw [vc141]
  try simp only [splitB_iff, -eq_self]
  cases hn : numW b with
  | false =>
    rcases odd_of hn with h | ⟨s, h⟩
    · rw [h] at hb; cases hb
    · rw [chk_odd hn, conv_inf h]
      cases s
      · have k1 : (Ieee.double.order 9218868437227405312 9218868437227405312 != some Ordering.eq) = false := by decide +kernel
        have k2 : (Ieee.double.order (bits .andNot .u64 ((9218868437227405312 : Nat) : Int) 9223372036854775808).toNat 9218868437227405311 == some Ordering.gt) = true := by decide +kernel
        simp only [fmt64, Bool.false_eq_true, if_false, Option.isSome_some, Option.getD_some, k1, k2, cond_false, forall_const, true_and]
        refine ⟨fun h => (by cases h), fun h => (by cases h)⟩
      · have k1 : (Ieee.double.order 18442240474082181120 18442240474082181120 != some Ordering.eq) = false := by decide +kernel
        have k2 : (Ieee.double.order (bits .andNot .u64 ((18442240474082181120 : Nat) : Int) 9223372036854775808).toNat 9218868437227405311 == some Ordering.gt) = true := by decide +kernel
        simp only [fmt64, if_true, Option.isSome_some, Option.getD_some, k1, k2, cond_false, forall_const, true_and]
        refine ⟨fun h => (by cases h), fun h => (by cases h)⟩
  | true =>
    obtain ⟨y, c1, c2, c3⟩ := conv_some hn
    have hy : y < 18446744073709551616 := by
      exact conv_lt c1
    have k1 : (Ieee.double.order y y != some Ordering.eq) = false := by rw [order_valD c2 c2, cmp_ne]; simp
    have k2 : (Ieee.double.order (bits .andNot .u64 ((y : Nat) : Int) 9223372036854775808).toNat 9218868437227405311 == some Ordering.gt) = false := by
      rw [abs_bits hy, Int.toNat_natCast]
      exact max_gt (numWD_abs c2)
    simp only [c1, fmt64, lit_hiD, lit_loD, lt_loD c2 c3, gt_hiD c2 c3, Option.isSome_some, Option.getD_some, k1, k2, cond_false, forall_const, true_and, bcond_l, Bool.or_eq_false_iff, decide_eq_false_iff_not]
    refine ⟨?_, fun h => (by cases h)⟩
    by_cases hi : 1024 * ((2 ^ 149 : Nat) : Int) < vW b
    · refine ⟨fun h => (by cases h), fun h => absurd hi h, fun h => absurd hi h.1, fun h => absurd hi h.1, fun h => absurd hi h.1, ?_, trivial⟩
      unfold chkS
      rw [if_pos hn, if_pos (.inl hi), decide_eq_true hi]
      rfl
    · by_cases lo : vW b < -1024 * ((2 ^ 149 : Nat) : Int)
      · refine ⟨fun h => (by cases h), fun _ => (by simp only [fits]; omega), fun h => absurd lo h.2, fun h => absurd lo h.2, fun h => absurd lo h.2, ?_, trivial⟩
        unfold chkS
        rw [if_pos hn, if_pos (.inr lo), decide_eq_true lo, Bool.or_true, Bool.true_or]
        rfl
      · obtain ⟨z, e1, e2, e3⟩ := in_stepD c2 c3 lo hi
        simp only [e1, Option.isSome_some, Option.getD_some]
        refine ⟨fun h => (by cases h), fun _ => (by simp only [fits]; omega), fun _ => trivial, fun _ => trivial, fun _ => e2, ?_, trivial⟩
        unfold chkS
        rw [if_pos hn, if_neg (fun h => h.elim hi lo), decide_eq_false hi, decide_eq_false lo, Bool.false_or, Bool.false_or, e3]
        unfold whenE
        by_cases hq : 16 * vW b = six b * ((2 ^ 149 : Nat) : Int)
        · rw [if_pos hq, decide_eq_false (p := ¬ 16 * vW b = six b * ((2 ^ 149 : Nat) : Int)) (fun h => h hq)]; rfl
        · rw [if_neg hq, decide_eq_true (p := ¬ 16 * vW b = six b * ((2 ^ 149 : Nat) : Int)) hq]; rfl
theorem fn141b   : Fn P1 gl1 141 [.one (.odd .f32 none), iV 1024] (.val (iV 1)) true := by
  refine Fn.flat ?_ rfl
  refine fn_of false [(99, sp99), (177, sp177)] [fb175, fb176, fb199] h0 3 Proofs.Tryz.f141 ⟨so99, so177, trivial⟩ ⟨⟨by kernel_rfl, by kernel_rfl, _, rfl, by kernel_rfl⟩, ⟨by kernel_rfl, by kernel_rfl, _, rfl, by kernel_rfl⟩, ⟨by kernel_rfl, by kernel_rfl, _, rfl, by kernel_rfl⟩, trivial⟩ (by kernel_rfl) rfl (by kernel_rfl) rfl rfl rfl ?_
  rw [vc141b ()]
  try simp only [splitB_iff, -eq_self]
  simp
theorem fn141a (b : Nat) : Fn P1 gl1 141 [fV b, iV 1024] (.val (iV (chkS b))) true := by
  cases hb : (FloatKind.f32.decode b).isNaN with
  | false => exact fn141 b hb
  | true =>
    have hn : numW b = false := by
      cases hn : numW b with
      | false => rfl
      | true =>
        obtain ⟨s, m, e, e1⟩ := num_of hn
        have e2 : FloatKind.f32.decode b = .number s m e := e1
        rw [e2] at hb; cases hb
    rw [chk_odd hn]
    exact Fn.args fn141b fun H vs d => by
      obtain ⟨v, r, rfl, hv, hr⟩ := d
      exact ⟨v, r, rfl, ⟨b, hv, hb⟩, hr⟩
theorem so141_ : SpecOk P1 gl1 141 sp141 := by
  intro vs ps r h hp
  simp only [sp141] at h
  split at h
  · split at h
    · rename_i e
      subst e
      cases h
      exact fn141a _
    · cases h
  · cases h
theorem so141 : Sp1 141 sp141 := ⟨so141_, Proofs.Tryz.f141, _, by kernel_rfl, rfl, by kernel_rfl⟩
theorem fn69 (b : Nat)  : Fn P1 gl1 69 [fV b] (.val (iV (chkS b))) true := by
  refine Fn.flat ?_ rfl
  refine fn_of false [(141, sp141)] [] h0 0 Proofs.Tryz.f69 ⟨so141, trivial⟩ trivial (by kernel_rfl) rfl (by kernel_rfl) rfl rfl rfl ?_
  rw [vc69]
  try simp only [splitB_iff, -eq_self]
  exact ⟨rfl, trivial⟩
theorem so69_ : SpecOk P1 gl1 69 sp69 := by
  intro vs ps r h _
  simp only [sp69] at h
  split at h
  · cases h; exact fn69 _ 
  · cases h
theorem so69 : Sp1 69 sp69 := ⟨so69_, Proofs.Tryz.f69, _, by kernel_rfl, rfl, by kernel_rfl⟩
theorem fn137 (b : Nat) (hb : chkS b = 0) : Fn P1 gl1 137 [fV b] (.val (iV (six b))) true := by
  refine Fn.flat ?_ rfl
  refine fn_of false [] [] h0 0 Proofs.Tryz.f137 trivial trivial (by kernel_rfl) rfl (by kernel_rfl) rfl rfl rfl ?_
  rw [vc137]
  try simp only [splitB_iff, -eq_self]
  obtain ⟨y, e1, e2, e3⟩ := six_step hb
  have e2' : Ieee.Datum.toInt .zero (FloatKind.decode .f32 y) = some (six b) := e2
  simp only [fmt32, e1, e2', Option.isSome_some, Option.getD_some]
  refine ⟨trivial, ⟨trivial, ?_, ?_⟩, trivial, trivial⟩
  · show (-9223372036854775808 : Int) ≤ _; omega
  · show _ ≤ (9223372036854775807 : Int); omega
theorem so137_ : SpecOk P1 gl1 137 sp137 := by
  intro vs ps r h hp
  simp only [sp137] at h
  split at h
  · cases h; exact fn137 _ (hp _ (.head _))
  · cases h
theorem so137 : Sp1 137 sp137 := ⟨so137_, Proofs.Tryz.f137, _, by kernel_rfl, rfl, by kernel_rfl⟩
theorem fn110 (n : Int) (hb : -8388608 ≤ n ∧ n ≤ 8388608) : Fn P1 gl1 110 [iV n] (.val (fV (smp n))) true := by
  refine Fn.flat ?_ rfl
  refine fn_of false [] [] h0 0 Proofs.Tryz.f110 trivial trivial (by kernel_rfl) rfl (by kernel_rfl) rfl rfl rfl ?_
  rw [vc110]
  try simp only [splitB_iff, -eq_self]
  obtain ⟨e1, e2, e3⟩ := smp_num (n := n) (by omega)
  have e1' : Ieee.Format.div Ieee.single (FloatKind.nearest .f32 n) 1098907648 = some (smp n) := e1
  simp only [fmt32, e1', Option.isSome_some, Option.getD_some]
  exact ⟨trivial, trivial, trivial⟩
theorem so110_ : SpecOk P1 gl1 110 sp110 := by
  intro vs ps r h hp
  simp only [sp110] at h
  split at h
  · cases h; exact fn110 _ (hp _ (.head _))
  · cases h
theorem so110 : Sp1 110 sp110 := ⟨so110_, Proofs.Tryz.f110, _, by kernel_rfl, rfl, by kernel_rfl⟩
end Go.Sx
