/- A verified symbolic run of functions, part 16: lemmas, no claim of their own. -/
import Derived.Test.YtjbfcdgbjgjliaaGreatDoorS15
/- What the engine asks, written out (printed by a program). -/
namespace Go.Sx
open U
theorem vc93 (_u : Unit) : exFr (env false [] []) h0 0 93 Proofs.Tryz.f93 [] (.val (ptV [1092616192, 1101004800, 1092616192, 1101004800] [1077936128] [3221225472])) = ([(1092616192 : Nat), (1101004800 : Nat), (1092616192 : Nat), (1101004800 : Nat)] = [(1092616192 : Nat), (1101004800 : Nat), (1092616192 : Nat), (1101004800 : Nat)] ∧ [(1077936128 : Nat)] = [(1077936128 : Nat)] ∧ [(3221225472 : Nat)] = [(3221225472 : Nat)] ∧ True) := by
  kernel_rfl
theorem vc94 (_u : Unit) : exFr (env false [] []) h0 0 94 Proofs.Tryz.f94 [] (.val (ptV [1092616192, 1101004800, 1096810496, 1101004800] [1077936128] [3221225472])) = ([(1092616192 : Nat), (1101004800 : Nat), (1096810496 : Nat), (1101004800 : Nat)] = [(1092616192 : Nat), (1101004800 : Nat), (1096810496 : Nat), (1101004800 : Nat)] ∧ [(1077936128 : Nat)] = [(1077936128 : Nat)] ∧ [(3221225472 : Nat)] = [(3221225472 : Nat)] ∧ True) := by
  kernel_rfl
theorem vc19 (_u : Unit) : exF (env false [(93, sp93), (94, sp94), (46, sp46), (20, sp20h), (33, sp33h), (43, sp43h), (57, sp57h), (58, sp58h), (47, sp47h), (48, sp48h), (62, sp62h), (63, sp63h), (67, sp67h), (68, sp68h), (72, sp72h), (74, sp74h), (75, sp75h), (88, sp88h), (27, sp27h), (45, sp45h)] []) h0 0 19 Proofs.Tryz.f19 [] (.val (bV true)) = ((0 : Int) = (0 : Int) ∧ [(1092616192 : Nat), (1101004800 : Nat), (1092616192 : Nat), (1101004800 : Nat)] = [(1092616192 : Nat), (1101004800 : Nat), (1092616192 : Nat), (1101004800 : Nat)] ∧ [(1077936128 : Nat)] = [(1077936128 : Nat)] ∧ [(3221225472 : Nat)] = [(3221225472 : Nat)] ∧ (1 : Int) = (1 : Int) ∧ [(1092616192 : Nat), (1101004800 : Nat), (1092616192 : Nat), (1101004800 : Nat)] = [(1092616192 : Nat), (1101004800 : Nat), (1092616192 : Nat), (1101004800 : Nat)] ∧ [(1077936128 : Nat)] = [(1077936128 : Nat)] ∧ [(3221225472 : Nat)] = [(3221225472 : Nat)] ∧ [(1095761920 : Nat), (1099956224 : Nat), (1088421888 : Nat), (1102053376 : Nat)] = [(1095761920 : Nat), (1099956224 : Nat), (1088421888 : Nat), (1102053376 : Nat)] ∧ [(1095761920 : Nat), (1099956224 : Nat), (1088421888 : Nat), (1102053376 : Nat)] = [(1095761920 : Nat), (1099956224 : Nat), (1088421888 : Nat), (1102053376 : Nat)] ∧ (0 : Int) = (0 : Int) ∧ [(1095761920 : Nat), (1099956224 : Nat), (1093664768 : Nat), (1102053376 : Nat)] = [(1095761920 : Nat), (1099956224 : Nat), (1093664768 : Nat), (1102053376 : Nat)] ∧ (0 : Int) = (0 : Int) ∧ [(1092616192 : Nat), (1101004800 : Nat), (1096810496 : Nat), (1101004800 : Nat)] = [(1092616192 : Nat), (1101004800 : Nat), (1096810496 : Nat), (1101004800 : Nat)] ∧ [(1077936128 : Nat)] = [(1077936128 : Nat)] ∧ [(3221225472 : Nat)] = [(3221225472 : Nat)] ∧ [(1092616192 : Nat), (1101004800 : Nat), (1096810496 : Nat), (1101004800 : Nat)] = [(1092616192 : Nat), (1101004800 : Nat), (1096810496 : Nat), (1101004800 : Nat)] ∧ [(1077936128 : Nat)] = [(1077936128 : Nat)] ∧ [(3221225472 : Nat)] = [(3221225472 : Nat)] ∧ [(1094713344 : Nat), (1101004800 : Nat), (1094713344 : Nat), (1101004800 : Nat)] = [(1094713344 : Nat), (1101004800 : Nat), (1094713344 : Nat), (1101004800 : Nat)] ∧ [(1065353216 : Nat)] = [(1065353216 : Nat)] ∧ [(3221225472 : Nat)] = [(3221225472 : Nat)] ∧ fits IntKind.i64 (0 : Int) ∧ fits IntKind.i64 (0 : Int) ∧ fits IntKind.i64 (0 : Int) ∧ fits IntKind.i64 (0 : Int) ∧ fits IntKind.i64 (0 : Int) ∧ fits IntKind.i64 (0 : Int) ∧ (((0 : Int) != (0 : Int)) = false → chkSs [(1095761920 : Nat), (1099956224 : Nat), (1088421888 : Nat), (1102053376 : Nat)] = (0 : Int)) ∧ (((0 : Int) != (0 : Int)) = false → (4 : Nat) ≤ (1000000000 : Nat)) ∧ ((bif (0 : Int) != (0 : Int) then true else !true) = false → chkSs [(1088421888 : Nat), (1102053376 : Nat), (1095761920 : Nat), (1099956224 : Nat)] = (0 : Int)) ∧ ((bif (0 : Int) != (0 : Int) then true else !true) = false → (4 : Nat) ≤ (1000000000 : Nat)) ∧ ((bif bif bif (0 : Int) != (0 : Int) then true else !true then true else !true then true else (1 : Int) != (1 : Int)) = false → (0 : Int) ≤ (0 : Int) ∧ (0 : Int) < (1 : Int)) ∧ ((bif bif bif (0 : Int) != (0 : Int) then true else !true then true else !true then true else (1 : Int) != (1 : Int)) = false → (0 : Nat) < (1 : Nat)) ∧ ((bif bif bif bif (0 : Int) != (0 : Int) then true else !true then true else !true then true else (1 : Int) != (1 : Int) then true else !eqT (Ty.arr (4 : Nat) (Ty.cpx FloatKind.f32)) [((1114636288 : Nat), (0 : Nat)), ((1086324736 : Nat), (1082130432 : Nat)), ((3248488448 : Nat), (0 : Nat)), ((1086324736 : Nat), (3229614080 : Nat))] [((1114636288 : Nat), (0 : Nat)), ((1086324736 : Nat), (1082130432 : Nat)), ((3248488448 : Nat), (0 : Nat)), ((1086324736 : Nat), (3229614080 : Nat))]) = false → chkSs [(1092616192 : Nat), (1101004800 : Nat), (1092616192 : Nat), (1101004800 : Nat)] = (0 : Int)) ∧ ((bif bif bif bif (0 : Int) != (0 : Int) then true else !true then true else !true then true else (1 : Int) != (1 : Int) then true else !eqT (Ty.arr (4 : Nat) (Ty.cpx FloatKind.f32)) [((1114636288 : Nat), (0 : Nat)), ((1086324736 : Nat), (1082130432 : Nat)), ((3248488448 : Nat), (0 : Nat)), ((1086324736 : Nat), (3229614080 : Nat))] [((1114636288 : Nat), (0 : Nat)), ((1086324736 : Nat), (1082130432 : Nat)), ((3248488448 : Nat), (0 : Nat)), ((1086324736 : Nat), (3229614080 : Nat))]) = false → (4 : Nat) ≤ (1000000000 : Nat)) ∧ ((bif bif bif bif (0 : Int) != (0 : Int) then true else !true then true else !true then true else (1 : Int) != (1 : Int) then true else !eqT (Ty.arr (4 : Nat) (Ty.cpx FloatKind.f32)) [((1114636288 : Nat), (0 : Nat)), ((1086324736 : Nat), (1082130432 : Nat)), ((3248488448 : Nat), (0 : Nat)), ((1086324736 : Nat), (3229614080 : Nat))] [((1114636288 : Nat), (0 : Nat)), ((1086324736 : Nat), (1082130432 : Nat)), ((3248488448 : Nat), (0 : Nat)), ((1086324736 : Nat), (3229614080 : Nat))]) = false → chkSs [(1077936128 : Nat)] = (0 : Int)) ∧ ((bif bif bif bif (0 : Int) != (0 : Int) then true else !true then true else !true then true else (1 : Int) != (1 : Int) then true else !eqT (Ty.arr (4 : Nat) (Ty.cpx FloatKind.f32)) [((1114636288 : Nat), (0 : Nat)), ((1086324736 : Nat), (1082130432 : Nat)), ((3248488448 : Nat), (0 : Nat)), ((1086324736 : Nat), (3229614080 : Nat))] [((1114636288 : Nat), (0 : Nat)), ((1086324736 : Nat), (1082130432 : Nat)), ((3248488448 : Nat), (0 : Nat)), ((1086324736 : Nat), (3229614080 : Nat))]) = false → (1 : Nat) ≤ (1000000000 : Nat)) ∧ ((bif bif bif bif (0 : Int) != (0 : Int) then true else !true then true else !true then true else (1 : Int) != (1 : Int) then true else !eqT (Ty.arr (4 : Nat) (Ty.cpx FloatKind.f32)) [((1114636288 : Nat), (0 : Nat)), ((1086324736 : Nat), (1082130432 : Nat)), ((3248488448 : Nat), (0 : Nat)), ((1086324736 : Nat), (3229614080 : Nat))] [((1114636288 : Nat), (0 : Nat)), ((1086324736 : Nat), (1082130432 : Nat)), ((3248488448 : Nat), (0 : Nat)), ((1086324736 : Nat), (3229614080 : Nat))]) = false → chkSs [(3221225472 : Nat)] = (0 : Int)) ∧ ((bif bif bif bif (0 : Int) != (0 : Int) then true else !true then true else !true then true else (1 : Int) != (1 : Int) then true else !eqT (Ty.arr (4 : Nat) (Ty.cpx FloatKind.f32)) [((1114636288 : Nat), (0 : Nat)), ((1086324736 : Nat), (1082130432 : Nat)), ((3248488448 : Nat), (0 : Nat)), ((1086324736 : Nat), (3229614080 : Nat))] [((1114636288 : Nat), (0 : Nat)), ((1086324736 : Nat), (1082130432 : Nat)), ((3248488448 : Nat), (0 : Nat)), ((1086324736 : Nat), (3229614080 : Nat))]) = false → (1 : Nat) ≤ (1000000000 : Nat)) ∧ ((bif bif bif bif bif (0 : Int) != (0 : Int) then true else !true then true else !true then true else (1 : Int) != (1 : Int) then true else !eqT (Ty.arr (4 : Nat) (Ty.cpx FloatKind.f32)) [((1114636288 : Nat), (0 : Nat)), ((1086324736 : Nat), (1082130432 : Nat)), ((3248488448 : Nat), (0 : Nat)), ((1086324736 : Nat), (3229614080 : Nat))] [((1114636288 : Nat), (0 : Nat)), ((1086324736 : Nat), (1082130432 : Nat)), ((3248488448 : Nat), (0 : Nat)), ((1086324736 : Nat), (3229614080 : Nat))] then true else !true) = false → chkSs [(1094713344 : Nat), (1101004800 : Nat), (1094713344 : Nat), (1101004800 : Nat)] = (0 : Int)) ∧ ((bif bif bif bif bif (0 : Int) != (0 : Int) then true else !true then true else !true then true else (1 : Int) != (1 : Int) then true else !eqT (Ty.arr (4 : Nat) (Ty.cpx FloatKind.f32)) [((1114636288 : Nat), (0 : Nat)), ((1086324736 : Nat), (1082130432 : Nat)), ((3248488448 : Nat), (0 : Nat)), ((1086324736 : Nat), (3229614080 : Nat))] [((1114636288 : Nat), (0 : Nat)), ((1086324736 : Nat), (1082130432 : Nat)), ((3248488448 : Nat), (0 : Nat)), ((1086324736 : Nat), (3229614080 : Nat))] then true else !true) = false → (4 : Nat) ≤ (1000000000 : Nat)) ∧ ((bif bif bif bif bif (0 : Int) != (0 : Int) then true else !true then true else !true then true else (1 : Int) != (1 : Int) then true else !eqT (Ty.arr (4 : Nat) (Ty.cpx FloatKind.f32)) [((1114636288 : Nat), (0 : Nat)), ((1086324736 : Nat), (1082130432 : Nat)), ((3248488448 : Nat), (0 : Nat)), ((1086324736 : Nat), (3229614080 : Nat))] [((1114636288 : Nat), (0 : Nat)), ((1086324736 : Nat), (1082130432 : Nat)), ((3248488448 : Nat), (0 : Nat)), ((1086324736 : Nat), (3229614080 : Nat))] then true else !true) = false → chkSs [(1065353216 : Nat)] = (0 : Int)) ∧ ((bif bif bif bif bif (0 : Int) != (0 : Int) then true else !true then true else !true then true else (1 : Int) != (1 : Int) then true else !eqT (Ty.arr (4 : Nat) (Ty.cpx FloatKind.f32)) [((1114636288 : Nat), (0 : Nat)), ((1086324736 : Nat), (1082130432 : Nat)), ((3248488448 : Nat), (0 : Nat)), ((1086324736 : Nat), (3229614080 : Nat))] [((1114636288 : Nat), (0 : Nat)), ((1086324736 : Nat), (1082130432 : Nat)), ((3248488448 : Nat), (0 : Nat)), ((1086324736 : Nat), (3229614080 : Nat))] then true else !true) = false → (1 : Nat) ≤ (1000000000 : Nat)) ∧ ((bif bif bif bif bif (0 : Int) != (0 : Int) then true else !true then true else !true then true else (1 : Int) != (1 : Int) then true else !eqT (Ty.arr (4 : Nat) (Ty.cpx FloatKind.f32)) [((1114636288 : Nat), (0 : Nat)), ((1086324736 : Nat), (1082130432 : Nat)), ((3248488448 : Nat), (0 : Nat)), ((1086324736 : Nat), (3229614080 : Nat))] [((1114636288 : Nat), (0 : Nat)), ((1086324736 : Nat), (1082130432 : Nat)), ((3248488448 : Nat), (0 : Nat)), ((1086324736 : Nat), (3229614080 : Nat))] then true else !true) = false → chkSs [(3221225472 : Nat)] = (0 : Int)) ∧ ((bif bif bif bif bif (0 : Int) != (0 : Int) then true else !true then true else !true then true else (1 : Int) != (1 : Int) then true else !eqT (Ty.arr (4 : Nat) (Ty.cpx FloatKind.f32)) [((1114636288 : Nat), (0 : Nat)), ((1086324736 : Nat), (1082130432 : Nat)), ((3248488448 : Nat), (0 : Nat)), ((1086324736 : Nat), (3229614080 : Nat))] [((1114636288 : Nat), (0 : Nat)), ((1086324736 : Nat), (1082130432 : Nat)), ((3248488448 : Nat), (0 : Nat)), ((1086324736 : Nat), (3229614080 : Nat))] then true else !true) = false → (1 : Nat) ≤ (1000000000 : Nat)) ∧ [[(1095761920 : Nat), (1099956224 : Nat), (1093664768 : Nat), (1102053376 : Nat)], [(1088421888 : Nat), (1102053376 : Nat), (1099431936 : Nat), (1099956224 : Nat)]] = [[(1095761920 : Nat), (1099956224 : Nat), (1093664768 : Nat), (1102053376 : Nat)], [(1088421888 : Nat), (1102053376 : Nat), (1099431936 : Nat), (1099956224 : Nat)]] ∧ (0 : Int) = (0 : Int) ∧ [[(1095761920 : Nat), (1099956224 : Nat), (1093664768 : Nat), (1102053376 : Nat)], [(1088421888 : Nat), (1102577664 : Nat), (1100480512 : Nat), (1100480512 : Nat)], [(1099431936 : Nat), (1101004800 : Nat), (1093664768 : Nat), (1103101952 : Nat)]] = [[(1095761920 : Nat), (1099956224 : Nat), (1093664768 : Nat), (1102053376 : Nat)], [(1088421888 : Nat), (1102577664 : Nat), (1100480512 : Nat), (1100480512 : Nat)], [(1099431936 : Nat), (1101004800 : Nat), (1093664768 : Nat), (1103101952 : Nat)]] ∧ (1 : Int) = (1 : Int) ∧ [(0 : Nat), (1084227584 : Nat), (0 : Nat), (3231711232 : Nat)] = [(0 : Nat), (1084227584 : Nat), (0 : Nat), (3231711232 : Nat)] ∧ [(0 : Nat), (1084227584 : Nat), (0 : Nat), (3231711232 : Nat)] = [(0 : Nat), (1084227584 : Nat), (0 : Nat), (3231711232 : Nat)] ∧ (160 : Int) = (160 : Int) ∧ [(1065353216 : Nat), (1073741824 : Nat), (1077936128 : Nat), (1082130432 : Nat), (1084227584 : Nat), (1086324736 : Nat), (1088421888 : Nat), (1090519040 : Nat)] = [(1065353216 : Nat), (1073741824 : Nat), (1077936128 : Nat), (1082130432 : Nat), (1084227584 : Nat), (1086324736 : Nat), (1088421888 : Nat), (1090519040 : Nat)] ∧ (1 : Int) = (1 : Int) ∧ [(1077936128 : Nat), (1084227584 : Nat), (1088421888 : Nat), (1091567616 : Nat)] = [(1077936128 : Nat), (1084227584 : Nat), (1088421888 : Nat), (1091567616 : Nat)] ∧ (0 : Int) = (0 : Int) ∧ (2 : Int) = (2 : Int) ∧ (1065353216 : Nat) = (1065353216 : Nat) ∧ [(1 : Int), (0 : Int), (-1 : Int)] = [(1 : Int), (0 : Int), (-1 : Int)] ∧ [(1065353216 : Nat), (1073741824 : Nat), (1082130432 : Nat), (1090519040 : Nat)] = [(1065353216 : Nat), (1073741824 : Nat), (1082130432 : Nat), (1090519040 : Nat)] ∧ [(1 : Int), (0 : Int), (-1 : Int)] = [(1 : Int), (0 : Int), (-1 : Int)] ∧ [(1065353216 : Nat), (1073741824 : Nat), (1082130432 : Nat), (1090519040 : Nat)] = [(1065353216 : Nat), (1073741824 : Nat), (1082130432 : Nat), (1090519040 : Nat)] ∧ [(1 : Int), (0 : Int), (-1 : Int)] = [(1 : Int), (0 : Int), (-1 : Int)] ∧ [(1092616192 : Nat), (1101004800 : Nat), (1092616192 : Nat), (1101004800 : Nat)] = [(1092616192 : Nat), (1101004800 : Nat), (1092616192 : Nat), (1101004800 : Nat)] ∧ [(1077936128 : Nat)] = [(1077936128 : Nat)] ∧ [(3221225472 : Nat)] = [(3221225472 : Nat)] ∧ fits IntKind.i64 (0 : Int) ∧ fits IntKind.i64 (0 : Int) ∧ fits IntKind.i64 (0 : Int) ∧ fits IntKind.i64 (0 : Int) ∧ fits IntKind.i64 (0 : Int) ∧ fits IntKind.i64 (0 : Int) ∧ fits IntKind.i64 (0 : Int) ∧ fits IntKind.i64 (0 : Int) ∧ fits IntKind.i64 (0 : Int) ∧ (((0 : Int) == (0 : Int)) = true → chkSs [(1092616192 : Nat), (1101004800 : Nat), (1096810496 : Nat), (1101004800 : Nat)] = (0 : Int)) ∧ (((0 : Int) == (0 : Int)) = true → (4 : Nat) ≤ (1000000000 : Nat)) ∧ (((0 : Int) == (0 : Int)) = true → chkSs [(1077936128 : Nat)] = (0 : Int)) ∧ (((0 : Int) == (0 : Int)) = true → (1 : Nat) ≤ (1000000000 : Nat)) ∧ (((0 : Int) == (0 : Int)) = true → chkSs [(3221225472 : Nat)] = (0 : Int)) ∧ (((0 : Int) == (0 : Int)) = true → (1 : Nat) ≤ (1000000000 : Nat)) ∧ ((bif (0 : Int) == (0 : Int) then true else false) = true → chkSs [(1093664768 : Nat), (1101529088 : Nat), (1097859072 : Nat), (1101529088 : Nat)] = (0 : Int)) ∧ ((bif (0 : Int) == (0 : Int) then true else false) = true → (4 : Nat) ≤ (1000000000 : Nat)) ∧ ((bif (0 : Int) == (0 : Int) then true else false) = true → chkSs [(1082130432 : Nat)] = (0 : Int)) ∧ ((bif (0 : Int) == (0 : Int) then true else false) = true → (1 : Nat) ≤ (1000000000 : Nat)) ∧ ((bif (0 : Int) == (0 : Int) then true else false) = true → chkSs [(3221225472 : Nat)] = (0 : Int)) ∧ ((bif (0 : Int) == (0 : Int) then true else false) = true → (1 : Nat) ≤ (1000000000 : Nat)) ∧ ((bif bif bif bif (0 : Int) == (0 : Int) then true else false then true else false then eqT (Ty.pair (Ty.int IntKind.i64) (Ty.int IntKind.i64)) ((0 : Int), (160 : Int)) ((0 : Int), (160 : Int)) else false then (1 : Int) == (1 : Int) else false) = true → chkSs [(1073741824 : Nat), (1077936128 : Nat), (1082130432 : Nat), (1084227584 : Nat)] = (0 : Int)) ∧ ((bif bif bif bif (0 : Int) == (0 : Int) then true else false then true else false then eqT (Ty.pair (Ty.int IntKind.i64) (Ty.int IntKind.i64)) ((0 : Int), (160 : Int)) ((0 : Int), (160 : Int)) else false then (1 : Int) == (1 : Int) else false) = true → (4 : Nat) ≤ (1000000000 : Nat)) ∧ ((bif bif bif bif bif (0 : Int) == (0 : Int) then true else false then true else false then eqT (Ty.pair (Ty.int IntKind.i64) (Ty.int IntKind.i64)) ((0 : Int), (160 : Int)) ((0 : Int), (160 : Int)) else false then (1 : Int) == (1 : Int) else false then true else false) = true → chkSs [(0 : Nat), (1073741824 : Nat), (1082130432 : Nat), (1086324736 : Nat)] = (0 : Int)) ∧ ((bif bif bif bif bif (0 : Int) == (0 : Int) then true else false then true else false then eqT (Ty.pair (Ty.int IntKind.i64) (Ty.int IntKind.i64)) ((0 : Int), (160 : Int)) ((0 : Int), (160 : Int)) else false then (1 : Int) == (1 : Int) else false then true else false) = true → (4 : Nat) ≤ (1000000000 : Nat)) ∧ ((bif bif bif bif bif bif bif (0 : Int) == (0 : Int) then true else false then true else false then eqT (Ty.pair (Ty.int IntKind.i64) (Ty.int IntKind.i64)) ((0 : Int), (160 : Int)) ((0 : Int), (160 : Int)) else false then (1 : Int) == (1 : Int) else false then true else false then true else false then eqT (Ty.arr (4 : Nat) (Ty.cpx FloatKind.f64)) [((0 : Nat), (0 : Nat)), ((4611686018427387904 : Nat), (0 : Nat)), ((0 : Nat), (0 : Nat)), ((4611686018427387904 : Nat), (0 : Nat))] [((0 : Nat), (0 : Nat)), ((4611686018427387904 : Nat), (0 : Nat)), ((0 : Nat), (0 : Nat)), ((4611686018427387904 : Nat), (0 : Nat))] else false) = true → chkSs [(1065353216 : Nat), (1073741824 : Nat), (1077936128 : Nat), (1086324736 : Nat)] = (0 : Int)) ∧ ((bif bif bif bif bif bif bif (0 : Int) == (0 : Int) then true else false then true else false then eqT (Ty.pair (Ty.int IntKind.i64) (Ty.int IntKind.i64)) ((0 : Int), (160 : Int)) ((0 : Int), (160 : Int)) else false then (1 : Int) == (1 : Int) else false then true else false then true else false then eqT (Ty.arr (4 : Nat) (Ty.cpx FloatKind.f64)) [((0 : Nat), (0 : Nat)), ((4611686018427387904 : Nat), (0 : Nat)), ((0 : Nat), (0 : Nat)), ((4611686018427387904 : Nat), (0 : Nat))] [((0 : Nat), (0 : Nat)), ((4611686018427387904 : Nat), (0 : Nat)), ((0 : Nat), (0 : Nat)), ((4611686018427387904 : Nat), (0 : Nat))] else false) = true → (4 : Nat) ≤ (1000000000 : Nat)) ∧ ((bif bif bif bif bif bif bif bif (0 : Int) == (0 : Int) then true else false then true else false then eqT (Ty.pair (Ty.int IntKind.i64) (Ty.int IntKind.i64)) ((0 : Int), (160 : Int)) ((0 : Int), (160 : Int)) else false then (1 : Int) == (1 : Int) else false then true else false then true else false then eqT (Ty.arr (4 : Nat) (Ty.cpx FloatKind.f64)) [((0 : Nat), (0 : Nat)), ((4611686018427387904 : Nat), (0 : Nat)), ((0 : Nat), (0 : Nat)), ((4611686018427387904 : Nat), (0 : Nat))] [((0 : Nat), (0 : Nat)), ((4611686018427387904 : Nat), (0 : Nat)), ((0 : Nat), (0 : Nat)), ((4611686018427387904 : Nat), (0 : Nat))] else false then true else false) = true → chkSs [(3225419776 : Nat), (3233808384 : Nat), (1082130432 : Nat), (1090519040 : Nat)] = (0 : Int)) ∧ ((bif bif bif bif bif bif bif bif (0 : Int) == (0 : Int) then true else false then true else false then eqT (Ty.pair (Ty.int IntKind.i64) (Ty.int IntKind.i64)) ((0 : Int), (160 : Int)) ((0 : Int), (160 : Int)) else false then (1 : Int) == (1 : Int) else false then true else false then true else false then eqT (Ty.arr (4 : Nat) (Ty.cpx FloatKind.f64)) [((0 : Nat), (0 : Nat)), ((4611686018427387904 : Nat), (0 : Nat)), ((0 : Nat), (0 : Nat)), ((4611686018427387904 : Nat), (0 : Nat))] [((0 : Nat), (0 : Nat)), ((4611686018427387904 : Nat), (0 : Nat)), ((0 : Nat), (0 : Nat)), ((4611686018427387904 : Nat), (0 : Nat))] else false then true else false) = true → (4 : Nat) ≤ (1000000000 : Nat)) ∧ (bif bif bif bif bif bif bif bif bif bif (0 : Int) == (0 : Int) then true else false then true else false then eqT (Ty.pair (Ty.int IntKind.i64) (Ty.int IntKind.i64)) ((0 : Int), (160 : Int)) ((0 : Int), (160 : Int)) else false then (1 : Int) == (1 : Int) else false then true else false then true else false then eqT (Ty.arr (4 : Nat) (Ty.cpx FloatKind.f64)) [((0 : Nat), (0 : Nat)), ((4611686018427387904 : Nat), (0 : Nat)), ((0 : Nat), (0 : Nat)), ((4611686018427387904 : Nat), (0 : Nat))] [((0 : Nat), (0 : Nat)), ((4611686018427387904 : Nat), (0 : Nat)), ((0 : Nat), (0 : Nat)), ((4611686018427387904 : Nat), (0 : Nat))] else false then true else false then true else false then [(108 : UInt8), (117 : UInt8), (109 : UInt8), (97 : UInt8), (32 : UInt8), (49 : UInt8), (54 : UInt8), (48 : UInt8), (32 : UInt8), (51 : UInt8), (50 : UInt8), (48 : UInt8), (32 : UInt8), (49 : UInt8), (54 : UInt8), (48 : UInt8), (32 : UInt8), (51 : UInt8), (50 : UInt8), (48 : UInt8), (10 : UInt8), (117 : UInt8), (32 : UInt8), (52 : UInt8), (56 : UInt8), (10 : UInt8), (118 : UInt8), (32 : UInt8), (45 : UInt8), (51 : UInt8), (50 : UInt8), (10 : UInt8)] == Array.toList (ByteArray.data { data := #[(108 : UInt8), (117 : UInt8), (109 : UInt8), (97 : UInt8), (32 : UInt8), (49 : UInt8), (54 : UInt8), (48 : UInt8), (32 : UInt8), (51 : UInt8), (50 : UInt8), (48 : UInt8), (32 : UInt8), (49 : UInt8), (54 : UInt8), (48 : UInt8), (32 : UInt8), (51 : UInt8), (50 : UInt8), (48 : UInt8), (10 : UInt8), (117 : UInt8), (32 : UInt8), (52 : UInt8), (56 : UInt8), (10 : UInt8), (118 : UInt8), (32 : UInt8), (45 : UInt8), (51 : UInt8), (50 : UInt8), (10 : UInt8)] }) else false) = true ∧ True) := by
  kernel_rfl
end Go.Sx

/- Contracts. -/
namespace Go.Sx
open U
theorem c20a : Fn P1 gl1 20 [ptV [1092616192, 1101004800, 1092616192, 1101004800] [1077936128] [3221225472], iV 0] (.tup [.one (.frs (.flt .f32) [1095761920, 1099956224, 1088421888, 1102053376]), iV 0]) true := by
  have h := fn20 [1092616192, 1101004800, 1092616192, 1101004800] [1077936128] [3221225472] 0 (by decide)
  rw [show encL [1092616192, 1101004800, 1092616192, 1101004800] [1077936128] [3221225472] 0 = [1095761920, 1099956224, 1088421888, 1102053376] from by decide +kernel, show encE [1092616192, 1101004800, 1092616192, 1101004800] [1077936128] [3221225472] 0 = 0 from by decide +kernel] at h
  exact h
theorem c20b : Fn P1 gl1 20 [ptV [1092616192, 1101004800, 1092616192, 1101004800] [1077936128] [3221225472], iV 1] (.tup [.one (.frs (.flt .f32) [1088421888, 1102053376, 1095761920, 1099956224]), iV 0]) true := by
  have h := fn20 [1092616192, 1101004800, 1092616192, 1101004800] [1077936128] [3221225472] 1 (by decide)
  rw [show encL [1092616192, 1101004800, 1092616192, 1101004800] [1077936128] [3221225472] 1 = [1088421888, 1102053376, 1095761920, 1099956224] from by decide +kernel, show encE [1092616192, 1101004800, 1092616192, 1101004800] [1077936128] [3221225472] 1 = 0 from by decide +kernel] at h
  exact h
theorem so20h_ : SpecOk P1 gl1 20 sp20h := by
  intro vs ps r h hp
  simp only [sp20h] at h
  split at h
  · split at h
    · cases h
      have q0 := hp _ (.head _)
      have q1 := hp _ (.tail _ (.head _))
      have q2 := hp _ (.tail _ (.tail _ (.head _)))
      have q3 := hp _ (.tail _ (.tail _ (.tail _ (.head _))))
      subst q0 q1 q2 q3
      exact c20a
    · cases h
      have q0 := hp _ (.head _)
      have q1 := hp _ (.tail _ (.head _))
      have q2 := hp _ (.tail _ (.tail _ (.head _)))
      have q3 := hp _ (.tail _ (.tail _ (.tail _ (.head _))))
      subst q0 q1 q2 q3
      exact c20b
  · cases h
theorem so20h : Sp1 20 sp20h := ⟨so20h_, Proofs.Tryz.f20, _, by kernel_rfl, rfl, by kernel_rfl⟩
theorem c33a : Fn P1 gl1 33 [.one (.sl (.flt .f32) [1095761920, 1099956224, 1088421888, 1102053376])] (.tup [.one (.frs panT [[(1114636288, 0), (1086324736, 1082130432), (3248488448, 0), (1086324736, 3229614080)]]), iV 0]) true := by
  have h := fn33 [1095761920, 1099956224, 1088421888, 1102053376]
  rw [show panN [1095761920, 1099956224, 1088421888, 1102053376] = [[(1114636288, 0), (1086324736, 1082130432), (3248488448, 0), (1086324736, 3229614080)]] from by decide +kernel, show chkSig [1095761920, 1099956224, 1088421888, 1102053376] = 0 from by decide +kernel] at h
  exact h
theorem so33h_ : SpecOk P1 gl1 33 sp33h := by
  intro vs ps r h hp
  simp only [sp33h] at h
  split at h
  · cases h
    have q0 := hp _ (.head _)
    subst q0
    exact c33a
  · cases h
theorem so33h : Sp1 33 sp33h := ⟨so33h_, Proofs.Tryz.f33, _, by kernel_rfl, rfl, by kernel_rfl⟩
theorem c43a : Fn P1 gl1 43 [.one (.sl (.flt .f32) [1095761920, 1099956224, 1088421888, 1102053376]), iV 0] (.tup [ptV [1092616192, 1101004800, 1092616192, 1101004800] [1077936128] [3221225472], iV 0]) true := by
  have h := fn43 [1095761920, 1099956224, 1088421888, 1102053376] 0
  rw [show bndP [1095761920, 1099956224, 1088421888, 1102053376] 0 = ([1092616192, 1101004800, 1092616192, 1101004800], [1077936128], [3221225472]) from by decide +kernel, show bndE [1095761920, 1099956224, 1088421888, 1102053376] 0 = 0 from by decide +kernel] at h
  exact h
theorem c43b : Fn P1 gl1 43 [.one (.sl (.flt .f32) [1095761920, 1099956224, 1093664768, 1102053376]), iV 0] (.tup [ptV [1094713344, 1101004800, 1094713344, 1101004800] [1065353216] [3221225472], iV 0]) true := by
  have h := fn43 [1095761920, 1099956224, 1093664768, 1102053376] 0
  rw [show bndP [1095761920, 1099956224, 1093664768, 1102053376] 0 = ([1094713344, 1101004800, 1094713344, 1101004800], [1065353216], [3221225472]) from by decide +kernel, show bndE [1095761920, 1099956224, 1093664768, 1102053376] 0 = 0 from by decide +kernel] at h
  exact h
theorem so43h_ : SpecOk P1 gl1 43 sp43h := by
  intro vs ps r h hp
  simp only [sp43h] at h
  split at h
  · split at h
    · cases h
      have q0 := hp _ (.head _)
      have q1 := hp _ (.tail _ (.head _))
      subst q0 q1
      exact c43a
    · cases h
      have q0 := hp _ (.head _)
      have q1 := hp _ (.tail _ (.head _))
      subst q0 q1
      exact c43b
  · cases h
theorem so43h : Sp1 43 sp43h := ⟨so43h_, Proofs.Tryz.f43, _, by kernel_rfl, rfl, by kernel_rfl⟩
theorem c57a : Fn P1 gl1 57 [ptV [1092616192, 1101004800, 1096810496, 1101004800] [1077936128] [3221225472]] (.tup [fV 1073741824, iV 0]) true := by
  have h := fn57 [1092616192, 1101004800, 1096810496, 1101004800] [1077936128] [3221225472] (by decide)
  rw [show (if chkPt [1092616192, 1101004800, 1096810496, 1101004800] [1077936128] [3221225472] = 0 then smp ((unevI (sixs [1092616192, 1101004800, 1096810496, 1101004800]) + 1) / 2) else 0) = 1073741824 from by decide +kernel, show chkPt [1092616192, 1101004800, 1096810496, 1101004800] [1077936128] [3221225472] = 0 from by decide +kernel] at h
  exact h
theorem so57h_ : SpecOk P1 gl1 57 sp57h := by
  intro vs ps r h hp
  simp only [sp57h] at h
  split at h
  · cases h
    have q0 := hp _ (.head _)
    have q1 := hp _ (.tail _ (.head _))
    have q2 := hp _ (.tail _ (.tail _ (.head _)))
    subst q0 q1 q2
    exact c57a
  · cases h
theorem so57h : Sp1 57 sp57h := ⟨so57h_, Proofs.Tryz.f57, _, by kernel_rfl, rfl, by kernel_rfl⟩
theorem c58a : Fn P1 gl1 58 [ptV [1092616192, 1101004800, 1096810496, 1101004800] [1077936128] [3221225472], ptV [1094713344, 1101004800, 1094713344, 1101004800] [1065353216] [3221225472]] (.tup [.agg [.arr 2 (.flt .f32) [1073741824, 1073741824]], iV 0]) true := by
  have h := fn58 [1092616192, 1101004800, 1096810496, 1101004800] [1077936128] [3221225472] [1094713344, 1101004800, 1094713344, 1101004800] [1065353216] [3221225472] (by decide) (by decide)
  rw [show difP [1092616192, 1101004800, 1096810496, 1101004800] [1077936128] [3221225472] [1094713344, 1101004800, 1094713344, 1101004800] [1065353216] [3221225472] = [1073741824, 1073741824] from by decide +kernel, show difE [1092616192, 1101004800, 1096810496, 1101004800] [1077936128] [3221225472] [1094713344, 1101004800, 1094713344, 1101004800] [1065353216] [3221225472] = 0 from by decide +kernel] at h
  exact h
theorem so58h_ : SpecOk P1 gl1 58 sp58h := by
  intro vs ps r h hp
  simp only [sp58h] at h
  split at h
  · cases h
    have q0 := hp _ (.head _)
    have q1 := hp _ (.tail _ (.head _))
    have q2 := hp _ (.tail _ (.tail _ (.head _)))
    have q3 := hp _ (.tail _ (.tail _ (.tail _ (.head _))))
    have q4 := hp _ (.tail _ (.tail _ (.tail _ (.tail _ (.head _)))))
    have q5 := hp _ (.tail _ (.tail _ (.tail _ (.tail _ (.tail _ (.head _))))))
    subst q0 q1 q2 q3 q4 q5
    exact c58a
  · cases h
theorem so58h : Sp1 58 sp58h := ⟨so58h_, Proofs.Tryz.f58, _, by kernel_rfl, rfl, by kernel_rfl⟩
theorem c47a : Fn P1 gl1 47 [fldV [[1095761920, 1099956224, 1093664768, 1102053376], [1088421888, 1102053376, 1099431936, 1099956224]], iV 0] (.tup [ptV [1092616192, 1101004800, 1096810496, 1101004800] [1077936128] [3221225472], iV 0]) true := by
  have h := fn47 [[1095761920, 1099956224, 1093664768, 1102053376], [1088421888, 1102053376, 1099431936, 1099956224]] 0
  rw [show errP (twoE [[1095761920, 1099956224, 1093664768, 1102053376], [1088421888, 1102053376, 1099431936, 1099956224]] 0) (twoI [[1095761920, 1099956224, 1093664768, 1102053376], [1088421888, 1102053376, 1099431936, 1099956224]] 0) = ([1092616192, 1101004800, 1096810496, 1101004800], [1077936128], [3221225472]) from by decide +kernel, show errE (twoE [[1095761920, 1099956224, 1093664768, 1102053376], [1088421888, 1102053376, 1099431936, 1099956224]] 0) (twoI [[1095761920, 1099956224, 1093664768, 1102053376], [1088421888, 1102053376, 1099431936, 1099956224]] 0) = 0 from by decide +kernel] at h
  exact h
theorem so47h_ : SpecOk P1 gl1 47 sp47h := by
  intro vs ps r h hp
  simp only [sp47h] at h
  split at h
  · cases h
    have q0 := hp _ (.head _)
    have q1 := hp _ (.tail _ (.head _))
    subst q0 q1
    exact c47a
  · cases h
theorem so47h : Sp1 47 sp47h := ⟨so47h_, Proofs.Tryz.f47, _, by kernel_rfl, rfl, by kernel_rfl⟩
theorem c48a : Fn P1 gl1 48 [fldV [[1095761920, 1099956224, 1093664768, 1102053376], [1088421888, 1102577664, 1100480512, 1100480512], [1099431936, 1101004800, 1093664768, 1103101952]], iV 1] (.tup [ptV [1093664768, 1101529088, 1097859072, 1101529088] [1082130432] [3221225472], iV 0]) true := by
  have h := fn48 [[1095761920, 1099956224, 1093664768, 1102053376], [1088421888, 1102577664, 1100480512, 1100480512], [1099431936, 1101004800, 1093664768, 1103101952]] 1
  rw [show errP (threeE [[1095761920, 1099956224, 1093664768, 1102053376], [1088421888, 1102577664, 1100480512, 1100480512], [1099431936, 1101004800, 1093664768, 1103101952]] 1) (threeL [[1095761920, 1099956224, 1093664768, 1102053376], [1088421888, 1102577664, 1100480512, 1100480512], [1099431936, 1101004800, 1093664768, 1103101952]] 1) = ([1093664768, 1101529088, 1097859072, 1101529088], [1082130432], [3221225472]) from by decide +kernel, show errE (threeE [[1095761920, 1099956224, 1093664768, 1102053376], [1088421888, 1102577664, 1100480512, 1100480512], [1099431936, 1101004800, 1093664768, 1103101952]] 1) (threeL [[1095761920, 1099956224, 1093664768, 1102053376], [1088421888, 1102577664, 1100480512, 1100480512], [1099431936, 1101004800, 1093664768, 1103101952]] 1) = 0 from by decide +kernel] at h
  exact h
theorem so48h_ : SpecOk P1 gl1 48 sp48h := by
  intro vs ps r h hp
  simp only [sp48h] at h
  split at h
  · cases h
    have q0 := hp _ (.head _)
    have q1 := hp _ (.tail _ (.head _))
    subst q0 q1
    exact c48a
  · cases h
theorem so48h : Sp1 48 sp48h := ⟨so48h_, Proofs.Tryz.f48, _, by kernel_rfl, rfl, by kernel_rfl⟩
theorem c62a : Fn P1 gl1 62 [b4V [0, 1084227584, 0, 3231711232]] (.tup [gsV (0, 160), iV 0]) true := by
  have h := fn62 [0, 1084227584, 0, 3231711232] rfl
  rw [show burZ [0, 1084227584, 0, 3231711232] = (0, 160) from by decide +kernel, show chkSs [0, 1084227584, 0, 3231711232] = 0 from by decide +kernel] at h
  exact h
theorem so62h_ : SpecOk P1 gl1 62 sp62h := by
  intro vs ps r h hp
  simp only [sp62h] at h
  split at h
  · cases h
    have q0 := hp _ (.head _)
    subst q0
    exact c62a
  · cases h
theorem so62h : Sp1 62 sp62h := ⟨so62h_, Proofs.Tryz.f62, _, by kernel_rfl, rfl, by kernel_rfl⟩
theorem c63a : Fn P1 gl1 63 [b4V [0, 1084227584, 0, 3231711232], iV 160] (.tup [iV 1, iV 0]) true := by
  have h := fn63 [0, 1084227584, 0, 3231711232] 160 rfl
  rw [show lkN [0, 1084227584, 0, 3231711232] 160 = 1 from by decide +kernel, show lkE [0, 1084227584, 0, 3231711232] 160 = 0 from by decide +kernel] at h
  exact h
theorem so63h_ : SpecOk P1 gl1 63 sp63h := by
  intro vs ps r h hp
  simp only [sp63h] at h
  split at h
  · cases h
    have q0 := hp _ (.head _)
    have q1 := hp _ (.tail _ (.head _))
    subst q0 q1
    exact c63a
  · cases h
theorem so63h : Sp1 63 sp63h := ⟨so63h_, Proofs.Tryz.f63, _, by kernel_rfl, rfl, by kernel_rfl⟩
theorem c67a : Fn P1 gl1 67 [.one (.sl (.flt .f32) [1065353216, 1073741824, 1077936128, 1082130432, 1084227584, 1086324736, 1088421888, 1090519040]), iV 1] (.tup [.one (.frs (.flt .f32) [1073741824, 1077936128, 1082130432, 1084227584]), iV 0]) true := by
  have h := fn67 [1065353216, 1073741824, 1077936128, 1082130432, 1084227584, 1086324736, 1088421888, 1090519040] 1
  rw [show algN [1065353216, 1073741824, 1077936128, 1082130432, 1084227584, 1086324736, 1088421888, 1090519040] 1 = [1073741824, 1077936128, 1082130432, 1084227584] from by decide +kernel, show algE [1065353216, 1073741824, 1077936128, 1082130432, 1084227584, 1086324736, 1088421888, 1090519040] 1 = 0 from by decide +kernel] at h
  exact h
theorem so67h_ : SpecOk P1 gl1 67 sp67h := by
  intro vs ps r h hp
  simp only [sp67h] at h
  split at h
  · cases h
    have q0 := hp _ (.head _)
    have q1 := hp _ (.tail _ (.head _))
    subst q0 q1
    exact c67a
  · cases h
theorem so67h : Sp1 67 sp67h := ⟨so67h_, Proofs.Tryz.f67, _, by kernel_rfl, rfl, by kernel_rfl⟩
theorem c68a : Fn P1 gl1 68 [.one (.sl (.flt .f32) [1077936128, 1084227584, 1088421888, 1091567616]), gsV (0, 2), fV 1065353216] (.tup [.one (.frs (.flt .f32) [0, 1073741824, 1082130432, 1086324736]), iV 0]) true := by
  have h := fn68 [1077936128, 1084227584, 1088421888, 1091567616] 0 2 1065353216
  rw [show clN [1077936128, 1084227584, 1088421888, 1091567616] 0 2 1065353216 = [0, 1073741824, 1082130432, 1086324736] from by decide +kernel, show clE [1077936128, 1084227584, 1088421888, 1091567616] 0 2 1065353216 = 0 from by decide +kernel] at h
  exact h
theorem so68h_ : SpecOk P1 gl1 68 sp68h := by
  intro vs ps r h hp
  simp only [sp68h] at h
  split at h
  · cases h
    have q0 := hp _ (.head _)
    have q1 := hp _ (.tail _ (.head _))
    have q2 := hp _ (.tail _ (.tail _ (.head _)))
    have q3 := hp _ (.tail _ (.tail _ (.tail _ (.head _))))
    subst q0 q1 q2 q3
    exact c68a
  · cases h
theorem so68h : Sp1 68 sp68h := ⟨so68h_, Proofs.Tryz.f68, _, by kernel_rfl, rfl, by kernel_rfl⟩
theorem c72a : Fn P1 gl1 72 [.one (.sl (.int .i64) [1, 0, -1])] (.tup [.agg [.arr 4 (.cpx .f64) [(0, 0), (4611686018427387904, 0), (0, 0), (4611686018427387904, 0)]], iV 0]) true := by
  have h := fn72 [1, 0, -1]
  rw [show resN [1, 0, -1] = [(0, 0), (4611686018427387904, 0), (0, 0), (4611686018427387904, 0)] from by decide +kernel, show chkTap [1, 0, -1] = 0 from by decide +kernel] at h
  exact h
theorem so72h_ : SpecOk P1 gl1 72 sp72h := by
  intro vs ps r h hp
  simp only [sp72h] at h
  split at h
  · cases h
    have q0 := hp _ (.head _)
    subst q0
    exact c72a
  · cases h
theorem so72h : Sp1 72 sp72h := ⟨so72h_, Proofs.Tryz.f72, _, by kernel_rfl, rfl, by kernel_rfl⟩
theorem c74a : Fn P1 gl1 74 [.one (.sl (.flt .f32) [1065353216, 1073741824, 1082130432, 1090519040]), .one (.sl (.int .i64) [1, 0, -1])] (.tup [.one (.frs (.flt .f32) [1065353216, 1073741824, 1077936128, 1086324736]), iV 0]) true := by
  have h := fn74 [1065353216, 1073741824, 1082130432, 1090519040] [1, 0, -1]
  rw [show fltN [1065353216, 1073741824, 1082130432, 1090519040] [1, 0, -1] 1 = [1065353216, 1073741824, 1077936128, 1086324736] from by decide +kernel, show fltE [1065353216, 1073741824, 1082130432, 1090519040] [1, 0, -1] 1 = 0 from by decide +kernel] at h
  exact h
theorem so74h_ : SpecOk P1 gl1 74 sp74h := by
  intro vs ps r h hp
  simp only [sp74h] at h
  split at h
  · cases h
    have q0 := hp _ (.head _)
    have q1 := hp _ (.tail _ (.head _))
    subst q0 q1
    exact c74a
  · cases h
theorem so74h : Sp1 74 sp74h := ⟨so74h_, Proofs.Tryz.f74, _, by kernel_rfl, rfl, by kernel_rfl⟩
theorem c75a : Fn P1 gl1 75 [.one (.sl (.flt .f32) [1065353216, 1073741824, 1082130432, 1090519040]), .one (.sl (.int .i64) [1, 0, -1])] (.tup [.one (.frs (.flt .f32) [3225419776, 3233808384, 1082130432, 1090519040]), iV 0]) true := by
  have h := fn75 [1065353216, 1073741824, 1082130432, 1090519040] [1, 0, -1]
  rw [show fltN [1065353216, 1073741824, 1082130432, 1090519040] [1, 0, -1] (-1) = [3225419776, 3233808384, 1082130432, 1090519040] from by decide +kernel, show fltE [1065353216, 1073741824, 1082130432, 1090519040] [1, 0, -1] (-1) = 0 from by decide +kernel] at h
  exact h
theorem so75h_ : SpecOk P1 gl1 75 sp75h := by
  intro vs ps r h hp
  simp only [sp75h] at h
  split at h
  · cases h
    have q0 := hp _ (.head _)
    have q1 := hp _ (.tail _ (.head _))
    subst q0 q1
    exact c75a
  · cases h
theorem so75h : Sp1 75 sp75h := ⟨so75h_, Proofs.Tryz.f75, _, by kernel_rfl, rfl, by kernel_rfl⟩
theorem c88a : Fn P1 gl1 88 [ptV [1092616192, 1101004800, 1092616192, 1101004800] [1077936128] [3221225472]] (.tup [sV [108, 117, 109, 97, 32, 49, 54, 48, 32, 51, 50, 48, 32, 49, 54, 48, 32, 51, 50, 48, 10, 117, 32, 52, 56, 10, 118, 32, 45, 51, 50, 10], iV 0]) true := by
  have h := fn88 [1092616192, 1101004800, 1092616192, 1101004800] [1077936128] [3221225472] (by decide)
  rw [show prN [1092616192, 1101004800, 1092616192, 1101004800] [1077936128] [3221225472] = [108, 117, 109, 97, 32, 49, 54, 48, 32, 51, 50, 48, 32, 49, 54, 48, 32, 51, 50, 48, 10, 117, 32, 52, 56, 10, 118, 32, 45, 51, 50, 10] from by decide +kernel, show chkPt [1092616192, 1101004800, 1092616192, 1101004800] [1077936128] [3221225472] = 0 from by decide +kernel] at h
  exact h
theorem so88h_ : SpecOk P1 gl1 88 sp88h := by
  intro vs ps r h hp
  simp only [sp88h] at h
  split at h
  · cases h
    have q0 := hp _ (.head _)
    have q1 := hp _ (.tail _ (.head _))
    have q2 := hp _ (.tail _ (.tail _ (.head _)))
    subst q0 q1 q2
    exact c88a
  · cases h
theorem so88h : Sp1 88 sp88h := ⟨so88h_, Proofs.Tryz.f88, _, by kernel_rfl, rfl, by kernel_rfl⟩
theorem so27h_ : SpecOk P1 gl1 27 sp27h := by
  intro vs ps r h hp
  simp only [sp27h] at h
  split at h
  · rename_i a b
    split at h
    · rename_i e
      cases h
      obtain rfl : a = b := e
      have q0 := hp _ (.head _)
      have h := fn27 a a (hp _ (.tail _ (.head _)))
      rw [sameS_self (chkSs_zero.1 q0)] at h
      exact h
    · cases h
  · cases h
theorem so27h : Sp1 27 sp27h := ⟨so27h_, Proofs.Tryz.f27, _, by kernel_rfl, rfl, by kernel_rfl⟩
theorem so45h_ : SpecOk P1 gl1 45 sp45h := by
  intro vs ps r h hp
  simp only [sp45h] at h
  split at h
  · rename_i y u v y' u' v'
    split at h
    · rename_i e
      cases h
      obtain ⟨rfl, e2⟩ := Prod.mk.inj e
      obtain ⟨rfl, rfl⟩ := Prod.mk.inj e2
      have q0 := hp _ (.head _)
      have q2 := hp _ (.tail _ (.tail _ (.head _)))
      have q4 := hp _ (.tail _ (.tail _ (.tail _ (.tail _ (.head _)))))
      have h := fn45 (y, u, v) (y, u, v) (hp _ (.tail _ (.head _))) (hp _ (.tail _ (.tail _ (.tail _ (.head _))))) (hp _ (.tail _ (.tail _ (.tail _ (.tail _ (.tail _ (.head _)))))))
      rw [show sameP (y, u, v) (y, u, v) = true by unfold sameP; rw [sameS_self (chkSs_zero.1 q0), sameS_self (chkSs_zero.1 q2), sameS_self (chkSs_zero.1 q4)]; rfl] at h
      exact h
    · cases h
  · cases h
theorem so45h : Sp1 45 sp45h := ⟨so45h_, Proofs.Tryz.f45, _, by kernel_rfl, rfl, by kernel_rfl⟩
theorem fn93   : Fn P1 gl1 93 [] (.val (ptV [1092616192, 1101004800, 1092616192, 1101004800] [1077936128] [3221225472])) true := by
  refine fn_ofr false [] [] h0 0 Proofs.Tryz.f93 trivial trivial (by kernel_rfl) rfl (by kernel_rfl) rfl rfl rfl ?_
  rw [vc93 ()]
  try simp only [splitB_iff, -eq_self]
  exact ⟨rfl, rfl, rfl, trivial⟩
theorem so93_ : SpecOk P1 gl1 93 sp93 := by
  intro vs ps r h _
  simp only [sp93] at h
  split at h
  · cases h; exact fn93  
  · cases h
theorem so93 : Sp1 93 sp93 := ⟨so93_, Proofs.Tryz.f93, _, by kernel_rfl, rfl, by kernel_rfl⟩
theorem fn94   : Fn P1 gl1 94 [] (.val (ptV [1092616192, 1101004800, 1096810496, 1101004800] [1077936128] [3221225472])) true := by
  refine fn_ofr false [] [] h0 0 Proofs.Tryz.f94 trivial trivial (by kernel_rfl) rfl (by kernel_rfl) rfl rfl rfl ?_
  rw [vc94 ()]
  try simp only [splitB_iff, -eq_self]
  exact ⟨rfl, rfl, rfl, trivial⟩
theorem so94_ : SpecOk P1 gl1 94 sp94 := by
  intro vs ps r h _
  simp only [sp94] at h
  split at h
  · cases h; exact fn94  
  · cases h
theorem so94 : Sp1 94 sp94 := ⟨so94_, Proofs.Tryz.f94, _, by kernel_rfl, rfl, by kernel_rfl⟩
theorem fn19   : Fn P1 gl1 19 [] (.val (bV true)) true := by
  refine Fn.flat ?_ rfl
  refine fn_of false [(93, sp93), (94, sp94), (46, sp46), (20, sp20h), (33, sp33h), (43, sp43h), (57, sp57h), (58, sp58h), (47, sp47h), (48, sp48h), (62, sp62h), (63, sp63h), (67, sp67h), (68, sp68h), (72, sp72h), (74, sp74h), (75, sp75h), (88, sp88h), (27, sp27h), (45, sp45h)] [] h0 0 Proofs.Tryz.f19 ⟨so93, so94, so46, so20h, so33h, so43h, so57h, so58h, so47h, so48h, so62h, so63h, so67h, so68h, so72h, so74h, so75h, so88h, so27h, so45h, trivial⟩ trivial (by kernel_rfl) rfl (by kernel_rfl) rfl rfl rfl ?_
  rw [vc19 ()]
  try simp only [-eq_self]
  repeat' first | apply And.intro | intro hh
  all_goals first | rfl | trivial | decide +kernel | exact absurd hh (by decide +kernel)
theorem so19_ : SpecOk P1 gl1 19 sp19 := by
  intro vs ps r h _
  simp only [sp19] at h
  split at h
  · cases h; exact fn19  
  · cases h
theorem so19 : Sp1 19 sp19 := ⟨so19_, Proofs.Tryz.f19, _, by kernel_rfl, rfl, by kernel_rfl⟩
end Go.Sx

/- Plain functions of composite: what the laws compare. -/
namespace Go.Sx.U
open Ieee
end Go.Sx.U

/- Plain functions and hints. -/
namespace Go.Sx
open U
end Go.Sx

/- What the engine asks, written out (printed by a program). -/
namespace Go.Sx
open U
end Go.Sx

/- Contracts. -/
namespace Go.Sx
open U
end Go.Sx

/- Plain functions of composite: lists of parts, encoded fields. -/
namespace Go.Sx.U
end Go.Sx.U

/- Plain functions and hints. -/
namespace Go.Sx
open U
end Go.Sx
namespace Go.Sx
open U
end Go.Sx

/- What the engine asks, written out (printed by a program). -/
namespace Go.Sx
open U
end Go.Sx

/- Contracts. -/
namespace Go.Sx
open U
end Go.Sx

/- Plain functions of the law Fields. -/
namespace Go.Sx.U
end Go.Sx.U

/- Plain functions of composite: decoding by choice. -/
namespace Go.Sx.U
end Go.Sx.U

/- Plain functions of composite: the law Turns. -/
namespace Go.Sx.U
open Ieee
theorem xor31_mod (b : Nat) : (b ^^^ 2 ^ 31) % 2147483648 = b % 2147483648 := by
  show _ % 2 ^ 31 = _ % 2 ^ 31
  refine Nat.eq_of_testBit_eq fun i => ?_
  rw [Nat.testBit_mod_two_pow, Nat.testBit_mod_two_pow, Nat.testBit_xor, Nat.testBit_two_pow]
  by_cases h : i < 31
  · have : ¬ 31 = i := by omega
    simp [h, this]
  · simp [h]
theorem xor31_div (b : Nat) : ((b ^^^ 2 ^ 31) / 2147483648 % 2 == 1) = !(b / 2147483648 % 2 == 1) := by
  have h1 := Nat.testBit_eq_decide_div_mod_eq (x := b ^^^ 2 ^ 31) (i := 31)
  have h2 := Nat.testBit_eq_decide_div_mod_eq (x := b) (i := 31)
  rw [Nat.testBit_xor, Nat.testBit_two_pow_self, h2] at h1
  have e1 : ((b ^^^ 2 ^ 31) / 2147483648 % 2 == 1) = decide ((b ^^^ 2 ^ 31) / 2 ^ 31 % 2 = 1) := by
    rw [Bool.eq_iff_iff]; simp
  have e2 : (b / 2147483648 % 2 == 1) = decide (b / 2 ^ 31 % 2 = 1) := by
    rw [Bool.eq_iff_iff]; simp
  rw [e1, e2, ← h1]
  simp
theorem read_neg (b : Nat) : single.read (Op.negFloat .f32 b) = (single.read b).opposite := by
  show single.read (b ^^^ 2 ^ 31) = _
  unfold Format.read
  simp only [single_binade, single_inf, single_sign, single_least, xor31_mod, xor31_div]
  split
  · rfl
  · split
    · rfl
    · split <;> rfl
theorem neg_s {b : Nat} {n : Int} (h : isS b n) : isS (Op.negFloat .f32 b) (-n) := by
  obtain ⟨s, m, e, e1⟩ := num_of h.1
  have hv := h.2
  have e2 : single.read (Op.negFloat .f32 b) = .number (!s) m e := by rw [read_neg, e1]; rfl
  refine ⟨numW_of e2, ?_⟩
  rw [vW_num e1, signed_eq] at hv
  rw [vW_num e2, signed_eq]
  generalize ((m * 2 ^ (e + 149).toNat : Nat) : Int) = q at *
  generalize ((2 ^ 149 : Nat) : Int) = r at *
  rw [Int.neg_mul]
  cases s <;> simp at * <;> omega
theorem amax_uniq {l : List Int} {i k : Nat} (hk : k < i) (h : ∀ j, j < i → j ≠ k → List.getD l j 0 < List.getD l k 0) : amax l i = k := by
  by_cases e : amax l i = k
  · exact e
  · have h1 := amax_ge l i k hk
    have h2 := h _ (amax_lt l i (by omega)) e
    omega
theorem amax_zero {l : List Int} {i : Nat} (h : ∀ j, j < i → List.getD l j 0 ≤ List.getD l 0 0) : amax l i = 0 := by
  by_cases e : amax l i = 0
  · exact e
  · have h1 := amax_first l i 0 (by omega)
    by_cases hi : 0 < i
    · have h2 := h _ (amax_lt l i hi)
      omega
    · have : i = 0 := by omega
      subst this
      rfl
theorem four_get (z : Int × Int) (j : Nat) (h : j < 4) : (j = 0 ∧ List.getD (four z) j 0 = z.1) ∨ (j = 1 ∧ List.getD (four z) j 0 = z.2) ∨ (j = 2 ∧ List.getD (four z) j 0 = -z.1) ∨ (j = 3 ∧ List.getD (four z) j 0 = -z.2) := by
  rcases (show j = 0 ∨ j = 1 ∨ j = 2 ∨ j = 3 by omega) with rfl | rfl | rfl | rfl
  · exact .inl ⟨rfl, rfl⟩
  · exact .inr (.inl ⟨rfl, rfl⟩)
  · exact .inr (.inr (.inl ⟨rfl, rfl⟩))
  · exact .inr (.inr (.inr ⟨rfl, rfl⟩))
def lateZ (z : Int × Int) : Nat := amax (four z) 4
theorem lateZ_lt (z : Int × Int) : lateZ z < 4 := amax_lt _ 4 (by omega)
theorem lateZ_ge (z : Int × Int) {k : Nat} (h : lateZ z = k) : z.1 ≤ List.getD (four z) k 0 ∧ z.2 ≤ List.getD (four z) k 0 ∧ -z.1 ≤ List.getD (four z) k 0 ∧ -z.2 ≤ List.getD (four z) k 0 := by
  subst h
  exact ⟨amax_ge (four z) 4 0 (by omega), amax_ge (four z) 4 1 (by omega), amax_ge (four z) 4 2 (by omega), amax_ge (four z) 4 3 (by omega)⟩
theorem lateZ_uniq {z : Int × Int} {k : Nat} (hk : k < 4) (h : ∀ j, j < 4 → j ≠ k → List.getD (four z) j 0 < List.getD (four z) k 0) : lateZ z = k := amax_uniq hk h
theorem late_next {p q : Int} (h1 : p ≠ q) (h2 : p ≠ -q) : lateZ (-q, p) = (lateZ (p, q) + 1) % 4 ∧ lateZ (-p, -q) = (lateZ (p, q) + 2) % 4 := by
  have hl := lateZ_lt (p, q)
  obtain ⟨k, hk⟩ : ∃ k, lateZ (p, q) = k := ⟨_, rfl⟩
  have hg := lateZ_ge (p, q) hk
  rw [hk] at hl ⊢
  rcases (show k = 0 ∨ k = 1 ∨ k = 2 ∨ k = 3 by omega) with rfl | rfl | rfl | rfl
  · have hg : p ≤ p ∧ q ≤ p ∧ -p ≤ p ∧ -q ≤ p := hg
    refine ⟨lateZ_uniq (by omega) fun j hj hn => ?_, lateZ_uniq (by omega) fun j hj hn => ?_⟩
    · show _ < p
      rcases four_get (-q, p) j hj with ⟨e, f⟩ | ⟨e, f⟩ | ⟨e, f⟩ | ⟨e, f⟩ <;> rw [f] <;> simp only <;> omega
    · show _ < -(-p)
      rcases four_get (-p, -q) j hj with ⟨e, f⟩ | ⟨e, f⟩ | ⟨e, f⟩ | ⟨e, f⟩ <;> rw [f] <;> simp only <;> omega
  · have hg : p ≤ q ∧ q ≤ q ∧ -p ≤ q ∧ -q ≤ q := hg
    refine ⟨lateZ_uniq (by omega) fun j hj hn => ?_, lateZ_uniq (by omega) fun j hj hn => ?_⟩
    · show _ < -(-q)
      rcases four_get (-q, p) j hj with ⟨e, f⟩ | ⟨e, f⟩ | ⟨e, f⟩ | ⟨e, f⟩ <;> rw [f] <;> simp only <;> omega
    · show _ < -(-q)
      rcases four_get (-p, -q) j hj with ⟨e, f⟩ | ⟨e, f⟩ | ⟨e, f⟩ | ⟨e, f⟩ <;> rw [f] <;> simp only <;> omega
  · have hg : p ≤ -p ∧ q ≤ -p ∧ -p ≤ -p ∧ -q ≤ -p := hg
    refine ⟨lateZ_uniq (by omega) fun j hj hn => ?_, lateZ_uniq (by omega) fun j hj hn => ?_⟩
    · show _ < -p
      rcases four_get (-q, p) j hj with ⟨e, f⟩ | ⟨e, f⟩ | ⟨e, f⟩ | ⟨e, f⟩ <;> rw [f] <;> simp only <;> omega
    · show _ < -p
      rcases four_get (-p, -q) j hj with ⟨e, f⟩ | ⟨e, f⟩ | ⟨e, f⟩ | ⟨e, f⟩ <;> rw [f] <;> simp only <;> omega
  · have hg : p ≤ -q ∧ q ≤ -q ∧ -p ≤ -q ∧ -q ≤ -q := hg
    refine ⟨lateZ_uniq (by omega) fun j hj hn => ?_, lateZ_uniq (by omega) fun j hj hn => ?_⟩
    · show _ < -q
      rcases four_get (-q, p) j hj with ⟨e, f⟩ | ⟨e, f⟩ | ⟨e, f⟩ | ⟨e, f⟩ <;> rw [f] <;> simp only <;> omega
    · show _ < -q
      rcases four_get (-p, -q) j hj with ⟨e, f⟩ | ⟨e, f⟩ | ⟨e, f⟩ | ⟨e, f⟩ <;> rw [f] <;> simp only <;> omega
def turnZ (z : Int × Int) : Nat → Int × Int
  | 0 => z
  | 1 => (z.2, -z.1)
  | 2 => (-z.1, -z.2)
  | _ => (-z.2, z.1)
theorem late_turned (z : Int × Int) : lateZ (turnZ z (lateZ z)) = 0 := by
  have hl := lateZ_lt z
  obtain ⟨k, hk⟩ : ∃ k, lateZ z = k := ⟨_, rfl⟩
  have hg := lateZ_ge z hk
  rw [hk] at hl ⊢
  obtain ⟨p, q⟩ := z
  rcases (show k = 0 ∨ k = 1 ∨ k = 2 ∨ k = 3 by omega) with rfl | rfl | rfl | rfl
  · have hg : p ≤ p ∧ q ≤ p ∧ -p ≤ p ∧ -q ≤ p := hg
    refine amax_zero fun j hj => ?_
    rcases four_get (p, q) j hj with ⟨e, f⟩ | ⟨e, f⟩ | ⟨e, f⟩ | ⟨e, f⟩ <;> (show List.getD (four (p, q)) j 0 ≤ p) <;> rw [f] <;> simp only <;> omega
  · have hg : p ≤ q ∧ q ≤ q ∧ -p ≤ q ∧ -q ≤ q := hg
    refine amax_zero fun j hj => ?_
    rcases four_get (q, -p) j hj with ⟨e, f⟩ | ⟨e, f⟩ | ⟨e, f⟩ | ⟨e, f⟩ <;> (show List.getD (four (q, -p)) j 0 ≤ q) <;> rw [f] <;> simp only <;> omega
  · have hg : p ≤ -p ∧ q ≤ -p ∧ -p ≤ -p ∧ -q ≤ -p := hg
    refine amax_zero fun j hj => ?_
    rcases four_get (-p, -q) j hj with ⟨e, f⟩ | ⟨e, f⟩ | ⟨e, f⟩ | ⟨e, f⟩ <;> (show List.getD (four (-p, -q)) j 0 ≤ -p) <;> rw [f] <;> simp only <;> omega
  · have hg : p ≤ -q ∧ q ≤ -q ∧ -p ≤ -q ∧ -q ≤ -q := hg
    refine amax_zero fun j hj => ?_
    rcases four_get (-q, p) j hj with ⟨e, f⟩ | ⟨e, f⟩ | ⟨e, f⟩ | ⟨e, f⟩ <;> (show List.getD (four (-q, p)) j 0 ≤ -q) <;> rw [f] <;> simp only <;> omega
theorem mx_four (z : Int × Int) : mxTo (four z) 4 = max (max (max (max z.1 z.1) z.2) (-z.1)) (-z.2) := rfl
theorem turn_mx (z : Int × Int) (k : Nat) : mxTo (four (turnZ z k)) 4 = mxTo (four z) 4 := by
  rw [mx_four, mx_four]
  unfold turnZ
  split <;> simp only <;> omega
theorem lck_zero {z : Int × Int} (h : z = (0, 0)) : lckE z 1 = 7 := by
  subst h; decide
theorem mx_pos {z : Int × Int} (h : z ≠ (0, 0)) : 1 ≤ mxTo (four z) 4 := by
  rw [mx_four]
  obtain ⟨p, q⟩ := z
  have : ¬ (p = 0 ∧ q = 0) := fun k => h (by rw [k.1, k.2])
  simp only
  omega
theorem lck_of {z : Int × Int} (h : 1 ≤ mxTo (four z) 4) : lckE z 1 = 0 ∧ lckN z 1 = (lateZ z : Int) := by
  unfold lckE lckN
  rw [if_neg (by omega), if_neg (by omega)]
  exact ⟨rfl, rfl⟩
theorem chk4 {a b c d : Nat} (ha : chkS a = 0) (hb : chkS b = 0) (hc : chkS c = 0) (hd : chkS d = 0) : chkSs [a, b, c, d] = 0 := by
  unfold chkSs first
  simp [ha, hb, hc, hd, first]
theorem lk_of {b : List Nat} (h : chkSs b = 0) : lkN b 1 = lckN (phI b) 1 ∧ lkE b 1 = lckE (phI b) 1 ∧ burZ b = phI b := by
  have hb : lckB b 1 = 0 := by
    unfold lckB
    rw [h]
    decide
  unfold lkN lkE burZ
  rw [if_pos hb, if_pos hb, if_pos h]
  exact ⟨rfl, rfl, rfl⟩
theorem ph4 (a b c d : Nat) : phI [a, b, c, d] = (six a - six c, six b - six d) := rfl
def rot4 (a b c d : Nat) : Nat → List Nat
  | 0 => [a, b, c, d]
  | 1 => [b, c, d, a]
  | 2 => [c, d, a, b]
  | _ => [d, a, b, c]
theorem rot_ph (a b c d : Nat) {k : Nat} (h : k < 4) : phI (rot4 a b c d k) = turnZ (phI [a, b, c, d]) k := by
  rcases (show k = 0 ∨ k = 1 ∨ k = 2 ∨ k = 3 by omega) with rfl | rfl | rfl | rfl
  · rfl
  · show (_, _) = (_, -(_ - _))
    rw [Int.neg_sub]; rfl
  · show (_, _) = (-(_ - _), -(_ - _))
    rw [Int.neg_sub, Int.neg_sub]; rfl
  · show (_, _) = (-(_ - _), _)
    rw [Int.neg_sub]; rfl
theorem rot_alg (a b c d : Nat) {k : Nat} (h : k < 4) : List.take 4 (algL [a, b, c, d, a, b, c, d, a, b, c, d] k) = rot4 a b c d k ∧ 8 ≤ (algL [a, b, c, d, a, b, c, d, a, b, c, d] k).length := by
  rcases (show k = 0 ∨ k = 1 ∨ k = 2 ∨ k = 3 by omega) with rfl | rfl | rfl | rfl <;> simp [algL, rot4]
theorem rot_chk {a b c d : Nat} (ha : chkS a = 0) (hb : chkS b = 0) (hc : chkS c = 0) (hd : chkS d = 0) (k : Nat) : chkSs (rot4 a b c d k) = 0 := by
  unfold rot4
  split
  · exact chk4 ha hb hc hd
  · exact chk4 hb hc hd ha
  · exact chk4 hc hd ha hb
  · exact chk4 hd ha hb hc
theorem alg_ok {a b c d : Nat} (ha : chkS a = 0) (hb : chkS b = 0) (hc : chkS c = 0) (hd : chkS d = 0) {k : Nat} (h : k < 4) : algE [a, b, c, d, a, b, c, d, a, b, c, d] k = 0 := by
  have hs : chkSig [a, b, c, d, a, b, c, d, a, b, c, d] = 0 := by
    refine chkSig_zero.2 ⟨by simp, by simp, fun x hx => ?_⟩
    simp at hx
    rcases hx with h | h | h | h | h | h | h | h | h | h | h | h <;> subst h <;> assumption
  unfold algE
  refine first_zero.2 fun e he => ?_
  rcases List.mem_cons.1 he with rfl | he
  · exact hs
  · rcases List.mem_cons.1 he with rfl | he
    · exact within_zero.2 (by omega)
    · cases he
theorem isS_5 : isS 1084227584 80 := isS_lit _ false 10485760 (-21) _ (by decide) (by decide)
theorem chk_5 : chkS 1084227584 = 0 := isS_to_chk isS_5 (by omega) (by omega)
theorem six_5 : six 1084227584 = 80 := isS_six isS_5
theorem smTo_add {l : List Int} {c : Int} {f : Nat} : ∀ {k : Nat}, f + k ≤ l.length → smTo (l.map fun n => n + c) f k = smTo l f k + k * c
  | 0, _ => by simp [smTo]
  | k + 1, h => by
    unfold smTo
    rw [smTo_add (k := k) (by omega), getD_of (by rw [List.length_map]; omega), getD_of (by omega), List.getElem_map]
    have e : ((k + 1 : Nat) : Int) * c = (k : Int) * c + c := by rw [Int.natCast_add, Int.add_mul]; simp
    rw [e]
    omega
theorem round_shift (a c d : Int) (hd : 0 < d) : roundI (a + d * c) d = roundI a d + c := by
  unfold roundI
  have e : 2 * (a + d * c) + d = (2 * a + d) + c * (2 * d) := by
    rw [Int.mul_add, Int.mul_left_comm c 2 d, Int.mul_comm c d]
    omega
  rw [e, Int.add_mul_ediv_right _ _ (by omega)]
structure ClOk (l : List Nat) (f t : Int) : Prop where
  len : l.length = 8
  ok : OkS l
  bd : Bd 3200 (sixs l)
  f0 : 0 ≤ f
  ft : f < t
  t8 : t ≤ 8
def cl5 (l : List Nat) (f t : Int) : List Nat := (clI l f t 1084227584).map smp
theorem cl_by {l : List Nat} {f t : Int} (h : ClOk l f t) : -3120 ≤ clBy l f t 1084227584 ∧ clBy l f t 1084227584 ≤ 3280 := by
  have h1 := smTo_bd h.bd (by omega) f.toNat (t - f).toNat
  have e : (((t - f).toNat : Nat) : Int) = t - f := Int.toNat_of_nonneg (by have := h.ft; omega)
  rw [e] at h1
  unfold clBy
  rw [six_5]
  have hd : 0 < t - f := by have := h.ft; omega
  have h2 : -3200 ≤ roundI (smTo (sixs l) f.toNat (t - f).toNat) (t - f) ∧ roundI (smTo (sixs l) f.toNat (t - f).toNat) (t - f) ≤ 3200 := by
    unfold roundI
    generalize smTo (sixs l) f.toNat (t - f).toNat = a at *
    generalize t - f = d at *
    constructor
    · refine Int.le_ediv_of_mul_le (by omega) ?_
      omega
    · refine Int.le_of_lt_add_one (Int.ediv_lt_of_lt_mul (by omega) ?_)
      omega
  omega
theorem cl_bd {l : List Nat} {f t : Int} (h : ClOk l f t) : Bd 16384 (clI l f t 1084227584) := by
  have hb := cl_by h
  unfold clI
  intro n hn
  obtain ⟨b, hb2, e⟩ := List.mem_map.1 hn
  have := h.bd (six b) (List.mem_map_of_mem hb2)
  omega
theorem cl_sig {l : List Nat} (h1 : l.length = 8) (h2 : OkS l) : chkSig l = 0 := chkSig_zero.2 ⟨by omega, by omega, h2⟩
theorem cl_first {l : List Nat} {f t : Int} (h : ClOk l f t) : clE l f t 1084227584 = 0 ∧ clN l f t 1084227584 = cl5 l f t := by
  have h0 : clB l f t 1084227584 = 0 := clB_zero.2 ⟨cl_sig h.len h.ok, ⟨h.f0, h.ft, by have := h.t8; rw [h.len]; omega⟩, chk_5⟩
  unfold clE clN
  rw [if_pos h0, if_pos h0]
  exact ⟨lgE_of (cl_bd h), smpsN_of (cl_bd h)⟩
theorem cl5_len {l : List Nat} {f t : Int} (h : ClOk l f t) : (cl5 l f t).length = 8 := by
  unfold cl5
  rw [List.length_map, clI_len]
  exact h.len
theorem cl5_six {l : List Nat} {f t : Int} (h : ClOk l f t) : sixs (cl5 l f t) = (sixs l).map fun n => n + clBy l f t 1084227584 := by
  unfold cl5
  rw [six_smps (cl_bd h)]
  unfold clI sixs
  rw [List.map_map]
  rfl
theorem cl5_mean {l : List Nat} {f t : Int} (h : ClOk l f t) : roundI (smTo (sixs (cl5 l f t)) f.toNat (t - f).toNat) (t - f) = 80 := by
  have e : (((t - f).toNat : Nat) : Int) = t - f := Int.toNat_of_nonneg (by have := h.ft; omega)
  have h1 := h.f0
  have h2 := h.ft
  have h3 := h.t8
  rw [cl5_six h, smTo_add (by rw [sixs_len, h.len]; omega), e, round_shift _ _ _ (by omega)]
  unfold clBy
  rw [six_5]
  omega
theorem cl5_again {l : List Nat} {f t : Int} (h : ClOk l f t) : clE (cl5 l f t) f t 1084227584 = 0 ∧ clN (cl5 l f t) f t 1084227584 = cl5 l f t := by
  have hb : clBy (cl5 l f t) f t 1084227584 = 0 := by
    unfold clBy
    rw [six_5, cl5_mean h]
    rfl
  have hok : OkS (cl5 l f t) := smp_ok (cl_bd h)
  have h0 : clB (cl5 l f t) f t 1084227584 = 0 := clB_zero.2 ⟨cl_sig (cl5_len h) hok, ⟨h.f0, h.ft, by have := h.t8; rw [cl5_len h]; omega⟩, chk_5⟩
  have hI : clI (cl5 l f t) f t 1084227584 = clI l f t 1084227584 := by
    unfold clI
    rw [hb]
    unfold cl5
    rw [List.map_map]
    unfold clI
    rw [List.map_map]
    refine List.map_congr_left fun b hb2 => ?_
    have h4 := h.bd (six b) (List.mem_map_of_mem hb2)
    have h5 := cl_by h
    show six (smp (six b + clBy l f t 1084227584)) + 0 = six b + clBy l f t 1084227584
    rw [six_smp (by omega)]
    omega
  unfold clE clN
  rw [if_pos h0, if_pos h0, hI]
  exact ⟨lgE_of (cl_bd h), smpsN_of (cl_bd h)⟩
end Go.Sx.U

/- Plain functions and hints. -/
namespace Go.Sx.U
def smpR (n : Int) : Nat := Option.getD (Ieee.Format.div (FloatKind.format FloatKind.f32) (FloatKind.nearest FloatKind.f32 (Int.tmod n 3200)) 1098907648) 0
def burF (b : List Int) (j : Nat) : Nat := smpR (List.getD b j 0)
def negF (b : List Int) (j : Nat) : Nat := Op.negFloat FloatKind.f32 (burF b j)
def movTo (b : List Int) : Nat → List Nat
  | 0 => List.replicate 4 0
  | i + 1 => (movTo b i).set ((i + 1) % 4) (burF b i)
end Go.Sx.U
namespace Go.Sx
open U
def box4 (s : St) (t : Nat) : Option (Nat × List Nat) := match lookT s.tm t with
  | some (.val (.one (.ptr id 0))) => match lookO s.ob id with
    | some (.box [.arr 4 (.flt .f32) x]) => some (id, x)
    | _ => none
  | _ => none
def boxI (s : St) (t : Nat) : Option (Nat × List Int) := match lookT s.tm t with
  | some (.val (.one (.ptr id 0))) => match lookO s.ob id with
    | some (.box [.arr 8 (.int .i16) x]) => some (id, x)
    | _ => none
  | _ => none
def boxU (s : St) (t : Nat) : Option (Nat × List Int) := match lookT s.tm t with
  | some (.val (.one (.ptr id 0))) => match lookO s.ob id with
    | some (.box [.arr 2 (.int .u8) x]) => some (id, x)
    | _ => none
  | _ => none
def arrI4 (s : St) (t : Nat) : Option (List Int) := match lookT s.tm t with
  | some (.val (.agg [.arr 4 (.int .i16) x])) => some x
  | _ => none
def arrI8 (s : St) (t : Nat) : Option (List Int) := match lookT s.tm t with
  | some (.val (.agg [.arr 8 (.int .i16) x])) => some x
  | _ => none
def keepQ (l : List Nat) (tm : List (Nat × SV)) : List (Nat × SV) := l.filterMap fun t => (lookT tm t).map fun v => (t, v)
def h15 : Hints := ⟨fun f k s => match f, k with
  | 15, 3 => match arrI4 s 41, box4 s 7, box4 s 8, box4 s 9 with
    | some b, some (i, _), some (j, _), some (k, _) => some ⟨Nat, fun g => ⟨tI 42 g :: keepQ [4, 5, 7, 8, 9, 41] s.tm, (i, some (.box [.arr 4 (.flt .f32) (fillTo 0 4 (burF b) g)])) :: (j, some (.box [.arr 4 (.flt .f32) (movTo b g)])) :: (k, some (.box [.arr 4 (.flt .f32) (fillTo 0 4 (negF b) g)])) :: dropO s [i, j, k], s.nx, s.lr⟩, fun g => g ≤ 4, fun g => 4 - g⟩
    | _, _, _, _ => none
  | 15, 31 => match arrI8 s 219 with
    | some b => some ⟨Nat, fun g => ⟨[tI 220 g, (30, .val (.one (.own s.nx)))] ++ keepQ [5, 219] s.tm, (s.nx, some (.row (.flt .f32) (tab g (burF b)))) :: lessO s [30], s.nx + 1, s.lr⟩, fun g => g ≤ 8, fun g => 8 - g⟩
    | _ => none
  | 15, 42 => match listAs s 272 (.flt .f32) with
    | some l => some ⟨Nat, fun i => s.at [33, 34, 272, 273] [tI 274 i, tI 36 (smTo (sixs l) 0 i)], fun i => i ≤ List.length l, fun i => List.length l - i⟩
    | _ => none
  | 15, 1000008 => match box4 s 7, box4 s 8, box4 s 9 with
    | some (i, x), some (j, y), some (k, z) => some ⟨List Nat × List Nat × List Nat, fun g => ⟨keepQ [4, 5, 7, 8, 9] s.tm, (i, some (.box [.arr 4 (.flt .f32) g.1])) :: (j, some (.box [.arr 4 (.flt .f32) g.2.1])) :: (k, some (.box [.arr 4 (.flt .f32) g.2.2])) :: dropO s [i, j, k], s.nx, s.lr⟩, fun g => g.1 = x ∧ g.2.1 = y ∧ g.2.2 = z, fun _ => 0⟩
    | _, _, _ => none
  | 15, 1000029 => match boxI s 4, boxU s 5 with
    | some (i, x), some (j, y) => some ⟨Nat, fun _ => ⟨keepQ [4, 5] s.tm, [(i, some (.box [.arr 8 (.int .i16) x])), (j, some (.box [.arr 2 (.int .u8) y]))], s.nx, s.lr⟩, fun _ => True, fun _ => 0⟩
    | _, _ => none
  | 15, 1000035 => match listAs s 30 (.flt .f32) with
    | some l => some ⟨List Nat, fun g => ⟨(30, .val (.one (.own s.nx))) :: keepQ [5] s.tm, (s.nx, some (.row (.flt .f32) g)) :: lessO s [30], s.nx + 1, s.lr⟩, fun g => g = l, fun _ => 0⟩
    | _ => none
  | _, _ => none, 0⟩
end Go.Sx

/- What the engine asks, written out (printed by a program). -/
namespace Go.Sx
open U
theorem vc15 (b s : List Int) (p0 p1 : Int) : exF (env true [(19, sp19), (62, sp62), (63, sp63), (67, sp67), (34, sp34), (68, sp68), (36, sp36), (86, sp86), (87, sp87), (27, sp27)] []) h15 0 15 Proofs.Tryz.f15 [.agg [.arr 4 (.int .i16) b], .agg [.arr 8 (.int .i16) s], .agg [.arr 2 (.int .u8) [p0, p1]]] (.val (bV true)) = (let q2 := (IntKind.wrap IntKind.i64 (Int.tmod p0 (8 : Int) + (1 : Int)) + Int.tmod p1 (IntKind.wrap IntKind.i64 ((8 : Int) - Int.tmod p0 (8 : Int)))); let q0 := (IntKind.wrap IntKind.i64 q2); let q3 := (Int.tmod p0 (8 : Int)); let q8 := (↑(Int.toNat q0 - Int.toNat q3) : Int); let q9 := (1084227584 : Nat); let q11 := (IntKind.wrap IntKind.i64 q2 - Int.tmod p0 (8 : Int)); let q13 := (Ty.pair (Ty.int IntKind.i64) (Ty.int IntKind.i64)); let q15 := ((0 : Int) ≤ (0 : Int) ∧ (0 : Int) ≤ (4 : Int) ∧ (4 : Int) ≤ (4 : Int)); let q17 := (false = true ∧ True); let q18 := (Int.toNat q3 = Int.toNat q3 ∧ Int.toNat q0 - Int.toNat q3 = Int.toNat q0 - Int.toNat q3); (∃ (g : Nat), Nat.le g (4 : Nat) ∧ (0 : Int) = (↑g : Int) ∧ b = b ∧ List.replicate (4 : Nat) (0 : Nat) = fillTo (0 : Nat) (4 : Nat) (burF b) g ∧ List.replicate (4 : Nat) (0 : Nat) = movTo b g ∧ List.replicate (4 : Nat) (0 : Nat) = fillTo (0 : Nat) (4 : Nat) (negF b) g ∧ [p0, p1] = [p0, p1] ∧ s = s ∧ b = b ∧ True) ∧ ∀ (g : Nat), let q5 := (Ieee.Format.div (FloatKind.format FloatKind.f32) (FloatKind.nearest FloatKind.f32 (Int.tmod (List.getD b g (0 : Int)) (3200 : Int))) (1098907648 : Nat)); let q12 := (IntKind.wrap IntKind.i64 ((↑g : Int) + (1 : Int))); let q16 := ((0 : Int) ≤ (↑g : Int) ∧ (↑g : Int) < (4 : Int)); let q23 := (Option.getD q5 (0 : Nat)); Nat.le g (4 : Nat) → splitB (decide ((↑g : Int) < (4 : Int))) (q16 ∧ (3200 : Int) ≠ (0 : Int) ∧ Option.isSome q5 = true ∧ (4 : Int) ≠ (0 : Int) ∧ q16 ∧ g < List.length (fillTo (0 : Nat) (4 : Nat) (burF b) g) ∧ ((0 : Int) ≤ Int.tmod q12 (4 : Int) ∧ Int.tmod q12 (4 : Int) < (4 : Int)) ∧ Int.toNat (Int.tmod q12 (4 : Int)) < List.length (movTo b g) ∧ q16 ∧ g < List.length (fillTo (0 : Nat) (4 : Nat) (negF b) g) ∧ ∃ (g' : Nat), Nat.le g' (4 : Nat) ∧ (4 : Nat) - g' < (4 : Nat) - g ∧ IntKind.wrap IntKind.i64 ((↑g : Int) + (1 : Int)) = (↑g' : Int) ∧ b = b ∧ List.set (fillTo (0 : Nat) (4 : Nat) (burF b) g) g q23 = fillTo (0 : Nat) (4 : Nat) (burF b) g' ∧ List.set (movTo b g) (Int.toNat (Int.tmod q12 (4 : Int))) q23 = movTo b g' ∧ List.set (fillTo (0 : Nat) (4 : Nat) (negF b) g) g (Op.negFloat FloatKind.f32 q23) = fillTo (0 : Nat) (4 : Nat) (negF b) g' ∧ [p0, p1] = [p0, p1] ∧ s = s ∧ b = b ∧ True) ((∃ (g_1 : List Nat × List Nat × List Nat), (g_1.1 = fillTo (0 : Nat) (4 : Nat) (burF b) g ∧ g_1.2.1 = movTo b g ∧ g_1.2.2 = fillTo (0 : Nat) (4 : Nat) (negF b) g) ∧ fillTo (0 : Nat) (4 : Nat) (burF b) g = g_1.1 ∧ movTo b g = g_1.2.1 ∧ fillTo (0 : Nat) (4 : Nat) (negF b) g = g_1.2.2 ∧ [p0, p1] = [p0, p1] ∧ s = s ∧ b = b ∧ True) ∧ ∀ (g_1 : List Nat × List Nat × List Nat), let q20 := (List.take (4 : Nat) g_1.1 ++ List.take (4 : Nat) g_1.1 ++ List.take (4 : Nat) g_1.1); let q4 := (algN q20 (lkN g_1.1 (1 : Int))); let q7 := (IntKind.wrap IntKind.i64 (chkSs g_1.1 + chkSs g_1.2.2) + chkSs g_1.2.1); let q14 := (List.take (4 : Nat) g_1.1); let q19 := (bif (burZ g_1.1).1 != (burZ g_1.1).2 then (burZ g_1.1).1 != -(burZ g_1.1).2 else false); let q21 := (List.take (4 : Nat) q4); let q22 := (IntKind.wrap IntKind.i64 (lkN g_1.1 (1 : Int) + (1 : Int))); g_1.1 = fillTo (0 : Nat) (4 : Nat) (burF b) g ∧ g_1.2.1 = movTo b g ∧ g_1.2.2 = fillTo (0 : Nat) (4 : Nat) (negF b) g → List.length g_1.1 = (4 : Nat) ∧ List.length g_1.2.2 = (4 : Nat) ∧ List.length g_1.2.1 = (4 : Nat) ∧ ((IntKind.wrap IntKind.i64 q7 != (0 : Int)) = false → fits IntKind.i64 (-(burZ g_1.1).1)) ∧ ((IntKind.wrap IntKind.i64 q7 != (0 : Int)) = false → fits IntKind.i64 (-(burZ g_1.1).2)) ∧ ((bif IntKind.wrap IntKind.i64 q7 != (0 : Int) then true else !eqT q13 ((burZ g_1.2.2).1, (burZ g_1.2.2).2) (-(burZ g_1.1).1, -(burZ g_1.1).2)) = false → fits IntKind.i64 (-(burZ g_1.1).2)) ∧ splitB (bif bif IntKind.wrap IntKind.i64 q7 != (0 : Int) then true else !eqT q13 ((burZ g_1.2.2).1, (burZ g_1.2.2).2) (-(burZ g_1.1).1, -(burZ g_1.1).2) then true else !eqT q13 ((burZ g_1.2.1).1, (burZ g_1.2.1).2) (-(burZ g_1.1).2, (burZ g_1.1).1)) q17 (List.length g_1.1 = (4 : Nat) ∧ splitB (eqT q13 ((burZ g_1.1).1, (burZ g_1.1).2) ((0 : Int), (0 : Int))) ((bif lkE g_1.1 (1 : Int) == (7 : Int) then true else false) = true ∧ True) (List.length g_1.2.1 = (4 : Nat) ∧ List.length g_1.2.2 = (4 : Nat) ∧ splitB (bif bif bif bif bif bif IntKind.wrap IntKind.i64 (IntKind.wrap IntKind.i64 (lkE g_1.1 (1 : Int) + lkE g_1.2.1 (1 : Int)) + lkE g_1.2.2 (1 : Int)) != (0 : Int) then true else decide (lkN g_1.1 (1 : Int) < (0 : Int)) then true else decide ((3 : Int) < lkN g_1.1 (1 : Int)) then true else decide (lkN g_1.2.1 (1 : Int) < (0 : Int)) then true else decide ((3 : Int) < lkN g_1.2.1 (1 : Int)) then true else decide (lkN g_1.2.2 (1 : Int) < (0 : Int)) then true else decide ((3 : Int) < lkN g_1.2.2 (1 : Int))) q17 ((((burZ g_1.1).1 != (burZ g_1.1).2) = true → fits IntKind.i64 (-(burZ g_1.1).2)) ∧ (q19 = true → (4 : Int) ≠ (0 : Int)) ∧ (q19 = true → (lkN g_1.2.1 (1 : Int) != Int.tmod q22 (4 : Int)) = false → (4 : Int) ≠ (0 : Int)) ∧ splitB (bif bif (burZ g_1.1).1 != (burZ g_1.1).2 then (burZ g_1.1).1 != -(burZ g_1.1).2 else false then bif lkN g_1.2.1 (1 : Int) != Int.tmod q22 (4 : Int) then true else lkN g_1.2.2 (1 : Int) != Int.tmod (IntKind.wrap IntKind.i64 (lkN g_1.1 (1 : Int) + (2 : Int))) (4 : Int) else false) q17 (q15 ∧ List.length q14 = (4 : Nat) ∧ room ((0 : Nat) + List.length q14) (4 : Nat) ∧ q15 ∧ List.length q14 = (4 : Nat) ∧ room (List.length q14 + List.length q14) (4 : Nat) ∧ q15 ∧ List.length q14 = (4 : Nat) ∧ room (List.length (List.take (4 : Nat) g_1.1 ++ List.take (4 : Nat) g_1.1) + List.length q14) (4 : Nat) ∧ splitB (bif algE q20 (lkN g_1.1 (1 : Int)) != (0 : Int) then true else decide ((↑(List.length q4) : Int) < (8 : Int))) q17 (((0 : Int) ≤ (0 : Int) ∧ (0 : Int) ≤ (4 : Int) ∧ (4 : Int) ≤ (↑(List.length q4) : Int)) ∧ (4 : Nat) ≤ (4 : Nat) ∧ List.length q21 = (4 : Nat) ∧ List.length q21 = (4 : Nat) ∧ splitB (bif lkE q21 (1 : Int) != (0 : Int) then true else lkN q21 (1 : Int) != (0 : Int)) q17 ((∃ (g : Nat), True ∧ s = s ∧ [p0, p1] = [p0, p1] ∧ True) ∧ ∀ (g : Nat), True → (∃ (g : Nat), Nat.le g (8 : Nat) ∧ (0 : Int) = (↑g : Int) ∧ s = s ∧ tab g (burF s) = [] ∧ s = s ∧ [p0, p1] = [p0, p1] ∧ True) ∧ ∀ (g : Nat), let q10 := (Ieee.Format.div (FloatKind.format FloatKind.f32) (FloatKind.nearest FloatKind.f32 (Int.tmod (List.getD s g (0 : Int)) (3200 : Int))) (1098907648 : Nat)); Nat.le g (8 : Nat) → splitB (decide ((↑g : Int) < (8 : Int))) (((0 : Int) ≤ (↑g : Int) ∧ (↑g : Int) < (8 : Int)) ∧ (3200 : Int) ≠ (0 : Int) ∧ Option.isSome q10 = true ∧ room (List.length (tab g (burF s)) + (1 : Nat)) (4 : Nat) ∧ ∃ (g' : Nat), Nat.le g' (8 : Nat) ∧ (8 : Nat) - g' < (8 : Nat) - g ∧ IntKind.wrap IntKind.i64 ((↑g : Int) + (1 : Int)) = (↑g' : Int) ∧ s = s ∧ tab g (burF s) ++ [Option.getD q10 (0 : Nat)] = tab g' (burF s) ∧ s = s ∧ [p0, p1] = [p0, p1] ∧ True) ((∃ (g_2 : List Nat), g_2 = tab g (burF s) ∧ tab g (burF s) = g_2 ∧ s = s ∧ [p0, p1] = [p0, p1] ∧ True) ∧ ∀ (g_2 : List Nat), let q6 := (clN g_2 q3 q0 q9); let q1 := (List.take (Int.toNat q0 - Int.toNat q3) (List.drop (Int.toNat q3) q6)); g_2 = tab g (burF s) → ((0 : Int) ≤ (0 : Int) ∧ (0 : Int) < (2 : Int)) ∧ (0 : Nat) < (2 : Nat) ∧ fits IntKind.i64 p0 ∧ (8 : Int) ≠ (0 : Int) ∧ ((0 : Int) ≤ (1 : Int) ∧ (1 : Int) < (2 : Int)) ∧ (1 : Nat) < (2 : Nat) ∧ fits IntKind.i64 p1 ∧ IntKind.wrap IntKind.i64 ((8 : Int) - Int.tmod p0 (8 : Int)) ≠ (0 : Int) ∧ List.length g_2 ≤ (1000000 : Nat) ∧ splitB (bif bif clE g_2 q3 q0 q9 != (0 : Int) then true else chkSig q6 != (0 : Int) then true else (↑(List.length q6) : Int) != (8 : Int)) q17 (((0 : Int) ≤ Int.tmod p0 (8 : Int) ∧ Int.tmod p0 (8 : Int) ≤ IntKind.wrap IntKind.i64 q2 ∧ IntKind.wrap IntKind.i64 q2 ≤ (↑(List.length q6) : Int)) ∧ (∃ (g : Nat), Nat.le g (List.length q1) ∧ (0 : Int) = (↑g : Int) ∧ (0 : Int) = smTo (sixs q1) (0 : Nat) g ∧ q8 = q8 ∧ q18 ∧ clN g_2 q3 q0 q9 = clN g_2 q3 q0 q9 ∧ g_2 = g_2 ∧ Int.tmod p0 (8 : Int) = Int.tmod p0 (8 : Int) ∧ IntKind.wrap IntKind.i64 q2 = IntKind.wrap IntKind.i64 q2 ∧ g_2 = g_2 ∧ s = s ∧ [p0, p1] = [p0, p1] ∧ True) ∧ ∀ (g : Nat), Nat.le g (List.length q1) → splitB (decide ((↑g : Int) < q8)) (((0 : Int) ≤ (↑g : Int) ∧ (↑g : Int) < q8) ∧ Int.toNat q3 + g < List.length q6 ∧ chkS (List.getD q6 (Int.toNat q3 + g) (0 : Nat)) = (0 : Int) ∧ ∃ (g' : Nat), Nat.le g' (List.length q1) ∧ List.length q1 - g' < List.length q1 - g ∧ IntKind.wrap IntKind.i64 ((↑g : Int) + (1 : Int)) = (↑g' : Int) ∧ IntKind.wrap IntKind.i64 (smTo (sixs q1) (0 : Nat) g + six (List.getD q6 (Int.toNat q3 + g) (0 : Nat))) = smTo (sixs q1) (0 : Nat) g' ∧ q8 = q8 ∧ q18 ∧ clN g_2 q3 q0 q9 = clN g_2 q3 q0 q9 ∧ g_2 = g_2 ∧ Int.tmod p0 (8 : Int) = Int.tmod p0 (8 : Int) ∧ IntKind.wrap IntKind.i64 q2 = IntKind.wrap IntKind.i64 q2 ∧ g_2 = g_2 ∧ s = s ∧ [p0, p1] = [p0, p1] ∧ True) (List.length q6 ≤ (1000000 : Nat) ∧ ((clE q6 q3 q0 q9 == (0 : Int)) = true → (-1000000000 : Int) ≤ smTo (sixs q1) (0 : Nat) g ∧ smTo (sixs q1) (0 : Nat) g ≤ (1000000000 : Int)) ∧ ((clE q6 q3 q0 q9 == (0 : Int)) = true → (0 : Int) < IntKind.wrap IntKind.i64 q11 ∧ IntKind.wrap IntKind.i64 q11 ≤ (1000000000 : Int)) ∧ ((bif clE q6 q3 q0 q9 == (0 : Int) then roundI (smTo (sixs q1) (0 : Nat) g) (IntKind.wrap IntKind.i64 q11) == (80 : Int) else false) = true → List.length (clN q6 q3 q0 q9) ≤ (1000000000 : Nat)) ∧ (bif bif bif clE q6 q3 q0 q9 == (0 : Int) then roundI (smTo (sixs q1) (0 : Nat) g) (IntKind.wrap IntKind.i64 q11) == (80 : Int) else false then sameS (clN q6 q3 q0 q9) q6 else false then true else false) = true ∧ True))))))))))) := by
  kernel_rfl
end Go.Sx
