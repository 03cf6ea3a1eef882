/- A verified symbolic run of functions, part 16: lemmas, no claim of their own. -/
import Derived.Test.YtjbfcdgbjgjliaaGreatDoorS15
import Derived.Shelf.Spec.SlicesGrow
import Derived.Test.YtjbfcdgbjgjliaaGreatDoorProg
import Derived.Shelf.Strings.Split
import Derived.Shelf.Strings.Prefix
import Derived.Shelf.Small.Strs
import Derived.Shelf.Small.Wraps
import Derived.Shelf.Strconv.ErrVarAll
import Derived.Shelf.LaysM
import Derived.Shelf.LaysC
import Derived.Lib.SmallJoins
namespace Go.Sx
open U
theorem vc93 (_u : Unit) : exFr (env false [] []) h0 0 93 Proofs.Tryz.f93 [] (.val (ptV [1092616192, 1101004800, 1092616192, 1101004800] [1077936128] [3221225472])) = ([(1092616192 : Nat), (1101004800 : Nat), (1092616192 : Nat), (1101004800 : Nat)] = [(1092616192 : Nat), (1101004800 : Nat), (1092616192 : Nat), (1101004800 : Nat)] ∧ [(1077936128 : Nat)] = [(1077936128 : Nat)] ∧ [(3221225472 : Nat)] = [(3221225472 : Nat)] ∧ True) := by
  kernel_rfl
theorem vc94 (_u : Unit) : exFr (env false [] []) h0 0 94 Proofs.Tryz.f94 [] (.val (ptV [1092616192, 1101004800, 1096810496, 1101004800] [1077936128] [3221225472])) = ([(1092616192 : Nat), (1101004800 : Nat), (1096810496 : Nat), (1101004800 : Nat)] = [(1092616192 : Nat), (1101004800 : Nat), (1096810496 : Nat), (1101004800 : Nat)] ∧ [(1077936128 : Nat)] = [(1077936128 : Nat)] ∧ [(3221225472 : Nat)] = [(3221225472 : Nat)] ∧ True) := by
  kernel_rfl
theorem vc19 (_u : Unit) : exF (env false [(93, sp93), (94, sp94), (46, sp46), (20, sp20h), (33, sp33h), (43, sp43h), (57, sp57h), (58, sp58h), (47, sp47h), (48, sp48h), (62, sp62h), (63, sp63h), (67, sp67h), (68, sp68h), (72, sp72h), (74, sp74h), (75, sp75h), (88, sp88h), (27, sp27h), (45, sp45h)] []) h0 0 19 Proofs.Tryz.f19 [] (.val (bV true)) = ((0 : Int) = (0 : Int) ∧ [(1092616192 : Nat), (1101004800 : Nat), (1092616192 : Nat), (1101004800 : Nat)] = [(1092616192 : Nat), (1101004800 : Nat), (1092616192 : Nat), (1101004800 : Nat)] ∧ [(1077936128 : Nat)] = [(1077936128 : Nat)] ∧ [(3221225472 : Nat)] = [(3221225472 : Nat)] ∧ (1 : Int) = (1 : Int) ∧ [(1092616192 : Nat), (1101004800 : Nat), (1092616192 : Nat), (1101004800 : Nat)] = [(1092616192 : Nat), (1101004800 : Nat), (1092616192 : Nat), (1101004800 : Nat)] ∧ [(1077936128 : Nat)] = [(1077936128 : Nat)] ∧ [(3221225472 : Nat)] = [(3221225472 : Nat)] ∧ [(1095761920 : Nat), (1099956224 : Nat), (1088421888 : Nat), (1102053376 : Nat)] = [(1095761920 : Nat), (1099956224 : Nat), (1088421888 : Nat), (1102053376 : Nat)] ∧ [(1095761920 : Nat), (1099956224 : Nat), (1088421888 : Nat), (1102053376 : Nat)] = [(1095761920 : Nat), (1099956224 : Nat), (1088421888 : Nat), (1102053376 : Nat)] ∧ (0 : Int) = (0 : Int) ∧ [(1095761920 : Nat), (1099956224 : Nat), (1093664768 : Nat), (1102053376 : Nat)] = [(1095761920 : Nat), (1099956224 : Nat), (1093664768 : Nat), (1102053376 : Nat)] ∧ (0 : Int) = (0 : Int) ∧ [(1092616192 : Nat), (1101004800 : Nat), (1096810496 : Nat), (1101004800 : Nat)] = [(1092616192 : Nat), (1101004800 : Nat), (1096810496 : Nat), (1101004800 : Nat)] ∧ [(1077936128 : Nat)] = [(1077936128 : Nat)] ∧ [(3221225472 : Nat)] = [(3221225472 : Nat)] ∧ [(1092616192 : Nat), (1101004800 : Nat), (1096810496 : Nat), (1101004800 : Nat)] = [(1092616192 : Nat), (1101004800 : Nat), (1096810496 : Nat), (1101004800 : Nat)] ∧ [(1077936128 : Nat)] = [(1077936128 : Nat)] ∧ [(3221225472 : Nat)] = [(3221225472 : Nat)] ∧ [(1094713344 : Nat), (1101004800 : Nat), (1094713344 : Nat), (1101004800 : Nat)] = [(1094713344 : Nat), (1101004800 : Nat), (1094713344 : Nat), (1101004800 : Nat)] ∧ [(1065353216 : Nat)] = [(1065353216 : Nat)] ∧ [(3221225472 : Nat)] = [(3221225472 : Nat)] ∧ fits IntKind.i64 (0 : Int) ∧ fits IntKind.i64 (0 : Int) ∧ fits IntKind.i64 (0 : Int) ∧ fits IntKind.i64 (0 : Int) ∧ fits IntKind.i64 (0 : Int) ∧ fits IntKind.i64 (0 : Int) ∧ (((0 : Int) != (0 : Int)) = false → chkSs [(1095761920 : Nat), (1099956224 : Nat), (1088421888 : Nat), (1102053376 : Nat)] = (0 : Int)) ∧ (((0 : Int) != (0 : Int)) = false → (4 : Nat) ≤ (1000000000 : Nat)) ∧ ((bif (0 : Int) != (0 : Int) then true else !true) = false → chkSs [(1088421888 : Nat), (1102053376 : Nat), (1095761920 : Nat), (1099956224 : Nat)] = (0 : Int)) ∧ ((bif (0 : Int) != (0 : Int) then true else !true) = false → (4 : Nat) ≤ (1000000000 : Nat)) ∧ ((bif bif bif (0 : Int) != (0 : Int) then true else !true then true else !true then true else (1 : Int) != (1 : Int)) = false → (0 : Int) ≤ (0 : Int) ∧ (0 : Int) < (1 : Int)) ∧ ((bif bif bif (0 : Int) != (0 : Int) then true else !true then true else !true then true else (1 : Int) != (1 : Int)) = false → (0 : Nat) < (1 : Nat)) ∧ ((bif bif bif bif (0 : Int) != (0 : Int) then true else !true then true else !true then true else (1 : Int) != (1 : Int) then true else !eqT (Ty.arr (4 : Nat) (Ty.cpx FloatKind.f32)) [((1114636288 : Nat), (0 : Nat)), ((1086324736 : Nat), (1082130432 : Nat)), ((3248488448 : Nat), (0 : Nat)), ((1086324736 : Nat), (3229614080 : Nat))] [((1114636288 : Nat), (0 : Nat)), ((1086324736 : Nat), (1082130432 : Nat)), ((3248488448 : Nat), (0 : Nat)), ((1086324736 : Nat), (3229614080 : Nat))]) = false → chkSs [(1092616192 : Nat), (1101004800 : Nat), (1092616192 : Nat), (1101004800 : Nat)] = (0 : Int)) ∧ ((bif bif bif bif (0 : Int) != (0 : Int) then true else !true then true else !true then true else (1 : Int) != (1 : Int) then true else !eqT (Ty.arr (4 : Nat) (Ty.cpx FloatKind.f32)) [((1114636288 : Nat), (0 : Nat)), ((1086324736 : Nat), (1082130432 : Nat)), ((3248488448 : Nat), (0 : Nat)), ((1086324736 : Nat), (3229614080 : Nat))] [((1114636288 : Nat), (0 : Nat)), ((1086324736 : Nat), (1082130432 : Nat)), ((3248488448 : Nat), (0 : Nat)), ((1086324736 : Nat), (3229614080 : Nat))]) = false → (4 : Nat) ≤ (1000000000 : Nat)) ∧ ((bif bif bif bif (0 : Int) != (0 : Int) then true else !true then true else !true then true else (1 : Int) != (1 : Int) then true else !eqT (Ty.arr (4 : Nat) (Ty.cpx FloatKind.f32)) [((1114636288 : Nat), (0 : Nat)), ((1086324736 : Nat), (1082130432 : Nat)), ((3248488448 : Nat), (0 : Nat)), ((1086324736 : Nat), (3229614080 : Nat))] [((1114636288 : Nat), (0 : Nat)), ((1086324736 : Nat), (1082130432 : Nat)), ((3248488448 : Nat), (0 : Nat)), ((1086324736 : Nat), (3229614080 : Nat))]) = false → chkSs [(1077936128 : Nat)] = (0 : Int)) ∧ ((bif bif bif bif (0 : Int) != (0 : Int) then true else !true then true else !true then true else (1 : Int) != (1 : Int) then true else !eqT (Ty.arr (4 : Nat) (Ty.cpx FloatKind.f32)) [((1114636288 : Nat), (0 : Nat)), ((1086324736 : Nat), (1082130432 : Nat)), ((3248488448 : Nat), (0 : Nat)), ((1086324736 : Nat), (3229614080 : Nat))] [((1114636288 : Nat), (0 : Nat)), ((1086324736 : Nat), (1082130432 : Nat)), ((3248488448 : Nat), (0 : Nat)), ((1086324736 : Nat), (3229614080 : Nat))]) = false → (1 : Nat) ≤ (1000000000 : Nat)) ∧ ((bif bif bif bif (0 : Int) != (0 : Int) then true else !true then true else !true then true else (1 : Int) != (1 : Int) then true else !eqT (Ty.arr (4 : Nat) (Ty.cpx FloatKind.f32)) [((1114636288 : Nat), (0 : Nat)), ((1086324736 : Nat), (1082130432 : Nat)), ((3248488448 : Nat), (0 : Nat)), ((1086324736 : Nat), (3229614080 : Nat))] [((1114636288 : Nat), (0 : Nat)), ((1086324736 : Nat), (1082130432 : Nat)), ((3248488448 : Nat), (0 : Nat)), ((1086324736 : Nat), (3229614080 : Nat))]) = false → chkSs [(3221225472 : Nat)] = (0 : Int)) ∧ ((bif bif bif bif (0 : Int) != (0 : Int) then true else !true then true else !true then true else (1 : Int) != (1 : Int) then true else !eqT (Ty.arr (4 : Nat) (Ty.cpx FloatKind.f32)) [((1114636288 : Nat), (0 : Nat)), ((1086324736 : Nat), (1082130432 : Nat)), ((3248488448 : Nat), (0 : Nat)), ((1086324736 : Nat), (3229614080 : Nat))] [((1114636288 : Nat), (0 : Nat)), ((1086324736 : Nat), (1082130432 : Nat)), ((3248488448 : Nat), (0 : Nat)), ((1086324736 : Nat), (3229614080 : Nat))]) = false → (1 : Nat) ≤ (1000000000 : Nat)) ∧ ((bif bif bif bif bif (0 : Int) != (0 : Int) then true else !true then true else !true then true else (1 : Int) != (1 : Int) then true else !eqT (Ty.arr (4 : Nat) (Ty.cpx FloatKind.f32)) [((1114636288 : Nat), (0 : Nat)), ((1086324736 : Nat), (1082130432 : Nat)), ((3248488448 : Nat), (0 : Nat)), ((1086324736 : Nat), (3229614080 : Nat))] [((1114636288 : Nat), (0 : Nat)), ((1086324736 : Nat), (1082130432 : Nat)), ((3248488448 : Nat), (0 : Nat)), ((1086324736 : Nat), (3229614080 : Nat))] then true else !true) = false → chkSs [(1094713344 : Nat), (1101004800 : Nat), (1094713344 : Nat), (1101004800 : Nat)] = (0 : Int)) ∧ ((bif bif bif bif bif (0 : Int) != (0 : Int) then true else !true then true else !true then true else (1 : Int) != (1 : Int) then true else !eqT (Ty.arr (4 : Nat) (Ty.cpx FloatKind.f32)) [((1114636288 : Nat), (0 : Nat)), ((1086324736 : Nat), (1082130432 : Nat)), ((3248488448 : Nat), (0 : Nat)), ((1086324736 : Nat), (3229614080 : Nat))] [((1114636288 : Nat), (0 : Nat)), ((1086324736 : Nat), (1082130432 : Nat)), ((3248488448 : Nat), (0 : Nat)), ((1086324736 : Nat), (3229614080 : Nat))] then true else !true) = false → (4 : Nat) ≤ (1000000000 : Nat)) ∧ ((bif bif bif bif bif (0 : Int) != (0 : Int) then true else !true then true else !true then true else (1 : Int) != (1 : Int) then true else !eqT (Ty.arr (4 : Nat) (Ty.cpx FloatKind.f32)) [((1114636288 : Nat), (0 : Nat)), ((1086324736 : Nat), (1082130432 : Nat)), ((3248488448 : Nat), (0 : Nat)), ((1086324736 : Nat), (3229614080 : Nat))] [((1114636288 : Nat), (0 : Nat)), ((1086324736 : Nat), (1082130432 : Nat)), ((3248488448 : Nat), (0 : Nat)), ((1086324736 : Nat), (3229614080 : Nat))] then true else !true) = false → chkSs [(1065353216 : Nat)] = (0 : Int)) ∧ ((bif bif bif bif bif (0 : Int) != (0 : Int) then true else !true then true else !true then true else (1 : Int) != (1 : Int) then true else !eqT (Ty.arr (4 : Nat) (Ty.cpx FloatKind.f32)) [((1114636288 : Nat), (0 : Nat)), ((1086324736 : Nat), (1082130432 : Nat)), ((3248488448 : Nat), (0 : Nat)), ((1086324736 : Nat), (3229614080 : Nat))] [((1114636288 : Nat), (0 : Nat)), ((1086324736 : Nat), (1082130432 : Nat)), ((3248488448 : Nat), (0 : Nat)), ((1086324736 : Nat), (3229614080 : Nat))] then true else !true) = false → (1 : Nat) ≤ (1000000000 : Nat)) ∧ ((bif bif bif bif bif (0 : Int) != (0 : Int) then true else !true then true else !true then true else (1 : Int) != (1 : Int) then true else !eqT (Ty.arr (4 : Nat) (Ty.cpx FloatKind.f32)) [((1114636288 : Nat), (0 : Nat)), ((1086324736 : Nat), (1082130432 : Nat)), ((3248488448 : Nat), (0 : Nat)), ((1086324736 : Nat), (3229614080 : Nat))] [((1114636288 : Nat), (0 : Nat)), ((1086324736 : Nat), (1082130432 : Nat)), ((3248488448 : Nat), (0 : Nat)), ((1086324736 : Nat), (3229614080 : Nat))] then true else !true) = false → chkSs [(3221225472 : Nat)] = (0 : Int)) ∧ ((bif bif bif bif bif (0 : Int) != (0 : Int) then true else !true then true else !true then true else (1 : Int) != (1 : Int) then true else !eqT (Ty.arr (4 : Nat) (Ty.cpx FloatKind.f32)) [((1114636288 : Nat), (0 : Nat)), ((1086324736 : Nat), (1082130432 : Nat)), ((3248488448 : Nat), (0 : Nat)), ((1086324736 : Nat), (3229614080 : Nat))] [((1114636288 : Nat), (0 : Nat)), ((1086324736 : Nat), (1082130432 : Nat)), ((3248488448 : Nat), (0 : Nat)), ((1086324736 : Nat), (3229614080 : Nat))] then true else !true) = false → (1 : Nat) ≤ (1000000000 : Nat)) ∧ [[(1095761920 : Nat), (1099956224 : Nat), (1093664768 : Nat), (1102053376 : Nat)], [(1088421888 : Nat), (1102053376 : Nat), (1099431936 : Nat), (1099956224 : Nat)]] = [[(1095761920 : Nat), (1099956224 : Nat), (1093664768 : Nat), (1102053376 : Nat)], [(1088421888 : Nat), (1102053376 : Nat), (1099431936 : Nat), (1099956224 : Nat)]] ∧ (0 : Int) = (0 : Int) ∧ [[(1095761920 : Nat), (1099956224 : Nat), (1093664768 : Nat), (1102053376 : Nat)], [(1088421888 : Nat), (1102577664 : Nat), (1100480512 : Nat), (1100480512 : Nat)], [(1099431936 : Nat), (1101004800 : Nat), (1093664768 : Nat), (1103101952 : Nat)]] = [[(1095761920 : Nat), (1099956224 : Nat), (1093664768 : Nat), (1102053376 : Nat)], [(1088421888 : Nat), (1102577664 : Nat), (1100480512 : Nat), (1100480512 : Nat)], [(1099431936 : Nat), (1101004800 : Nat), (1093664768 : Nat), (1103101952 : Nat)]] ∧ (1 : Int) = (1 : Int) ∧ [(0 : Nat), (1084227584 : Nat), (0 : Nat), (3231711232 : Nat)] = [(0 : Nat), (1084227584 : Nat), (0 : Nat), (3231711232 : Nat)] ∧ [(0 : Nat), (1084227584 : Nat), (0 : Nat), (3231711232 : Nat)] = [(0 : Nat), (1084227584 : Nat), (0 : Nat), (3231711232 : Nat)] ∧ (160 : Int) = (160 : Int) ∧ [(1065353216 : Nat), (1073741824 : Nat), (1077936128 : Nat), (1082130432 : Nat), (1084227584 : Nat), (1086324736 : Nat), (1088421888 : Nat), (1090519040 : Nat)] = [(1065353216 : Nat), (1073741824 : Nat), (1077936128 : Nat), (1082130432 : Nat), (1084227584 : Nat), (1086324736 : Nat), (1088421888 : Nat), (1090519040 : Nat)] ∧ (1 : Int) = (1 : Int) ∧ [(1077936128 : Nat), (1084227584 : Nat), (1088421888 : Nat), (1091567616 : Nat)] = [(1077936128 : Nat), (1084227584 : Nat), (1088421888 : Nat), (1091567616 : Nat)] ∧ (0 : Int) = (0 : Int) ∧ (2 : Int) = (2 : Int) ∧ (1065353216 : Nat) = (1065353216 : Nat) ∧ [(1 : Int), (0 : Int), (-1 : Int)] = [(1 : Int), (0 : Int), (-1 : Int)] ∧ [(1065353216 : Nat), (1073741824 : Nat), (1082130432 : Nat), (1090519040 : Nat)] = [(1065353216 : Nat), (1073741824 : Nat), (1082130432 : Nat), (1090519040 : Nat)] ∧ [(1 : Int), (0 : Int), (-1 : Int)] = [(1 : Int), (0 : Int), (-1 : Int)] ∧ [(1065353216 : Nat), (1073741824 : Nat), (1082130432 : Nat), (1090519040 : Nat)] = [(1065353216 : Nat), (1073741824 : Nat), (1082130432 : Nat), (1090519040 : Nat)] ∧ [(1 : Int), (0 : Int), (-1 : Int)] = [(1 : Int), (0 : Int), (-1 : Int)] ∧ [(1092616192 : Nat), (1101004800 : Nat), (1092616192 : Nat), (1101004800 : Nat)] = [(1092616192 : Nat), (1101004800 : Nat), (1092616192 : Nat), (1101004800 : Nat)] ∧ [(1077936128 : Nat)] = [(1077936128 : Nat)] ∧ [(3221225472 : Nat)] = [(3221225472 : Nat)] ∧ fits IntKind.i64 (0 : Int) ∧ fits IntKind.i64 (0 : Int) ∧ fits IntKind.i64 (0 : Int) ∧ fits IntKind.i64 (0 : Int) ∧ fits IntKind.i64 (0 : Int) ∧ fits IntKind.i64 (0 : Int) ∧ fits IntKind.i64 (0 : Int) ∧ fits IntKind.i64 (0 : Int) ∧ fits IntKind.i64 (0 : Int) ∧ (((0 : Int) == (0 : Int)) = true → chkSs [(1092616192 : Nat), (1101004800 : Nat), (1096810496 : Nat), (1101004800 : Nat)] = (0 : Int)) ∧ (((0 : Int) == (0 : Int)) = true → (4 : Nat) ≤ (1000000000 : Nat)) ∧ (((0 : Int) == (0 : Int)) = true → chkSs [(1077936128 : Nat)] = (0 : Int)) ∧ (((0 : Int) == (0 : Int)) = true → (1 : Nat) ≤ (1000000000 : Nat)) ∧ (((0 : Int) == (0 : Int)) = true → chkSs [(3221225472 : Nat)] = (0 : Int)) ∧ (((0 : Int) == (0 : Int)) = true → (1 : Nat) ≤ (1000000000 : Nat)) ∧ ((bif (0 : Int) == (0 : Int) then true else false) = true → chkSs [(1093664768 : Nat), (1101529088 : Nat), (1097859072 : Nat), (1101529088 : Nat)] = (0 : Int)) ∧ ((bif (0 : Int) == (0 : Int) then true else false) = true → (4 : Nat) ≤ (1000000000 : Nat)) ∧ ((bif (0 : Int) == (0 : Int) then true else false) = true → chkSs [(1082130432 : Nat)] = (0 : Int)) ∧ ((bif (0 : Int) == (0 : Int) then true else false) = true → (1 : Nat) ≤ (1000000000 : Nat)) ∧ ((bif (0 : Int) == (0 : Int) then true else false) = true → chkSs [(3221225472 : Nat)] = (0 : Int)) ∧ ((bif (0 : Int) == (0 : Int) then true else false) = true → (1 : Nat) ≤ (1000000000 : Nat)) ∧ ((bif bif bif bif (0 : Int) == (0 : Int) then true else false then true else false then eqT (Ty.pair (Ty.int IntKind.i64) (Ty.int IntKind.i64)) ((0 : Int), (160 : Int)) ((0 : Int), (160 : Int)) else false then (1 : Int) == (1 : Int) else false) = true → chkSs [(1073741824 : Nat), (1077936128 : Nat), (1082130432 : Nat), (1084227584 : Nat)] = (0 : Int)) ∧ ((bif bif bif bif (0 : Int) == (0 : Int) then true else false then true else false then eqT (Ty.pair (Ty.int IntKind.i64) (Ty.int IntKind.i64)) ((0 : Int), (160 : Int)) ((0 : Int), (160 : Int)) else false then (1 : Int) == (1 : Int) else false) = true → (4 : Nat) ≤ (1000000000 : Nat)) ∧ ((bif bif bif bif bif (0 : Int) == (0 : Int) then true else false then true else false then eqT (Ty.pair (Ty.int IntKind.i64) (Ty.int IntKind.i64)) ((0 : Int), (160 : Int)) ((0 : Int), (160 : Int)) else false then (1 : Int) == (1 : Int) else false then true else false) = true → chkSs [(0 : Nat), (1073741824 : Nat), (1082130432 : Nat), (1086324736 : Nat)] = (0 : Int)) ∧ ((bif bif bif bif bif (0 : Int) == (0 : Int) then true else false then true else false then eqT (Ty.pair (Ty.int IntKind.i64) (Ty.int IntKind.i64)) ((0 : Int), (160 : Int)) ((0 : Int), (160 : Int)) else false then (1 : Int) == (1 : Int) else false then true else false) = true → (4 : Nat) ≤ (1000000000 : Nat)) ∧ ((bif bif bif bif bif bif bif (0 : Int) == (0 : Int) then true else false then true else false then eqT (Ty.pair (Ty.int IntKind.i64) (Ty.int IntKind.i64)) ((0 : Int), (160 : Int)) ((0 : Int), (160 : Int)) else false then (1 : Int) == (1 : Int) else false then true else false then true else false then eqT (Ty.arr (4 : Nat) (Ty.cpx FloatKind.f64)) [((0 : Nat), (0 : Nat)), ((4611686018427387904 : Nat), (0 : Nat)), ((0 : Nat), (0 : Nat)), ((4611686018427387904 : Nat), (0 : Nat))] [((0 : Nat), (0 : Nat)), ((4611686018427387904 : Nat), (0 : Nat)), ((0 : Nat), (0 : Nat)), ((4611686018427387904 : Nat), (0 : Nat))] else false) = true → chkSs [(1065353216 : Nat), (1073741824 : Nat), (1077936128 : Nat), (1086324736 : Nat)] = (0 : Int)) ∧ ((bif bif bif bif bif bif bif (0 : Int) == (0 : Int) then true else false then true else false then eqT (Ty.pair (Ty.int IntKind.i64) (Ty.int IntKind.i64)) ((0 : Int), (160 : Int)) ((0 : Int), (160 : Int)) else false then (1 : Int) == (1 : Int) else false then true else false then true else false then eqT (Ty.arr (4 : Nat) (Ty.cpx FloatKind.f64)) [((0 : Nat), (0 : Nat)), ((4611686018427387904 : Nat), (0 : Nat)), ((0 : Nat), (0 : Nat)), ((4611686018427387904 : Nat), (0 : Nat))] [((0 : Nat), (0 : Nat)), ((4611686018427387904 : Nat), (0 : Nat)), ((0 : Nat), (0 : Nat)), ((4611686018427387904 : Nat), (0 : Nat))] else false) = true → (4 : Nat) ≤ (1000000000 : Nat)) ∧ ((bif bif bif bif bif bif bif bif (0 : Int) == (0 : Int) then true else false then true else false then eqT (Ty.pair (Ty.int IntKind.i64) (Ty.int IntKind.i64)) ((0 : Int), (160 : Int)) ((0 : Int), (160 : Int)) else false then (1 : Int) == (1 : Int) else false then true else false then true else false then eqT (Ty.arr (4 : Nat) (Ty.cpx FloatKind.f64)) [((0 : Nat), (0 : Nat)), ((4611686018427387904 : Nat), (0 : Nat)), ((0 : Nat), (0 : Nat)), ((4611686018427387904 : Nat), (0 : Nat))] [((0 : Nat), (0 : Nat)), ((4611686018427387904 : Nat), (0 : Nat)), ((0 : Nat), (0 : Nat)), ((4611686018427387904 : Nat), (0 : Nat))] else false then true else false) = true → chkSs [(3225419776 : Nat), (3233808384 : Nat), (1082130432 : Nat), (1090519040 : Nat)] = (0 : Int)) ∧ ((bif bif bif bif bif bif bif bif (0 : Int) == (0 : Int) then true else false then true else false then eqT (Ty.pair (Ty.int IntKind.i64) (Ty.int IntKind.i64)) ((0 : Int), (160 : Int)) ((0 : Int), (160 : Int)) else false then (1 : Int) == (1 : Int) else false then true else false then true else false then eqT (Ty.arr (4 : Nat) (Ty.cpx FloatKind.f64)) [((0 : Nat), (0 : Nat)), ((4611686018427387904 : Nat), (0 : Nat)), ((0 : Nat), (0 : Nat)), ((4611686018427387904 : Nat), (0 : Nat))] [((0 : Nat), (0 : Nat)), ((4611686018427387904 : Nat), (0 : Nat)), ((0 : Nat), (0 : Nat)), ((4611686018427387904 : Nat), (0 : Nat))] else false then true else false) = true → (4 : Nat) ≤ (1000000000 : Nat)) ∧ (bif bif bif bif bif bif bif bif bif bif (0 : Int) == (0 : Int) then true else false then true else false then eqT (Ty.pair (Ty.int IntKind.i64) (Ty.int IntKind.i64)) ((0 : Int), (160 : Int)) ((0 : Int), (160 : Int)) else false then (1 : Int) == (1 : Int) else false then true else false then true else false then eqT (Ty.arr (4 : Nat) (Ty.cpx FloatKind.f64)) [((0 : Nat), (0 : Nat)), ((4611686018427387904 : Nat), (0 : Nat)), ((0 : Nat), (0 : Nat)), ((4611686018427387904 : Nat), (0 : Nat))] [((0 : Nat), (0 : Nat)), ((4611686018427387904 : Nat), (0 : Nat)), ((0 : Nat), (0 : Nat)), ((4611686018427387904 : Nat), (0 : Nat))] else false then true else false then true else false then [(108 : UInt8), (117 : UInt8), (109 : UInt8), (97 : UInt8), (32 : UInt8), (49 : UInt8), (54 : UInt8), (48 : UInt8), (32 : UInt8), (51 : UInt8), (50 : UInt8), (48 : UInt8), (32 : UInt8), (49 : UInt8), (54 : UInt8), (48 : UInt8), (32 : UInt8), (51 : UInt8), (50 : UInt8), (48 : UInt8), (10 : UInt8), (117 : UInt8), (32 : UInt8), (52 : UInt8), (56 : UInt8), (10 : UInt8), (118 : UInt8), (32 : UInt8), (45 : UInt8), (51 : UInt8), (50 : UInt8), (10 : UInt8)] == Array.toList (ByteArray.data { data := #[(108 : UInt8), (117 : UInt8), (109 : UInt8), (97 : UInt8), (32 : UInt8), (49 : UInt8), (54 : UInt8), (48 : UInt8), (32 : UInt8), (51 : UInt8), (50 : UInt8), (48 : UInt8), (32 : UInt8), (49 : UInt8), (54 : UInt8), (48 : UInt8), (32 : UInt8), (51 : UInt8), (50 : UInt8), (48 : UInt8), (10 : UInt8), (117 : UInt8), (32 : UInt8), (52 : UInt8), (56 : UInt8), (10 : UInt8), (118 : UInt8), (32 : UInt8), (45 : UInt8), (51 : UInt8), (50 : UInt8), (10 : UInt8)] }) else false) = true ∧ True) := by
  kernel_rfl
end Go.Sx

namespace Go.Sx
open U
theorem c20a : Fn P1 gl1 20 [ptV [1092616192, 1101004800, 1092616192, 1101004800] [1077936128] [3221225472], iV 0] (.tup [.one (.frs (.flt .f32) [1095761920, 1099956224, 1088421888, 1102053376]), iV 0]) true := by
  have h := fn20 [1092616192, 1101004800, 1092616192, 1101004800] [1077936128] [3221225472] 0 (by decide)
  rw [show encL [1092616192, 1101004800, 1092616192, 1101004800] [1077936128] [3221225472] 0 = [1095761920, 1099956224, 1088421888, 1102053376] from by decide +kernel, show encE [1092616192, 1101004800, 1092616192, 1101004800] [1077936128] [3221225472] 0 = 0 from by decide +kernel] at h
  exact h
theorem c20b : Fn P1 gl1 20 [ptV [1092616192, 1101004800, 1092616192, 1101004800] [1077936128] [3221225472], iV 1] (.tup [.one (.frs (.flt .f32) [1088421888, 1102053376, 1095761920, 1099956224]), iV 0]) true := by
  have h := fn20 [1092616192, 1101004800, 1092616192, 1101004800] [1077936128] [3221225472] 1 (by decide)
  rw [show encL [1092616192, 1101004800, 1092616192, 1101004800] [1077936128] [3221225472] 1 = [1088421888, 1102053376, 1095761920, 1099956224] from by decide +kernel, show encE [1092616192, 1101004800, 1092616192, 1101004800] [1077936128] [3221225472] 1 = 0 from by decide +kernel] at h
  exact h
theorem so20h_ : SpecOk P1 gl1 20 sp20h := by
  intro vs ps r h hp
  simp only [sp20h] at h
  split at h
  · split at h
    · cases h
      have q0 := hp _ (.head _)
      have q1 := hp _ (.tail _ (.head _))
      have q2 := hp _ (.tail _ (.tail _ (.head _)))
      have q3 := hp _ (.tail _ (.tail _ (.tail _ (.head _))))
      subst q0 q1 q2 q3
      exact c20a
    · cases h
      have q0 := hp _ (.head _)
      have q1 := hp _ (.tail _ (.head _))
      have q2 := hp _ (.tail _ (.tail _ (.head _)))
      have q3 := hp _ (.tail _ (.tail _ (.tail _ (.head _))))
      subst q0 q1 q2 q3
      exact c20b
  · cases h
theorem so20h : Sp1 20 sp20h := ⟨so20h_, Proofs.Tryz.f20, _, by kernel_rfl, rfl, by kernel_rfl⟩
theorem c33a : Fn P1 gl1 33 [.one (.sl (.flt .f32) [1095761920, 1099956224, 1088421888, 1102053376])] (.tup [.one (.frs panT [[(1114636288, 0), (1086324736, 1082130432), (3248488448, 0), (1086324736, 3229614080)]]), iV 0]) true := by
  have h := fn33 [1095761920, 1099956224, 1088421888, 1102053376]
  rw [show panN [1095761920, 1099956224, 1088421888, 1102053376] = [[(1114636288, 0), (1086324736, 1082130432), (3248488448, 0), (1086324736, 3229614080)]] from by decide +kernel, show chkSig [1095761920, 1099956224, 1088421888, 1102053376] = 0 from by decide +kernel] at h
  exact h
theorem so33h_ : SpecOk P1 gl1 33 sp33h := by
  intro vs ps r h hp
  simp only [sp33h] at h
  split at h
  · cases h
    have q0 := hp _ (.head _)
    subst q0
    exact c33a
  · cases h
theorem so33h : Sp1 33 sp33h := ⟨so33h_, Proofs.Tryz.f33, _, by kernel_rfl, rfl, by kernel_rfl⟩
theorem c43a : Fn P1 gl1 43 [.one (.sl (.flt .f32) [1095761920, 1099956224, 1088421888, 1102053376]), iV 0] (.tup [ptV [1092616192, 1101004800, 1092616192, 1101004800] [1077936128] [3221225472], iV 0]) true := by
  have h := fn43 [1095761920, 1099956224, 1088421888, 1102053376] 0
  rw [show bndP [1095761920, 1099956224, 1088421888, 1102053376] 0 = ([1092616192, 1101004800, 1092616192, 1101004800], [1077936128], [3221225472]) from by decide +kernel, show bndE [1095761920, 1099956224, 1088421888, 1102053376] 0 = 0 from by decide +kernel] at h
  exact h
theorem c43b : Fn P1 gl1 43 [.one (.sl (.flt .f32) [1095761920, 1099956224, 1093664768, 1102053376]), iV 0] (.tup [ptV [1094713344, 1101004800, 1094713344, 1101004800] [1065353216] [3221225472], iV 0]) true := by
  have h := fn43 [1095761920, 1099956224, 1093664768, 1102053376] 0
  rw [show bndP [1095761920, 1099956224, 1093664768, 1102053376] 0 = ([1094713344, 1101004800, 1094713344, 1101004800], [1065353216], [3221225472]) from by decide +kernel, show bndE [1095761920, 1099956224, 1093664768, 1102053376] 0 = 0 from by decide +kernel] at h
  exact h
theorem so43h_ : SpecOk P1 gl1 43 sp43h := by
  intro vs ps r h hp
  simp only [sp43h] at h
  split at h
  · split at h
    · cases h
      have q0 := hp _ (.head _)
      have q1 := hp _ (.tail _ (.head _))
      subst q0 q1
      exact c43a
    · cases h
      have q0 := hp _ (.head _)
      have q1 := hp _ (.tail _ (.head _))
      subst q0 q1
      exact c43b
  · cases h
theorem so43h : Sp1 43 sp43h := ⟨so43h_, Proofs.Tryz.f43, _, by kernel_rfl, rfl, by kernel_rfl⟩
theorem c57a : Fn P1 gl1 57 [ptV [1092616192, 1101004800, 1096810496, 1101004800] [1077936128] [3221225472]] (.tup [fV 1073741824, iV 0]) true := by
  have h := fn57 [1092616192, 1101004800, 1096810496, 1101004800] [1077936128] [3221225472] (by decide)
  rw [show (if chkPt [1092616192, 1101004800, 1096810496, 1101004800] [1077936128] [3221225472] = 0 then smp ((unevI (sixs [1092616192, 1101004800, 1096810496, 1101004800]) + 1) / 2) else 0) = 1073741824 from by decide +kernel, show chkPt [1092616192, 1101004800, 1096810496, 1101004800] [1077936128] [3221225472] = 0 from by decide +kernel] at h
  exact h
theorem so57h_ : SpecOk P1 gl1 57 sp57h := by
  intro vs ps r h hp
  simp only [sp57h] at h
  split at h
  · cases h
    have q0 := hp _ (.head _)
    have q1 := hp _ (.tail _ (.head _))
    have q2 := hp _ (.tail _ (.tail _ (.head _)))
    subst q0 q1 q2
    exact c57a
  · cases h
theorem so57h : Sp1 57 sp57h := ⟨so57h_, Proofs.Tryz.f57, _, by kernel_rfl, rfl, by kernel_rfl⟩
theorem c58a : Fn P1 gl1 58 [ptV [1092616192, 1101004800, 1096810496, 1101004800] [1077936128] [3221225472], ptV [1094713344, 1101004800, 1094713344, 1101004800] [1065353216] [3221225472]] (.tup [.agg [.arr 2 (.flt .f32) [1073741824, 1073741824]], iV 0]) true := by
  have h := fn58 [1092616192, 1101004800, 1096810496, 1101004800] [1077936128] [3221225472] [1094713344, 1101004800, 1094713344, 1101004800] [1065353216] [3221225472] (by decide) (by decide)
  rw [show difP [1092616192, 1101004800, 1096810496, 1101004800] [1077936128] [3221225472] [1094713344, 1101004800, 1094713344, 1101004800] [1065353216] [3221225472] = [1073741824, 1073741824] from by decide +kernel, show difE [1092616192, 1101004800, 1096810496, 1101004800] [1077936128] [3221225472] [1094713344, 1101004800, 1094713344, 1101004800] [1065353216] [3221225472] = 0 from by decide +kernel] at h
  exact h
theorem so58h_ : SpecOk P1 gl1 58 sp58h := by
  intro vs ps r h hp
  simp only [sp58h] at h
  split at h
  · cases h
    have q0 := hp _ (.head _)
    have q1 := hp _ (.tail _ (.head _))
    have q2 := hp _ (.tail _ (.tail _ (.head _)))
    have q3 := hp _ (.tail _ (.tail _ (.tail _ (.head _))))
    have q4 := hp _ (.tail _ (.tail _ (.tail _ (.tail _ (.head _)))))
    have q5 := hp _ (.tail _ (.tail _ (.tail _ (.tail _ (.tail _ (.head _))))))
    subst q0 q1 q2 q3 q4 q5
    exact c58a
  · cases h
theorem so58h : Sp1 58 sp58h := ⟨so58h_, Proofs.Tryz.f58, _, by kernel_rfl, rfl, by kernel_rfl⟩
theorem c47a : Fn P1 gl1 47 [fldV [[1095761920, 1099956224, 1093664768, 1102053376], [1088421888, 1102053376, 1099431936, 1099956224]], iV 0] (.tup [ptV [1092616192, 1101004800, 1096810496, 1101004800] [1077936128] [3221225472], iV 0]) true := by
  have h := fn47 [[1095761920, 1099956224, 1093664768, 1102053376], [1088421888, 1102053376, 1099431936, 1099956224]] 0
  rw [show errP (twoE [[1095761920, 1099956224, 1093664768, 1102053376], [1088421888, 1102053376, 1099431936, 1099956224]] 0) (twoI [[1095761920, 1099956224, 1093664768, 1102053376], [1088421888, 1102053376, 1099431936, 1099956224]] 0) = ([1092616192, 1101004800, 1096810496, 1101004800], [1077936128], [3221225472]) from by decide +kernel, show errE (twoE [[1095761920, 1099956224, 1093664768, 1102053376], [1088421888, 1102053376, 1099431936, 1099956224]] 0) (twoI [[1095761920, 1099956224, 1093664768, 1102053376], [1088421888, 1102053376, 1099431936, 1099956224]] 0) = 0 from by decide +kernel] at h
  exact h
theorem so47h_ : SpecOk P1 gl1 47 sp47h := by
  intro vs ps r h hp
  simp only [sp47h] at h
  split at h
  · cases h
    have q0 := hp _ (.head _)
    have q1 := hp _ (.tail _ (.head _))
    subst q0 q1
    exact c47a
  · cases h
theorem so47h : Sp1 47 sp47h := ⟨so47h_, Proofs.Tryz.f47, _, by kernel_rfl, rfl, by kernel_rfl⟩
theorem c48a : Fn P1 gl1 48 [fldV [[1095761920, 1099956224, 1093664768, 1102053376], [1088421888, 1102577664, 1100480512, 1100480512], [1099431936, 1101004800, 1093664768, 1103101952]], iV 1] (.tup [ptV [1093664768, 1101529088, 1097859072, 1101529088] [1082130432] [3221225472], iV 0]) true := by
  have h := fn48 [[1095761920, 1099956224, 1093664768, 1102053376], [1088421888, 1102577664, 1100480512, 1100480512], [1099431936, 1101004800, 1093664768, 1103101952]] 1
  rw [show errP (threeE [[1095761920, 1099956224, 1093664768, 1102053376], [1088421888, 1102577664, 1100480512, 1100480512], [1099431936, 1101004800, 1093664768, 1103101952]] 1) (threeL [[1095761920, 1099956224, 1093664768, 1102053376], [1088421888, 1102577664, 1100480512, 1100480512], [1099431936, 1101004800, 1093664768, 1103101952]] 1) = ([1093664768, 1101529088, 1097859072, 1101529088], [1082130432], [3221225472]) from by decide +kernel, show errE (threeE [[1095761920, 1099956224, 1093664768, 1102053376], [1088421888, 1102577664, 1100480512, 1100480512], [1099431936, 1101004800, 1093664768, 1103101952]] 1) (threeL [[1095761920, 1099956224, 1093664768, 1102053376], [1088421888, 1102577664, 1100480512, 1100480512], [1099431936, 1101004800, 1093664768, 1103101952]] 1) = 0 from by decide +kernel] at h
  exact h
theorem so48h_ : SpecOk P1 gl1 48 sp48h := by
  intro vs ps r h hp
  simp only [sp48h] at h
  split at h
  · cases h
    have q0 := hp _ (.head _)
    have q1 := hp _ (.tail _ (.head _))
    subst q0 q1
    exact c48a
  · cases h
theorem so48h : Sp1 48 sp48h := ⟨so48h_, Proofs.Tryz.f48, _, by kernel_rfl, rfl, by kernel_rfl⟩
theorem c62a : Fn P1 gl1 62 [b4V [0, 1084227584, 0, 3231711232]] (.tup [gsV (0, 160), iV 0]) true := by
  have h := fn62 [0, 1084227584, 0, 3231711232] rfl
  rw [show burZ [0, 1084227584, 0, 3231711232] = (0, 160) from by decide +kernel, show chkSs [0, 1084227584, 0, 3231711232] = 0 from by decide +kernel] at h
  exact h
theorem so62h_ : SpecOk P1 gl1 62 sp62h := by
  intro vs ps r h hp
  simp only [sp62h] at h
  split at h
  · cases h
    have q0 := hp _ (.head _)
    subst q0
    exact c62a
  · cases h
theorem so62h : Sp1 62 sp62h := ⟨so62h_, Proofs.Tryz.f62, _, by kernel_rfl, rfl, by kernel_rfl⟩
theorem c63a : Fn P1 gl1 63 [b4V [0, 1084227584, 0, 3231711232], iV 160] (.tup [iV 1, iV 0]) true := by
  have h := fn63 [0, 1084227584, 0, 3231711232] 160 rfl
  rw [show lkN [0, 1084227584, 0, 3231711232] 160 = 1 from by decide +kernel, show lkE [0, 1084227584, 0, 3231711232] 160 = 0 from by decide +kernel] at h
  exact h
theorem so63h_ : SpecOk P1 gl1 63 sp63h := by
  intro vs ps r h hp
  simp only [sp63h] at h
  split at h
  · cases h
    have q0 := hp _ (.head _)
    have q1 := hp _ (.tail _ (.head _))
    subst q0 q1
    exact c63a
  · cases h
theorem so63h : Sp1 63 sp63h := ⟨so63h_, Proofs.Tryz.f63, _, by kernel_rfl, rfl, by kernel_rfl⟩
theorem c67a : Fn P1 gl1 67 [.one (.sl (.flt .f32) [1065353216, 1073741824, 1077936128, 1082130432, 1084227584, 1086324736, 1088421888, 1090519040]), iV 1] (.tup [.one (.frs (.flt .f32) [1073741824, 1077936128, 1082130432, 1084227584]), iV 0]) true := by
  have h := fn67 [1065353216, 1073741824, 1077936128, 1082130432, 1084227584, 1086324736, 1088421888, 1090519040] 1
  rw [show algN [1065353216, 1073741824, 1077936128, 1082130432, 1084227584, 1086324736, 1088421888, 1090519040] 1 = [1073741824, 1077936128, 1082130432, 1084227584] from by decide +kernel, show algE [1065353216, 1073741824, 1077936128, 1082130432, 1084227584, 1086324736, 1088421888, 1090519040] 1 = 0 from by decide +kernel] at h
  exact h
theorem so67h_ : SpecOk P1 gl1 67 sp67h := by
  intro vs ps r h hp
  simp only [sp67h] at h
  split at h
  · cases h
    have q0 := hp _ (.head _)
    have q1 := hp _ (.tail _ (.head _))
    subst q0 q1
    exact c67a
  · cases h
theorem so67h : Sp1 67 sp67h := ⟨so67h_, Proofs.Tryz.f67, _, by kernel_rfl, rfl, by kernel_rfl⟩
theorem c68a : Fn P1 gl1 68 [.one (.sl (.flt .f32) [1077936128, 1084227584, 1088421888, 1091567616]), gsV (0, 2), fV 1065353216] (.tup [.one (.frs (.flt .f32) [0, 1073741824, 1082130432, 1086324736]), iV 0]) true := by
  have h := fn68 [1077936128, 1084227584, 1088421888, 1091567616] 0 2 1065353216
  rw [show clN [1077936128, 1084227584, 1088421888, 1091567616] 0 2 1065353216 = [0, 1073741824, 1082130432, 1086324736] from by decide +kernel, show clE [1077936128, 1084227584, 1088421888, 1091567616] 0 2 1065353216 = 0 from by decide +kernel] at h
  exact h
theorem so68h_ : SpecOk P1 gl1 68 sp68h := by
  intro vs ps r h hp
  simp only [sp68h] at h
  split at h
  · cases h
    have q0 := hp _ (.head _)
    have q1 := hp _ (.tail _ (.head _))
    have q2 := hp _ (.tail _ (.tail _ (.head _)))
    have q3 := hp _ (.tail _ (.tail _ (.tail _ (.head _))))
    subst q0 q1 q2 q3
    exact c68a
  · cases h
theorem so68h : Sp1 68 sp68h := ⟨so68h_, Proofs.Tryz.f68, _, by kernel_rfl, rfl, by kernel_rfl⟩
theorem c72a : Fn P1 gl1 72 [.one (.sl (.int .i64) [1, 0, -1])] (.tup [.agg [.arr 4 (.cpx .f64) [(0, 0), (4611686018427387904, 0), (0, 0), (4611686018427387904, 0)]], iV 0]) true := by
  have h := fn72 [1, 0, -1]
  rw [show resN [1, 0, -1] = [(0, 0), (4611686018427387904, 0), (0, 0), (4611686018427387904, 0)] from by decide +kernel, show chkTap [1, 0, -1] = 0 from by decide +kernel] at h
  exact h
theorem so72h_ : SpecOk P1 gl1 72 sp72h := by
  intro vs ps r h hp
  simp only [sp72h] at h
  split at h
  · cases h
    have q0 := hp _ (.head _)
    subst q0
    exact c72a
  · cases h
theorem so72h : Sp1 72 sp72h := ⟨so72h_, Proofs.Tryz.f72, _, by kernel_rfl, rfl, by kernel_rfl⟩
theorem c74a : Fn P1 gl1 74 [.one (.sl (.flt .f32) [1065353216, 1073741824, 1082130432, 1090519040]), .one (.sl (.int .i64) [1, 0, -1])] (.tup [.one (.frs (.flt .f32) [1065353216, 1073741824, 1077936128, 1086324736]), iV 0]) true := by
  have h := fn74 [1065353216, 1073741824, 1082130432, 1090519040] [1, 0, -1]
  rw [show fltN [1065353216, 1073741824, 1082130432, 1090519040] [1, 0, -1] 1 = [1065353216, 1073741824, 1077936128, 1086324736] from by decide +kernel, show fltE [1065353216, 1073741824, 1082130432, 1090519040] [1, 0, -1] 1 = 0 from by decide +kernel] at h
  exact h
theorem so74h_ : SpecOk P1 gl1 74 sp74h := by
  intro vs ps r h hp
  simp only [sp74h] at h
  split at h
  · cases h
    have q0 := hp _ (.head _)
    have q1 := hp _ (.tail _ (.head _))
    subst q0 q1
    exact c74a
  · cases h
theorem so74h : Sp1 74 sp74h := ⟨so74h_, Proofs.Tryz.f74, _, by kernel_rfl, rfl, by kernel_rfl⟩
theorem c75a : Fn P1 gl1 75 [.one (.sl (.flt .f32) [1065353216, 1073741824, 1082130432, 1090519040]), .one (.sl (.int .i64) [1, 0, -1])] (.tup [.one (.frs (.flt .f32) [3225419776, 3233808384, 1082130432, 1090519040]), iV 0]) true := by
  have h := fn75 [1065353216, 1073741824, 1082130432, 1090519040] [1, 0, -1]
  rw [show fltN [1065353216, 1073741824, 1082130432, 1090519040] [1, 0, -1] (-1) = [3225419776, 3233808384, 1082130432, 1090519040] from by decide +kernel, show fltE [1065353216, 1073741824, 1082130432, 1090519040] [1, 0, -1] (-1) = 0 from by decide +kernel] at h
  exact h
theorem so75h_ : SpecOk P1 gl1 75 sp75h := by
  intro vs ps r h hp
  simp only [sp75h] at h
  split at h
  · cases h
    have q0 := hp _ (.head _)
    have q1 := hp _ (.tail _ (.head _))
    subst q0 q1
    exact c75a
  · cases h
theorem so75h : Sp1 75 sp75h := ⟨so75h_, Proofs.Tryz.f75, _, by kernel_rfl, rfl, by kernel_rfl⟩
theorem c88a : Fn P1 gl1 88 [ptV [1092616192, 1101004800, 1092616192, 1101004800] [1077936128] [3221225472]] (.tup [sV [108, 117, 109, 97, 32, 49, 54, 48, 32, 51, 50, 48, 32, 49, 54, 48, 32, 51, 50, 48, 10, 117, 32, 52, 56, 10, 118, 32, 45, 51, 50, 10], iV 0]) true := by
  have h := fn88 [1092616192, 1101004800, 1092616192, 1101004800] [1077936128] [3221225472] (by decide)
  rw [show prN [1092616192, 1101004800, 1092616192, 1101004800] [1077936128] [3221225472] = [108, 117, 109, 97, 32, 49, 54, 48, 32, 51, 50, 48, 32, 49, 54, 48, 32, 51, 50, 48, 10, 117, 32, 52, 56, 10, 118, 32, 45, 51, 50, 10] from by decide +kernel, show chkPt [1092616192, 1101004800, 1092616192, 1101004800] [1077936128] [3221225472] = 0 from by decide +kernel] at h
  exact h
theorem so88h_ : SpecOk P1 gl1 88 sp88h := by
  intro vs ps r h hp
  simp only [sp88h] at h
  split at h
  · cases h
    have q0 := hp _ (.head _)
    have q1 := hp _ (.tail _ (.head _))
    have q2 := hp _ (.tail _ (.tail _ (.head _)))
    subst q0 q1 q2
    exact c88a
  · cases h
theorem so88h : Sp1 88 sp88h := ⟨so88h_, Proofs.Tryz.f88, _, by kernel_rfl, rfl, by kernel_rfl⟩
theorem so27h_ : SpecOk P1 gl1 27 sp27h := by
  intro vs ps r h hp
  simp only [sp27h] at h
  split at h
  · rename_i a b
    split at h
    · rename_i e
      cases h
      obtain rfl : a = b := e
      have q0 := hp _ (.head _)
      have h := fn27 a a (hp _ (.tail _ (.head _)))
      rw [sameS_self (chkSs_zero.1 q0)] at h
      exact h
    · cases h
  · cases h
theorem so27h : Sp1 27 sp27h := ⟨so27h_, Proofs.Tryz.f27, _, by kernel_rfl, rfl, by kernel_rfl⟩
theorem so45h_ : SpecOk P1 gl1 45 sp45h := by
  intro vs ps r h hp
  simp only [sp45h] at h
  split at h
  · rename_i y u v y' u' v'
    split at h
    · rename_i e
      cases h
      obtain ⟨rfl, e2⟩ := Prod.mk.inj e
      obtain ⟨rfl, rfl⟩ := Prod.mk.inj e2
      have q0 := hp _ (.head _)
      have q2 := hp _ (.tail _ (.tail _ (.head _)))
      have q4 := hp _ (.tail _ (.tail _ (.tail _ (.tail _ (.head _)))))
      have h := fn45 (y, u, v) (y, u, v) (hp _ (.tail _ (.head _))) (hp _ (.tail _ (.tail _ (.tail _ (.head _))))) (hp _ (.tail _ (.tail _ (.tail _ (.tail _ (.tail _ (.head _)))))))
      rw [show sameP (y, u, v) (y, u, v) = true by unfold sameP; rw [sameS_self (chkSs_zero.1 q0), sameS_self (chkSs_zero.1 q2), sameS_self (chkSs_zero.1 q4)]; rfl] at h
      exact h
    · cases h
  · cases h
theorem so45h : Sp1 45 sp45h := ⟨so45h_, Proofs.Tryz.f45, _, by kernel_rfl, rfl, by kernel_rfl⟩
theorem fn93   : Fn P1 gl1 93 [] (.val (ptV [1092616192, 1101004800, 1092616192, 1101004800] [1077936128] [3221225472])) true := by
  refine fn_ofr false [] [] h0 0 Proofs.Tryz.f93 trivial trivial (by kernel_rfl) rfl (by kernel_rfl) rfl rfl rfl ?_
  rw [vc93 ()]
  try simp only [splitB_iff, -eq_self]
  exact ⟨rfl, rfl, rfl, trivial⟩
theorem so93_ : SpecOk P1 gl1 93 sp93 := by
  intro vs ps r h _
  simp only [sp93] at h
  split at h
  · cases h; exact fn93  
  · cases h
theorem so93 : Sp1 93 sp93 := ⟨so93_, Proofs.Tryz.f93, _, by kernel_rfl, rfl, by kernel_rfl⟩
theorem fn94   : Fn P1 gl1 94 [] (.val (ptV [1092616192, 1101004800, 1096810496, 1101004800] [1077936128] [3221225472])) true := by
  refine fn_ofr false [] [] h0 0 Proofs.Tryz.f94 trivial trivial (by kernel_rfl) rfl (by kernel_rfl) rfl rfl rfl ?_
  rw [vc94 ()]
  try simp only [splitB_iff, -eq_self]
  exact ⟨rfl, rfl, rfl, trivial⟩
theorem so94_ : SpecOk P1 gl1 94 sp94 := by
  intro vs ps r h _
  simp only [sp94] at h
  split at h
  · cases h; exact fn94  
  · cases h
theorem so94 : Sp1 94 sp94 := ⟨so94_, Proofs.Tryz.f94, _, by kernel_rfl, rfl, by kernel_rfl⟩
theorem fn19   : Fn P1 gl1 19 [] (.val (bV true)) true := by
  refine Fn.flat ?_ rfl
  refine fn_of false [(93, sp93), (94, sp94), (46, sp46), (20, sp20h), (33, sp33h), (43, sp43h), (57, sp57h), (58, sp58h), (47, sp47h), (48, sp48h), (62, sp62h), (63, sp63h), (67, sp67h), (68, sp68h), (72, sp72h), (74, sp74h), (75, sp75h), (88, sp88h), (27, sp27h), (45, sp45h)] [] h0 0 Proofs.Tryz.f19 ⟨so93, so94, so46, so20h, so33h, so43h, so57h, so58h, so47h, so48h, so62h, so63h, so67h, so68h, so72h, so74h, so75h, so88h, so27h, so45h, trivial⟩ trivial (by kernel_rfl) rfl (by kernel_rfl) rfl rfl rfl ?_
  rw [vc19 ()]
  try simp only [-eq_self]
  repeat' first | apply And.intro | intro hh
  all_goals first | rfl | trivial | decide +kernel | exact absurd hh (by decide +kernel)
theorem so19_ : SpecOk P1 gl1 19 sp19 := by
  intro vs ps r h _
  simp only [sp19] at h
  split at h
  · cases h; exact fn19  
  · cases h
theorem so19 : Sp1 19 sp19 := ⟨so19_, Proofs.Tryz.f19, _, by kernel_rfl, rfl, by kernel_rfl⟩
end Go.Sx

namespace Go.Sx.U
open Ieee
end Go.Sx.U

namespace Go.Sx
open U
end Go.Sx

namespace Go.Sx
open U
end Go.Sx

namespace Go.Sx
open U
end Go.Sx

namespace Go.Sx.U
end Go.Sx.U

namespace Go.Sx
open U
end Go.Sx
namespace Go.Sx
open U
end Go.Sx

namespace Go.Sx
open U
end Go.Sx

namespace Go.Sx
open U
end Go.Sx

namespace Go.Sx
open Go.Proofs Go.RowKit Go.Shelf Go.Lib
theorem grow_fn {P : Program} {ρ : Ren} (L : Lays8.n4 P ρ) {gl : Nat → Option ((t : Ty) × t.T)} {i : TypeInfo} {z : Value} {t : Ty} (hi : P.info? (ρ.t 25) = some i) (hz : i.zero = some z) (hs : 0 < i.size) (hzs : z.cells.size = t.sz)
    (n : Int) (h0 : 0 ≤ n) (hn : n ≤ 1000000000) (hb : n.toNat * i.bytes ≤ 140737488355328) : Fn P gl (ρ.f 4) [.one .nils, .one (.int .i64 n)] (.val (.one (.frs t []))) true := by
  intro w H vs hA hG hD
  obtain ⟨v, r, rfl, hv, v2, r2, rfl, hv2, hr⟩ := hD
  obtain rfl : r2 = [] := hr
  obtain rfl : v2 = .int .i64 n := hv2
  obtain rfl : v = .slice none 0 0 := hv
  obtain ⟨k, rfl⟩ : ∃ k : Nat, n = k := ⟨n.toNat, by omega⟩
  have hk : ((k : Int)).toNat = k := by omega
  rw [hk] at hb
  by_cases h : k = 0
  · subst h
    refine (Any8.slices_Grow_room L none 0 0 0 w (Nat.le_refl _) (by omega) (by omega) (by omega)).mono fun e w' ⟨he, hw⟩ => ?_
    subst hw
    exact ⟨_, fun _ => none, he, Below.refl _ _, fun _ _ h => (by cases h), fun _ _ => rfl, .inl ⟨rfl, rfl⟩⟩
  · refine (Any8.slices_Grow_grow L i z hi hz hs none 0 0 k [] w (Nat.le_refl _) (by omega) (by rw [Nat.zero_add]; exact hb) (by omega) (by simp) (fun _ => rfl) (fun _ h => by cases h)).mono fun e w' ⟨he, hw⟩ => ?_
    subst hw
    have hcap := grownCap_ge w (0 + k) 0 (ρ.t 25)
    have hcapm := grownCap_le_maxLen w (0 + k) 0 (ρ.t 25) (by simp only [maxLen]; omega)
    refine ⟨_, fun _ => none, he, ⟨rfl, rfl, rfl, ?_, fun j hj => ?_⟩, fun _ _ h => (by cases h), fun _ _ => rfl, .inr ⟨w.heap.size, grownCap w (0 + k) 0 (ρ.t 25), #[] ++ Builtin.zeroCells z.cells (0 + k - 0) ++ Builtin.zeroCells z.cells (grownCap w (0 + k) 0 (ρ.t 25) - (0 + k)), ρ.t 25, rfl, Nat.le_refl _, rfl, ⟨(0, 0), .inl rfl, ?_⟩, Nat.zero_le _, hcapm, ?_, fun i h => absurd h (Nat.not_lt_zero _)⟩⟩
    · show w.heap.size ≤ (w.heap.push _).size
      simp
    · show (w.heap.push _)[j]? = _
      rw [Array.getElem?_push, if_neg (by omega)]
    · show (w.heap.push _)[w.heap.size]? = _
      rw [Array.getElem?_push, if_pos rfl]
    · simp only [Array.size_append, List.size_toArray, List.length_nil, size_zeroCells, hzs]
      rw [Nat.zero_add, ← Nat.add_mul]; congr 1; omega
end Go.Sx

namespace Go.Proofs
open Go.Shelf
def Tryz.lays8_ren : Go.Shelf.Ren := ⟨fun | 4 => 195 | n => n, fun | 22 => 35 | 25 => 3 | n => n, fun | n => n⟩
theorem Tryz.lays8 : Go.Proofs.Lays8.n4 Tryz.prog Tryz.lays8_ren := {
  mixed := by kernel_rfl
  f4 := ⟨"slices.Grow[[]int,int]", by kernel_rfl, Tryz.func195.trans (congrArg some (by kernel_rfl))⟩
  t0 := Tryz.underlying0
  a0 := Tryz.isAgg0
  z0 := Tryz.sizeOf0
  v0 := Tryz.zeroValue0
  t3 := Tryz.underlying3
  a3 := Tryz.isAgg3
  z3 := Tryz.sizeOf3
  v3 := Tryz.zeroValue3
  t4 := Tryz.underlying4
  a4 := Tryz.isAgg4
  z4 := Tryz.sizeOf4
  v4 := Tryz.zeroValue4
  t9 := Tryz.underlying9
  a9 := Tryz.isAgg9
  z9 := Tryz.sizeOf9
  v9 := Tryz.zeroValue9
  t20 := Tryz.underlying20
  a20 := Tryz.isAgg20
  z20 := Tryz.sizeOf20
  v20 := Tryz.zeroValue20
  t22 := Tryz.underlying35
  a22 := Tryz.isAgg35
  z22 := Tryz.sizeOf35
  v22 := Tryz.zeroValue35
}
end Go.Proofs
namespace Go.Sx
theorem grow1 (n : Int) (h0 : 0 ≤ n) (hn : n ≤ 1000000) : Fn P1 gl1 195 [.one .nils, (.one (.int .i64 n))] (.val (.one (.frs (.int .i64) []))) true := by
  obtain ⟨i, z, g1, g2, g3, g4, _, g6⟩ := (tt_ok tab1_ok 3 _ rfl).info
  have hz := g6 (.int .i64) rfl (fun _ => none)
  have hzs : z.cells.size = Ty.sz (.int .i64) := by simpa using Rd.len _ _ _ hz
  have g2' : i.size = 1 := g2
  have g3' : i.bytes = 8 := g3
  exact grow_fn (i := i) (z := z) (t := .int .i64) Proofs.Tryz.lays8 g1 g4 (by omega) hzs n h0 (by omega) (by rw [g3']; omega)
end Go.Sx

namespace Go.Sx.U
def widN (f : Fld) : Nat := (List.getD f 0 []).length
def colN (f : Fld) (a : Nat) : List Int := f.map fun l => List.getD (sixs l) a 0
structure FldOk (f : Fld) (t : List Int) : Prop where
  len : f.length ≤ 32
  sig : ∀ i, i < f.length → (List.getD f i []).length ≤ 256 ∧ (List.getD f i []).length % 4 = 0 ∧ OkS (List.getD f i [])
  wid : ∀ i, i < f.length → (List.getD f i []).length = widN f
  t0 : t.length ≠ 0
  t1 : t.length ≤ 8
  t2 : Bd 1000 t
theorem FldOk.all {f : Fld} {t : List Int} (h : FldOk f t) : ∀ l ∈ f, l.length ≤ 256 ∧ OkS l ∧ l.length = widN f := by
  intro l hl
  obtain ⟨i, hi, rfl⟩ := List.mem_iff_getElem.1 hl
  have h1 := h.sig i hi
  have h2 := h.wid i hi
  rw [getD_of hi] at h1 h2
  exact ⟨h1.1, h1.2.2, h2⟩
theorem FldOk.col {f : Fld} {t : List Int} (h : FldOk f t) (a : Nat) : Bd 16384 (colN f a) := by
  intro n hn
  obtain ⟨l, hl, rfl⟩ := List.mem_map.1 hn
  exact bd_get (bd_sixs (h.all l hl).2.1) (by omega)
theorem FldOk.val {f : Fld} {t : List Int} (h : FldOk f t) (w : Int) (i a j : Nat) : -((j : Int) * 16384000) ≤ swTo f.length (lat (colN f a)) t w i j ∧ swTo f.length (lat (colN f a)) t w i j ≤ (j : Int) * 16384000 := by
  have := swTo_bd (n := f.length) (w := w) (B := 16384) (by omega) (lat_bd (h.col a) (by omega)) h.t2 i j
  simpa using this
end Go.Sx.U

namespace Go.Sx.U
def flatTo (ls : List (List Int)) (i : Nat) : List Int := (ls.take i).flatten
end Go.Sx.U
namespace Go.Sx
open U
def sp195 : FSpec := ⟨fun vs => match vs with
  | [.one .nils, .one (.int .i64 n)] => some ([0 ≤ n, n ≤ 1000000], .val (.one (.frs (.int .i64) [])))
  | _ => none, true⟩
def h158 : Hints := ⟨fun f k s => match f, k with
  | 158, 3 => match listAs s 9 (.sl (.int .i64)) with
    | some ls => some ⟨Nat, fun i => s.at [0, 9, 10] [tI 11 i, tI 3 ((flatTo ls i).length : Int)], fun i => i ≤ List.length ls, fun i => List.length ls - i⟩
    | _ => none
  | 158, 11 => match listAs s 25 (.sl (.int .i64)) with
    | some ls => some ⟨Nat, fun i => ⟨[tI 27 i, (6, .val (.one (.own s.nx)))] ++ keepT [25, 26] s.tm, (s.nx, some (.row (.int .i64) (flatTo ls i))) :: lessO s [6], s.nx + 1, s.lr⟩, fun i => i ≤ List.length ls, fun i => List.length ls - i⟩
    | _ => none
  | _, _ => none, 0⟩
def keepC (l : List Nat) (tm : List (Nat × SV)) : List (Nat × SV) := l.filterMap fun t => (lookT tm t).map fun v => (t, v)
def ptrM (s : St) (t : Nat) : Option Nat := match lookT s.tm t with
  | some (.val (.one (.ptr id 0))) => some id
  | _ => none
def boxX (s : St) (t : Nat) : Option (Nat × List (List Int)) := match lookT s.tm t with
  | some (.val (.one (.ptr id 0))) => match lookO s.ob id with
    | some (.box [.one c]) => match rowAs (lookO s.ob) (.sl (.int .i64)) c with
      | some X => some (id, X)
      | none => none
    | _ => none
  | _ => none
def obK (s : St) (l : List Nat) : List (Nat × Option AObj) := l.map fun i => (i, lookO s.ob i)
end Go.Sx
namespace Go.Sx
open U
def sp158 : FSpec := ⟨fun vs => match vs with
  | [.one (.sl (.sl (.int .i64)) l)] => some ([List.length l ≤ 1000, List.length (List.flatten (show List (List Int) from l)) ≤ 1000000], .val (.one (.frs (.int .i64) (List.flatten (show List (List Int) from l)))))
  | _ => none, true⟩
end Go.Sx

namespace Go.Sx
open U
theorem vc158 (l : List (List Int)) : exF (env false [(195, sp195)] []) h158 0 158 Proofs.Tryz.f158 [.one (.sl (.sl (.int .i64)) l)] (.val (.one (.frs (.int .i64) l.flatten))) = (let q2 := (List.length l); let q0 := (↑q2 : Int); (∃ (g : Nat), Nat.le g q2 ∧ (0 : Int) = (↑g : Int) ∧ (0 : Int) = (↑(List.length (flatTo l g)) : Int) ∧ q0 = q0 ∧ l = l ∧ l = l ∧ True) ∧ ∀ (g : Nat), let q1 := (↑(List.length (flatTo l g)) : Int); Nat.le g q2 → splitB (decide ((↑g : Int) < q0)) (((0 : Int) ≤ (↑g : Int) ∧ (↑g : Int) < q0) ∧ fits IntKind.i64 (q1 + (↑(List.length (List.getD l g [])) : Int)) ∧ fits IntKind.i64 ((↑g : Int) + (1 : Int)) ∧ ∃ (g' : Nat), Nat.le g' q2 ∧ List.length l - g' < List.length l - g ∧ (↑g : Int) + (1 : Int) = (↑g' : Int) ∧ q1 + (↑(List.length (List.getD l g [])) : Int) = (↑(List.length (flatTo l g')) : Int) ∧ q0 = q0 ∧ l = l ∧ l = l ∧ True) ((0 : Int) ≤ q1 ∧ q1 ≤ (1000000 : Int) ∧ (∃ (g : Nat), Nat.le g q2 ∧ (0 : Int) = (↑g : Int) ∧ q0 = q0 ∧ l = l ∧ [] = flatTo l g ∧ True) ∧ ∀ (g : Nat), Nat.le g q2 → splitB (decide ((↑g : Int) < q0)) (((0 : Int) ≤ (↑g : Int) ∧ (↑g : Int) < q0) ∧ room (List.length (flatTo l g) + List.length (List.getD l g [])) (8 : Nat) ∧ fits IntKind.i64 ((↑g : Int) + (1 : Int)) ∧ ∃ (g' : Nat), Nat.le g' q2 ∧ List.length l - g' < List.length l - g ∧ (↑g : Int) + (1 : Int) = (↑g' : Int) ∧ q0 = q0 ∧ l = l ∧ flatTo l g ++ List.getD l g [] = flatTo l g' ∧ True) (flatTo l g = List.flatten l ∧ True))) := by
  kernel_rfl
end Go.Sx

namespace Go.Sx
open U
theorem so195 : Sp1 195 sp195 := by
  refine ⟨fun vs ps r h hp => ?_, Proofs.Tryz.f195, _, by kernel_rfl, rfl, by kernel_rfl⟩
  simp only [sp195] at h
  split at h
  · cases h; exact grow1 _ (hp _ (by simp)) (hp _ (by simp))
  · cases h
theorem flat_succ {l : List (List Int)} {g : Nat} (h : g < l.length) : flatTo l (g + 1) = flatTo l g ++ l.getD g [] := by
  unfold flatTo
  rw [List.take_succ_eq_append_getElem h, List.flatten_append, getD_of h]
  simp
theorem flat_len (l : List (List Int)) (i : Nat) : (flatTo l i).length ≤ l.flatten.length := by
  have h : l.flatten = flatTo l i ++ (l.drop i).flatten := by
    unfold flatTo
    rw [← List.flatten_append, List.take_append_drop]
  rw [h, List.length_append]
  omega
theorem fn158 (l : List (List Int)) (hl : l.length ≤ 1000) (hf : l.flatten.length ≤ 1000000) : Fn P1 gl1 158 [.one (.sl (.sl (.int .i64)) l)] (.val (.one (.frs (.int .i64) l.flatten))) true := by
  refine Fn.flat ?_ rfl
  refine fn_of false [(195, sp195)] [] h158 0 Proofs.Tryz.f158 ⟨so195, trivial⟩ trivial (by kernel_rfl) rfl (by kernel_rfl) rfl rfl rfl ?_
  rw [vc158]
  try simp only [splitB_iff, -eq_self]
  have hle : ∀ i, (flatTo l i).length ≤ 1000000 := fun i => Nat.le_trans (flat_len l i) hf
  simp only [eq_self, true_and, and_true, and_self]
  refine ⟨⟨0, Nat.zero_le _, rfl, by simp [flatTo]⟩, fun g hg => ⟨fun hlt => ?_, fun hge => ?_⟩⟩
  · have hlt' : g < l.length := by have := of_decide_eq_true hlt; omega
    have h1 := hle (g + 1)
    have h2 := flat_succ hlt'
    have h3 : (flatTo l (g + 1)).length = (flatTo l g).length + (l.getD g []).length := by rw [h2, List.length_append]
    exact ⟨by omega, by simp only [fits]; omega, by simp only [fits]; omega, g + 1, hlt', by omega, by omega, by rw [h3]; omega⟩
  · have := hle g
    refine ⟨by omega, by omega, ⟨0, Nat.zero_le _, rfl, by simp [flatTo]⟩, fun j hj => ⟨fun hjl => ?_, fun hjg => ?_⟩⟩
    · have hlt' : j < l.length := by have := of_decide_eq_true hjl; omega
      have h1 := hle (j + 1)
      have h2 := flat_succ hlt'
      have h3 : (flatTo l (j + 1)).length = (flatTo l j).length + (l.getD j []).length := by rw [h2, List.length_append]
      exact ⟨by omega, by simp only [room]; omega, by simp only [fits]; omega, j + 1, hlt', by omega, by omega, h2.symm⟩
    · have hj' : j = l.length := by have := of_decide_eq_false hjg; have : j ≤ l.length := hj; omega
      rw [hj']
      unfold flatTo
      rw [List.take_length]
theorem so158_ : SpecOk P1 gl1 158 sp158 := by
  intro vs ps r h hp
  simp only [sp158] at h
  split at h
  · cases h; exact fn158 _ (hp _ (.head _)) (hp _ (.tail _ (.head _)))
  · cases h
theorem so158 : Sp1 158 sp158 := ⟨so158_, Proofs.Tryz.f158, _, by kernel_rfl, rfl, by kernel_rfl⟩
end Go.Sx

namespace Go.Sx.U
end Go.Sx.U

namespace Go.Sx.U
end Go.Sx.U

namespace Go.Sx
open U
end Go.Sx
namespace Go.Sx
open U
end Go.Sx

namespace Go.Sx
open U
end Go.Sx

namespace Go.Sx
open U
end Go.Sx

namespace Go.Proofs
open Go.Shelf
def Tryz.lays146_ren : Go.Shelf.Ren := ⟨fun | 146 => 155 | 221 => 191 | 268 => 207 | 138 => 208 | 143 => 209 | 195 => 224 | 197 => 225 | 218 => 226 | 219 => 227 | 260 => 242 | 217 => 205 | 225 => 243 | 224 => 244 | 267 => 245 | 266 => 223 | 314 => 253 | n => n, fun | 9 => 9 | 31 => 155 | 3 => 3 | 4 => 4 | 0 => 0 | 105 => 285 | 21 => 21 | 5 => 5 | 46 => 299 | 119 => 308 | 139 => 311 | 138 => 310 | 146 => 312 | 51 => 297 | n => n, fun | 1 => 3 | 3 => 6 | 4 => 7 | n => n⟩
theorem Tryz.lays146 : Go.Proofs.LaysM.n146 Tryz.prog Tryz.lays146_ren := {
  mixed := by kernel_rfl
  f138 := Tryz.func208.trans (congrArg some (by kernel_rfl))
  f143 := Tryz.func209.trans (congrArg some (by kernel_rfl))
  f146 := Tryz.func155.trans (congrArg some (by kernel_rfl))
  f195 := Tryz.func224.trans (congrArg some (by kernel_rfl))
  f197 := Tryz.func225.trans (congrArg some (by kernel_rfl))
  f217 := Tryz.func205.trans (congrArg some (by kernel_rfl))
  f218 := Tryz.func226.trans (congrArg some (by kernel_rfl))
  f219 := Tryz.func227.trans (congrArg some (by kernel_rfl))
  f221 := Tryz.func191.trans (congrArg some (by kernel_rfl))
  f224 := Tryz.func244.trans (congrArg some (by kernel_rfl))
  f225 := Tryz.func243.trans (congrArg some (by kernel_rfl))
  f260 := Tryz.func242.trans (congrArg some (by kernel_rfl))
  f266 := Tryz.func223.trans (congrArg some (by kernel_rfl))
  f267 := Tryz.func245.trans (congrArg some (by kernel_rfl))
  f268 := Tryz.func207.trans (congrArg some (by kernel_rfl))
  f314 := Tryz.func253.trans (congrArg some (by kernel_rfl))
  t0 := Tryz.underlying0
  a0 := Tryz.isAgg0
  z0 := Tryz.sizeOf0
  v0 := Tryz.zeroValue0
  t3 := Tryz.underlying3
  a3 := Tryz.isAgg3
  z3 := Tryz.sizeOf3
  v3 := Tryz.zeroValue3
  t4 := Tryz.underlying4
  a4 := Tryz.isAgg4
  z4 := Tryz.sizeOf4
  v4 := Tryz.zeroValue4
  t5 := Tryz.underlying5
  a5 := Tryz.isAgg5
  z5 := Tryz.sizeOf5
  v5 := Tryz.zeroValue5
  t9 := Tryz.underlying9
  a9 := Tryz.isAgg9
  z9 := Tryz.sizeOf9
  v9 := Tryz.zeroValue9
  t21 := Tryz.underlying21
  a21 := Tryz.isAgg21
  z21 := Tryz.sizeOf21
  v21 := Tryz.zeroValue21
  t31 := Tryz.underlying155
  a31 := Tryz.isAgg155
  z31 := Tryz.sizeOf155
  v31 := Tryz.zeroValue155
  t46 := Tryz.underlying299
  a46 := Tryz.isAgg299
  z46 := Tryz.sizeOf299
  v46 := Tryz.zeroValue299
  t51 := Tryz.underlying297
  a51 := Tryz.isAgg297
  z51 := Tryz.sizeOf297
  v51 := Tryz.zeroValue297
  t105 := Tryz.underlying285
  a105 := Tryz.isAgg285
  z105 := Tryz.sizeOf285
  v105 := Tryz.zeroValue285
  t119 := Tryz.underlying308
  a119 := Tryz.isAgg308
  z119 := Tryz.sizeOf308
  t138 := Tryz.underlying310
  a138 := Tryz.isAgg310
  z138 := Tryz.sizeOf310
  v138 := Tryz.zeroValue310
  t139 := Tryz.underlying311
  a139 := Tryz.isAgg311
  z139 := Tryz.sizeOf311
  v139 := Tryz.zeroValue311
  t146 := Tryz.underlying312
  a146 := Tryz.isAgg312
  z146 := Tryz.sizeOf312
  v146 := Tryz.zeroValue312
  g1 := by kernel_rfl
  g3 := by kernel_rfl
  g4 := by kernel_rfl
  i0 := by kernel_rfl
  i3 := by kernel_rfl
  i4 := by kernel_rfl
  i5 := by kernel_rfl
  i9 := by kernel_rfl
  i21 := by kernel_rfl
  i31 := by kernel_rfl
  i46 := by kernel_rfl
  i51 := by kernel_rfl
  i105 := by kernel_rfl
  i138 := by kernel_rfl
  i139 := by kernel_rfl
  i146 := by kernel_rfl
  m1 := by kernel_rfl
  s1_3 := fun w h => Go.Proofs.cell_of_shapedOpen_int (zero := #[.int .i64 0]) (t := 3) h (of_decide_eq_true (by kernel_rfl)) (by kernel_rfl) rfl (by kernel_rfl) (by kernel_rfl) Tryz.underlying3
  m3 := by kernel_rfl
  m4 := by kernel_rfl }
def Tryz.lays137_ren : Go.Shelf.Ren := ⟨fun | 137 => 189 | 217 => 205 | 266 => 223 | n => n, fun | 9 => 9 | 5 => 5 | 3 => 3 | n => n, fun | n => n⟩
theorem Tryz.lays137 : Go.Proofs.Lays.n137 Tryz.prog Tryz.lays137_ren := {
  mixed := by kernel_rfl
  f137 := Tryz.func189.trans (congrArg some (by kernel_rfl))
  f217 := Tryz.func205.trans (congrArg some (by kernel_rfl))
  f266 := Tryz.func223.trans (congrArg some (by kernel_rfl))
  t3 := Tryz.underlying3
  a3 := Tryz.isAgg3
  z3 := Tryz.sizeOf3
  v3 := Tryz.zeroValue3
  t5 := Tryz.underlying5
  a5 := Tryz.isAgg5
  z5 := Tryz.sizeOf5
  v5 := Tryz.zeroValue5
  t9 := Tryz.underlying9
  a9 := Tryz.isAgg9
  z9 := Tryz.sizeOf9
  v9 := Tryz.zeroValue9 }
def Tryz.lays104_ren : Go.Shelf.Ren := ⟨fun | 104 => 154 | 211 => 190 | 207 => 206 | n => n, fun | 9 => 9 | 4 => 4 | 24 => 221 | 3 => 3 | n => n, fun | n => n⟩
theorem Tryz.lays104 : Go.Proofs.Lays.n104 Tryz.prog Tryz.lays104_ren := {
  mixed := by kernel_rfl
  f104 := Tryz.func154.trans (congrArg some (by kernel_rfl))
  f207 := Tryz.func206.trans (congrArg some (by kernel_rfl))
  f211 := Tryz.func190.trans (congrArg some (by kernel_rfl))
  t3 := Tryz.underlying3
  a3 := Tryz.isAgg3
  z3 := Tryz.sizeOf3
  v3 := Tryz.zeroValue3
  t4 := Tryz.underlying4
  a4 := Tryz.isAgg4
  z4 := Tryz.sizeOf4
  v4 := Tryz.zeroValue4
  t9 := Tryz.underlying9
  a9 := Tryz.isAgg9
  z9 := Tryz.sizeOf9
  v9 := Tryz.zeroValue9
  t24 := Tryz.underlying221
  a24 := Tryz.isAgg221
  z24 := Tryz.sizeOf221
  v24 := Tryz.zeroValue221 }
def Tryz.lays101_ren : Go.Shelf.Ren := ⟨fun | 101 => 193 | 208 => 212 | 206 => 233 | n => n, fun | 9 => 9 | 4 => 4 | 3 => 3 | n => n, fun | n => n⟩
theorem Tryz.lays101 : Go.Proofs.Lays.n101 Tryz.prog Tryz.lays101_ren := {
  mixed := by kernel_rfl
  f101 := Tryz.func193.trans (congrArg some (by kernel_rfl))
  f206 := Tryz.func233.trans (congrArg some (by kernel_rfl))
  f208 := Tryz.func212.trans (congrArg some (by kernel_rfl))
  t3 := Tryz.underlying3
  a3 := Tryz.isAgg3
  z3 := Tryz.sizeOf3
  v3 := Tryz.zeroValue3
  t4 := Tryz.underlying4
  a4 := Tryz.isAgg4
  z4 := Tryz.sizeOf4
  v4 := Tryz.zeroValue4
  t9 := Tryz.underlying9
  a9 := Tryz.isAgg9
  z9 := Tryz.sizeOf9
  v9 := Tryz.zeroValue9 }
def Tryz.lays172_ren : Go.Shelf.Ren := ⟨fun | 172 => 192 | 244 => 210 | 245 => 211 | 247 => 228 | 279 => 229 | 280 => 230 | 281 => 231 | 282 => 232 | 287 => 246 | 316 => 247 | 171 => 151 | 205 => 248 | 321 => 254 | 322 => 255 | 243 => 184 | 246 => 202 | 283 => 217 | 284 => 218 | 285 => 219 | 286 => 220 | 129 => 238 | 317 => 237 | 318 => 239 | 319 => 240 | 320 => 241 | 337 => 251 | 338 => 252 | n => n, fun | 9 => 9 | 3 => 3 | 75 => 253 | 76 => 254 | 4 => 4 | 5 => 5 | 167 => 287 | 37 => 248 | 0 => 0 | 85 => 288 | 2 => 2 | 168 => 290 | 53 => 272 | 175 => 301 | 46 => 299 | 210 => 305 | 127 => 266 | 145 => 317 | 143 => 315 | 21 => 21 | 171 => 276 | 173 => 279 | 212 => 296 | 51 => 297 | 20 => 20 | 213 => 298 | 232 => 318 | 233 => 319 | 80 => 256 | n => n, fun | 15 => 4 | 16 => 5 | 17 => 2 | 18 => 8 | 19 => 9 | n => n⟩
theorem Tryz.lays172 : Go.Proofs.LaysC.n172 Tryz.prog Tryz.lays172_ren := {
  mixed := by kernel_rfl
  f129 := Tryz.func238.trans (congrArg some (by kernel_rfl))
  f171 := Tryz.func151.trans (congrArg some (by kernel_rfl))
  f172 := Tryz.func192.trans (congrArg some (by kernel_rfl))
  f205 := Tryz.func248.trans (congrArg some (by kernel_rfl))
  f243 := Tryz.func184.trans (congrArg some (by kernel_rfl))
  f244 := Tryz.func210.trans (congrArg some (by kernel_rfl))
  f245 := Tryz.func211.trans (congrArg some (by kernel_rfl))
  f246 := Tryz.func202.trans (congrArg some (by kernel_rfl))
  f247 := Tryz.func228.trans (congrArg some (by kernel_rfl))
  f279 := Tryz.func229.trans (congrArg some (by kernel_rfl))
  f280 := Tryz.func230.trans (congrArg some (by kernel_rfl))
  f281 := Tryz.func231.trans (congrArg some (by kernel_rfl))
  f282 := Tryz.func232.trans (congrArg some (by kernel_rfl))
  f283 := Tryz.func217.trans (congrArg some (by kernel_rfl))
  f284 := Tryz.func218.trans (congrArg some (by kernel_rfl))
  f285 := Tryz.func219.trans (congrArg some (by kernel_rfl))
  f286 := Tryz.func220.trans (congrArg some (by kernel_rfl))
  f287 := Tryz.func246.trans (congrArg some (by kernel_rfl))
  f316 := Tryz.func247.trans (congrArg some (by kernel_rfl))
  f317 := Tryz.func237.trans (congrArg some (by kernel_rfl))
  f318 := Tryz.func239.trans (congrArg some (by kernel_rfl))
  f319 := Tryz.func240.trans (congrArg some (by kernel_rfl))
  f320 := Tryz.func241.trans (congrArg some (by kernel_rfl))
  f321 := Tryz.func254.trans (congrArg some (by kernel_rfl))
  f322 := Tryz.func255.trans (congrArg some (by kernel_rfl))
  f337 := Tryz.func251.trans (congrArg some (by kernel_rfl))
  f338 := Tryz.func252.trans (congrArg some (by kernel_rfl))
  t0 := Tryz.underlying0
  a0 := Tryz.isAgg0
  z0 := Tryz.sizeOf0
  v0 := Tryz.zeroValue0
  t2 := Tryz.underlying2
  a2 := Tryz.isAgg2
  z2 := Tryz.sizeOf2
  v2 := Tryz.zeroValue2
  t3 := Tryz.underlying3
  a3 := Tryz.isAgg3
  z3 := Tryz.sizeOf3
  v3 := Tryz.zeroValue3
  t4 := Tryz.underlying4
  a4 := Tryz.isAgg4
  z4 := Tryz.sizeOf4
  v4 := Tryz.zeroValue4
  t5 := Tryz.underlying5
  a5 := Tryz.isAgg5
  z5 := Tryz.sizeOf5
  v5 := Tryz.zeroValue5
  t9 := Tryz.underlying9
  a9 := Tryz.isAgg9
  z9 := Tryz.sizeOf9
  v9 := Tryz.zeroValue9
  t20 := Tryz.underlying20
  a20 := Tryz.isAgg20
  z20 := Tryz.sizeOf20
  v20 := Tryz.zeroValue20
  t21 := Tryz.underlying21
  a21 := Tryz.isAgg21
  z21 := Tryz.sizeOf21
  v21 := Tryz.zeroValue21
  t37 := Tryz.underlying248
  a37 := Tryz.isAgg248
  z37 := Tryz.sizeOf248
  v37 := Tryz.zeroValue248
  t46 := Tryz.underlying299
  a46 := Tryz.isAgg299
  z46 := Tryz.sizeOf299
  v46 := Tryz.zeroValue299
  t51 := Tryz.underlying297
  a51 := Tryz.isAgg297
  z51 := Tryz.sizeOf297
  v51 := Tryz.zeroValue297
  t53 := Tryz.underlying272
  a53 := Tryz.isAgg272
  z53 := Tryz.sizeOf272
  v53 := Tryz.zeroValue272
  t75 := Tryz.underlying253
  a75 := Tryz.isAgg253
  z75 := Tryz.sizeOf253
  v75 := Tryz.zeroValue253
  t76 := Tryz.underlying254
  a76 := Tryz.isAgg254
  z76 := Tryz.sizeOf254
  v76 := Tryz.zeroValue254
  t85 := Tryz.underlying288
  a85 := Tryz.isAgg288
  z85 := Tryz.sizeOf288
  v85 := Tryz.zeroValue288
  t127 := Tryz.underlying266
  a127 := Tryz.isAgg266
  z127 := Tryz.sizeOf266
  v127 := Tryz.zeroValue266
  t143 := Tryz.underlying315
  a143 := Tryz.isAgg315
  z143 := Tryz.sizeOf315
  v143 := Tryz.zeroValue315
  t145 := Tryz.underlying317
  a145 := Tryz.isAgg317
  z145 := Tryz.sizeOf317
  v145 := Tryz.zeroValue317
  t167 := Tryz.underlying287
  a167 := Tryz.isAgg287
  z167 := Tryz.sizeOf287
  v167 := Tryz.zeroValue287
  t168 := Tryz.underlying290
  a168 := Tryz.isAgg290
  z168 := Tryz.sizeOf290
  v168 := Tryz.zeroValue290
  t171 := Tryz.underlying276
  a171 := Tryz.isAgg276
  z171 := Tryz.sizeOf276
  v171 := Tryz.zeroValue276
  t173 := Tryz.underlying279
  a173 := Tryz.isAgg279
  z173 := Tryz.sizeOf279
  v173 := Tryz.zeroValue279
  t175 := Tryz.underlying301
  a175 := Tryz.isAgg301
  z175 := Tryz.sizeOf301
  v175 := Tryz.zeroValue301
  t210 := Tryz.underlying305
  a210 := Tryz.isAgg305
  z210 := Tryz.sizeOf305
  v210 := Tryz.zeroValue305
  t212 := Tryz.underlying296
  a212 := Tryz.isAgg296
  z212 := Tryz.sizeOf296
  v212 := Tryz.zeroValue296
  t213 := Tryz.underlying298
  a213 := Tryz.isAgg298
  z213 := Tryz.sizeOf298
  t232 := Tryz.underlying318
  a232 := Tryz.isAgg318
  z232 := Tryz.sizeOf318
  v232 := Tryz.zeroValue318
  t233 := Tryz.underlying319
  a233 := Tryz.isAgg319
  z233 := Tryz.sizeOf319
  v233 := Tryz.zeroValue319
  g15 := by kernel_rfl
  g16 := by kernel_rfl
  g17 := by kernel_rfl
  g18 := by kernel_rfl
  g19 := by kernel_rfl
  t80 := Tryz.underlying256
  a80 := Tryz.isAgg256
  z80 := Tryz.sizeOf256
  v80 := Tryz.zeroValue256
  i0 := by kernel_rfl
  i2 := by kernel_rfl
  i3 := by kernel_rfl
  i4 := by kernel_rfl
  i5 := by kernel_rfl
  i9 := by kernel_rfl
  i20 := by kernel_rfl
  i21 := by kernel_rfl
  i37 := by kernel_rfl
  i46 := by kernel_rfl
  i51 := by kernel_rfl
  i53 := by kernel_rfl
  i75 := by kernel_rfl
  i76 := by kernel_rfl
  i80 := by kernel_rfl
  i85 := by kernel_rfl
  i127 := by kernel_rfl
  i143 := by kernel_rfl
  i145 := by kernel_rfl
  i167 := by kernel_rfl
  i168 := by kernel_rfl
  i171 := by kernel_rfl
  i173 := by kernel_rfl
  i175 := by kernel_rfl
  i210 := by kernel_rfl
  i212 := by kernel_rfl
  i232 := by kernel_rfl
  i233 := by kernel_rfl
  m15 := by kernel_rfl
  m16 := by kernel_rfl
  m17 := by kernel_rfl
  m18 := by kernel_rfl
  m19 := by kernel_rfl
  c0 := by kernel_rfl
  c2 := by kernel_rfl
  c3 := by kernel_rfl
  c4 := by kernel_rfl
  c5 := by kernel_rfl
  c9 := by kernel_rfl
  c20 := by kernel_rfl
  c21 := by kernel_rfl
  c37 := by kernel_rfl
  c46 := by kernel_rfl
  c51 := by kernel_rfl
  c53 := by kernel_rfl
  c75 := by kernel_rfl
  c76 := by kernel_rfl
  c80 := by kernel_rfl
  c85 := by kernel_rfl
  c127 := by kernel_rfl
  c143 := by kernel_rfl
  c145 := by kernel_rfl
  c167 := by kernel_rfl
  c168 := by kernel_rfl
  c171 := by kernel_rfl
  c173 := by kernel_rfl
  c175 := by kernel_rfl
  c210 := by kernel_rfl
  c212 := by kernel_rfl
  c213 := by kernel_rfl
  c232 := by kernel_rfl
  c233 := by kernel_rfl }
end Go.Proofs

namespace Go.Sx
open Go.Proofs Go.RowKit Go.Shelf Go.Lib
def atoV (l : List UInt8) : Int := match Lib.atoiAll l with
  | .ok v => v
  | .range => Lib.atoiSat l
  | _ => 0
def atoE (l : List UInt8) : Bool := match Lib.atoiAll l with
  | .ok _ => false
  | _ => true
theorem fn_pure {P : Program} {f : FuncId} {w : World} {args : Array Value} {x : SV} {v0 : Value} (hx : ∀ w', DenRSV w' w.heap.size (fun _ => none) x v0)
    (h : Calls P f args w fun e w' => e = .returned v0 ∧ Below w.heap.size w w') :
    Calls P f args w fun e w' => ∃ v H', e = .returned v ∧ Below w.heap.size w w' ∧ Agree H' w' ∧ (∀ b, b < w.heap.size → H' b = if true then none else (fun _ => none : IH) b) ∧ DenRSV w' w.heap.size H' x v :=
  h.mono fun _ w' ⟨he, hb⟩ => ⟨_, fun _ => none, he, hb, fun _ _ h => (by cases h), fun _ _ => rfl, hx w'⟩
theorem index_fn {P : Program} {ρ : Ren} (L : Lays.n137 P ρ) {gl : Nat → Option ((t : Ty) × t.T)} (s : List UInt8) (c : Int) :
    Fn P gl (ρ.f 137) [.one (.str s), .one (.int .u8 c)] (.val (.one (.int .i64 (Lib.indexByte s c.toNat.toUInt8)))) true := by
  intro w H vs hA hG hD
  obtain ⟨v, r, rfl, hv, v2, r2, rfl, hv2, hr⟩ := hD
  obtain rfl : r2 = [] := hr
  obtain rfl : v2 = .int .u8 c := hv2
  obtain rfl : v = .string ⟨⟨s⟩⟩ := hv
  exact fn_pure (fun _ => ⟨rfl, rfl⟩) ((Any.strings_IndexByte L ⟨⟨s⟩⟩ c w).mono fun e w' ⟨he, hw⟩ => ⟨he, hw ▸ Below.refl _ _⟩)
theorem cutSuffix_fn {P : Program} {ρ : Ren} (L : Lays.n104 P ρ) {gl : Nat → Option ((t : Ty) × t.T)} (s p : List UInt8) (hs : s.length ≤ 9223372036854775807) :
    Fn P gl (ρ.f 104) [.one (.str s), .one (.str p)] (.tup [.one (.str (Lib.trimSuffix s p)), .one (.bool (Lib.hasSuffix s p))]) true := by
  intro w H vs hA hG hD
  obtain ⟨v, r, rfl, hv, v2, r2, rfl, hv2, hr⟩ := hD
  obtain rfl : r2 = [] := hr
  obtain rfl : v2 = .string ⟨⟨p⟩⟩ := hv2
  obtain rfl : v = .string ⟨⟨s⟩⟩ := hv
  exact fn_pure (fun _ => ⟨_, rfl, _, _, rfl, ⟨rfl, rfl⟩, ⟨_, _, rfl, ⟨rfl, rfl⟩, rfl, fun h => by cases h⟩, fun h => by cases h⟩)
    ((Any.strings_CutSuffix L ⟨⟨s⟩⟩ ⟨⟨p⟩⟩ w hs).mono fun e w' ⟨he, hw⟩ => ⟨he, hw ▸ Below.refl _ _⟩)
theorem trimPrefix_fn {P : Program} {ρ : Ren} (L : Lays.n101 P ρ) {gl : Nat → Option ((t : Ty) × t.T)} (s p : List UInt8) :
    Fn P gl (ρ.f 101) [.one (.str s), .one (.str p)] (.val (.one (.str (Lib.trimPrefix s p)))) true := by
  intro w H vs hA hG hD
  obtain ⟨v, r, rfl, hv, v2, r2, rfl, hv2, hr⟩ := hD
  obtain rfl : r2 = [] := hr
  obtain rfl : v2 = .string ⟨⟨p⟩⟩ := hv2
  obtain rfl : v = .string ⟨⟨s⟩⟩ := hv
  exact fn_pure (fun _ => ⟨rfl, rfl⟩) ((Any.strings_TrimPrefix L ⟨⟨s⟩⟩ ⟨⟨p⟩⟩ w).mono fun e w' ⟨he, hw⟩ => ⟨he, hw ▸ Below.refl _ _⟩)
theorem opq_cell {gl : Nat → Option ((t : Ty) × t.T)} {H : IH} {w : World} (hA : Agree H w) (hG : GlobOk gl H) {g : Nat} {e : Bool} (hgl : gl g = some ⟨.opq e, ()⟩) :
    ∃ c v t fr, w.heap[g]? = some (.cells c t fr) ∧ c = #[v] ∧ ((e = false ∧ ∃ m, v = .int .i64 m) ∨ (e = true ∧ ∃ t p, v = .iface t p)) := by
  obtain ⟨c, t, fr, h1, h2, h3⟩ := hG g _ hgl
  obtain ⟨v, hv, hx⟩ := h2
  refine ⟨c, v, t, fr, hA g _ h1, ?_, hx⟩
  have hv' : seg c 0 (Ty.opq e).sz = [v] := hv
  have h5 := seg_get (c := c) (o := 0) (n := (Ty.opq e).sz) (j := 0) (v := v) (by rw [hv']; rfl)
  have hs : c.size = 1 := h3
  apply Array.ext
  · simp [hs]
  · intro i hi hi'
    obtain rfl : i = 0 := by omega
    rw [Array.getElem?_eq_getElem (by omega)] at h5
    exact Option.some.inj h5
theorem opq_var {P : Program} {gl : Nat → Option ((t : Ty) × t.T)} {H : IH} {w : World} (hA : Agree H w) (hG : GlobOk gl H) {g : Nat} (hgl : gl g = some ⟨.opq true, ()⟩) {n : String} (hg : P.globalNamed n = some g) :
    ∃ t p, w.var? P n = some #[.iface t p] := by
  obtain ⟨c, v, t, fr, h1, rfl, h2⟩ := opq_cell hA hG hgl
  rcases h2 with ⟨h, _⟩ | ⟨_, t', p, rfl⟩
  · cases h
  · refine ⟨t', p, ?_⟩
    unfold World.var?
    rw [hg]
    simp only [Option.bind_some, h1]
theorem atoi_fn {P : Program} {ρ : Ren} (L : LaysC.n172 P ρ) {gl : Nat → Option ((t : Ty) × t.T)} {g1 g2 : Nat} (h1 : P.globalNamed "strconv.ErrSyntax" = some g1) (hg1 : gl g1 = some ⟨.opq true, ()⟩)
    (h2 : P.globalNamed "strconv.ErrRange" = some g2) (hg2 : gl g2 = some ⟨.opq true, ()⟩) (s : List UInt8) (hs : s.length ≤ 281474976710656) :
    Fn P gl (ρ.f 172) [.one (.str s)] (.tup [.one (.int .i64 (atoV s)), .one (.err (atoE s))]) true := by
  intro w H vs hA hG hD
  obtain ⟨v, r, rfl, hv, hr⟩ := hD
  obtain rfl : r = [] := hr
  obtain rfl : v = .string ⟨⟨s⟩⟩ := hv
  have key : ∀ (b : Bool) (n : Int) (x : Value), DenC ρ0 (fun _ => none) (.err b) x → ∀ w', DenRSV w' w.heap.size (fun _ => none) (.tup [.one (.int .i64 n), .one (.err b)]) (.tuple #[.int .i64 n, x]) :=
    fun b n x hx w' => ⟨_, rfl, _, _, rfl, ⟨rfl, rfl⟩, ⟨_, _, rfl, ⟨rfl, hx⟩, rfl, fun h => by cases h⟩, fun h => by cases h⟩
  unfold atoV atoE
  rcases hc : Lib.atoiAll s with n | _ | _
  · refine fn_pure (key false n .nilIface rfl) ((Any.strconv_Atoi_ok L ⟨⟨s⟩⟩ (by show s.length ≤ _; omega) n hc w).mono fun e w' ⟨he, hw⟩ => ⟨he, ?_⟩)
    rcases hw with rfl | ⟨t, rfl⟩
    · exact Below.refl _ _
    · exact Go.Joins.below_bytesWorld _ _ _ _ (Nat.le_refl _)
  · obtain ⟨t, p, hx⟩ := opq_var (P := P) hA hG hg1 h1
    exact (Any.strconv_Atoi_syntax_var L ⟨⟨s⟩⟩ hs hc t p w hx).mono fun e w' ⟨N, he, _, _, hb⟩ => ⟨_, fun _ => none, he, hb, fun _ _ h => (by cases h), fun _ _ => rfl, key true 0 _ ⟨_, _, rfl⟩ w'⟩
  · obtain ⟨t, p, hx⟩ := opq_var (P := P) hA hG hg2 h2
    exact (Any.strconv_Atoi_range_var L ⟨⟨s⟩⟩ hs hc t p w hx).mono fun e w' ⟨N, he, _, _, hb⟩ => ⟨_, fun _ => none, he, hb, fun _ _ h => (by cases h), fun _ _ => rfl, key true _ _ ⟨_, _, rfl⟩ w'⟩
theorem split_fn {P : Program} {ρ : Ren} (L : Lays.n146 P ρ) (hi9 : (P.info? (ρ.t 9)).map (fun i => (i.zero, i.size, i.bytes)) = some (some (.string ByteArray.empty), 1, 16)) {gl : Nat → Option ((t : Ty) × t.T)}
    (hgl : gl (ρ.g 1) = some ⟨.opq false, ()⟩) (s sep : List UInt8) (h1 : 1 ≤ sep.length) (h2 : s.length ≤ 1000000000) :
    Fn P gl (ρ.f 146) [.one (.str s), .one (.str sep)] (.val (.one (.frs .str (Lib.split s sep)))) true := by
  intro w H vs hA hG hD
  obtain ⟨v, r, rfl, hv, v2, r2, rfl, hv2, hr⟩ := hD
  obtain rfl : r2 = [] := hr
  obtain rfl : v2 = .string ⟨⟨sep⟩⟩ := hv2
  obtain rfl : v = .string ⟨⟨s⟩⟩ := hv
  obtain ⟨c, m, t, fr, hc, rfl, hx⟩ := opq_cell hA hG hgl
  rcases hx with ⟨_, m, rfl⟩ | ⟨h, _⟩
  case inr => cases h
  have hm : w.cell? ⟨ρ.g 1, 0, none⟩ = some (.int .i64 m) := by
    have := cell_seg (w := w) hc (o := 0) (n := 1) 0 (.int .i64 m) rfl
    exact this
  have hsz : (⟨⟨s⟩⟩ : ByteArray).size = s.length := rfl
  have hd : (Lib.splitB ⟨⟨sep⟩⟩ 0 (Lib.countB ⟨⟨s⟩⟩ ⟨⟨sep⟩⟩) ⟨⟨s⟩⟩).map (·.data.toList) = Lib.split s sep := Lib.splitB_data _ _ _ _
  have hle := Lib.countB_le ⟨⟨sep⟩⟩ h1 s.length ⟨⟨s⟩⟩ (Nat.le_refl _)
  have hln := Lib.splitB_all ⟨⟨sep⟩⟩ h1 0 _ ⟨⟨s⟩⟩ rfl
  have hl2 : (Lib.split s sep).length = Lib.countB ⟨⟨s⟩⟩ ⟨⟨sep⟩⟩ + 1 := by rw [← hd, List.length_map, hln]
  refine (Any.strings_Split L hi9 ⟨⟨s⟩⟩ ⟨⟨sep⟩⟩ m w (by rw [hsz]; omega) hm h1).mono fun e w' ⟨he, hw⟩ => ?_
  subst hw
  have hf : (w.alloc (.cells ((Lib.splitB ⟨⟨sep⟩⟩ 0 (Lib.countB ⟨⟨s⟩⟩ ⟨⟨sep⟩⟩) ⟨⟨s⟩⟩).map Value.string).toArray (ρ.t 9))).heap[w.heap.size]? = some (.cells ((Lib.splitB ⟨⟨sep⟩⟩ 0 (Lib.countB ⟨⟨s⟩⟩ ⟨⟨sep⟩⟩) ⟨⟨s⟩⟩).map Value.string).toArray (ρ.t 9) (0, 0)) := by
    show (w.heap.push _)[w.heap.size]? = _
    rw [Array.getElem?_push, if_pos rfl]
  refine ⟨_, fun _ => none, he, ⟨rfl, rfl, rfl, ?_, fun j hj => ?_⟩, fun _ _ h => (by cases h), fun _ _ => rfl, .inr ⟨w.heap.size, Lib.countB ⟨⟨s⟩⟩ ⟨⟨sep⟩⟩ + 1, _, ρ.t 9, by rw [hl2], Nat.le_refl _, rfl, ⟨(0, 0), .inl rfl, hf⟩, by omega, ?_, ?_, fun i h => ?_⟩⟩
  · show w.heap.size ≤ (w.heap.push _).size
    simp
  · show (w.heap.push _)[j]? = _
    rw [Array.getElem?_push, if_neg (by omega)]
  · simp only [maxLen]; rw [hsz] at hle; omega
  · simp [hln, Ty.sz]
  · have hi : i < (Lib.splitB ⟨⟨sep⟩⟩ 0 (Lib.countB ⟨⟨s⟩⟩ ⟨⟨sep⟩⟩) ⟨⟨s⟩⟩).length := by omega
    have e1 : (Lib.split s sep)[i] = (Lib.splitB ⟨⟨sep⟩⟩ 0 (Lib.countB ⟨⟨s⟩⟩ ⟨⟨sep⟩⟩) ⟨⟨s⟩⟩)[i].data.toList := by simp only [← hd, List.getElem_map]
    rw [e1]
    have e2 : ((Lib.splitB ⟨⟨sep⟩⟩ 0 (Lib.countB ⟨⟨s⟩⟩ ⟨⟨sep⟩⟩) ⟨⟨s⟩⟩).map Value.string).drop i = Value.string (Lib.splitB ⟨⟨sep⟩⟩ 0 (Lib.countB ⟨⟨s⟩⟩ ⟨⟨sep⟩⟩) ⟨⟨s⟩⟩)[i] :: ((Lib.splitB ⟨⟨sep⟩⟩ 0 (Lib.countB ⟨⟨s⟩⟩ ⟨⟨sep⟩⟩) ⟨⟨s⟩⟩).map Value.string).drop (i + 1) := by
      rw [List.drop_eq_getElem_cons (by simpa using hi), List.getElem_map]
    show seg _ _ _ = _
    simp only [seg, Ty.sz, Nat.mul_one, e2, List.take_succ_cons, List.take_zero]
end Go.Sx

namespace Go.Sx
theorem index1 (s : List UInt8) (c : Int) : Fn P1 gl1 189 [sV s, .one (.int .u8 c)] (.val (iV (Lib.indexByte s c.toNat.toUInt8))) true :=
  index_fn Proofs.Tryz.lays137 s c
theorem cutSuffix1 (s p : List UInt8) (hs : s.length ≤ 1000000000) : Fn P1 gl1 154 [sV s, sV p] (.tup [sV (Lib.trimSuffix s p), bV (Lib.hasSuffix s p)]) true :=
  cutSuffix_fn Proofs.Tryz.lays104 s p (by omega)
theorem trimPrefix1 (s p : List UInt8) : Fn P1 gl1 193 [sV s, sV p] (.val (sV (Lib.trimPrefix s p))) true :=
  trimPrefix_fn Proofs.Tryz.lays101 s p
theorem atoi1 (s : List UInt8) (hs : s.length ≤ 1000000000) : Fn P1 gl1 192 [sV s] (.tup [iV (atoV s), .one (.err (atoE s))]) true :=
  atoi_fn Proofs.Tryz.lays172 (g1 := 4) (g2 := 5) (by kernel_rfl) rfl (by kernel_rfl) rfl s (by omega)
theorem split1 (s p : List UInt8) (h1 : 1 ≤ p.length) (h2 : s.length ≤ 1000000000) : Fn P1 gl1 155 [sV s, sV p] (.val (.one (.frs .str (Lib.split s p)))) true :=
  split_fn { Proofs.Tryz.lays146 with } (by kernel_rfl) rfl s p h1 h2
end Go.Sx

namespace Go.Sx
def stayV : V → V
  | .one (.frs t xs) => .one (.sl t xs)
  | x => x
def staySV : SV → SV
  | .val x => .val (stayV x)
  | .tup xs => .tup (xs.map stayV)
def FSpec.frz (sp : FSpec) : FSpec := ⟨fun vs => match sp.run vs with
  | some (ps, .val (.one c)) => some (ps, .val (stayV (.one c)))
  | some (ps, .tup xs) => some (ps, .tup (xs.map stayV))
  | _ => none, false⟩
theorem stayV_den {w : World} {B : Nat} {H H2 : IH} (hh : HLe H H2) (hn : ∀ b o, B ≤ b → w.heap[b]? = some o → H2 b = some o) {x : V} {v : Value} (h : DenRV w B H x v) : DenRV w B H2 (stayV x) v := by
  have other : ∀ y : V, pureV y = true ∧ DenV ρ0 H y v → pureV y = true ∧ DenV ρ0 H2 y v := fun y hy => ⟨hy.1, DenV.mono (REq.refl 0 ρ0) hh (pureV_lt hy.1 0) hy.2⟩
  cases x with
  | agg cs => exact other _ h
  | one c =>
    cases c with
    | frs t xs =>
      have ho : OwnRow w B H v t xs := h
      show pureV (.one (.sl t xs)) = true ∧ Rd H2 (.sl t) xs [v]
      refine ⟨rfl, ?_⟩
      rcases ho with ⟨rfl, rfl⟩ | ⟨g, cap, cur, e, rfl, h2, _, ⟨fz, _, h4⟩, h5, _, _, h8⟩
      · exact ⟨none, 0, rfl, Nat.le_refl _, .inl rfl⟩
      · exact ⟨some ⟨g, 0, none⟩, cap, rfl, h5, .inr ⟨g, 0, cur, e, _, rfl, hn g _ h2 h4, fun i hi => by rw [Nat.zero_add]; exact Rd.mono hh _ _ _ (h8 i hi)⟩⟩
    | _ => exact other _ h
theorem isFrs_stay (x : V) : isFrs (stayV x) = false := by
  cases x with
  | agg cs => rfl
  | one c => cases c <;> rfl
theorem stayVs_den {w : World} {B : Nat} {H H2 : IH} (hh : HLe H H2) (hn : ∀ b o, B ≤ b → w.heap[b]? = some o → H2 b = some o) : ∀ {xs : List V} {vs : List Value}, DenRVs w B H xs vs → DenRVs w B H2 (xs.map stayV) vs
  | [], _, h => h
  | x :: r, _, ⟨v, vs', e, h1, h2, _⟩ => ⟨v, vs', e, stayV_den hh hn h1, stayVs_den hh hn h2, fun h => by rw [isFrs_stay] at h; cases h⟩
theorem Fn.frz {P : Program} {gl : Nat → Option ((t : Ty) × t.T)} {f : FuncId} {args : List V} {r : SV} {fr : Bool} (hr : ∀ x, r = .val x → ∃ c, x = .one c) (h : Fn P gl f args r fr) : Fn P gl f args (staySV r) false := by
  intro w H vs hag G hd
  refine (h w H vs hag G hd).mono ?_
  rintro e w' ⟨v, H', rfl, h1, h2, h3, h4⟩
  have hh : HLe H' (fun b => if b < w.heap.size then H b else w'.heap[b]?) := by
    intro b o ho
    show (if b < w.heap.size then H b else w'.heap[b]?) = some o
    split
    · rename_i hlt
      have := h3 b hlt
      rw [ho] at this
      split at this
      · cases this
      · exact this.symm
    · exact h2 b o ho
  have hn : ∀ b o, w.heap.size ≤ b → w'.heap[b]? = some o → (fun b => if b < w.heap.size then H b else w'.heap[b]?) b = some o := fun b o hb ho => (if_neg (by omega)).trans ho
  refine ⟨v, fun b => if b < w.heap.size then H b else w'.heap[b]?, rfl, h1, fun b o ho => ?_, fun b hb => if_pos hb, ?_⟩
  · simp only [] at ho
    split at ho
    · rename_i hlt; rw [h1.block b hlt]; exact hag b o ho
    · exact ho
  · cases r with
    | val x =>
      obtain ⟨c, rfl⟩ := hr x rfl
      have e : aggFr (stayV (.one c)) = none := by cases c <;> rfl
      have h5 : DenRV w' w.heap.size _ (.one c) v := h4
      show match aggFr (stayV (.one c)) with | none => _ | some xs => _
      rw [e]
      exact stayV_den hh hn h5
    | tup xs =>
      obtain ⟨us, e, hus⟩ := h4
      exact ⟨us, e, stayVs_den hh hn hus⟩
theorem Sp1.frz {f : FuncId} {sp : FSpec} (h : Sp1 f sp) : Sp1 f sp.frz := by
  refine ⟨fun vs ps r hr hp => ?_, h.2⟩
  unfold FSpec.frz at hr
  simp only [] at hr
  split at hr
  · rename_i ps' c hs
    cases hr
    exact (h.1 vs _ _ hs hp).frz (fun x hx => by cases hx; exact ⟨c, rfl⟩)
  · rename_i ps' xs hs
    cases hr
    exact (h.1 vs _ _ hs hp).frz (fun x hx => by cases hx)
  · cases hr
end Go.Sx
