/- A verified symbolic run of functions, part 17: lemmas, no claim of their own. -/
import Derived.Test.YtlgimjcnnndbhaaGreatDoorS16
import Derived.OpenShut
import Derived.ProofKit
import Derived.Carry
import Derived.OpenVars
import Derived.Lib.LaidTab
import Derived.ChangeSame
import Derived.WalkKit
import Derived.Deep.DeepHandedRow
import Derived.JoinedCond
import Derived.KernelRfl
import Derived.Test.YtlgimjcnnndbhaaGreatDoorProg
import Derived.Test.YtlgimjcnnndbhaaGreatDoorCards
namespace Go.Sx.U
def there : List (List Int) := [[0, 1, 0], [1, -1, 0], [0, -1, 1]]
def back : List (List Int) := [[1, 1, 0], [1, 0, 0], [1, 0, 1]]
def invL : List (List (Int × Int)) := [[(1, 1), (1, 1), (0, 1)], [(1, 1), (0, 1), (0, 1)], [(1, 1), (0, 1), (1, 1)]]
def remC (c : List Int) : List Int := [Int.tmod (List.getD c 0 0) 3001, Int.tmod (List.getD c 1 0) 3001, Int.tmod (List.getD c 2 0) 3001]
def convC (c : List Int) : List Int := cvL there (remC c)
def dolOk (g : List (List Int) × List (List Int)) : Prop := 1 ≤ g.1.length ∧ g.1.length ≤ 6 ∧ g.2 = g.1.map (cvL there) ∧ ∀ c ∈ g.1, c.length = 3 ∧ Bd 3000 c
def saysC (G : List (List Int)) (p : Pt) : Prop := chkPt p.1 p.2.1 p.2.2 = 0 ∧ p.1.length = 4 * G.length ∧ p.2.1.length = G.length ∧ p.2.2.length = G.length ∧
  ∀ i, i < G.length → ∀ m, m < 4 → [six (List.getD p.1 (4 * i + m) 0), six (List.getD p.2.1 i 0), six (List.getD p.2.2 i 0)] = cvL there (List.getD G i [0, 0, 0])
end Go.Sx.U
namespace Go.Sx
open U
abbrev c16T : Ty := .arr 3 (.int .i16)
def ptO (s : St) (t : Nat) : List (Nat × Option AObj) := match lookT s.tm t with
  | some (.val (.one (.ptr id 0))) => [(id, lookO s.ob id)]
  | some (.val (.one (.own id))) => [(id, lookO s.ob id)]
  | _ => []
def ptId (s : St) (t : Nat) : Nat := match lookT s.tm t with
  | some (.val (.one (.ptr id 0))) => id
  | _ => 0
def ptOs (s : St) (l : List Nat) : List (Nat × Option AObj) := l.flatMap (ptO s)
def mtB (R : List (List Int)) : AObj := .box [.arr 3 (.arr 3 (.int .i64)) R, .one (.int .i64 1)]
def ptB (p : Pt) : AObj := .box [.one (.sl (.flt .f32) p.1), .one (.sl (.flt .f32) p.2.1), .one (.sl (.flt .f32) p.2.2)]
def wT (s : St) : List Nat → (List (Nat × SV) → Option LInv) → Option LInv
  | [], k => k []
  | t :: r, k => match lookT s.tm t with
    | some v => wT s r fun m => k ((t, v) :: m)
    | none => none
def wP (s : St) : List Nat → (List Nat → Option LInv) → Option LInv
  | [], k => k []
  | t :: r, k => match lookT s.tm t with
    | some (.val (.one (.ptr id 0))) => wP s r fun m => k (id :: m)
    | _ => none
def wOi (s : St) : List Nat → (List (Nat × Option AObj) → Option LInv) → Option LInv
  | [], k => k []
  | i :: r, k => match lookO s.ob i with
    | some o => wOi s r fun m => k ((i, some o) :: m)
    | none => none
def wO (s : St) (l : List Nat) (k : List (Nat × Option AObj) → Option LInv) : Option LInv := wP s l fun ids => wOi s ids k
def zipO : List Nat → List AObj → List (Nat × Option AObj)
  | i :: r, o :: q => (i, some o) :: zipO r q
  | _, _ => []
def hDol (l : List (List Int)) : Hints := ⟨fun f k s => bif f == 3 then (
  bif k == 1000007 then (some ⟨List (List (Int × Int)) × List (List Int) × List (List Int) × List (List Int), fun g => ⟨(8, .val (iV 0)) :: (10, .val (iV 0)) :: keepC [0, 1, 5, 6, 7, 9] s.tm, [(ptId s 5, some (mtB g.2.1)), (ptId s 6, some (mtB g.2.2.1)), (ptId s 7, some (mtB g.2.2.2)), (ptId s 9, some (.box [.arr 3 (.arr 3 (.pair (.int .i64) (.int .i64))) g.1]))], s.nx, s.lr⟩, fun g => g = (invL, there, back, [[1, 0, 0], [0, 1, 0], [0, 0, 1]]), fun _ => 0⟩) else
  bif k == 10 then (some ⟨Nat, fun i => ⟨tI 85 i :: keepC [0, 1, 5, 6, 84] s.tm, ptOs s [5, 6], s.nx, s.lr⟩, fun i => i ≤ 3, fun i => 3 - i⟩) else
  bif k == 13 then (some ⟨Nat, fun i => ⟨tI 90 i :: keepC [0, 1, 5, 6, 11, 84, 85, 89] s.tm, ptOs s [5, 6], s.nx, s.lr⟩, fun i => i ≤ 3, fun i => 3 - i⟩) else
  bif k == 1000019 then (some ⟨Nat, fun _ => ⟨keepC [0, 1, 5, 6] s.tm, ptOs s [5, 6], s.nx, s.lr⟩, fun _ => True, fun _ => 0⟩) else
  bif k == 21 then (some ⟨Nat, fun g => ⟨tI 107 g :: (15, .val (.one (.own s.nx))) :: (16, .val (.one (.own (s.nx + 1)))) :: keepC [0, 1, 5, 6, 105, 106] s.tm, (s.nx, some (.row c3T ((List.take g l).map remC))) :: (s.nx + 1, some (.row c3T ((List.take g l).map convC))) :: ptOs s [5, 6], s.nx + 2, s.lr⟩, fun g => g ≤ List.length l, fun g => List.length l - g⟩) else
  bif k == 1000029 then (some ⟨List (List Int) × List (List Int), fun g => ⟨(15, .val (.one (.sl c3T g.1))) :: (16, .val (.one (.sl c3T g.2))) :: keepC [1, 6] s.tm, ptOs s [6], s.nx, s.lr⟩, dolOk, fun _ => 0⟩) else
  bif k == 1000042 then (match listAs s 15 c3T with
    | some G => wT s [6, 15, 24, 28, 30] fun tm => wO s [6] fun ob => wP s [24, 28, 30] fun ids => some ⟨Pt × Pt × Pt, fun g => ⟨tm, zipO ids [ptB g.1, ptB g.2.1, ptB g.2.2] ++ ob, s.nx, s.lr⟩, fun g => saysC G g.1 ∧ saysC G g.2.1 ∧ saysC G g.2.2, fun _ => 0⟩
    | _ => none) else
  bif k == 43 then (match listAs s 15 c3T with
    | some G => wT s [6, 15, 222] fun tm => wO s [6] fun ob => some ⟨Nat × List Pt, fun g => ⟨tI 223 g.1 :: (221, .val (.one (.sl pT g.2))) :: tm, ob, s.nx, s.lr⟩, fun g => g.1 ≤ 3 ∧ g.2.length = 3 ∧ ∀ p ∈ g.2, saysC G p, fun g => 3 - g.1⟩
    | _ => none) else
  bif k == 48 then (match listAs s 15 c3T with
    | some G => wT s [6, 15, 33, 221, 222, 223, 239, 240] fun tm => wO s [6, 33] fun ob => some ⟨Nat, fun g => ⟨tI 241 g :: tm, ob, s.nx, s.lr⟩, fun g => g ≤ List.length G, fun g => List.length G - g⟩
    | _ => none) else
  bif k == 51 then (wT s [6, 15, 33, 34, 35, 221, 222, 223, 239, 240, 241] fun tm => wO s [6, 33, 35] fun ob => some ⟨Nat, fun g => ⟨tI 246 g :: tm, ob, s.nx, s.lr⟩, fun g => g ≤ 4, fun g => 4 - g⟩) else
  none) else none, 6⟩
end Go.Sx

namespace Go.Sx
open U
theorem vc3 (l : List (List Int)) (n : Int) : exF (env true [(4, sp4), (5, sp5), (6, sp6), (7, sp7), (8, sp8), (10, sp10), (9, sp9), (11, sp11), (12, sp12), (13, sp13), (14, sp14), (15, sp15), (16, sp16), (17, sp17)] []) (hDol l) 6 3 Proofs.Tryz.f3 [.one (.sl c16T l), .one (.int .u8 n)] (.val (bV true)) = (let q10 := (List.replicate (3 : Nat) ((0 : Int), (0 : Int))); let q11 := (List.replicate (3 : Nat) (0 : Int)); let q13 := (↑(List.length l) : Int); let q15 := (invL, there, back, [[(1 : Int), (0 : Int), (0 : Int)], [(0 : Int), (1 : Int), (0 : Int)], [(0 : Int), (0 : Int), (1 : Int)]]); let q19 := (false = true ∧ True); let q20 := (FloatKind.format FloatKind.f32); let q22 := (Int.tmod n (32 : Int)); let q26 := ((1 : Int), (1 : Int)); let q30 := (Ty.int IntKind.i64); let q33 := ((0 : Int), (1 : Int)); splitB (bif decide (q13 < (1 : Int)) then true else decide ((6 : Int) < q13)) (true = true ∧ True) ((∃ (g : List (List (Int × Int)) × List (List Int) × List (List Int) × List (List Int)), g = q15 ∧ (0 : Int) = (0 : Int) ∧ (0 : Int) = (0 : Int) ∧ l = l ∧ n = n ∧ [[(0 : Int), (1 : Int), (0 : Int)], [(1 : Int), (-1 : Int), (0 : Int)], [(0 : Int), (-1 : Int), (1 : Int)]] = g.2.1 ∧ (1 : Int) = (1 : Int) ∧ [[(1 : Int), (1 : Int), (0 : Int)], [(1 : Int), (0 : Int), (0 : Int)], [(1 : Int), (0 : Int), (1 : Int)]] = g.2.2.1 ∧ (1 : Int) = (1 : Int) ∧ [[(1 : Int), (0 : Int), (0 : Int)], [(0 : Int), (1 : Int), (0 : Int)], [(0 : Int), (0 : Int), (1 : Int)]] = g.2.2.2 ∧ (1 : Int) = (1 : Int) ∧ [[q26, q26, q33], [q26, q33, q33], [q26, q33, q26]] = g.1 ∧ True) ∧ ∀ (g : List (List (Int × Int)) × List (List Int) × List (List Int) × List (List Int)), g = q15 → splitB (bif bif (0 : Int) != (0 : Int) then true else (0 : Int) != (0 : Int) then true else !eqT (Ty.pair (Ty.arr (3 : Nat) (Ty.arr (3 : Nat) q30)) q30) (g.2.2.2, (1 : Int)) ([[(1 : Int), (0 : Int), (0 : Int)], [(0 : Int), (1 : Int), (0 : Int)], [(0 : Int), (0 : Int), (1 : Int)]], (1 : Int))) q19 ((∃ (g_1 : Nat), Nat.le g_1 (3 : Nat) ∧ (0 : Int) = (↑g_1 : Int) ∧ l = l ∧ n = n ∧ g.1 = g.1 ∧ g.2.1 = g.2.1 ∧ (1 : Int) = (1 : Int) ∧ g.2.2.1 = g.2.2.1 ∧ (1 : Int) = (1 : Int) ∧ True) ∧ ∀ (g_1 : Nat), let q35 := ((0 : Int) ≤ (↑g_1 : Int) ∧ (↑g_1 : Int) < (3 : Int)); Nat.le g_1 (3 : Nat) → splitB (decide ((↑g_1 : Int) < (3 : Int))) (q35 ∧ (∃ (g_2 : Nat), Nat.le g_2 (3 : Nat) ∧ (0 : Int) = (↑g_2 : Int) ∧ l = l ∧ n = n ∧ (↑g_1 : Int) = (↑g_1 : Int) ∧ g.1 = g.1 ∧ (↑g_1 : Int) = (↑g_1 : Int) ∧ List.getD g.1 g_1 q10 = List.getD g.1 g_1 q10 ∧ g.2.1 = g.2.1 ∧ (1 : Int) = (1 : Int) ∧ g.2.2.1 = g.2.2.1 ∧ (1 : Int) = (1 : Int) ∧ True) ∧ ∀ (g_2 : Nat), let q31 := (List.getD (List.getD g.1 g_1 q10) g_2 ((0 : Int), (0 : Int))); let q34 := ((0 : Nat) + g_2 * (1 : Nat)); let q36 := ((0 : Int) ≤ (↑g_2 : Int) ∧ (↑g_2 : Int) < (3 : Int)); Nat.le g_2 (3 : Nat) → splitB (decide ((↑g_2 : Int) < (3 : Int))) (q36 ∧ q35 ∧ q36 ∧ g_1 < List.length g.2.2.1 ∧ q34 % (1 : Nat) = (0 : Nat) ∧ q34 / (1 : Nat) < List.length (List.getD g.2.2.1 g_1 q11) ∧ splitB (!eqT (Ty.pair q30 q30) (q31.1, q31.2) (List.getD (List.getD g.2.2.1 g_1 q11) (q34 / (1 : Nat)) (0 : Int), (1 : Int))) q19 (∃ (g' : Nat), Nat.le g' (3 : Nat) ∧ (3 : Nat) - g' < (3 : Nat) - g_2 ∧ IntKind.wrap IntKind.i64 ((↑g_2 : Int) + (1 : Int)) = (↑g' : Int) ∧ l = l ∧ n = n ∧ (↑g_1 : Int) = (↑g_1 : Int) ∧ g.1 = g.1 ∧ (↑g_1 : Int) = (↑g_1 : Int) ∧ List.getD g.1 g_1 q10 = List.getD g.1 g_1 q10 ∧ g.2.1 = g.2.1 ∧ (1 : Int) = (1 : Int) ∧ g.2.2.1 = g.2.2.1 ∧ (1 : Int) = (1 : Int) ∧ True)) (∃ (g' : Nat), Nat.le g' (3 : Nat) ∧ (3 : Nat) - g' < (3 : Nat) - g_1 ∧ IntKind.wrap IntKind.i64 ((↑g_1 : Int) + (1 : Int)) = (↑g' : Int) ∧ l = l ∧ n = n ∧ g.1 = g.1 ∧ g.2.1 = g.2.1 ∧ (1 : Int) = (1 : Int) ∧ g.2.2.1 = g.2.2.1 ∧ (1 : Int) = (1 : Int) ∧ True)) ((∃ (g_2 : Nat), True ∧ l = l ∧ n = n ∧ g.2.1 = g.2.1 ∧ (1 : Int) = (1 : Int) ∧ g.2.2.1 = g.2.2.1 ∧ (1 : Int) = (1 : Int) ∧ True) ∧ ∀ (g_2 : Nat), True → (∃ (g_3 : Nat), Nat.le g_3 (List.length l) ∧ (0 : Int) = (↑g_3 : Int) ∧ l = l ∧ n = n ∧ l = l ∧ q13 = q13 ∧ List.map remC (List.take g_3 l) = [] ∧ List.map convC (List.take g_3 l) = [] ∧ g.2.1 = g.2.1 ∧ (1 : Int) = (1 : Int) ∧ g.2.2.1 = g.2.2.1 ∧ (1 : Int) = (1 : Int) ∧ True) ∧ ∀ (g_3 : Nat), let q3 := (List.getD l g_3 q11); let q16 := (List.getD q3 (0 : Nat) (0 : Int)); let q18 := (List.getD q3 (2 : Nat) (0 : Int)); let q17 := (List.getD q3 (1 : Nat) (0 : Int)); let q7 := (cvL g.2.1 [Int.tmod q16 (3001 : Int), Int.tmod q17 (3001 : Int), Int.tmod q18 (3001 : Int)]); let q29 := (List.take g_3 l); Nat.le g_3 (List.length l) → splitB (decide ((↑g_3 : Int) < q13)) (((0 : Int) ≤ (↑g_3 : Int) ∧ (↑g_3 : Int) < q13) ∧ ((0 : Int) ≤ (0 : Int) ∧ (0 : Int) < (3 : Int)) ∧ (0 : Nat) < List.length q3 ∧ fits IntKind.i64 q16 ∧ (3001 : Int) ≠ (0 : Int) ∧ ((0 : Int) ≤ (1 : Int) ∧ (1 : Int) < (3 : Int)) ∧ (1 : Nat) < List.length q3 ∧ fits IntKind.i64 q17 ∧ (3001 : Int) ≠ (0 : Int) ∧ ((0 : Int) ≤ (2 : Int) ∧ (2 : Int) < (3 : Int)) ∧ (2 : Nat) < List.length q3 ∧ fits IntKind.i64 q18 ∧ (3001 : Int) ≠ (0 : Int) ∧ mtOk g.2.1 ∧ (3 : Nat) = (3 : Nat) ∧ Bd (16384 : Int) [Int.tmod q16 (3001 : Int), Int.tmod q17 (3001 : Int), Int.tmod q18 (3001 : Int)] ∧ Bd (16384 : Int) q7 ∧ (((0 : Int) != (0 : Int)) = false → List.length q7 = (3 : Nat)) ∧ (((0 : Int) != (0 : Int)) = false → Bd (16384 : Int) q7) ∧ room (List.length (List.map remC q29) + (1 : Nat)) (24 : Nat) ∧ room (List.length (List.map convC q29) + (1 : Nat)) (24 : Nat) ∧ ∃ (g' : Nat), Nat.le g' (List.length l) ∧ List.length l - g' < List.length l - g_3 ∧ IntKind.wrap IntKind.i64 ((↑g_3 : Int) + (1 : Int)) = (↑g' : Int) ∧ l = l ∧ n = n ∧ l = l ∧ q13 = q13 ∧ List.map remC q29 ++ [[Int.tmod q16 (3001 : Int), Int.tmod q17 (3001 : Int), Int.tmod q18 (3001 : Int)]] = List.map remC (List.take g' l) ∧ List.map convC q29 ++ [cvL g.2.1 [Int.tmod q16 (3001 : Int), Int.tmod q17 (3001 : Int), Int.tmod q18 (3001 : Int)]] = List.map convC (List.take g' l) ∧ g.2.1 = g.2.1 ∧ (1 : Int) = (1 : Int) ∧ g.2.2.1 = g.2.2.1 ∧ (1 : Int) = (1 : Int) ∧ True) ((∃ (g_4 : List (List Int) × List (List Int)), ((1 : Nat) ≤ List.length g_4.1 ∧ List.length g_4.1 ≤ (6 : Nat) ∧ g_4.2 = List.map (cvL there) g_4.1 ∧ ∀ (c : List Int), c ∈ g_4.1 → List.length c = (3 : Nat) ∧ Bd (3000 : Int) c) ∧ List.map remC q29 = g_4.1 ∧ List.map convC q29 = g_4.2 ∧ n = n ∧ g.2.2.1 = g.2.2.1 ∧ (1 : Int) = (1 : Int) ∧ True) ∧ ∀ (g_4 : List (List Int) × List (List Int)), let q0 := (flat4 g_4.2 (List.length g_4.2), colL (1 : Nat) g_4.2, colL (2 : Nat) g_4.2); let q32 := (flat4 g_4.2 (List.length g_4.2)); let q6 := (encL q32 (colL (1 : Nat) g_4.2) (colL (2 : Nat) g_4.2) q22); let q8 := (encFN [q0, q0, q0]); let q37 := (List.length g_4.1); let q9 := (↑q37 : Int); let q23 := (errP (threeE q8 (1 : Int)) (threeL q8 (1 : Int))); let q25 := (errP (twoE q8 (0 : Int)) (twoI q8 (0 : Int))); ((1 : Nat) ≤ List.length g_4.1 ∧ List.length g_4.1 ≤ (6 : Nat) ∧ g_4.2 = List.map (cvL there) g_4.1 ∧ ∀ (c : List Int), c ∈ g_4.1 → List.length c = (3 : Nat) ∧ Bd (3000 : Int) c) → List.length g_4.2 ≤ (64 : Nat) ∧ (∀ (c : List Int), c ∈ g_4.2 → List.length c = (3 : Nat) ∧ Bd (16384 : Int) c) ∧ fits IntKind.i64 n ∧ (32 : Int) ≠ (0 : Int) ∧ List.length q32 ≤ (1000000000 : Nat) ∧ splitB (bif encE q32 (colL (1 : Nat) g_4.2) (colL (2 : Nat) g_4.2) q22 != (0 : Int) then true else (↑(List.length q6) : Int) != IntKind.wrap IntKind.i64 ((4 : Int) * q9)) q19 (room ((0 : Nat) + List.length q6) (4 : Nat) ∧ fits IntKind.i64 n ∧ (32 : Int) ≠ (0 : Int) ∧ splitB (bndE q6 q22 != (0 : Int)) q19 (List.length g_4.2 ≤ (64 : Nat) ∧ (∀ (c : List Int), c ∈ g_4.2 → List.length c = (3 : Nat) ∧ Bd (16384 : Int) c) ∧ List.length g_4.2 ≤ (64 : Nat) ∧ (∀ (c : List Int), c ∈ g_4.2 → List.length c = (3 : Nat) ∧ Bd (16384 : Int) c) ∧ List.length g_4.2 ≤ (64 : Nat) ∧ (∀ (c : List Int), c ∈ g_4.2 → List.length c = (3 : Nat) ∧ Bd (16384 : Int) c) ∧ (∀ (x : Pt), x ∈ [q0, q0, q0] → List.length x.1 ≤ (1000000000 : Nat)) ∧ splitB (bif bif encFE [q0, q0, q0] != (0 : Int) then true else chkFld q8 != (0 : Int) then true else (↑(List.length q8) : Int) != (3 : Int)) q19 (List.length q8 ≤ (1000 : Nat) ∧ (∀ (x : List Nat), x ∈ encFN [q0, q0, q0] → List.length x ≤ (100000 : Nat)) ∧ List.length q8 ≤ (1000 : Nat) ∧ (∀ (x : List Nat), x ∈ encFN [q0, q0, q0] → List.length x ≤ (100000 : Nat)) ∧ splitB (bif errE (twoE q8 (0 : Int)) (twoI q8 (0 : Int)) != (0 : Int) then true else errE (threeE q8 (1 : Int)) (threeL q8 (1 : Int)) != (0 : Int)) q19 ((∃ (g_5 : Pt × Pt × Pt), (saysC g_4.1 g_5.1 ∧ saysC g_4.1 g_5.2.1 ∧ saysC g_4.1 g_5.2.2) ∧ g_4.1 = g_4.1 ∧ (bndP q6 q22).1 = g_5.1.1 ∧ (bndP q6 q22).2.1 = g_5.1.2.1 ∧ (bndP q6 q22).2.2 = g_5.1.2.2 ∧ q25.1 = g_5.2.1.1 ∧ q25.2.1 = g_5.2.1.2.1 ∧ q25.2.2 = g_5.2.1.2.2 ∧ q23.1 = g_5.2.2.1 ∧ q23.2.1 = g_5.2.2.2.1 ∧ q23.2.2 = g_5.2.2.2.2 ∧ g.2.2.1 = g.2.2.1 ∧ (1 : Int) = (1 : Int) ∧ True) ∧ ∀ (g_5 : Pt × Pt × Pt), saysC g_4.1 g_5.1 ∧ saysC g_4.1 g_5.2.1 ∧ saysC g_4.1 g_5.2.2 → (∃ (g_6 : Nat × List Pt), (g_6.1 ≤ (3 : Nat) ∧ List.length g_6.2 = (3 : Nat) ∧ ∀ (p : Pt), p ∈ g_6.2 → saysC g_4.1 p) ∧ (0 : Int) = (↑g_6.1 : Int) ∧ [(g_5.1.1, g_5.1.2.1, g_5.1.2.2), (g_5.2.1.1, g_5.2.1.2.1, g_5.2.1.2.2), (g_5.2.2.1, g_5.2.2.2.1, g_5.2.2.2.2)] = g_6.2 ∧ g_4.1 = g_4.1 ∧ (3 : Int) = (3 : Int) ∧ g.2.2.1 = g.2.2.1 ∧ (1 : Int) = (1 : Int) ∧ True) ∧ ∀ (g_6 : Nat × List Pt), let q1 := (List.getD g_6.2 g_6.1 ([], [], [])); let q21 := (↑g_6.1 : Int); (g_6.1 ≤ (3 : Nat) ∧ List.length g_6.2 = (3 : Nat) ∧ ∀ (p : Pt), p ∈ g_6.2 → saysC g_4.1 p) → splitB (decide (q21 < (3 : Int))) (((0 : Int) ≤ q21 ∧ q21 < (↑(List.length g_6.2) : Int)) ∧ List.length q1.1 ≤ (1000000000 : Nat) ∧ splitB (bif chkPt q1.1 q1.2.1 q1.2.2 != (0 : Int) then true else (↑(List.length q1.1) : Int) != IntKind.wrap IntKind.i64 ((4 : Int) * q9)) q19 ((∃ (g_7 : Nat), Nat.le g_7 q37 ∧ (0 : Int) = (↑g_7 : Int) ∧ g_4.1 = g_4.1 ∧ g_6.2 = g_6.2 ∧ (3 : Int) = (3 : Int) ∧ q21 = q21 ∧ g_4.1 = g_4.1 ∧ q9 = q9 ∧ g.2.2.1 = g.2.2.1 ∧ (1 : Int) = (1 : Int) ∧ q1.1 = q1.1 ∧ q1.2.1 = q1.2.1 ∧ q1.2.2 = q1.2.2 ∧ True) ∧ ∀ (g_7 : Nat), let q27 := (Ieee.Format.mul q20 (1098907648 : Nat) (List.getD q1.2.1 g_7 (0 : Nat))); let q4 := (Ieee.Datum.toInt Ieee.Toward.zero (FloatKind.decode FloatKind.f32 (Option.getD q27 (0 : Nat)))); let q28 := (Ieee.Format.mul q20 (1098907648 : Nat) (List.getD q1.2.2 g_7 (0 : Nat))); let q5 := (Ieee.Datum.toInt Ieee.Toward.zero (FloatKind.decode FloatKind.f32 (Option.getD q28 (0 : Nat)))); Nat.le g_7 q37 → splitB (decide ((↑g_7 : Int) < q9)) (((0 : Int) ≤ (↑g_7 : Int) ∧ (↑g_7 : Int) < q9) ∧ (∃ (g_8 : Nat), Nat.le g_8 (4 : Nat) ∧ (0 : Int) = (↑g_8 : Int) ∧ g_4.1 = g_4.1 ∧ (↑g_7 : Int) = (↑g_7 : Int) ∧ g_6.2 = g_6.2 ∧ (3 : Int) = (3 : Int) ∧ q21 = q21 ∧ g_4.1 = g_4.1 ∧ q9 = q9 ∧ (↑g_7 : Int) = (↑g_7 : Int) ∧ g.2.2.1 = g.2.2.1 ∧ (1 : Int) = (1 : Int) ∧ q1.1 = q1.1 ∧ q1.2.1 = q1.2.1 ∧ q1.2.2 = q1.2.2 ∧ List.getD g_4.1 g_7 q11 = List.getD g_4.1 g_7 q11 ∧ True) ∧ ∀ (g_8 : Nat), let q14 := (IntKind.wrap IntKind.i64 ((4 : Int) * (↑g_7 : Int)) + (↑g_8 : Int)); let q12 := (Ieee.Format.mul q20 (1098907648 : Nat) (List.getD q1.1 (Int.toNat (IntKind.wrap IntKind.i64 q14)) (0 : Nat))); let q2 := (Ieee.Datum.toInt Ieee.Toward.zero (FloatKind.decode FloatKind.f32 (Option.getD q12 (0 : Nat)))); let q24 := (cvL g.2.2.1 [Option.getD q2 (0 : Int), Option.getD q4 (0 : Int), Option.getD q5 (0 : Int)]); Nat.le g_8 (4 : Nat) → splitB (decide ((↑g_8 : Int) < (4 : Int))) (((0 : Int) ≤ IntKind.wrap IntKind.i64 q14 ∧ IntKind.wrap IntKind.i64 q14 < (↑(List.length q1.1) : Int)) ∧ Option.isSome q12 = true ∧ (Option.isSome q2 = true ∧ IntKind.min IntKind.i64 ≤ Option.getD q2 (0 : Int) ∧ Option.getD q2 (0 : Int) ≤ IntKind.max IntKind.i64) ∧ ((0 : Int) ≤ (↑g_7 : Int) ∧ (↑g_7 : Int) < (↑(List.length q1.2.1) : Int)) ∧ Option.isSome q27 = true ∧ (Option.isSome q4 = true ∧ IntKind.min IntKind.i64 ≤ Option.getD q4 (0 : Int) ∧ Option.getD q4 (0 : Int) ≤ IntKind.max IntKind.i64) ∧ ((0 : Int) ≤ (↑g_7 : Int) ∧ (↑g_7 : Int) < (↑(List.length q1.2.2) : Int)) ∧ Option.isSome q28 = true ∧ (Option.isSome q5 = true ∧ IntKind.min IntKind.i64 ≤ Option.getD q5 (0 : Int) ∧ Option.getD q5 (0 : Int) ≤ IntKind.max IntKind.i64) ∧ mtOk g.2.2.1 ∧ (3 : Nat) = (3 : Nat) ∧ Bd (16384 : Int) [Option.getD q2 (0 : Int), Option.getD q4 (0 : Int), Option.getD q5 (0 : Int)] ∧ Bd (16384 : Int) q24 ∧ splitB (bif (0 : Int) != (0 : Int) then true else !eqT (Ty.arr (3 : Nat) q30) q24 (List.getD g_4.1 g_7 q11)) q19 (∃ (g' : Nat), Nat.le g' (4 : Nat) ∧ (4 : Nat) - g' < (4 : Nat) - g_8 ∧ IntKind.wrap IntKind.i64 ((↑g_8 : Int) + (1 : Int)) = (↑g' : Int) ∧ g_4.1 = g_4.1 ∧ (↑g_7 : Int) = (↑g_7 : Int) ∧ g_6.2 = g_6.2 ∧ (3 : Int) = (3 : Int) ∧ q21 = q21 ∧ g_4.1 = g_4.1 ∧ q9 = q9 ∧ (↑g_7 : Int) = (↑g_7 : Int) ∧ g.2.2.1 = g.2.2.1 ∧ (1 : Int) = (1 : Int) ∧ q1.1 = q1.1 ∧ q1.2.1 = q1.2.1 ∧ q1.2.2 = q1.2.2 ∧ List.getD g_4.1 g_7 q11 = List.getD g_4.1 g_7 q11 ∧ True)) (∃ (g' : Nat), Nat.le g' q37 ∧ List.length g_4.1 - g' < List.length g_4.1 - g_7 ∧ IntKind.wrap IntKind.i64 ((↑g_7 : Int) + (1 : Int)) = (↑g' : Int) ∧ g_4.1 = g_4.1 ∧ g_6.2 = g_6.2 ∧ (3 : Int) = (3 : Int) ∧ q21 = q21 ∧ g_4.1 = g_4.1 ∧ q9 = q9 ∧ g.2.2.1 = g.2.2.1 ∧ (1 : Int) = (1 : Int) ∧ q1.1 = q1.1 ∧ q1.2.1 = q1.2.1 ∧ q1.2.2 = q1.2.2 ∧ True)) (∃ (g' : Nat × List Pt), (g'.1 ≤ (3 : Nat) ∧ List.length g'.2 = (3 : Nat) ∧ ∀ (p : Pt), p ∈ g'.2 → saysC g_4.1 p) ∧ (3 : Nat) - g'.1 < (3 : Nat) - g_6.1 ∧ IntKind.wrap IntKind.i64 (q21 + (1 : Int)) = (↑g'.1 : Int) ∧ g_6.2 = g'.2 ∧ g_4.1 = g_4.1 ∧ (3 : Int) = (3 : Int) ∧ g.2.2.1 = g.2.2.1 ∧ (1 : Int) = (1 : Int) ∧ True))) (true = true ∧ True)))))))))) := by
  kernel_rfl
end Go.Sx

namespace Go.Sx.U
end Go.Sx.U

namespace Go.Sx.U
end Go.Sx.U

namespace Go.Sx.U
open Ieee
end Go.Sx.U

namespace Go.Sx.U
def lineI (y u v : List Int) (g : Int) : List Int := tab y.length fun n => List.getD y n 0 + carN (List.getD u (n / 4) 0) (List.getD v (n / 4) 0) (n % 4) g
theorem lineI_len (y u v : List Int) (g : Int) : (lineI y u v g).length = y.length := by unfold lineI; rw [tab_len]
theorem lineI_get {y u v : List Int} {g : Int} {n : Nat} (h : n < y.length) : List.getD (lineI y u v g) n 0 = List.getD y n 0 + carN (List.getD u (n / 4) 0) (List.getD v (n / 4) 0) (n % 4) g := by unfold lineI; rw [tab_get h]
theorem encI_line {y u v : List Nat} {line : Int} (h : u.length = y.length / 4) (h4 : y.length % 4 = 0) : encI y u v line = lineI (sixs y) (sixs u) (sixs v) (signI line) := by
  rw [encI_tab y u v line h h4]
  unfold lineI
  rw [sixs_len]
theorem carN_neg (u v : Int) (k : Nat) (g : Int) : carN u v k (-g) = -carN u v k g := by
  unfold carN
  split <;> simp [Int.neg_mul]
theorem line_twice {y u v : List Int} {g : Int} {n : Nat} (h : n < y.length) : List.getD (lineI y u v g) n 0 + List.getD (lineI y u v (-g)) n 0 = 2 * List.getD y n 0 := by
  rw [lineI_get h, lineI_get h, carN_neg]
  omega
theorem line_less {y u v : List Int} {g : Int} {n : Nat} (h : n < y.length) : List.getD (lineI y u v g) n 0 - List.getD (lineI y u v (-g)) n 0 = 2 * carN (List.getD u (n / 4) 0) (List.getD v (n / 4) 0) (n % 4) g := by
  rw [lineI_get h, lineI_get h, carN_neg]
  omega
theorem place4 (c j : Nat) (h : j < 4) : (4 * c + j) / 4 = c ∧ (4 * c + j) % 4 = j := by omega
theorem line_diff {y u v : List Int} {g : Int} (hg : g = 1 ∨ g = -1) {c : Nat} (h : 4 * c + 4 ≤ y.length) :
    g * (List.getD (lineI y u v g) (4 * c + 0) 0 - List.getD (lineI y u v g) (4 * c + 0 + 2) 0) = g * (List.getD y (4 * c + 0) 0 - List.getD y (4 * c + 0 + 2) 0) + 2 * List.getD u c 0 ∧
    g * (List.getD (lineI y u v g) (4 * c + 1) 0 - List.getD (lineI y u v g) (4 * c + 1 + 2) 0) = g * (List.getD y (4 * c + 1) 0 - List.getD y (4 * c + 1 + 2) 0) + 2 * List.getD v c 0 := by
  rw [lineI_get (n := 4 * c + 0) (by omega), lineI_get (n := 4 * c + 0 + 2) (by omega), lineI_get (n := 4 * c + 1) (by omega), lineI_get (n := 4 * c + 1 + 2) (by omega)]
  have e0 := place4 c 0 (by omega)
  have e1 := place4 c 1 (by omega)
  have e2 := place4 c 2 (by omega)
  have e3 := place4 c 3 (by omega)
  rw [Nat.add_assoc (4 * c) 0 2, Nat.add_assoc (4 * c) 1 2]
  show g * (_ + carN _ _ _ g - (List.getD y (4 * c + 2) 0 + carN (List.getD u ((4 * c + 2) / 4) 0) (List.getD v ((4 * c + 2) / 4) 0) ((4 * c + 2) % 4) g)) = _ ∧ g * (_ + carN _ _ _ g - (List.getD y (4 * c + 3) 0 + carN (List.getD u ((4 * c + 3) / 4) 0) (List.getD v ((4 * c + 3) / 4) 0) ((4 * c + 3) % 4) g)) = _
  rw [e0.1, e0.2, e1.1, e1.2, e2.1, e2.2, e3.1, e3.2]
  show g * (_ + g * _ - (_ + -g * _)) = g * (_ - List.getD y (4 * c + 2) 0) + _ ∧ g * (_ + g * _ - (_ + -g * _)) = g * (_ - List.getD y (4 * c + 3) 0) + _
  rcases hg with rfl | rfl <;> constructor <;> omega
theorem round_even (a n : Int) : roundI (a + 2 * n) 2 = n + roundI a 2 := by
  unfold roundI
  omega
def ItOk (y u v : List Int) : Prop := y.length % 4 = 0 ∧ u.length = y.length / 4 ∧ v.length = y.length / 4
theorem two_back {y u v : List Int} {line : Int} (h : ItOk y u v) :
    combI midI (lineI y u v (signI line)) (lineI y u v (-signI line)) = y ∧
    diffN 0 (combI minusI (lineI y u v (signI line)) (lineI y u v (-signI line))) line 4 = u ∧
    diffN 1 (combI minusI (lineI y u v (signI line)) (lineI y u v (-signI line))) line 4 = v := by
  obtain ⟨h4, hu, hv⟩ := h
  have hl := lineI_len y u v (signI line)
  have hg := signI_cases line
  refine ⟨?_, ?_, ?_⟩
  · unfold combI
    rw [hl]
    refine (eq_tab 0 rfl fun i hi => ?_).symm
    unfold midI
    rw [line_twice hi]
    unfold roundI
    omega
  · unfold diffN
    rw [combI_len, hl]
    refine (eq_tab 0 hu fun i hi => ?_).symm
    unfold diffAt combI
    rw [hl, tab_get (by omega), tab_get (by omega)]
    unfold minusI
    rw [line_less (by omega), line_less (by omega)]
    have e0 := place4 i 0 (by omega)
    have e2 := place4 i 2 (by omega)
    rw [Nat.add_assoc (4 * i) 0 2, e0.1, e0.2]
    show _ = roundI (_ * (2 * carN _ _ 0 _ - 2 * carN (List.getD u ((4 * i + 2) / 4) 0) (List.getD v ((4 * i + 2) / 4) 0) ((4 * i + 2) % 4) _)) 4
    rw [e2.1, e2.2]
    show _ = roundI (_ * (2 * (_ * _) - 2 * (-_ * _))) 4
    unfold roundI
    rcases hg with e | e <;> rw [e] <;> omega
  · unfold diffN
    rw [combI_len, hl]
    refine (eq_tab 0 hv fun i hi => ?_).symm
    unfold diffAt combI
    rw [hl, tab_get (by omega), tab_get (by omega)]
    unfold minusI
    rw [line_less (by omega), line_less (by omega)]
    have e0 := place4 i 1 (by omega)
    have e2 := place4 i 3 (by omega)
    rw [Nat.add_assoc (4 * i) 1 2, e0.1, e0.2]
    show _ = roundI (_ * (2 * carN _ _ 1 _ - 2 * carN (List.getD u ((4 * i + 3) / 4) 0) (List.getD v ((4 * i + 3) / 4) 0) ((4 * i + 3) % 4) _)) 4
    rw [e2.1, e2.2]
    show _ = roundI (_ * (2 * (_ * _) - 2 * (-_ * _))) 4
    unfold roundI
    rcases hg with e | e <;> rw [e] <;> omega
theorem bd_line {y u v : List Int} {A B g : Int} (hA : 0 ≤ A) (hB : 0 ≤ B) (hg : g = 1 ∨ g = -1) (hy : Bd A y) (hu : Bd B u) (hv : Bd B v) : Bd (A + B) (lineI y u v g) := by
  unfold lineI
  refine bd_tab fun i _ => ?_
  have h1 := bd_get hy (i := i) hA
  have h2 := carN_bd (k := i % 4) hg (bd_get hu (i := i / 4) hB) (bd_get hv (i := i / 4) hB)
  omega
theorem sixs_smp {l : List Int} (h : Bd 16384 l) : sixs (l.map smp) = l := six_smps h
theorem parts_ok {x : It} (h1 : Bd 16384 x.1) (h2 : Bd 16384 x.2.1) (h3 : Bd 16384 x.2.2) : partsE x = 0 ∧ partsP x = (x.1.map smp, x.2.1.map smp, x.2.2.map smp) := by
  have e : partsE x = 0 := by
    unfold partsE
    rw [lgE_of h1, lgE_of h2, lgE_of h3]
    rfl
  refine ⟨e, ?_⟩
  unfold partsP
  rw [if_pos e, smpsN_of h1, smpsN_of h2, smpsN_of h3]
theorem chk_parts {y u v : List Int} (h1 : Bd 16384 y) (h2 : Bd 16384 u) (h3 : Bd 16384 v) (hl : y.length ≤ 256) (h : ItOk y u v) : chkPt (y.map smp) (u.map smp) (v.map smp) = 0 := by
  obtain ⟨h4, hu, hv⟩ := h
  refine chkPt_zero.2 ⟨chkSig_zero.2 ⟨by rw [List.length_map]; exact hl, by rw [List.length_map]; exact h4, smp_ok h1⟩, by rw [List.length_map, List.length_map]; exact hu, by rw [List.length_map, List.length_map]; exact hv, smp_ok h2, smp_ok h3⟩
end Go.Sx.U

namespace Go.Sx
open U
theorem map_smp_get {l : List Int} {i : Nat} (h : i < l.length) : List.getD (l.map smp) i 0 = smp (List.getD l i 0) := by
  rw [getD_of (by rw [List.length_map]; exact h), List.getElem_map, getD_of h]
def Yd (C : List (List Int)) : List Int := tab (4 * C.length) fun n => List.getD (List.getD C (n / 4) []) 0 0
def Ud (k : Nat) (C : List (List Int)) : List Int := C.map fun c => List.getD c k 0
theorem Yd_len (C : List (List Int)) : (Yd C).length = 4 * C.length := tab_len _ _
theorem Ud_len (k : Nat) (C : List (List Int)) : (Ud k C).length = C.length := List.length_map ..
theorem Yd_get {C : List (List Int)} {n : Nat} (h : n < 4 * C.length) : List.getD (Yd C) n 0 = List.getD (List.getD C (n / 4) []) 0 0 := tab_get h
theorem Ud_get {C : List (List Int)} {k i : Nat} (h : i < C.length) : List.getD (Ud k C) i 0 = List.getD (List.getD C i []) k 0 := by
  unfold Ud
  rw [getD_of (by rw [List.length_map]; exact h), List.getElem_map, getD_of h]
theorem flat_get : ∀ (C : List (List Int)) (n : Nat), n < 4 * C.length → List.getD (C.flatMap fun c => [smp (List.getD c 0 0), smp (List.getD c 0 0), smp (List.getD c 0 0), smp (List.getD c 0 0)]) n 0 = smp (List.getD (List.getD C (n / 4) []) 0 0)
  | [], n, h => absurd h (Nat.not_lt_zero _)
  | c :: C, 0, _ => rfl
  | c :: C, 1, _ => rfl
  | c :: C, 2, _ => rfl
  | c :: C, 3, _ => rfl
  | c :: C, n + 4, h => by
    have e : (n + 4) / 4 = n / 4 + 1 := by omega
    have := flat_get C n (by simp only [List.length_cons] at h; omega)
    rw [e]
    exact this
theorem flat_len : ∀ (C : List (List Int)), (C.flatMap fun c => [smp (List.getD c 0 0), smp (List.getD c 0 0), smp (List.getD c 0 0), smp (List.getD c 0 0)]).length = 4 * C.length
  | [] => rfl
  | c :: C => by
    rw [List.flatMap_cons, List.length_append, flat_len C]
    simp only [List.length_cons, List.length_nil]
    omega
theorem flat_eq (C : List (List Int)) : flat4 C C.length = (Yd C).map smp := by
  unfold flat4 Yd
  rw [List.take_length, tab_map]
  exact eq_tab 0 (flat_len C) fun n hn => flat_get C n hn
theorem col_eq (k : Nat) (C : List (List Int)) : colL k C = (Ud k C).map smp := by
  unfold colL Ud
  rw [List.map_map]
  rfl
theorem it_ok (C : List (List Int)) : ItOk (Yd C) (Ud 1 C) (Ud 2 C) := by
  refine ⟨?_, ?_, ?_⟩
  · rw [Yd_len]; omega
  · rw [Yd_len, Ud_len]; omega
  · rw [Yd_len, Ud_len]; omega
def SmC (C : List (List Int)) : Prop := C.length ≤ 6 ∧ ∀ c ∈ C, c.length = 3 ∧ (-3000 ≤ List.getD c 0 0 ∧ List.getD c 0 0 ≤ 3000) ∧ (-6000 ≤ List.getD c 1 0 ∧ List.getD c 1 0 ≤ 6000) ∧ (-6000 ≤ List.getD c 2 0 ∧ List.getD c 2 0 ≤ 6000)
theorem bd_Yd {C : List (List Int)} (h : SmC C) : Bd 3000 (Yd C) := bd_tab fun i hi => (h.2 _ (getD_mem' (by omega))).2.1
theorem bd_Ud1 {C : List (List Int)} (h : SmC C) : Bd 6000 (Ud 1 C) := fun n hn => by
  obtain ⟨c, hc, e⟩ := List.mem_map.1 hn
  rw [← e]
  exact (h.2 c hc).2.2.1
theorem bd_Ud2 {C : List (List Int)} (h : SmC C) : Bd 6000 (Ud 2 C) := fun n hn => by
  obtain ⟨c, hc, e⟩ := List.mem_map.1 hn
  rw [← e]
  exact (h.2 c hc).2.2.2
def Ln (C : List (List Int)) (g : Int) : List Int := lineI (Yd C) (Ud 1 C) (Ud 2 C) g
theorem Ln_len (C : List (List Int)) (g : Int) : (Ln C g).length = 4 * C.length := by unfold Ln; rw [lineI_len, Yd_len]
theorem bd_Ln {C : List (List Int)} (h : SmC C) {g : Int} (hg : g = 1 ∨ g = -1) : Bd 16384 (Ln C g) :=
  bd_le (bd_line (A := 3000) (B := 6000) (by decide) (by decide) hg (bd_Yd h) (bd_Ud1 h) (bd_Ud2 h)) (by decide)
theorem chk_q {C : List (List Int)} (h : SmC C) : chkPt ((Yd C).map smp) ((Ud 1 C).map smp) ((Ud 2 C).map smp) = 0 :=
  chk_parts (bd_le (bd_Yd h) (by decide)) (bd_le (bd_Ud1 h) (by decide)) (bd_le (bd_Ud2 h) (by decide)) (by rw [Yd_len]; have := h.1; omega) (it_ok C)
theorem enc_q {C : List (List Int)} (h : SmC C) (line : Int) : encI ((Yd C).map smp) ((Ud 1 C).map smp) ((Ud 2 C).map smp) line = Ln C (signI line) := by
  rw [encI_line (by rw [List.length_map, List.length_map, Yd_len, Ud_len]; omega) (by rw [List.length_map, Yd_len]; omega), sixs_smp (bd_le (bd_Yd h) (by decide)), sixs_smp (bd_le (bd_Ud1 h) (by decide)), sixs_smp (bd_le (bd_Ud2 h) (by decide))]
  rfl
theorem firstz {a b : Int} (ha : a = 0) (hb : b = 0) : first [a, b] = 0 := by subst ha hb; rfl
theorem encE_q {C : List (List Int)} (h : SmC C) {line : Int} (hl : 0 ≤ line ∧ line ≤ 31) : encE ((Yd C).map smp) ((Ud 1 C).map smp) ((Ud 2 C).map smp) line = 0 ∧ encL ((Yd C).map smp) ((Ud 1 C).map smp) ((Ud 2 C).map smp) line = (Ln C (signI line)).map smp := by
  have e := firstz (chk_q h) (within_zero.2 (show 0 ≤ line ∧ line ≤ 10000000 by omega))
  unfold encE encL
  rw [e, if_neg (by simp), if_neg (by simp), enc_q h]
  exact ⟨lgE_of (bd_Ln h (signI_cases line)), smpsN_of (bd_Ln h (signI_cases line))⟩
theorem chkSig_Ln {C : List (List Int)} (h : SmC C) {g : Int} (hg : g = 1 ∨ g = -1) : chkSig ((Ln C g).map smp) = 0 :=
  chkSig_zero.2 ⟨by rw [List.length_map, Ln_len]; have := h.1; omega, by rw [List.length_map, Ln_len]; omega, smp_ok (bd_Ln h hg)⟩
theorem flat_diff {C : List (List Int)} {c : Nat} (h : c < C.length) : List.getD (Yd C) (4 * c + 0) 0 = List.getD (Yd C) (4 * c + 0 + 2) 0 ∧ List.getD (Yd C) (4 * c + 1) 0 = List.getD (Yd C) (4 * c + 1 + 2) 0 := by
  rw [Yd_get (by omega), Yd_get (by omega), Yd_get (by omega), Yd_get (by omega)]
  have e0 : (4 * c + 0) / 4 = c := by omega
  have e1 : (4 * c + 0 + 2) / 4 = c := by omega
  have e2 : (4 * c + 1) / 4 = c := by omega
  have e3 : (4 * c + 1 + 2) / 4 = c := by omega
  rw [e0, e1, e2, e3]
  exact ⟨rfl, rfl⟩
theorem apart_Y (C : List (List Int)) (D : List Int) (line den : Int) (hD : D.length = 4 * C.length) (h0 : ∀ c, c < C.length → diffAt 0 D c line den = List.getD (Ud 1 C) c 0 ∧ diffAt 1 D c line den = List.getD (Ud 2 C) c 0) :
    apartI (Ln C (signI line)) D line den = (Yd C, Ud 1 C, Ud 2 C) := by
  rw [apartI_eq (by rw [hD, Ln_len]) (by rw [Ln_len]; omega)]
  have eY : tab (Ln C (signI line)).length (apAt (Ln C (signI line)) D line den) = Yd C := by
    rw [Ln_len]
    refine (eq_tab 0 (Yd_len C) fun i hi => ?_).symm
    unfold apAt minusI Ln
    rw [lineI_get (by rw [Yd_len]; exact hi), (h0 (i / 4) (by omega)).1, (h0 (i / 4) (by omega)).2]
    omega
  have eU : diffN 0 D line den = Ud 1 C := by
    unfold diffN
    rw [hD]
    exact (eq_tab 0 (by rw [Ud_len]; omega) fun i hi => ((h0 i (by omega)).1).symm).symm
  have eV : diffN 1 D line den = Ud 2 C := by
    unfold diffN
    rw [hD]
    exact (eq_tab 0 (by rw [Ud_len]; omega) fun i hi => ((h0 i (by omega)).2).symm).symm
  rw [eY, eU, eV]
theorem band_q (C : List (List Int)) (line : Int) : bandI (Ln C (signI line)) line = (Yd C, Ud 1 C, Ud 2 C) := by
  refine apart_Y C _ line 2 (Ln_len _ _) fun c hc => ?_
  obtain ⟨d0, d1⟩ := line_diff (y := Yd C) (u := Ud 1 C) (v := Ud 2 C) (signI_cases line) (c := c) (by rw [Yd_len]; omega)
  obtain ⟨f0, f1⟩ := flat_diff hc
  unfold diffAt Ln
  rw [d0, d1, round_even, round_even, f0, f1, Int.sub_self, Int.sub_self, Int.mul_zero]
  have : roundI 0 2 = 0 := by decide
  rw [this]
  omega
theorem parts_q {C : List (List Int)} (h : SmC C) : partsE (Yd C, Ud 1 C, Ud 2 C) = 0 ∧ partsP (Yd C, Ud 1 C, Ud 2 C) = ((Yd C).map smp, (Ud 1 C).map smp, (Ud 2 C).map smp) :=
  U.parts_ok (x := (Yd C, Ud 1 C, Ud 2 C)) (bd_le (bd_Yd h) (by decide)) (bd_le (bd_Ud1 h) (by decide)) (bd_le (bd_Ud2 h) (by decide))
theorem bnd_q {C : List (List Int)} (h : SmC C) {line : Int} (hl : 0 ≤ line ∧ line ≤ 31) : bndE ((Ln C (signI line)).map smp) line = 0 ∧ bndP ((Ln C (signI line)).map smp) line = ((Yd C).map smp, (Ud 1 C).map smp, (Ud 2 C).map smp) := by
  have e := firstz (chkSig_Ln h (signI_cases line)) (within_zero.2 (show 0 ≤ line ∧ line ≤ 10000000 by omega))
  unfold bndE bndP
  rw [e, if_neg (by simp), if_neg (by simp), sixs_smp (bd_Ln h (signI_cases line)), band_q]
  exact parts_q h
def Fd (C : List (List Int)) : Fld := [(Ln C 1).map smp, (Ln C (-1)).map smp, (Ln C 1).map smp]
theorem fld_q {C : List (List Int)} (h : SmC C) : let q : Pt := ((Yd C).map smp, (Ud 1 C).map smp, (Ud 2 C).map smp); encFE [q, q, q] = 0 ∧ encFN [q, q, q] = Fd C := by
  intro q
  have hq : ∀ i, i < 3 → pAt [q, q, q] i = q := fun i hi => by
    obtain rfl | rfl | rfl : i = 0 ∨ i = 1 ∨ i = 2 := by omega
    all_goals rfl
  have hc : chkLs [q, q, q] = 0 := chkLs_zero.2 ⟨by show 3 ≤ 32; decide, fun i hi => by
    rw [hq i hi, hq 0 (by omega)]
    exact ⟨chk_q h, rfl⟩⟩
  have he : ∀ i : Nat, i < 3 → encP [q, q, q] i = Ln C (signI i) := fun i hi => by
    unfold encP
    rw [hq i hi]
    exact enc_q h i
  have hE : encFE [q, q, q] = 0 := by
    unfold encFE
    rw [if_pos hc]
    exact upTo_zero.2 fun i hi => by
      show lgE (encP [q, q, q] i) = 0
      rw [he i hi]
      exact lgE_of (bd_Ln h (signI_cases _))
  refine ⟨hE, ?_⟩
  unfold encFN
  rw [if_pos hE]
  show [smpsN (encP [q, q, q] 0), smpsN (encP [q, q, q] 1), smpsN (encP [q, q, q] 2)] = _
  rw [he 0 (by decide), he 1 (by decide), he 2 (by decide), smpsN_of (bd_Ln h (signI_cases _)), smpsN_of (bd_Ln h (signI_cases _)), smpsN_of (bd_Ln h (signI_cases _))]
  rfl
theorem chk_Fd {C : List (List Int)} (h : SmC C) : chkFld (Fd C) = 0 := chkFld_zero.2 ⟨by show 3 ≤ 32; decide, fun i hi => by
  have hi : i < 3 := hi
  obtain rfl | rfl | rfl : i = 0 ∨ i = 1 ∨ i = 2 := by omega
  · exact ⟨chkSig_Ln h (.inl rfl), rfl⟩
  · refine ⟨chkSig_Ln h (.inr rfl), ?_⟩
    show ((Ln C (-1)).map smp).length = ((Ln C 1).map smp).length
    rw [List.length_map, List.length_map, Ln_len, Ln_len]
  · exact ⟨chkSig_Ln h (.inl rfl), rfl⟩⟩
theorem two_q {C : List (List Int)} (h : SmC C) : twoE (Fd C) 0 = 0 ∧ twoI (Fd C) 0 = (Yd C, Ud 1 C, Ud 2 C) := by
  refine ⟨twoE_zero.2 ⟨chk_Fd h, by decide, by show (0 : Int) < 3; decide, by show (3 : Nat) ≠ 1; decide⟩, ?_⟩
  have l0 : lnI (Fd C) 0 = Ln C 1 := sixs_smp (bd_Ln h (.inl rfl))
  have l1 : lnI (Fd C) (nextL (Fd C) 0) = Ln C (-1) := sixs_smp (bd_Ln h (.inr rfl))
  obtain ⟨b0, b1, b2⟩ := two_back (line := 0) (it_ok C)
  unfold twoI
  rw [l0, l1]
  have s0 : signI 0 = 1 := rfl
  rw [s0] at b0 b1 b2
  show (combI midI (Ln C 1) (Ln C (-1)), diffN 0 (combI minusI (Ln C 1) (Ln C (-1))) 0 4, diffN 1 (combI minusI (Ln C 1) (Ln C (-1))) 0 4) = _
  unfold Ln
  rw [b0, b1, b2]
theorem three_q {C : List (List Int)} (h : SmC C) : threeE (Fd C) 1 = 0 ∧ threeL (Fd C) 1 = (Yd C, Ud 1 C, Ud 2 C) := by
  refine ⟨threeE_zero.2 ⟨chk_Fd h, by decide, by show (1 : Int) < 3 - 1; decide⟩, ?_⟩
  have l0 : lnI (Fd C) (1 - 1) = Ln C 1 := sixs_smp (bd_Ln h (.inl rfl))
  have l1 : lnI (Fd C) 1 = Ln C (-1) := sixs_smp (bd_Ln h (.inr rfl))
  have l2 : lnI (Fd C) (1 + 1) = Ln C 1 := sixs_smp (bd_Ln h (.inl rfl))
  unfold threeL threeI
  rw [l0, l1, l2]
  have hD : ∀ n, n < 4 * C.length → List.getD (thrD (Ln C 1) (Ln C (-1)) (Ln C 1)) n 0 = 4 * carN (List.getD (Ud 1 C) (n / 4) 0) (List.getD (Ud 2 C) (n / 4) 0) (n % 4) (-1) := fun n hn => by
    rw [thrD_tab (by rw [Ln_len, Ln_len]), tab_get (by rw [Ln_len]; exact hn)]
    unfold Ln
    rw [lineI_get (by rw [Yd_len]; exact hn), lineI_get (by rw [Yd_len]; exact hn), carN_neg]
    omega
  have := apart_Y C (thrD (Ln C 1) (Ln C (-1)) (Ln C 1)) 1 8 (by rw [thrD_len, Ln_len]) fun c hc => by
    have s1 : signI 1 = -1 := rfl
    unfold diffAt
    rw [Nat.add_assoc (4 * c) 0 2, Nat.add_assoc (4 * c) 1 2, s1]
    show roundI (-1 * (_ - List.getD _ (4 * c + 2) 0)) 8 = _ ∧ roundI (-1 * (_ - List.getD _ (4 * c + 3) 0)) 8 = _
    rw [hD _ (by omega), hD _ (by omega), hD _ (by omega), hD _ (by omega)]
    have p0 := place4 c 0 (by omega)
    have p1 := place4 c 1 (by omega)
    have p2 := place4 c 2 (by omega)
    have p3 := place4 c 3 (by omega)
    rw [p0.1, p0.2, p1.1, p1.2, p2.1, p2.2, p3.1, p3.2]
    unfold carN roundI
    simp only
    omega
  exact this
def Cv (G : List (List Int)) : List (List Int) := G.map (cvL there)
theorem Cv_len (G : List (List Int)) : (Cv G).length = G.length := List.length_map ..
theorem cv_there (c : List Int) : cvL there c = [List.getD c 1 0, List.getD c 0 0 - List.getD c 1 0, List.getD c 2 0 - List.getD c 1 0] := by
  show [0 * _ + 1 * _ + 0 * _, 1 * _ + -1 * _ + 0 * _, 0 * _ + -1 * _ + 1 * _] = _
  congr 1
  · omega
  · congr 1
    · omega
    · congr 1
      omega
theorem cv_back {c : List Int} (h : c.length = 3) : cvL back (cvL there c) = c := by
  rw [cv_there]
  match c, h with
  | [x, y, z], _ =>
    show [1 * _ + 1 * _ + 0 * _, 1 * _ + 0 * _ + 0 * _, 1 * _ + 0 * _ + 1 * _] = _
    show [1 * y + 1 * (x - y) + 0 * (z - y), 1 * y + 0 * (x - y) + 0 * (z - y), 1 * y + 0 * (x - y) + 1 * (z - y)] = [x, y, z]
    congr 1
    · omega
    · congr 1
      · omega
      · congr 1
        omega
theorem Cv_sm {G : List (List Int)} (hl : G.length ≤ 6) (h : ∀ c ∈ G, c.length = 3 ∧ Bd 3000 c) : SmC (Cv G) := by
  refine ⟨by rw [Cv_len]; exact hl, fun c hc => ?_⟩
  obtain ⟨d, hd, e⟩ := List.mem_map.1 hc
  rw [← e, cv_there]
  have b0 := bd_get (h d hd).2 (i := 0) (by decide)
  have b1 := bd_get (h d hd).2 (i := 1) (by decide)
  have b2 := bd_get (h d hd).2 (i := 2) (by decide)
  refine ⟨rfl, ?_, ?_, ?_⟩
  · show (-3000 ≤ List.getD d 1 0 ∧ List.getD d 1 0 ≤ 3000); omega
  · show (-6000 ≤ List.getD d 0 0 - List.getD d 1 0 ∧ List.getD d 0 0 - List.getD d 1 0 ≤ 6000); omega
  · show (-6000 ≤ List.getD d 2 0 - List.getD d 1 0 ∧ List.getD d 2 0 - List.getD d 1 0 ≤ 6000); omega
theorem says_q {G : List (List Int)} (hl : G.length ≤ 6) (h : ∀ c ∈ G, c.length = 3 ∧ Bd 3000 c) : saysC G ((Yd (Cv G)).map smp, (Ud 1 (Cv G)).map smp, (Ud 2 (Cv G)).map smp) := by
  have hs := Cv_sm hl h
  have sm : ∀ {l : List Int} {i : Nat}, Bd 16384 l → i < l.length → six (List.getD (l.map smp) i 0) = List.getD l i 0 := fun {l i} hb hi => by
    rw [map_smp_get hi]
    have := bd_get hb (i := i) (by decide)
    exact six_smp (by omega)
  refine ⟨chk_q hs, by rw [List.length_map, Yd_len, Cv_len], by rw [List.length_map, Ud_len, Cv_len], by rw [List.length_map, Ud_len, Cv_len], fun i hi m hm => ?_⟩
  show [six (List.getD ((Yd (Cv G)).map smp) (4 * i + m) 0), six (List.getD ((Ud 1 (Cv G)).map smp) i 0), six (List.getD ((Ud 2 (Cv G)).map smp) i 0)] = _
  have hi' : i < (Cv G).length := by rw [Cv_len]; exact hi
  rw [sm (bd_le (bd_Yd hs) (by decide)) (by rw [Yd_len]; omega), sm (bd_le (bd_Ud1 hs) (by decide)) (by rw [Ud_len]; exact hi'), sm (bd_le (bd_Ud2 hs) (by decide)) (by rw [Ud_len]; exact hi'), Yd_get (by omega), Ud_get hi', Ud_get hi']
  have e : (4 * i + m) / 4 = i := by omega
  rw [e]
  have eC : List.getD (Cv G) i [] = cvL there (List.getD G i [0, 0, 0]) := by
    unfold Cv
    rw [getD_of (by rw [List.length_map]; exact hi), List.getElem_map, getD_of hi]
  rw [eC, cv_there]
  rfl
end Go.Sx

namespace Go.Sx
open U
theorem fitz {n : Int} (h : -9223372036854775808 ≤ n ∧ n ≤ 9223372036854775807) : IntKind.wrap .i64 n = n := fits_wrap h
theorem tm_bd (n : Int) : -3000 ≤ Int.tmod n 3001 ∧ Int.tmod n 3001 ≤ 3000 := by
  by_cases h : 0 ≤ n
  · rw [Int.tmod_eq_emod_of_nonneg h]; omega
  · have e : n = -(-n) := by omega
    rw [e, Int.neg_tmod, Int.tmod_eq_emod_of_nonneg (by omega)]; omega
theorem rem_ok (c : List Int) : (remC c).length = 3 ∧ Bd 3000 (remC c) := ⟨rfl, fun n hn => by
  unfold remC at hn
  simp only [List.mem_cons, List.not_mem_nil, or_false] at hn
  rcases hn with e | e | e <;> subst e <;> exact tm_bd _⟩
theorem there_ok : mtOk there := mt_dec (by decide)
theorem back_ok : mtOk back := mt_dec (by decide)
theorem there_bd {c : List Int} (h : Bd 3000 c) : Bd 16384 (cvL there c) := by
  rw [cv_there]
  have b0 := bd_get h (i := 0) (by decide)
  have b1 := bd_get h (i := 1) (by decide)
  have b2 := bd_get h (i := 2) (by decide)
  intro n hn
  simp only [List.mem_cons, List.not_mem_nil, or_false] at hn
  rcases hn with e | e | e <;> subst e <;> omega
theorem eq3 {l : List Int} (h : l.length = 3) : eqT (Ty.arr 3 (.int .i64)) l l = true := by
  unfold eqT
  rw [List.all_eq_true]
  intro i _
  unfold eqT
  exact beq_self_eq_true _
set_option maxRecDepth 100000 in
theorem fn3 (l : List (List Int)) (n : Int) (h3 : ∀ c ∈ l, c.length = 3 ∧ Bd 32768 c) (hn : 0 ≤ n ∧ n ≤ 255) : Fn P1 gl1 3 [.one (.sl c16T l), .one (.int .u8 n)] (.val (bV true)) true := by
  refine Fn.flat ?_ rfl
  refine fn_of true [(4, sp4), (5, sp5), (6, sp6), (7, sp7), (8, sp8), (10, sp10), (9, sp9), (11, sp11), (12, sp12), (13, sp13), (14, sp14), (15, sp15), (16, sp16), (17, sp17)] [] (hDol l) 6 Proofs.Tryz.f3 ⟨so4, so5, so6, so7, so8, so10, so9, so11, so12, so13, so14, so15, so16, so17, trivial⟩ trivial (by kernel_rfl) rfl (by kernel_rfl) rfl rfl rfl ?_
  rw [vc3]
  try simp only [splitB_iff, -eq_self]
  refine ⟨fun _ => ⟨rfl, trivial⟩, fun hb => ?_⟩
  have hl6 : 1 ≤ l.length ∧ l.length ≤ 6 := by
    by_cases h1 : (l.length : Int) < 1
    · simp [h1] at hb
    · simp [h1] at hb
      omega
  refine ⟨⟨(invL, there, back, [[1, 0, 0], [0, 1, 0], [0, 0, 1]]), rfl, by (repeat' (first | exact trivial | exact rfl | apply And.intro))⟩, fun g hg => ?_⟩
  subst hg
  refine ⟨fun e => absurd e (by decide), fun _ => ⟨⟨0, Nat.zero_le _, rfl, by (repeat' (first | exact trivial | exact rfl | apply And.intro))⟩, fun i hi => ⟨fun hlt => ?_, fun hge => ?_⟩⟩⟩
  · have hlt : (i : Int) < 3 := of_decide_eq_true hlt
    refine ⟨⟨by omega, by omega⟩, ⟨0, Nat.zero_le _, rfl, by (repeat' (first | exact trivial | exact rfl | apply And.intro))⟩, fun k hk => ⟨fun hlt2 => ?_, fun hge2 => ?_⟩⟩
    · have hlt2 : (k : Int) < 3 := of_decide_eq_true hlt2
      refine ⟨⟨by omega, by omega⟩, ⟨by omega, by omega⟩, ⟨by omega, by omega⟩, by show i < 3; omega, by omega, ?_, fun e => ?_, fun _ => ⟨k + 1, by show k + 1 ≤ 3; omega, by omega, by rw [fitz (by omega)]; omega, by (repeat' (first | exact trivial | exact rfl | apply And.intro))⟩⟩
      · obtain rfl | rfl | rfl : i = 0 ∨ i = 1 ∨ i = 2 := by omega
        all_goals obtain rfl | rfl | rfl : k = 0 ∨ k = 1 ∨ k = 2 := by omega
        all_goals decide
      · obtain rfl | rfl | rfl : i = 0 ∨ i = 1 ∨ i = 2 := by omega
        all_goals obtain rfl | rfl | rfl : k = 0 ∨ k = 1 ∨ k = 2 := by omega
        all_goals exact absurd e (by decide)
    · exact ⟨i + 1, by show i + 1 ≤ 3; omega, by omega, by rw [fitz (by omega)]; omega, by (repeat' (first | exact trivial | exact rfl | apply And.intro))⟩
  clear hge hi i
  refine ⟨⟨0, by (repeat' (first | exact trivial | exact rfl | apply And.intro))⟩, fun _ _ => ⟨⟨0, Nat.zero_le _, rfl, by (repeat' (first | exact trivial | exact rfl | apply And.intro))⟩, fun g hg => ⟨fun hlt => ?_, fun hge => ?_⟩⟩⟩
  · have hlt' : g < l.length := by simpa using hlt
    obtain ⟨c3, cb⟩ := h3 _ (getD_mem' (d := List.replicate 3 (0 : Int)) hlt')
    have r3 := rem_ok (List.getD l g (List.replicate 3 (0 : Int)))
    have rb : Bd 16384 (remC (List.getD l g (List.replicate 3 (0 : Int)))) := bd_le r3.2 (by decide)
    have tb := there_bd r3.2
    have ff : ∀ i, fits .i64 (List.getD (List.getD l g (List.replicate 3 (0 : Int))) i 0) := fun i => by
      have := bd_get cb (i := i) (by decide)
      simp only [fits]
      omega
    refine ⟨⟨by omega, by omega⟩, ⟨by omega, by omega⟩, by omega, ff 0, by decide, ⟨by omega, by omega⟩, by omega, ff 1, by decide, ⟨by omega, by omega⟩, by omega, ff 2, by decide, there_ok, rfl, rb, tb, fun _ => rfl, fun _ => tb, by simp only [room, List.length_map, List.length_take]; omega, by simp only [room, List.length_map, List.length_take]; omega, g + 1, hlt', by omega, by rw [fitz (by omega)]; omega, by trivial, by trivial, by trivial, by trivial, ?_, ?_, by (repeat' (first | exact trivial | exact rfl | apply And.intro))⟩
    · rw [getD_of hlt', List.take_succ_eq_append_getElem hlt', List.map_append]
      rfl
    · rw [getD_of hlt', List.take_succ_eq_append_getElem hlt', List.map_append]
      rfl
  have hge' : ¬ g < l.length := by simpa using hge
  have tg : List.take g l = l := List.take_of_length_le (by omega)
  rw [tg]
  clear tg hge' hge hg g
  have hG : ∀ c ∈ l.map remC, c.length = 3 ∧ Bd 3000 c := fun c hc => by
    obtain ⟨d, _, e⟩ := List.mem_map.1 hc
    rw [← e]
    exact rem_ok d
  refine ⟨⟨(l.map remC, l.map convC), ⟨by rw [List.length_map]; omega, by rw [List.length_map]; omega, by rw [List.map_map]; rfl, hG⟩, by (repeat' (first | exact trivial | exact rfl | apply And.intro))⟩, fun g hg => ?_⟩
  clear hG hl6 hb h3
  obtain ⟨G, C⟩ := g
  obtain ⟨g1, g6, gC, hG⟩ := hg
  simp only at g1 g6 gC hG
  subst gC
  have hs : SmC (Cv G) := Cv_sm g6 hG
  have hsay := says_q g6 hG
  have hC : ∀ c ∈ Cv G, c.length = 3 ∧ Bd 16384 c := fun c hc => by
    obtain ⟨d, hd, e⟩ := List.mem_map.1 hc
    rw [← e]
    exact ⟨rfl, there_bd (hG d hd).2⟩
  have lC : (Cv G).length ≤ 64 := by rw [Cv_len]; omega
  have fn : fits .i64 n := by simp only [fits]; omega
  have ln : 0 ≤ Int.tmod n 32 ∧ Int.tmod n 32 ≤ 31 := by
    rw [Int.tmod_eq_emod_of_nonneg hn.1]; omega
  have ef : flat4 (Cv G) (Cv G).length = (Yd (Cv G)).map smp := flat_eq _
  have e1 : colL 1 (Cv G) = (Ud 1 (Cv G)).map smp := col_eq 1 _
  have e2 : colL 2 (Cv G) = (Ud 2 (Cv G)).map smp := col_eq 2 _
  have enc := encE_q hs ln
  have bnd := bnd_q hs ln
  have fld := fld_q hs
  have two := two_q hs
  have thr := three_q hs
  have prt := parts_q hs
  have pE2 : errE (twoE (Fd (Cv G)) 0) (twoI (Fd (Cv G)) 0) = 0 := by unfold errE; rw [two.1, two.2, if_pos rfl]; exact prt.1
  have pP2 : errP (twoE (Fd (Cv G)) 0) (twoI (Fd (Cv G)) 0) = ((Yd (Cv G)).map smp, (Ud 1 (Cv G)).map smp, (Ud 2 (Cv G)).map smp) := by unfold errP; rw [two.1, two.2, if_pos rfl]; exact prt.2
  have pE3 : errE (threeE (Fd (Cv G)) 1) (threeL (Fd (Cv G)) 1) = 0 := by unfold errE; rw [thr.1, thr.2, if_pos rfl]; exact prt.1
  have pP3 : errP (threeE (Fd (Cv G)) 1) (threeL (Fd (Cv G)) 1) = ((Yd (Cv G)).map smp, (Ud 1 (Cv G)).map smp, (Ud 2 (Cv G)).map smp) := by unfold errP; rw [thr.1, thr.2, if_pos rfl]; exact prt.2
  have w4 : IntKind.wrap .i64 (4 * (G.length : Int)) = 4 * (G.length : Int) := fitz (by omega)
  have lL : ∀ g, ((Ln (Cv G) g).map smp).length = 4 * G.length := fun g => by rw [List.length_map, Ln_len, Cv_len]
  have lF : ∀ x ∈ Fd (Cv G), x.length ≤ 100000 := fun x hx => by
    simp only [Fd, List.mem_cons, List.not_mem_nil, or_false] at hx
    rcases hx with e | e | e <;> subst e <;> rw [lL] <;> omega
  have lq : ((Yd (Cv G)).map smp).length ≤ 1000000000 := by rw [List.length_map, Yd_len, Cv_len]; omega
  have eC : G.map (cvL there) = Cv G := rfl
  rw [eC]
  have l3 : (Fd (Cv G)).length = 3 := rfl
  simp only [l3, ef, e1, e2, enc.1, enc.2, bnd.1, bnd.2, fld.1, fld.2, pE2, pP2, pE3, pP3, w4, chk_Fd hs]
  refine ⟨lC, hC, fn, by decide, lq, fun e => ?_, fun _ => ⟨?_, fn, by decide, fun e => absurd e (by decide), fun _ => ⟨lC, hC, lC, hC, lC, hC, ?_, fun e => absurd e (by decide), fun _ => ⟨?_, lF, ?_, lF, fun e => absurd e (by decide), fun _ => ⟨⟨(_, _, _), ⟨hsay, hsay, hsay⟩, by (repeat' (first | exact trivial | exact rfl | apply And.intro))⟩, fun P hP => ?_⟩⟩⟩⟩⟩
  · rw [lL] at e
    exfalso
    simp at e
  · rw [lL]; simp only [room]; omega
  · intro x hx
    simp only [List.mem_cons, List.not_mem_nil, or_false] at hx
    rcases hx with e | e | e <;> subst e <;> exact lq
  · omega
  · omega
  clear hsay enc bnd fld two thr prt pE2 pP2 pE3 pP3 ef e1 e2 lF lq l3
  obtain ⟨p0, p1, p2⟩ := hP
  obtain ⟨P0, P1, P2⟩ := P
  refine ⟨⟨(0, [P0, P1, P2]), ⟨Nat.zero_le _, rfl, fun p hp => ?_⟩, by (repeat' (first | exact trivial | exact rfl | apply And.intro))⟩, fun st hst => ?_⟩
  · simp only [List.mem_cons, List.not_mem_nil, or_false] at hp
    rcases hp with e | e | e <;> subst e
    · exact p0
    · exact p1
    · exact p2
  clear p0 p1 p2 P0 P1 P2
  obtain ⟨i, L⟩ := st
  obtain ⟨hi, hL3, hL⟩ := hst
  simp only at hi hL3 hL
  refine ⟨fun hlt => ?_, fun _ => by (repeat' (first | exact trivial | exact rfl | apply And.intro))⟩
  have hlt : (i : Int) < 3 := of_decide_eq_true hlt
  have hp := hL _ (getD_mem' (d := (([], [], []) : Pt)) (show i < L.length by omega))
  simp only
  generalize List.getD L i ([], [], []) = p at hp ⊢
  obtain ⟨hk, y4, u1, v1, hsay⟩ := hp
  obtain ⟨hy, _, _, hu, hv⟩ := chkPt_zero.1 hk
  have hy := (chkSig_zero.1 hy).2.2
  simp only [hk]
  refine ⟨⟨by omega, by omega⟩, by omega, fun e => ?_, fun _ => ⟨⟨0, Nat.zero_le _, by (repeat' (first | exact trivial | exact rfl | apply And.intro))⟩, fun c hc => ⟨fun hlc => ?_, fun hgc => ?_⟩⟩⟩
  · exfalso
    rw [y4] at e
    simp at e
  · have hlc : (c : Int) < (G.length : Int) := of_decide_eq_true hlc
    refine ⟨⟨by omega, by omega⟩, ⟨0, Nat.zero_le _, by (repeat' (first | exact trivial | exact rfl | apply And.intro))⟩, fun m hm => ⟨fun hlm => ?_, fun hgm => ?_⟩⟩
    · have hlm : (m : Int) < 4 := of_decide_eq_true hlm
      have ew1 : IntKind.wrap .i64 (4 * (c : Int)) = 4 * (c : Int) := fitz (by omega)
      have ew2 : IntKind.wrap .i64 (4 * (c : Int) + (m : Int)) = ((4 * c + m : Nat) : Int) := by rw [fitz (by omega)]; omega
      have en : Int.toNat ((4 * c + m : Nat) : Int) = 4 * c + m := Int.toNat_natCast _
      simp only [ew1, ew2, en]
      have ky := hy _ (getD_mem' (d := (0 : Nat)) (show 4 * c + m < p.1.length by omega))
      have ku := hu _ (getD_mem' (d := (0 : Nat)) (show c < p.2.1.length by omega))
      have kv := hv _ (getD_mem' (d := (0 : Nat)) (show c < p.2.2.length by omega))
      obtain ⟨a, a1, a2, a3⟩ := six_step ky
      obtain ⟨b, b1, b2, b3⟩ := six_step ku
      obtain ⟨d, d1, d2, d3⟩ := six_step kv
      have a2' : Ieee.Datum.toInt .zero (FloatKind.decode .f32 a) = some (six (List.getD p.1 (4 * c + m) 0)) := a2
      have b2' : Ieee.Datum.toInt .zero (FloatKind.decode .f32 b) = some (six (List.getD p.2.1 c 0)) := b2
      have d2' : Ieee.Datum.toInt .zero (FloatKind.decode .f32 d) = some (six (List.getD p.2.2 c 0)) := d2
      simp only [fmt32, a1, b1, d1, Option.getD_some, Option.isSome_some, a2', b2', d2']
      have hG3 := hG _ (getD_mem' (d := List.replicate 3 (0 : Int)) (show c < G.length by omega))
      have eq := hsay c (by omega) m (by omega)
      rw [eq]
      have eb := cv_back hG3.1
      have e00 : List.getD G c [0, 0, 0] = List.getD G c (List.replicate 3 (0 : Int)) := rfl
      rw [e00, eb, eq3 hG3.1]
      have kb := bd_le hG3.2 (show (3000 : Int) ≤ 16384 by decide)
      have mn : IntKind.min .i64 = -9223372036854775808 := rfl
      have mx : IntKind.max .i64 = 9223372036854775807 := rfl
      rw [mn, mx]
      refine ⟨⟨by omega, by omega⟩, by trivial, ⟨by trivial, by omega, by omega⟩, ⟨by omega, by omega⟩, by trivial, ⟨by trivial, by omega, by omega⟩, ⟨by omega, by omega⟩, by trivial, ⟨by trivial, by omega, by omega⟩, back_ok, by trivial, there_bd hG3.2, kb, fun e => absurd e (by decide), fun _ => ⟨m + 1, by show m + 1 ≤ 4; omega, by omega, by rw [fitz (by omega)]; omega, by (repeat' (first | exact trivial | exact rfl | apply And.intro))⟩⟩
    · refine ⟨c + 1, by show c + 1 ≤ G.length; omega, by omega, by rw [fitz (by omega)]; omega, by (repeat' (first | exact trivial | exact rfl | apply And.intro))⟩
  · refine ⟨(i + 1, L), ⟨by show i + 1 ≤ 3; omega, hL3, hL⟩, by show 3 - (i + 1) < 3 - i; omega, by rw [fitz (by omega)]; show (i : Int) + 1 = ((i + 1 : Nat) : Int); omega, by (repeat' (first | exact trivial | exact rfl | apply And.intro))⟩
end Go.Sx

namespace Go.Sx
open Go.RowKit
def WF : (t : Ty) → t.T → Prop
  | .int k, n => (Lit.int k n).wf = true
  | .bool, _ => True
  | .str, l => List.length l ≤ maxLen
  | .flt k, n => (Lit.float k n).wf = true
  | .cpx _, _ => True
  | .fnp, _ => True
  | .opq _, _ => True
  | .sl t, xs => List.length xs ≤ maxLen ∧ ∀ i (h : i < List.length xs), WF t (xs[i]'h)
  | .arr n t, xs => List.length xs = n ∧ ∀ i (h : i < List.length xs), WF t (xs[i]'h)
  | .pair a b, x => WF a x.1 ∧ WF b x.2
mutual
def rdChk (P : Program) : Nat → TypeId → Ty → Bool
  | 0, _, _ => false
  | n + 1, t, u => match P.underlying t with
      | some (.int k) => decide (u = .int k)
      | some .bool => decide (u = .bool)
      | some .string => decide (u = .str)
      | some (.float k) => decide (u = .flt k)
      | some (.slice e) => match u with
        | .sl v => decide (P.cellsOf e = v.sz) && decide (v.sz ≠ 0) && rdChk P n e v
        | _ => false
      | some (.array m e) => match u with
        | .arr m' v => decide (m = m') && decide (P.cellsOf e = v.sz) && decide (P.cellsOf t = m * v.sz) && rdChk P n e v
        | _ => false
      | some (.struct fs) => decide (P.cellsOf t = u.sz) && rdFs P n 0 fs.toList u
      | _ => false
def rdFs (P : Program) : Nat → Nat → List Field → Ty → Bool
  | 0, _, _, _ => false
  | n + 1, off, [f], u => decide (f.offset = off) && decide (P.cellsOf f.type = u.sz) && rdChk P n f.type u
  | n + 1, off, f :: r, .pair a b => decide (f.offset = off) && decide (P.cellsOf f.type = a.sz) && rdChk P n f.type a && rdFs P n (off + a.sz) r b
  | _, _, _, _ => false
end
def HW (w : World) : IH := fun b => w.heap[b]?
theorem addp (b off i : Nat) : (Addr.mk b off none).add i = ⟨b, off + i, none⟩ := by
  unfold Addr.add; split <;> simp_all
theorem cells_seg {w : World} {base : Nat} {a : Addr} {n : Nat} {cs : List Value} (h : w.cells? base a n = some cs) (hn : 0 < n) :
    ∃ b off c e fr, a = ⟨b, off, none⟩ ∧ w.heap[b]? = some (.cells c e fr) ∧ seg c off n = cs := by
  obtain ⟨_, hl, hc⟩ := World.cells?_some h
  obtain ⟨b, off, sp⟩ := a
  have h0 := hc 0 hn
  rw [List.getElem?_eq_getElem (by omega)] at h0
  have hs : sp = none := by
    have := World.cell?_spot h0
    simp only [Addr.add] at this
    cases sp with
    | none => rfl
    | some x => simp at this
  subst hs
  have hb : ∃ c e fr, w.heap[b]? = some (.cells c e fr) := by
    simp only [World.cell?, Addr.add] at h0
    split at h0
    · exact ⟨_, _, _, ‹_›⟩
    · cases h0
  obtain ⟨c, e, fr, hb⟩ := hb
  refine ⟨b, off, c, e, fr, rfl, hb, ?_⟩
  have hi : ∀ i, i < n → c[off + i]? = cs[i]? := by
    intro i hi
    have := hc i hi
    rw [addp] at this
    simpa [World.cell?, hb] using this
  apply List.ext_getElem?
  intro i
  simp only [seg, List.getElem?_take, List.getElem?_drop]
  split
  · rename_i h1
    rw [← hi i h1]; simp
  · rename_i h1
    rw [List.getElem?_eq_none (by omega)]
theorem choose_list {α : Type} (n : Nat) (p : Nat → α → Prop) (h : ∀ i, i < n → ∃ y, p i y) : ∃ ys : List α, ys.length = n ∧ ∀ i (hi : i < ys.length), p i (ys[i]'hi) := by
  induction n with
  | zero => exact ⟨[], rfl, fun i hi => by simp at hi⟩
  | succ n ih =>
    obtain ⟨ys, h1, h2⟩ := ih fun i hi => h i (by omega)
    obtain ⟨y, hy⟩ := h n (by omega)
    refine ⟨ys ++ [y], by simp [h1], fun i hi => ?_⟩
    by_cases hlt : i < ys.length
    · rw [List.getElem_append_left hlt]; exact h2 i hlt
    · simp at hi
      have : i = ys.length := by omega
      subst this
      simp
      rw [h1]; exact hy
theorem trod_rd_all {X : Type} {enc : TypeId × Value → X} {P : Program} {w : World} {base : Nat} {spare : Nat → Bool} {held : Bool} : ∀ (n : Nat),
    (∀ (t : TypeId) (u : Ty) (fuel : Nat) (cs : List Value) (x : DataW X × List MemPlace), rdChk P n t u = true → DataW.trod enc P w base spare held fuel t cs = some x → ∃ y : u.T, Rd (HW w) u y cs ∧ WF u y) ∧
    (∀ (off : Nat) (fs : List Field) (u : Ty) (fuel : Nat) (cs : List Value), rdFs P n off fs u = true → cs.length = off + u.sz →
      (∀ f ∈ fs, ∃ x, DataW.trod enc P w base spare held fuel f.type ((cs.drop f.offset).take (P.cellsOf f.type)) = some x) → ∃ y : u.T, Rd (HW w) u y (cs.drop off) ∧ WF u y) := by
  intro n
  induction n with
  | zero => exact ⟨fun _ _ _ _ _ h => by simp [rdChk] at h, fun _ _ _ _ _ h => by simp [rdFs] at h⟩
  | succ n ih =>
    refine ⟨?_, ?_⟩
    · intro t u fuel cs x h hx
      unfold rdChk at h
      split at h
      · rename_i k hu
        simp at h; subst h
        obtain ⟨m, rfl, _, hw⟩ := DataW.trod_int hu hx
        exact ⟨m, rfl, hw⟩
      · rename_i hu
        simp at h; subst h
        obtain ⟨m, rfl, _⟩ := DataW.trod_bool hu hx
        exact ⟨m, rfl, trivial⟩
      · rename_i hu
        simp at h; subst h
        obtain ⟨s, rfl, _, hw⟩ := DataW.trod_string hu hx
        refine ⟨s.data.toList, rfl, ?_⟩
        show s.data.toList.length ≤ maxLen
        rw [Array.length_toList]; exact hw
      · rename_i k hu
        simp at h; subst h
        cases fuel with
        | zero => simp [DataW.trod] at hx
        | succ m =>
          unfold DataW.trod at hx
          rw [hu] at hx
          have : ∃ b, cs = [.float k b] ∧ (Lit.float k b).wf = true := by split at hx <;> simp_all
          obtain ⟨b, rfl, hw⟩ := this
          exact ⟨b, rfl, hw⟩
      · rename_i e hu
        split at h
        · rename_i v
          simp only [Bool.and_eq_true, decide_eq_true_eq] at h
          obtain ⟨⟨h1, h2⟩, h3⟩ := h
          rcases DataW.trod_slice hu hx with ⟨rfl, _⟩ | ⟨a, len, cap, elems, rest, m, _, rfl, _, _, hlc, hm, hel, hei, _, _⟩
          · exact ⟨[], ⟨none, 0, rfl, Nat.le_refl _, .inl rfl⟩, by simp [WF]⟩
          · have hone : ∀ i, i < len → ∃ cs', w.cells? base (a.add (i * P.cellsOf e)) (P.cellsOf e) = some cs' ∧ ∃ y : v.T, Rd (HW w) v y cs' ∧ WF v y := by
              intro i hi
              have := hei i hi
              rw [List.getElem?_eq_getElem (by omega)] at this
              obtain ⟨cs', hc1, hc2⟩ := Option.bind_eq_some_iff.1 this
              exact ⟨cs', hc1, ih.1 _ _ _ _ _ h3 hc2⟩
            obtain ⟨ys, hy1, hy2⟩ := choose_list len (fun i (y : v.T) => ∃ cs', w.cells? base (a.add (i * P.cellsOf e)) (P.cellsOf e) = some cs' ∧ Rd (HW w) v y cs' ∧ WF v y)
              (fun i hi => by obtain ⟨cs', h1, y, h2⟩ := hone i hi; exact ⟨y, cs', h1, h2⟩)
            refine ⟨ys, ⟨some a, cap, by rw [hy1], by rw [hy1]; exact hlc, ?_⟩, by rw [hy1]; omega, fun i hi => ?_⟩
            · rcases Nat.eq_zero_or_pos ys.length with h0 | h0
              · exact .inl h0
              · right
                obtain ⟨cs0, hc0, _⟩ := hy2 0 h0
                obtain ⟨b, off, c, e', fr, ha, hb, _⟩ := cells_seg hc0 (by omega)
                have ha' : a = ⟨b, off, none⟩ := by rw [← ha]; simp [Addr.add]
                refine ⟨b, off, c, e', fr, by rw [ha'], hb, fun i hi => ?_⟩
                obtain ⟨cs', hc', hr, _⟩ := hy2 i hi
                obtain ⟨b', off', c', e'', fr', hab, hb', hsg⟩ := cells_seg hc' (by omega)
                rw [ha', addp] at hab
                simp only [Addr.mk.injEq] at hab
                obtain ⟨rfl, rfl, _⟩ := hab
                rw [hb] at hb'
                cases hb'
                rw [h1] at hsg
                rw [hsg]; exact hr
            · obtain ⟨_, _, _, hwf⟩ := hy2 i hi
              exact hwf
        · cases h
      · rename_i m e hu
        split at h
        · rename_i m' v
          simp only [Bool.and_eq_true, decide_eq_true_eq] at h
          obtain ⟨⟨⟨rfl, h1⟩, h2⟩, h3⟩ := h
          obtain ⟨xs, k, _, _, hl, hxl, hxi⟩ := DataW.trod_array hu hx
          obtain ⟨ys, hy1, hy2⟩ := choose_list m (fun i (y : v.T) => Rd (HW w) v y ((cs.drop (i * P.cellsOf e)).take (P.cellsOf e)) ∧ WF v y)
            (fun i hi => by
              have := hxi i hi
              rw [List.getElem?_eq_getElem (by omega)] at this
              exact ih.1 _ _ _ _ _ h3 this)
          refine ⟨ys, ⟨hy1, by rw [hl, h2], fun i hi => ?_⟩, hy1, fun i hi => (hy2 i hi).2⟩
          have := (hy2 i hi).1
          rw [h1] at this
          exact this
        · cases h
      · rename_i fs hu
        simp only [Bool.and_eq_true, decide_eq_true_eq] at h
        obtain ⟨xs, k, _, _, hl, hxl, hxi⟩ := DataW.trod_struct hu hx
        have := ih.2 0 fs.toList u k cs h.2 (by rw [hl, h.1]; omega) (fun f hf => by
          obtain ⟨i, hi, rfl⟩ := List.mem_iff_getElem.1 hf
          simp at hi
          have := hxi i fs[i] (by simp [hi])
          rw [List.getElem?_eq_getElem (by omega)] at this
          exact ⟨_, by simpa using this⟩)
        simpa using this
      · cases h
    · intro off fs u fuel cs h hl hf
      match fs, u, h, hl, hf with
      | [], u, h, _, _ => simp [rdFs] at h
      | [f], u, h, hl, hf =>
        simp only [rdFs, Bool.and_eq_true, decide_eq_true_eq] at h
        obtain ⟨⟨rfl, h1⟩, h2⟩ := h
        obtain ⟨x, hx⟩ := hf f (by simp)
        rw [h1, List.take_of_length_le (by simp; omega)] at hx
        exact ih.1 _ _ _ _ _ h2 hx
      | f :: g :: r, .pair a b, h, hl, hf =>
        simp only [rdFs, Bool.and_eq_true, decide_eq_true_eq] at h
        obtain ⟨⟨⟨rfl, h1⟩, h2⟩, h3⟩ := h
        simp only [Ty.sz] at hl
        obtain ⟨x, hx⟩ := hf f (by simp)
        rw [h1] at hx
        obtain ⟨y1, hy1, hw1⟩ := ih.1 _ _ _ _ _ h2 hx
        obtain ⟨y2, hy2, hw2⟩ := ih.2 _ _ _ fuel cs h3 (by omega) (fun g' hg => hf g' (List.mem_cons_of_mem _ hg))
        refine ⟨(y1, y2), ⟨hy1, ?_⟩, hw1, hw2⟩
        rw [List.drop_drop]; exact hy2
      | _ :: _ :: _, .int _, h, _, _ => simp [rdFs] at h
      | _ :: _ :: _, .bool, h, _, _ => simp [rdFs] at h
      | _ :: _ :: _, .str, h, _, _ => simp [rdFs] at h
      | _ :: _ :: _, .flt _, h, _, _ => simp [rdFs] at h
      | _ :: _ :: _, .cpx _, h, _, _ => simp [rdFs] at h
      | _ :: _ :: _, .sl _, h, _, _ => simp [rdFs] at h
      | _ :: _ :: _, .arr _ _, h, _, _ => simp [rdFs] at h
theorem trod_rd {X : Type} {enc : TypeId × Value → X} {P : Program} {w : World} {base : Nat} {spare : Nat → Bool} {held : Bool} (n : Nat)
    {t : TypeId} {u : Ty} (h : rdChk P n t u = true) {fuel : Nat} {cs : List Value} {x : DataW X × List MemPlace} (hx : DataW.trod enc P w base spare held fuel t cs = some x) : ∃ y : u.T, Rd (HW w) u y cs ∧ WF u y :=
  (trod_rd_all n).1 t u fuel cs x h hx
end Go.Sx

namespace Go.Sx
open Go.RowKit Go.ChangeShapes Go.WideShapes Go.ChangeAt
section
variable {X : Type} {enc : TypeId × Value → X} {P : Program} {w : World} {base base' : Nat} {spare : Nat → Bool} {held : Bool} {n : Nat} {t : TypeId} {u : Ty} {v : Value} {d : DataW X} {ps : List MemPlace}
theorem cells_one (hv : ∀ cs, v ≠ .agg cs) : v.cells.toList = [v] := by
  cases v <;> simp_all [Value.cells]
theorem okWide_one (ha : aggOf P t = false) (hok : Value.okWide P w .any base' t v) : ∀ cs, v ≠ .agg cs := by
  intro cs hv
  subst hv
  unfold aggOf at ha
  unfold Value.okWide at hok
  split at hok
  · rename_i h; rw [h] at ha; cases ha
  · rename_i h; rw [h] at ha; cases ha
  · unfold Cell.okWide at hok
    split at hok <;> try (rename_i h; cases h; done)
    all_goals first | (rename_i h _; cases h; done) | skip
    all_goals first | (unfold Cell.ok at hok; split at hok <;> first | (exact hok) | (rename_i h; cases h; done) | (rename_i h _; cases h; done) | simp_all; done) | simp_all
theorem arg_one (h : rdChk P n t u = true) (ha : aggOf P t = false) (hok : Value.okWide P w .any base' t v) (hT : DataW.Trod enc P w base spare held t v d ps) : ∃ y : u.T, Rd (HW w) u y [v] ∧ WF u y := by
  obtain ⟨fuel, hT⟩ := hT
  rw [cells_one (okWide_one ha hok)] at hT
  exact trod_rd n h hT
end
theorem trodAll_below {X : Type} {enc : TypeId × Value → X} {P : Program} (hl : laidOutB P = true) {W W' : World} (hb : Below W.heap.size W W') : ∀ {ts : List TypeId} {vs : List Value} {ds : List (DataW X)} {ps : List MemPlace},
    (ts.all fun t => P.readableRec t && decide (t < P.types.size)) = true → DataW.TrodAll enc P W 0 (fun _ => true) true ts vs ds ps → (∀ x ∈ ps, x.block < W.heap.size) → DataW.TrodAll enc P W' 0 (fun b => decide (b < W.heap.size)) true ts vs ds ps
  | [], vs, ds, ps, _, h, _ => by
    cases vs <;> cases ds <;> simp_all [DataW.TrodAll]
  | t :: ts, vs, ds, ps, ht, h, hlt => by
    obtain ⟨v, vs', d, ds', p, q, rfl, rfl, rfl, h1, h2⟩ := trodAll_cons h
    simp only [List.all_cons, Bool.and_eq_true, decide_eq_true_eq] at ht
    refine trodAll_cons_mk (Below.trod hl ht.1.1 ht.1.2 h1 hb fun x hx => hlt x (by simp [hx])) (trodAll_below hl hb ht.2 h2 fun x hx => hlt x (by simp [hx]))
theorem law_post {X : Type} {enc : TypeId × Value → X} {P : Program} (hl : laidOutB P = true) {s : ChangeSpec} {f : Func} {tb : TypeId} {W W' : World} {args : Array Value} {ds gs : List (DataW X)} {before : List MemPlace} {r : Value}
    (hvars : s.vars = []) (hts : (f.params.toList.all fun t => P.readableRec t && decide (t < P.types.size)) = true) (hres : f.resultTypes = #[tb]) (htb : P.underlying tb = some .bool)
    (hfn : s.fn X ds = { results := [.lit (.bool true)], args := ds })
    (hW : DataW.Whole enc P f.params.toList s.vars false W args.toList ds gs before) (hb : Below W.heap.size W W') (hr : r = .bool true) :
    s.post enc P f false true false false W args r W' := by
  subst hr
  have hW' := hW
  obtain ⟨p, q, hA, hV, rfl, hfz, hnd⟩ := hW
  rw [hvars] at hV
  obtain ⟨rfl, rfl⟩ := trodVars_none hV
  have hlt : ∀ x ∈ p, x.block < W.heap.size := fun x hx => hW'.lt x (by simp [hx])
  refine ⟨ds, [], p ++ [], [], p, [], hW', ?_, ?_, ?_, hb.frame _, fun h => by cases h⟩
  · rw [List.append_nil, hfn, hres]
    exact trodAll_cons_mk (shut_bool htb _) trodAll_mk0
  · rw [List.append_nil, hfn]
    exact trodAll_below hl hb hts hA hlt
  · rw [List.append_nil, hfn, hvars]
    rfl
theorem law_calls {X : Type} {enc : TypeId × Value → X} {P : Program} (hl : laidOutB P = true) {s : ChangeSpec} {f : Func} {tb : TypeId} {fid : FuncId} {W : World} {args : Array Value} {ds gs : List (DataW X)} {before : List MemPlace}
    (hvars : s.vars = []) (hts : (f.params.toList.all fun t => P.readableRec t && decide (t < P.types.size)) = true) (hres : f.resultTypes = #[tb]) (htb : P.underlying tb = some .bool)
    (hfn : s.fn X ds = { results := [.lit (.bool true)], args := ds })
    (hW : DataW.Whole enc P f.params.toList s.vars false W args.toList ds gs before)
    {gl : Nat → Option ((t : Ty) × t.T)} {avs : List V} (hF : Fn P gl fid avs (.val (.one (.bool true))) true) (hg : GlobOk gl (HW W)) (ha : DenVs ρ0 (HW W) avs args.toList) :
    Calls P fid args W fun e W' => ∃ v, e = .returned v ∧ s.post enc P f false true false false W args v W' := by
  refine (hF W (HW W) args.toList (fun b o h => h) hg ha).mono fun e W' h => ?_
  obtain ⟨v, H', rfl, hb, _, _, hd⟩ := h
  exact ⟨v, rfl, law_post hl hvars hts hres htb hfn hW hb hd.2⟩
end Go.Sx

namespace Go.Sx
open Go.RowKit
theorem laid_at {P : Program} {W : World} {name : String} {d : DataW Unit} {l : List (String × DataW Unit)} (h : laidMet P l W) (hm : (name, d) ∈ l) :
    ∃ g t cs fuel p, P.globalNamed name = some g ∧ (P.globals[g]?).map (·.type) = some t ∧ W.var? P name = some cs ∧ DataW.trod (fun _ => ()) P W 0 (fun _ => true) false fuel t cs.toList = some (d, p) := by
  obtain ⟨ps, h, hrest⟩ := h
  clear hrest
  induction l generalizing ps with
  | nil => cases hm
  | cons x r ih =>
    obtain ⟨n, e⟩ := x
    obtain ⟨g, t, cs, fuel, p, q, h1, h2, h3, h4, h5, h6⟩ := h
    rcases List.mem_cons.1 hm with e | hm
    · cases e; exact ⟨g, t, cs, fuel, p, h1, h2, h3, h4⟩
    · exact ih hm _ h5
theorem var_heap {P : Program} {W : World} {name : String} {g : Nat} {cs : Array Value} (hg : P.globalNamed name = some g) (h : W.var? P name = some cs) : ∃ e fr, W.heap[g]? = some (.cells cs e fr) := by
  simp only [World.var?, hg, Option.bind_some] at h
  split at h
  · rename_i cs' e fr hh
    cases h
    exact ⟨e, fr, hh⟩
  · cases h
theorem wf_u8 {n : Int} (h : (Lit.int .u8 n).wf = true) : fits .u8 n := by
  simp [Lit.wf, IntKind.min, IntKind.max, IntKind.signed, IntKind.bits] at h
  simp only [fits]
  omega
theorem wf_mem {t : Ty} {xs : List t.T} (h : WF (.sl t) xs) : ∀ x ∈ xs, WF t x := by
  intro x hx
  obtain ⟨i, hi, rfl⟩ := List.mem_iff_getElem.1 hx
  exact h.2 i hi
end Go.Sx

namespace Go.Sx
open Go.RowKit
theorem rows_at {P : Program} {W : World} {name : String} {k : IntKind} {zs : List (List Int)} {l : List (String × DataW Unit)} {g : Nat} {t e f : TypeId} {n m : Nat}
    (hm : (name, .agg (zs.map fun z => Lib.tabData k z)) ∈ l) (hg : P.globalNamed name = some g) (hty : (P.globals[g]?).map (·.type) = some t) (ht : P.underlying t = some (.array n e))
    (hn : zs.length = n) (hzm : ∀ z ∈ zs, z.length = m) (hce : P.cellsOf e = m) (hct : P.cellsOf t = n * m) (he : P.underlying e = some (.array m f)) (hf : P.underlying f = some (.int k)) (hcf : P.cellsOf f = 1) (h : laidMet P l W) :
    ∃ c e fr, HW W g = some (.cells c e fr) ∧ Rd (HW W) (.arr n (.arr m (.int k))) zs (seg c 0 (n * m)) ∧ c.size = n * m := by
  obtain ⟨g', t', cs, fuel, p, h1, h2, h3, h4⟩ := laid_at h hm
  obtain rfl := Option.some.inj (hg.symm.trans h1)
  obtain rfl := Option.some.inj (hty.symm.trans h2)
  obtain ⟨ee, fr, hh⟩ := var_heap hg h3
  obtain ⟨xs, q0, _, hx, hl, hxl, hi⟩ := DataW.trod_array ht h4
  have hx1 : (zs.map fun z => (Lib.tabData k z : DataW Unit)) = xs.map (·.1) := by
    have := congrArg Prod.fst hx
    simpa using this
  have hs : cs.size = n * m := by rw [← Array.length_toList, hl, hct]
  have hseg : seg cs 0 (n * m) = cs.toList := by
    unfold seg
    rw [List.drop_zero, List.take_of_length_le (by rw [Array.length_toList]; omega)]
  refine ⟨cs, ee, fr, hh, ?_, hs⟩
  rw [hseg]
  refine ⟨hn, by rw [Array.length_toList, hs]; simp [Ty.sz], fun i hiz => ?_⟩
  have hin : i < n := by rw [← hn]; exact hiz
  have hix : i < xs.length := by rw [hxl]; exact hin
  have q := hi i hin
  rw [List.getElem?_eq_getElem hix, hce] at q
  have e1 : xs[i].1 = Lib.tabData k zs[i] := by
    have := congrArg (fun l => l[i]?) hx1
    simp only [List.getElem?_map, List.getElem?_eq_getElem hix, List.getElem?_eq_getElem hiz, Option.map_some, Option.some.injEq] at this
    exact this.symm
  have q' : DataW.trod (fun _ => ()) P W 0 (fun _ => true) false q0 e ((cs.toList.drop (i * m)).take m) = some (Lib.tabData k zs[i], xs[i].2) := by
    rw [q, ← e1]
  have hcell := Lib.cells_of_tab he hf hcf hce q'
  have hzl : zs[i].length = m := hzm _ (List.getElem_mem hiz)
  show Rd (HW W) (.arr m (.int k)) zs[i] ((cs.toList.drop (i * (m * 1))).take (m * 1))
  rw [Nat.mul_one, hcell]
  refine ⟨hzl, by simp [Ty.sz, hzl], fun j hj => ?_⟩
  show List.take 1 (List.drop (j * 1) (List.map (fun z => Value.int k z) zs[i])) = [Value.int k (zs[i][j])]
  rw [Nat.mul_one, List.take_one, List.head?_drop, List.getElem?_map, List.getElem?_eq_getElem hj]
  rfl
theorem j4a : laidOutB Proofs.Tryz.prog = true := by kernel_rfl
theorem j4b : mapsRowed Proofs.Tryz.prog = true := by kernel_rfl
theorem j4c : Proofs.Tryz.prog.stopsHeard = true := by kernel_rfl
theorem j4d : Proofs.Tryz.prog.mayEnter = true := by kernel_rfl
end Go.Sx
