/- A verified symbolic run of functions, part 15: lemmas, no claim of their own. -/
import Derived.Test.YtlgimjcnnndbhaaS14
import Derived.OpenShut
import Derived.ProofKit
import Derived.Carry
import Derived.OpenVars
import Derived.Lib.LaidTab
import Derived.ChangeSame
import Derived.WalkKit
import Derived.Deep.DeepHandedRow
namespace Go.Sx
open U
def h4 : Hints := ⟨fun f k s => match f, k with
  | 4, 1000027 => match lookT s.tm 1, lookT s.tm 2, lookT s.tm 3, listAs s 9 (.int .u8), listAs s 12 (.sl (.int .u8)), listAs s 17 pT with
    | some a, some b, some (.val (.one (.ptr pb 0))), some c, some f, some p => match lookO s.ob pb with
      | some q => some ⟨List Int × List (List Int) × List Pk, fun x => ⟨[(1, a), (2, b), (3, .val (.one (.ptr pb 0))), (9, .val (.one (.own s.nx))), (12, .val (.one (.own (s.nx + 1)))), (17, .val (.one (.own (s.nx + 2))))],
          [(pb, some q), (s.nx, some (.row (.int .u8) x.1)), (s.nx + 1, some (.row (.sl (.int .u8)) x.2.1)), (s.nx + 2, some (.row pT x.2.2))], s.nx + 3, s.lr⟩, fun x => x.1 = c ∧ x.2.1 = f ∧ x.2.2 = p, fun _ => 0⟩
      | none => none
    | _, _, _, _, _, _ => none
  | 4, 1000040 => match lookT s.tm 2, listAs s 9 (.int .u8), listAs s 12 (.sl (.int .u8)) with
    | some b, some c, some f => some ⟨List Int × List (List Int), fun x => ⟨[(2, b), (9, .val (.one (.own s.nx))), (12, .val (.one (.own (s.nx + 1))))],
          [(s.nx, some (.row (.int .u8) x.1)), (s.nx + 1, some (.row (.sl (.int .u8)) x.2))], s.nx + 2, s.lr⟩, fun x => x.1 = c ∧ x.2 = f, fun _ => 0⟩
    | _, _, _ => none
  | 4, 1000051 => match intOfT s 25, listAs s 9 (.int .u8), listAs s 30 pT with
    | some k, some c, some p => some ⟨List Int × List Pk × Int, fun x => ⟨[(25, .val (iV x.2.2)), (27, .val (.one .nils)), (9, .val (.one (.own s.nx))), (30, .val (.one (.own (s.nx + 1))))],
          [(s.nx, some (.row (.int .u8) x.1)), (s.nx + 1, some (.row pT x.2.1))], s.nx + 2, s.lr⟩, fun x => x.1 = c ∧ x.2.1 = p ∧ x.2.2 = k, fun _ => 0⟩
    | _, _, _ => none
  | 4, 4 => match listOf s 54 with
    | some ⟨.int .u8, xs⟩ => some ⟨Nat, fun i => s.at [1, 2, 3, 54, 55] [tI 56 i], fun i => i ≤ List.length xs ∧ ∀ j, j < i → List.getD xs j 0 ≠ 171, fun i => List.length xs - i⟩
    | _ => none
  | 4, 15 => match listAs s 9 (.int .u8) with
    | some c => some ⟨Nat, fun i => ⟨[tI 13 (10 * (i : Int)), (11, .val (.one (.own s.nx))), (12, .val (.one (.own (s.nx + 1))))] ++ keepT [1, 2, 3, 9] s.tm,
        (s.nx, some (.row (.int .u8) (tab i (frI c)).flatten)) :: (s.nx + 1, some (.row (.sl (.int .u8)) (tab i (frI c)))) :: lessO s [11, 12], s.nx + 2, s.lr⟩, fun i => 10 * i ≤ List.length c + 9, fun i => List.length c + 9 - 10 * i⟩
    | _ => none
  | 4, 29 => match listAs s 151 pT with
    | some xs => some ⟨Nat, fun i => ⟨[tI 153 i, (20, .val (.one (.own s.nx)))] ++ keepT [2, 3, 9, 12, 17, 151, 152] s.tm, (s.nx, some (.row (.int .u8) (datTo xs i))) :: lessO s [20], s.nx + 1, s.lr⟩, fun i => i ≤ List.length xs, fun i => List.length xs - i⟩
    | _ => none
  | 4, 43 => match listAs s 206 (.sl (.int .u8)), intOfT s 25 with
    | some xs, some k => some ⟨Nat, fun i => ⟨[tI 208 i, (26, .val (.one (.own s.nx)))] ++ keepT [9, 12, 25, 27, 206, 207] s.tm, (s.nx, some (.row (.int .u8) (outTo k xs i))) :: lessO s [26], s.nx + 1, s.lr⟩, fun i => i ≤ List.length xs, fun i => List.length xs - i⟩
    | _, _ => none
  | 4, 53 => match listAs s 248 pT with
    | some xs => some ⟨Nat, fun i => ⟨[tI 250 i, (27, .val (.one (.own s.nx)))] ++ keepT [9, 25, 30, 33, 34, 248, 249] s.tm, (s.nx, some (.row (.int .u8) (datTo xs i))) :: lessO s [27], s.nx + 1, s.lr⟩, fun i => i ≤ List.length xs, fun i => List.length xs - i⟩
    | _ => none
  | _, _ => none, 5⟩
end Go.Sx

namespace Go.Sx
open U
theorem vc4 (nm : List UInt8) (w h : Int) (s : List Nat) (ns : List Int) (n : Int) : exF (env false [(5, sp5), (6, sp6), (8, sp8h), (17, sp17), (18, sp18), (19, sp19), (20, sp20), (21, sp21), (15, sp15), (22, sp22), (23, sp23)] []) h4 0 4 Proofs.Try.f4 [picV nm w h s, .one (.sl (.int .u8) ns), .one (.int .u8 n)] (.val (bV true)) = (let q5 := (packL nm w h s); let q8 := ((0 : Int), (0 : Int), List.replicate (10 : Nat) (0 : Int)); let q10 := (↑(List.length ns) : Int); let q16 := ((0 : Int) ≤ (0 : Int) ∧ (0 : Int) ≤ (10 : Int) ∧ (10 : Int) ≤ (10 : Int)); let q22 := (false = true ∧ True); let q23 := (↑(List.length q5) : Int); let q24 := (1000000000 : Nat); let q25 := ((0 : Int) ≤ (0 : Int) ∧ (0 : Int) ≤ (16 : Int) ∧ (16 : Int) ≤ (16 : Int)); let q28 := (List.length q5 + (9 : Nat)); splitB (bif bif !smallPic nm w h s then true else decide ((40 : Int) < (↑(List.length s) : Int)) then true else decide ((40 : Int) < q10)) (true = true ∧ True) ((∃ (g : Nat), (g ≤ List.length ns ∧ ∀ (j : Nat), j < g → List.getD ns j (0 : Int) ≠ (171 : Int)) ∧ (0 : Int) = (↑g : Int) ∧ q10 = q10 ∧ ns = ns ∧ ns = ns ∧ n = n ∧ nm = nm ∧ w = w ∧ h = h ∧ s = s ∧ True) ∧ ∀ (g : Nat), (g ≤ List.length ns ∧ ∀ (j : Nat), j < g → List.getD ns j (0 : Int) ≠ (171 : Int)) → splitB (decide ((↑g : Int) < q10)) (((0 : Int) ≤ (↑g : Int) ∧ (↑g : Int) < q10) ∧ splitB (List.getD ns g (0 : Int) == (171 : Int)) (true = true ∧ True) (fits IntKind.i64 ((↑g : Int) + (1 : Int)) ∧ ∃ (g' : Nat), (g' ≤ List.length ns ∧ ∀ (j : Nat), j < g' → List.getD ns j (0 : Int) ≠ (171 : Int)) ∧ List.length ns - g' < List.length ns - g ∧ (↑g : Int) + (1 : Int) = (↑g' : Int) ∧ q10 = q10 ∧ ns = ns ∧ ns = ns ∧ n = n ∧ nm = nm ∧ w = w ∧ h = h ∧ s = s ∧ True)) (List.length s ≤ (1000000 : Nat) ∧ List.length s ≤ (1000000 : Nat) ∧ chkPic nm w h s = (0 : Int) ∧ Wd s ∧ splitB (bif (0 : Int) != (0 : Int) then true else decide ((250 : Int) < q23)) q22 ((∃ (g : Nat), Nat.le ((10 : Nat) * g) q28 ∧ (0 : Int) = (10 : Int) * (↑g : Int) ∧ ns = ns ∧ n = n ∧ List.flatten (tab g (frI q5)) = [] ∧ tab g (frI q5) = [] ∧ packL nm w h s = packL nm w h s ∧ nm = nm ∧ w = w ∧ h = h ∧ s = s ∧ True) ∧ ∀ (g : Nat), let q31 := ((10 : Int) * (↑g : Int)); let q19 := (List.take (List.length q5 - Int.toNat q31) (List.drop (Int.toNat q31) q5)); let q0 := (copyL (0 : Nat) (10 : Nat) (List.replicate (10 : Nat) (0 : Int)) q19); let q20 := (tab g (frI q5)); let q2 := (received (ns ++ List.flatten q20)); let q6 := (pkEnc (3 : Int) ((10 : Int) * (↑g : Int) / (10 : Int)) q0); let q26 := (List.take (16 : Nat) q6.1); Nat.le ((10 : Nat) * g) q28 → splitB (decide ((10 : Int) * (↑g : Int) < q23)) (((0 : Int) ≤ (10 : Int) * (↑g : Int) ∧ (0 : Int) < (10 : Int) ∧ fits IntKind.i64 ((10 : Int) * (↑g : Int) / (10 : Int))) ∧ q16 ∧ ((0 : Int) ≤ (10 : Int) * (↑g : Int) ∧ (10 : Int) * (↑g : Int) ≤ q23 ∧ q23 ≤ q23) ∧ List.length q19 = List.length q5 - Int.toNat q31 ∧ (10 : Nat) ≤ (10 : Nat) ∧ (List.length q0 = (10 : Nat) ∧ Bytes q0) ∧ splitB (q6.2 != (0 : Int)) q22 (q25 ∧ List.length q26 = (16 : Nat) ∧ room ((0 : Nat) + List.length q26) (1 : Nat) ∧ room (List.length q20 + (1 : Nat)) (24 : Nat) ∧ q25 ∧ List.length q26 = (16 : Nat) ∧ room (List.length (List.flatten q20) + List.length q26) (1 : Nat) ∧ fits IntKind.i64 ((10 : Int) * (↑g : Int) + (10 : Int)) ∧ ∃ (g' : Nat), Nat.le ((10 : Nat) * g') q28 ∧ List.length q5 + (9 : Nat) - (10 : Nat) * g' < List.length q5 + (9 : Nat) - (10 : Nat) * g ∧ (10 : Int) * (↑g : Int) + (10 : Int) = (10 : Int) * (↑g' : Int) ∧ ns = ns ∧ n = n ∧ List.flatten q20 ++ List.take (16 : Nat) q6.1 = List.flatten (tab g' (frI q5)) ∧ tab g (frI q5) ++ [List.take (16 : Nat) q6.1] = tab g' (frI q5) ∧ packL nm w h s = packL nm w h s ∧ nm = nm ∧ w = w ∧ h = h ∧ s = s ∧ True)) (room ((0 : Nat) + List.length ns) (1 : Nat) ∧ room (List.length ns + List.length (List.flatten q20)) (1 : Nat) ∧ Bytes (ns ++ List.flatten q20) ∧ List.length (ns ++ List.flatten q20) ≤ q24 ∧ ((bif bif q2.2.2 != (0 : Int) then true else (↑(List.length q2.1) : Int) != (↑(List.length q20) : Int) then true else bif q10 == (0 : Int) then (↑(List.length q2.2.1) : Int) != (0 : Int) else false) = false → decide ((0 : Int) < q10) = true → List.length q2.2.1 ≤ q24) ∧ splitB (bif bif bif q2.2.2 != (0 : Int) then true else (↑(List.length q2.1) : Int) != (↑(List.length q20) : Int) then true else bif q10 == (0 : Int) then (↑(List.length q2.2.1) : Int) != (0 : Int) else false then true else bif decide ((0 : Int) < q10) then !decide (q2.2.1 = [((0 : Int), q10)]) else false) q22 ((∃ (g_1 : List Int × List (List Int) × List Pk), (g_1.1 = packL nm w h s ∧ g_1.2.1 = tab g (frI q5) ∧ g_1.2.2 = q2.1) ∧ ns = ns ∧ n = n ∧ nm = nm ∧ w = w ∧ h = h ∧ s = s ∧ packL nm w h s = g_1.1 ∧ tab g (frI q5) = g_1.2.1 ∧ q2.1 = g_1.2.2 ∧ True) ∧ ∀ (g_1 : List Int × List (List Int) × List Pk), let q14 := (↑(List.length g_1.1) : Int); let q17 := (List.length g_1.2.2); g_1.1 = packL nm w h s ∧ g_1.2.1 = tab g (frI q5) ∧ g_1.2.2 = q2.1 → (∃ (g : Nat), Nat.le g q17 ∧ (0 : Int) = (↑g : Int) ∧ (↑q17 : Int) = (↑q17 : Int) ∧ n = n ∧ datTo g_1.2.2 g = [] ∧ nm = nm ∧ w = w ∧ h = h ∧ s = s ∧ g_1.1 = g_1.1 ∧ g_1.2.1 = g_1.2.1 ∧ g_1.2.2 = g_1.2.2 ∧ True) ∧ ∀ (g : Nat), let q3 := (List.take (List.length g_1.1) (datTo g_1.2.2 g)); let q13 := (↑(List.length (datTo g_1.2.2 g)) : Int); let q29 := (List.take (10 : Nat) (List.getD g_1.2.2 g q8).2.2); Nat.le g q17 → splitB (decide ((↑g : Int) < (↑q17 : Int))) (((0 : Int) ≤ (↑g : Int) ∧ (↑g : Int) < (↑q17 : Int)) ∧ g < List.length g_1.2.2 ∧ q16 ∧ List.length q29 = (10 : Nat) ∧ room (List.length (datTo g_1.2.2 g) + List.length q29) (1 : Nat) ∧ fits IntKind.i64 ((↑g : Int) + (1 : Int)) ∧ ∃ (g' : Nat), Nat.le g' q17 ∧ List.length g_1.2.2 - g' < List.length g_1.2.2 - g ∧ (↑g : Int) + (1 : Int) = (↑g' : Int) ∧ (↑q17 : Int) = (↑q17 : Int) ∧ n = n ∧ datTo g_1.2.2 g ++ List.take (10 : Nat) (List.getD g_1.2.2 g q8).2.2 = datTo g_1.2.2 g' ∧ nm = nm ∧ w = w ∧ h = h ∧ s = s ∧ g_1.1 = g_1.1 ∧ g_1.2.1 = g_1.2.1 ∧ g_1.2.2 = g_1.2.2 ∧ True) ((decide (q13 < q14) = false → (0 : Int) ≤ (0 : Int) ∧ (0 : Int) ≤ q14 ∧ q14 ≤ q13) ∧ (decide (q13 < q14) = false → List.length q3 = List.length g_1.1) ∧ splitB (bif decide (q13 < q14) then true else bytesOf q3 != bytesOf g_1.1) q22 (((0 : Int) ≤ (0 : Int) ∧ (0 : Int) ≤ q14 ∧ q14 ≤ q13) ∧ List.length q3 = List.length g_1.1 ∧ room ((0 : Nat) + List.length q3) (1 : Nat) ∧ Bytes q3 ∧ List.length q3 ≤ q24 ∧ (((upk q3).2 != (0 : Int)) = false → List.length (upk q3).1.2.2.2 ≤ q24) ∧ splitB (bif (upk q3).2 != (0 : Int) then true else !samePic (upk q3).1.1 (upk q3).1.2.1 (upk q3).1.2.2.1 (upk q3).1.2.2.2 nm w h s) q22 (splitB (decide ((↑(List.length g_1.2.1) : Int) < (3 : Int))) (true = true ∧ True) ((∃ (g : List Int × List (List Int)), (g.1 = g_1.1 ∧ g.2 = g_1.2.1) ∧ n = n ∧ g_1.1 = g.1 ∧ g_1.2.1 = g.2 ∧ True) ∧ ∀ (g : List Int × List (List Int)), let q27 := (List.length g.2); let q9 := (↑q27 : Int); let q1 := (q9 - (2 : Int)); let q21 := ((1 : Int) + n % q1); g.1 = g_1.1 ∧ g.2 = g_1.2.1 → fits IntKind.i64 n ∧ fits IntKind.i64 q1 ∧ ((0 : Int) ≤ n ∧ (0 : Int) < q9 - (2 : Int)) ∧ fits IntKind.i64 q21 ∧ (∃ (g_2 : Nat), Nat.le g_2 q27 ∧ (0 : Int) = (↑g_2 : Int) ∧ q9 = q9 ∧ (1 : Int) + n % q1 = (1 : Int) + n % q1 ∧ outTo q21 g.2 g_2 = [] ∧ g.1 = g.1 ∧ g.2 = g.2 ∧ True) ∧ ∀ (g_2 : Nat), let q7 := (outTo q21 g.2 g_2); Nat.le g_2 q27 → splitB (decide ((↑g_2 : Int) < q9)) (((0 : Int) ≤ (↑g_2 : Int) ∧ (↑g_2 : Int) < q9) ∧ g_2 < List.length g.2 ∧ splitB ((↑g_2 : Int) != (1 : Int) + n % q1) (room (List.length q7 + List.length (List.getD g.2 g_2 [])) (1 : Nat) ∧ fits IntKind.i64 ((↑g_2 : Int) + (1 : Int)) ∧ ∃ (g' : Nat), Nat.le g' q27 ∧ List.length g.2 - g' < List.length g.2 - g_2 ∧ (↑g_2 : Int) + (1 : Int) = (↑g' : Int) ∧ q9 = q9 ∧ (1 : Int) + n % q1 = (1 : Int) + n % q1 ∧ outTo q21 g.2 g_2 ++ List.getD g.2 g_2 [] = outTo q21 g.2 g' ∧ g.1 = g.1 ∧ g.2 = g.2 ∧ True) (fits IntKind.i64 ((↑g_2 : Int) + (1 : Int)) ∧ ∃ (g' : Nat), Nat.le g' q27 ∧ List.length g.2 - g' < List.length g.2 - g_2 ∧ (↑g_2 : Int) + (1 : Int) = (↑g' : Int) ∧ q9 = q9 ∧ (1 : Int) + n % q1 = (1 : Int) + n % q1 ∧ outTo q21 g.2 g_2 = outTo q21 g.2 g' ∧ g.1 = g.1 ∧ g.2 = g.2 ∧ True)) (Bytes q7 ∧ List.length q7 ≤ q24 ∧ ((bif (received q7).2.2 != (0 : Int) then true else (↑(List.length (received q7).2.1) : Int) != (0 : Int)) = false → fits IntKind.i64 (q9 - (1 : Int))) ∧ splitB (bif bif (received q7).2.2 != (0 : Int) then true else (↑(List.length (received q7).2.1) : Int) != (0 : Int) then true else (↑(List.length (received q7).1) : Int) != q9 - (1 : Int)) q22 ((∃ (g_3 : List Int × List Pk × Int), (g_3.1 = g.1 ∧ g_3.2.1 = (received q7).1 ∧ g_3.2.2 = (1 : Int) + n % q1) ∧ (1 : Int) + n % q1 = g_3.2.2 ∧ g.1 = g_3.1 ∧ (received q7).1 = g_3.2.1 ∧ True) ∧ ∀ (g_3 : List Int × List Pk × Int), let q11 := (List.length g_3.2.1 - (1 : Nat)); let q12 := ((↑(List.length g_3.1) : Int) - (10 : Int)); let q18 := (List.length g_3.2.1); g_3.1 = g.1 ∧ g_3.2.1 = (received q7).1 ∧ g_3.2.2 = (1 : Int) + n % q1 → room ((0 : Nat) + List.length g_3.2.1) (32 : Nat) ∧ List.length g_3.2.1 ≤ (1024 : Nat) ∧ (∀ (p : Pk), p ∈ g_3.2.1 → p.1 = (3 : Int) ∧ pcheck p.1 p.2.1 = (0 : Int)) ∧ within (3 : Int) (0 : Int) (255 : Int) = (0 : Int) ∧ List.length (lostTo g_3.2.1 q11) ≤ (256 : Nat) ∧ (∃ (g : Nat), Nat.le g q18 ∧ (0 : Int) = (↑g : Int) ∧ (↑q18 : Int) = (↑q18 : Int) ∧ (0 : Int) = (0 : Int) ∧ g_3.2.2 = g_3.2.2 ∧ datTo g_3.2.1 g = [] ∧ lostTo g_3.2.1 q11 = lostTo g_3.2.1 q11 ∧ g_3.2.1 = g_3.2.1 ∧ g_3.1 = g_3.1 ∧ g_3.2.1 = g_3.2.1 ∧ True) ∧ ∀ (g : Nat), let q15 := (↑(List.length (datTo g_3.2.1 g)) : Int); let q4 := (List.take (Int.toNat (min q15 q12)) (datTo g_3.2.1 g)); let q30 := (List.take (10 : Nat) (List.getD g_3.2.1 g q8).2.2); Nat.le g q18 → splitB (decide ((↑g : Int) < (↑q18 : Int))) (((0 : Int) ≤ (↑g : Int) ∧ (↑g : Int) < (↑q18 : Int)) ∧ g < List.length g_3.2.1 ∧ q16 ∧ List.length q30 = (10 : Nat) ∧ room (List.length (datTo g_3.2.1 g) + List.length q30) (1 : Nat) ∧ fits IntKind.i64 ((↑g : Int) + (1 : Int)) ∧ ∃ (g' : Nat), Nat.le g' q18 ∧ List.length g_3.2.1 - g' < List.length g_3.2.1 - g ∧ (↑g : Int) + (1 : Int) = (↑g' : Int) ∧ (↑q18 : Int) = (↑q18 : Int) ∧ (0 : Int) = (0 : Int) ∧ g_3.2.2 = g_3.2.2 ∧ datTo g_3.2.1 g ++ List.take (10 : Nat) (List.getD g_3.2.1 g q8).2.2 = datTo g_3.2.1 g' ∧ lostTo g_3.2.1 q11 = lostTo g_3.2.1 q11 ∧ g_3.2.1 = g_3.2.1 ∧ g_3.1 = g_3.1 ∧ g_3.2.1 = g_3.2.1 ∧ True) (fits IntKind.i64 q12 ∧ ((0 : Int) ≤ (0 : Int) ∧ (0 : Int) ≤ min q15 q12 ∧ min q15 q12 ≤ q15) ∧ List.length q4 = Int.toNat (min q15 q12) ∧ Bytes q4 ∧ List.length q4 ≤ q24 ∧ (((0 : Int) == (0 : Int)) = true → List.length (lostTo g_3.2.1 q11) ≤ q24) ∧ (bif bif bif (0 : Int) == (0 : Int) then decide (lostTo g_3.2.1 q11 = [g_3.2.2]) else false then (upk q4).2 != (0 : Int) else false then true else false) = true ∧ True))))))))))))) := by
  kernel_rfl
end Go.Sx

namespace Go.Sx.U
def OkP (p : Pk) : Prop := (0 ≤ p.1 ∧ p.1 ≤ 255) ∧ (0 ≤ p.2.1 ∧ p.2.1 ≤ 255) ∧ p.2.2.length = 10
theorem enc_len {p : Pk} (h : OkP p) : (encP p).length = 16 := frame_len _ _ h.2.2
theorem enc_dec {p : Pk} (h : OkP p) : pkDec (encP p) = (p, 0) := by
  obtain ⟨k, c, d⟩ := p
  obtain ⟨⟨k0, k1⟩, ⟨c0, c1⟩, hd⟩ := h
  simp only at k0 k1 c0 c1 hd
  have ek : k % 256 = k := by omega
  have ec : c % 256 = c := by omega
  have e0 : frame0 k c d = 171 :: k :: c :: d := by unfold frame0; rw [ek, ec]; rfl
  have e : encP (k, c, d) = frame0 k c d ++ ([par ((frame0 k c d).drop 1)] ++ word (sum 251 65521 (frame1 k c d))) := by
    show (frame0 k c d ++ [par ((frame0 k c d).drop 1)]) ++ word (sum 251 65521 (frame1 k c d)) = _
    rw [List.append_assoc]
  generalize [par ((frame0 k c d).drop 1)] ++ word (sum 251 65521 (frame1 k c d)) = t at e
  rw [e0] at e
  have g0 : (encP (k, c, d)).getD 0 0 = 171 := by rw [e]; rfl
  have g1 : (encP (k, c, d)).getD 1 0 = k := by rw [e]; rfl
  have g2 : (encP (k, c, d)).getD 2 0 = c := by rw [e]; rfl
  have g3 : dat (encP (k, c, d)) = d := by
    rw [e]
    show List.take 10 (d ++ _) = d
    rw [List.take_append_of_le_length (by omega), List.take_of_length_le (by omega)]
  unfold pkDec
  rw [if_pos g0, g1, g2, g3, if_pos (show frame k c d = encP (k, c, d) from rfl)]
def skN (m : Nat) : List (Int × Int) := if m = 0 then [] else [(0, (m : Int))]
theorem skip_skN (m : Nat) : skip (skN m) m = skN (m + 1) := by
  unfold skip skN
  by_cases h : m = 0
  · subst h; rfl
  · simp only [if_neg h, if_neg (show ¬ m + 1 = 0 by omega)]
    rw [if_pos ⟨by simp, by simp⟩]
    simp
theorem flat_encs : ∀ {L : List Pk}, (∀ p ∈ L, OkP p) → (List.map encP L).flatten.length = 16 * L.length
  | [], _ => rfl
  | p :: L, h => by
    rw [List.map_cons, List.flatten_cons, List.length_append, enc_len (h p List.mem_cons_self), flat_encs (L := L) fun x hx => h x (List.mem_cons_of_mem _ hx), List.length_cons]
    omega
theorem drop_encs : ∀ {L : List Pk} (j : Nat), (∀ p ∈ L, OkP p) → (List.map encP L).flatten.drop (16 * j) = (List.map encP (L.drop j)).flatten
  | L, 0, _ => by simp
  | [], j + 1, _ => by simp
  | p :: L, j + 1, h => by
    rw [List.map_cons, List.flatten_cons, show 16 * (j + 1) = 16 + 16 * j by omega, ← List.drop_drop]
    rw [show List.drop 16 (encP p ++ (List.map encP L).flatten) = (List.map encP L).flatten by
      rw [List.drop_append_of_le_length (by rw [enc_len (h p List.mem_cons_self)]; omega), List.drop_of_length_le (by rw [enc_len (h p List.mem_cons_self)]; omega), List.nil_append]]
    rw [drop_encs j fun x hx => h x (List.mem_cons_of_mem _ hx)]
    rfl
section
variable {ns : List Int} {L : List Pk} (hn : ∀ j, j < ns.length → ns.getD j 0 ≠ 171) (hL : ∀ p ∈ L, OkP p)
include hn
theorem rst_noise : ∀ m, m ≤ ns.length → rst (ns ++ (List.map encP L).flatten) m = ([], skN m, (m : Int))
  | 0, _ => rfl
  | m + 1, h => by
    rw [rst_succ, rst_noise m (by omega)]
    unfold rstep
    rw [if_neg (by simp)]
    have hb : (blk (ns ++ (List.map encP L).flatten) m).getD 0 0 = ns.getD m 0 := by
      unfold blk
      simp only [List.getD_eq_getElem?_getD, List.getElem?_take, List.getElem?_drop]
      rw [if_pos (by omega), Nat.add_zero, List.getElem?_append_left (by omega)]
    have hp : ¬ (pkDec (blk (ns ++ (List.map encP L).flatten) m)).2 = 0 := by
      unfold pkDec
      rw [if_neg (by rw [hb]; exact hn m (by omega))]
      simp
    rw [if_neg (fun h => hp h.2)]
    simp only [skip_skN]
    simp
include hL
theorem rst_frames : ∀ j r, j < L.length → r ≤ 15 → rst (ns ++ (List.map encP L).flatten) (ns.length + 16 * j + r + 1) = (L.take (j + 1), skN ns.length, (ns.length : Int) + 16 * (j : Int) + 16) := by
  have step : ∀ j, j < L.length → rst (ns ++ (List.map encP L).flatten) (ns.length + 16 * j) = (L.take j, skN ns.length, (ns.length : Int) + 16 * (j : Int)) →
      ∀ r, r ≤ 15 → rst (ns ++ (List.map encP L).flatten) (ns.length + 16 * j + r + 1) = (L.take (j + 1), skN ns.length, (ns.length : Int) + 16 * (j : Int) + 16) := by
    intro j hj h0 r
    induction r with
    | zero =>
      intro _
      rw [Nat.add_zero, rst_succ, h0]
      unfold rstep
      simp only []
      rw [if_neg (by omega)]
      have hb : blk (ns ++ (List.map encP L).flatten) (ns.length + 16 * j) = encP L[j] := by
        unfold blk
        rw [← List.drop_drop, List.drop_append_of_le_length (Nat.le_refl _), List.drop_length, List.nil_append, drop_encs j hL, List.drop_eq_getElem_cons hj, List.map_cons, List.flatten_cons]
        have := enc_len (hL _ (List.getElem_mem hj))
        rw [List.take_append_of_le_length (by omega), List.take_of_length_le (by omega)]
      rw [hb, enc_dec (hL _ (List.getElem_mem hj)), if_pos ⟨enc_len (hL _ (List.getElem_mem hj)), rfl⟩, List.take_succ_eq_append_getElem hj]
      simp only [Int.natCast_add, Int.natCast_mul]
      rfl
    | succ r ih =>
      intro hr
      rw [show ns.length + 16 * j + (r + 1) + 1 = (ns.length + 16 * j + r + 1) + 1 by omega, rst_succ, ih (by omega)]
      unfold rstep
      simp only []
      rw [if_pos (by omega)]
  intro j
  induction j with
  | zero =>
    intro r hj hr
    refine step 0 hj ?_ r hr
    have := rst_noise (L := L) hn ns.length (Nat.le_refl _)
    simpa using this
  | succ j ih =>
    intro r hj hr
    refine step (j + 1) hj ?_ r hr
    have := ih 15 (by omega) (Nat.le_refl _)
    rw [show ns.length + 16 * (j + 1) = ns.length + 16 * j + 15 + 1 by omega, this]
    congr 2
theorem received_frames (hl : ns.length + 16 * L.length ≤ 16384) : received (ns ++ (List.map encP L).flatten) = (L, skN ns.length, 0) := by
  have hlen : (ns ++ (List.map encP L).flatten).length = ns.length + 16 * L.length := by rw [List.length_append, flat_encs hL]
  unfold received
  rw [if_neg (by omega), hlen]
  by_cases h : L.length = 0
  · have : L = [] := List.length_eq_zero_iff.1 h
    subst this
    have := rst_noise (L := []) hn ns.length (Nat.le_refl _)
    rw [show ns.length + 16 * ([] : List Pk).length = ns.length from rfl, this]
  · have := rst_frames hn hL (L.length - 1) 15 (by omega) (Nat.le_refl _)
    rw [show ns.length + 16 * L.length = ns.length + 16 * (L.length - 1) + 15 + 1 by omega, this]
    rw [show L.length - 1 + 1 = L.length by omega, List.take_length]
end
end Go.Sx.U

namespace Go.Sx.U
theorem pkD_copy {c : List Int} {g : Nat} (h : 10 * g ≤ c.length) : copyL 0 10 (List.replicate 10 0) (List.take (c.length - 10 * g) (List.drop (10 * g) c)) = pkD c g := by
  unfold copyL pkD
  have e : List.take (c.length - 10 * g) (List.drop (10 * g) c) = List.drop (10 * g) c := List.take_of_length_le (by simp)
  rw [e, List.take_zero, List.nil_append, List.drop_replicate, List.length_drop]
  congr 2
  omega
theorem pkD_len (c : List Int) (g : Nat) : (pkD c g).length = 10 := by
  unfold pkD
  simp
  omega
theorem pkD_bytes {c : List Int} (h : Bytes c) (g : Nat) : Bytes (pkD c g) := by
  refine byApp (byTake (byDrop h _) _) fun x hx => ?_
  have := (List.mem_replicate.1 hx).2
  omega
theorem pkI_ok (c : List Int) {g : Nat} (h : g ≤ 255) : OkP (pkI c g) := ⟨⟨by show (0 : Int) ≤ 3; decide, by show (3 : Int) ≤ 255; decide⟩, ⟨by show (0 : Int) ≤ (g : Int); omega, by show (g : Int) ≤ 255; omega⟩, pkD_len c g⟩
theorem pkEnc_ok (g : Nat) (h : g ≤ 255) (d : List Int) : pkEnc 3 (g : Int) d = (frame 3 (g : Int) d, 0) := by
  have : pcheck 3 (g : Int) = 0 := by
    unfold pcheck
    exact first_zero.2 fun n hn => by
      simp only [List.mem_cons, List.not_mem_nil, or_false] at hn
      rcases hn with rfl | rfl
      · decide
      · exact within_zero.2 (by omega)
  unfold pkEnc
  rw [if_pos this]
theorem pcheck_ok {p : Pk} (h : OkP p) : pcheck p.1 p.2.1 = 0 := by
  unfold pcheck
  exact first_zero.2 fun n hn => by
    simp only [List.mem_cons, List.not_mem_nil, or_false] at hn
    rcases hn with rfl | rfl
    · exact within_zero.2 (by have := h.1; omega)
    · exact within_zero.2 (by have := h.2.1; omega)
theorem frI_len (c : List Int) (g : Nat) : (frI c g).length = 16 := frame_len _ _ (pkD_len c g)
theorem frI_bytes {c : List Int} (h : Bytes c) (g : Nat) : Bytes (frI c g) := frame_bytes _ _ (pkD_bytes h g)
theorem flat_succ {α : Type} (f : Nat → List α) (g : Nat) : (tab (g + 1) f).flatten = (tab g f).flatten ++ f g := by
  rw [tab_succ, List.flatten_append]
  simp
theorem flat_frI (c : List Int) (m : Nat) : (tab m (frI c)).flatten.length = 16 * m := by
  induction m with
  | zero => rfl
  | succ m ih => rw [flat_succ, List.length_append, ih, frI_len]; omega
theorem flat_bytes {c : List Int} (h : Bytes c) (m : Nat) : Bytes (tab m (frI c)).flatten := fun x hx => by
  obtain ⟨l, hl, hx⟩ := List.mem_flatten.1 hx
  obtain ⟨i, _, rfl⟩ := mem_tab hl
  exact frI_bytes h i x hx
theorem frames_eq (c : List Int) (m : Nat) : tab m (frI c) = List.map encP (tab m (pkI c)) := by
  rw [tab_map]; rfl
theorem pks_ok (c : List Int) {m : Nat} (h : m ≤ 200) : ∀ p ∈ tab m (pkI c), OkP p := fun p hp => by
  obtain ⟨i, hi, rfl⟩ := mem_tab hp
  exact pkI_ok c (by omega)
theorem recv_all {ns c : List Int} {m : Nat} (hn : ∀ j, j < ns.length → ns.getD j 0 ≠ 171) (hl : ns.length ≤ 100) (hm : m ≤ 200) : received (ns ++ (tab m (frI c)).flatten) = (tab m (pkI c), skN ns.length, 0) := by
  rw [frames_eq]
  exact received_frames hn (pks_ok c hm) (by rw [tab_len]; omega)
theorem datTo_succ {xs : List Pk} {g : Nat} {d : Pk} (h : g < xs.length) : datTo xs (g + 1) = datTo xs g ++ (xs.getD g d).2.2 := by
  unfold datTo
  rw [List.take_succ_eq_append_getElem h, List.map_append, List.flatten_append, getD_of h]
  simp
theorem datTo_len {xs : List Pk} (h : ∀ p ∈ xs, OkP p) : ∀ g, g ≤ xs.length → (datTo xs g).length = 10 * g
  | 0, _ => by simp [datTo]
  | g + 1, hg => by
    rw [datTo_succ (d := (0, 0, [])) (by omega), List.length_append, datTo_len h g (by omega), getD_of (by omega), (h _ (List.getElem_mem (by omega))).2.2]
    omega
theorem dat_all (c : List Int) : ∀ m, 10 * m ≤ c.length + 9 → datTo (tab m (pkI c)) m = List.take (10 * m) c ++ List.replicate (10 * m - c.length) 0
  | 0, _ => by simp [datTo]
  | m + 1, h => by
    have hm : 10 * m ≤ c.length := by omega
    have e1 : datTo (tab (m + 1) (pkI c)) m = datTo (tab m (pkI c)) m := by
      unfold datTo
      rw [tab_succ, List.take_append_of_le_length (by rw [tab_len]; omega)]
    rw [datTo_succ (d := (0, 0, [])) (by rw [tab_len]; omega), tab_get (by omega), e1, dat_all c m (by omega)]
    show _ ++ pkD c m = _
    unfold pkD
    rw [show 10 * m - c.length = 0 by omega, show 10 * (m + 1) = 10 * m + 10 by omega, List.take_add]
    simp only [List.replicate_zero, List.append_nil, List.append_assoc]
    congr 3
    omega
theorem dat_code {c : List Int} {m : Nat} (h1 : 10 * m ≤ c.length + 9) (h2 : c.length ≤ 10 * m) : List.take c.length (datTo (tab m (pkI c)) m) = c := by
  rw [dat_all c m h1, List.take_of_length_le (show c.length ≤ 10 * m from h2), List.take_append_of_le_length (Nat.le_refl _), List.take_length]
def outQ (k : Nat) (f : Nat → Pk) : Nat → List Pk
  | 0 => []
  | i + 1 => if i = k then outQ k f i else outQ k f i ++ [f i]
theorem outTo_eq (c : List Int) (k m : Nat) : ∀ i, i ≤ m → outTo (k : Int) (tab m (frI c)) i = (List.map encP (outQ k (pkI c) i)).flatten
  | 0, _ => rfl
  | i + 1, h => by
    unfold outTo outQ
    by_cases e : i = k
    · rw [if_pos (by omega), if_pos e, outTo_eq c k m i (by omega)]
    · rw [if_neg (by omega), if_neg e, outTo_eq c k m i (by omega), tab_get (by omega), List.map_append, List.flatten_append]
      simp [frI]
theorem outQ_len (k : Nat) (f : Nat → Pk) : ∀ i, (outQ k f i).length = if i ≤ k then i else i - 1
  | 0 => by simp [outQ]
  | i + 1 => by
    unfold outQ
    by_cases e : i = k
    · rw [if_pos e, outQ_len k f i, if_pos (by omega), if_neg (by omega)]; omega
    · rw [if_neg e, List.length_append, outQ_len k f i]
      by_cases e2 : i ≤ k
      · rw [if_pos e2, if_pos (by omega)]; rfl
      · rw [if_neg e2, if_neg (by omega), List.length_singleton]; omega
theorem outQ_mem {k : Nat} {f : Nat → Pk} {p : Pk} : ∀ {i}, p ∈ outQ k f i → ∃ j, j < i ∧ f j = p
  | 0, h => by simp [outQ] at h
  | i + 1, h => by
    unfold outQ at h
    split at h
    · obtain ⟨j, hj, e⟩ := outQ_mem h
      exact ⟨j, by omega, e⟩
    · rcases List.mem_append.1 h with h | h
      · obtain ⟨j, hj, e⟩ := outQ_mem h
        exact ⟨j, by omega, e⟩
      · exact ⟨i, by omega, (List.mem_singleton.1 h).symm⟩
theorem outQ_at (k : Nat) (f : Nat → Pk) (d : Pk) : ∀ i j, j < (outQ k f i).length → (outQ k f i).getD j d = if j < k then f j else f (j + 1)
  | 0, j, h => by simp [outQ] at h
  | i + 1, j, h => by
    have hl := outQ_len k f i
    unfold outQ at h ⊢
    split
    · rename_i e
      rw [if_pos e] at h
      exact outQ_at k f d i j h
    · rename_i e
      rw [if_neg e, List.length_append, List.length_singleton] at h
      by_cases hj : j < (outQ k f i).length
      · rw [← outQ_at k f d i j hj, List.getD_eq_getElem?_getD, List.getD_eq_getElem?_getD, List.getElem?_append_left hj]
      · have ej : j = (outQ k f i).length := by omega
        rw [List.getD_eq_getElem?_getD, List.getElem?_append_right (by omega), ej, Nat.sub_self]
        simp only [List.getElem?_cons_zero, Option.getD_some, hl]
        by_cases e2 : i ≤ k
        · rw [if_pos e2, if_pos (by omega)]
        · rw [if_neg e2, if_neg (by omega), show i - 1 + 1 = i by omega]
theorem outQ_ok (c : List Int) (k : Nat) {m : Nat} (h : m ≤ 200) : ∀ p ∈ outQ k (pkI c) m, OkP p := fun p hp => by
  obtain ⟨i, hi, rfl⟩ := outQ_mem hp
  exact pkI_ok c (by omega)
theorem recv_out {c : List Int} {k m : Nat} (hm : m ≤ 200) : received (outTo (k : Int) (tab m (frI c)) m) = (outQ k (pkI c) m, [], 0) := by
  rw [outTo_eq c k m m (Nat.le_refl _)]
  have h := received_frames (ns := []) (L := outQ k (pkI c) m) (fun j hj => absurd hj (Nat.not_lt_zero _)) (outQ_ok c k hm) (by
    have := outQ_len k (pkI c) m
    split at this <;> simp only [List.length_nil] <;> omega)
  rw [List.nil_append] at h
  exact h
theorem gap_one (a : Int) : gap a (a + 1) = [] := by
  unfold gap
  rw [show a + 1 - a - 1 = 0 by omega]
  rfl
theorem gap_two {a : Int} (h0 : 0 ≤ a) (h1 : a ≤ 200) : gap a (a + 2) = [a + 1] := by
  unfold gap
  rw [show a + 2 - a - 1 = 1 by omega]
  show [(a + 1 + (0 : Int)) % 256] = _
  rw [show (a + 1 + (0 : Int)) % 256 = a + 1 by omega]
theorem out_cnt (c : List Int) {k m j : Nat} (h : j < (outQ k (pkI c) m).length) : cnt (outQ k (pkI c) m) j = if j < k then (j : Int) else (j : Int) + 1 := by
  unfold cnt
  rw [outQ_at k (pkI c) d0 m j h]
  split <;> simp [pkI]
theorem lost_out (c : List Int) {k m : Nat} (hk : 1 ≤ k) (hm : m ≤ 200) : ∀ j, j < (outQ k (pkI c) m).length → lostTo (outQ k (pkI c) m) j = if j < k then [] else [(k : Int)]
  | 0, _ => by rw [if_pos (by omega)]; rfl
  | j + 1, h => by
    have hl := outQ_len k (pkI c) m
    have hl' : (outQ k (pkI c) m).length ≤ m := by split at hl <;> omega
    simp only [lostTo]
    rw [lost_out c hk hm j (by omega), out_cnt c (by omega : j < _), out_cnt c h]
    by_cases e1 : j + 1 < k
    · rw [if_pos (by omega), if_pos (by omega), if_pos e1, if_pos e1, Int.natCast_add, show ((1 : Nat) : Int) = 1 from rfl, gap_one]
      rfl
    · by_cases e2 : j < k
      · rw [if_pos e2, if_pos e2, if_neg e1, if_neg e1, Int.natCast_add, show (j : Int) + ((1 : Nat) : Int) + 1 = (j : Int) + 2 by omega, gap_two (by omega) (by omega), show (j : Int) + 1 = (k : Int) by omega]
        rfl
      · rw [if_neg e2, if_neg e2, if_neg e1, if_neg e1, Int.natCast_add, show (j : Int) + ((1 : Nat) : Int) + 1 = (j : Int) + 1 + 1 by omega, gap_one]
        rfl
theorem dat_out {c : List Int} {k m : Nat} (hk : 1 ≤ k) (hm : 2 ≤ m) (hc : 10 ≤ c.length) : ∀ i, 1 ≤ i → i ≤ (outQ k (pkI c) m).length → List.take 10 (datTo (outQ k (pkI c) m) i) = List.take 10 c
  | 0, h, _ => by omega
  | 1, _, h => by
    rw [datTo_succ (d := d0) (by omega), outQ_at k (pkI c) d0 m 0 (by omega), if_pos (by omega)]
    show List.take 10 (datTo _ 0 ++ pkD c 0) = _
    have e0 : datTo (outQ k (pkI c) m) 0 = [] := by simp [datTo]
    rw [e0, List.nil_append, List.take_of_length_le (by rw [pkD_len]; omega)]
    unfold pkD
    rw [show 10 - (c.length - 10 * 0) = 0 by omega]
    simp
  | i + 2, _, h => by
    have hi := dat_out hk hm hc (i + 1) (by omega) (by omega)
    have h10 : 10 ≤ (datTo (outQ k (pkI c) m) (i + 1)).length := by
      have := congrArg List.length hi
      simp at this
      omega
    rw [datTo_succ (d := d0) (by omega), List.take_append_of_le_length h10, hi]
theorem datTo_bytes {xs : List Pk} (h : ∀ p ∈ xs, Bytes p.2.2) (g : Nat) : Bytes (datTo xs g) := fun x hx => by
  obtain ⟨l, hl, hx⟩ := List.mem_flatten.1 hx
  obtain ⟨p, hp, rfl⟩ := List.mem_map.1 hl
  exact h p (List.mem_of_mem_take hp) x hx
theorem outTo_bytes {c : List Int} (h : Bytes c) (k : Int) (m : Nat) : ∀ i, i ≤ m → Bytes (outTo k (tab m (frI c)) i)
  | 0, _ => fun x hx => by cases hx
  | i + 1, hi => by
    unfold outTo
    split
    · exact outTo_bytes h k m i (by omega)
    · refine byApp (outTo_bytes h k m i (by omega)) ?_
      rw [tab_get (by omega)]
      exact frI_bytes h i
theorem outTo_len (c : List Int) (k : Int) (m : Nat) : ∀ i, i ≤ m → (outTo k (tab m (frI c)) i).length ≤ 16 * i
  | 0, _ => by simp [outTo]
  | i + 1, hi => by
    have := outTo_len c k m i (by omega)
    unfold outTo
    split
    · omega
    · rw [List.length_append, tab_get (by omega), frI_len]; omega
end Go.Sx.U

namespace Go.Sx.U
theorem number_long {n : Int} (h0 : 0 ≤ n) (h1 : n < 4294967296) : number (long n) = n := by
  show 256 * (256 * (256 * (256 * 0 + n / 65536 / 256 % 256) + n / 65536 % 256) + n / 256 % 256) + n % 256 = n
  omega
theorem bytesOf_strNs (l : List UInt8) : bytesOf (strNs l) = l := by
  unfold bytesOf strNs
  rw [List.map_map]
  refine (List.map_congr_left fun c _ => ?_).trans (List.map_id l)
  show UInt8.ofNat ((c.toNat : Int).toNat) = c
  rw [Int.toNat_natCast]
  exact UInt8.ofNat_toNat
theorem six_2147483648 : six 2147483648 = 0 := by decide +kernel
theorem nz_six (b : Nat) : six (nz b) = six b := by
  unfold nz
  by_cases h : six b = 0
  · rw [if_pos h, h, six_zero]
  · rw [if_neg h]
theorem nz_chk {b : Nat} (h : chkS b = 0) : chkS (nz b) = 0 := by
  unfold nz
  split
  · decide +kernel
  · exact h
theorem nz_lt {b : Nat} (h : b < 4294967296) : nz b < 4294967296 := by
  unfold nz
  split <;> omega
theorem nz_ne (b : Nat) : nz b ≠ 2147483648 := by
  unfold nz
  split
  · decide
  · rename_i h
    rintro rfl
    exact h six_2147483648
theorem nz_pic {nm : List UInt8} {w h : Int} {s : List Nat} (hc : chkPic nm w h s = 0) : chkPic nm w h (s.map nz) = 0 := by
  obtain ⟨c1, c2, c3, c4, c5⟩ := chkPic_zero.1 hc
  refine chkPic_zero.2 ⟨c1, c2, c3, by rw [List.length_map]; exact c4, fun b hb => ?_⟩
  obtain ⟨x, hx, rfl⟩ := List.mem_map.1 hb
  exact nz_chk (c5 x hx)
theorem nz_same {nm : List UInt8} {w h : Int} {s : List Nat} (hc : chkPic nm w h s = 0) : samePic nm w h (s.map nz) nm w h s = true := by
  have h5 := (chkPic_zero.1 hc).2.2.2.2
  have h6 := (chkPic_zero.1 (nz_pic hc)).2.2.2.2
  unfold samePic
  rw [sameS_six h6 h5]
  have : sixs (s.map nz) = sixs s := by
    unfold sixs
    rw [List.map_map]
    exact List.map_congr_left fun b _ => nz_six b
  simp [this]
theorem packS_drop : ∀ (s : List Nat) (j : Nat), (packS s).drop (4 * j) = packS (s.drop j)
  | s, 0 => by simp
  | [], j + 1 => by simp [packS]
  | b :: s, j + 1 => by
    have e : packS (b :: s) = long (nz b : Int) ++ packS s := rfl
    rw [e, show 4 * (j + 1) = 4 + 4 * j by omega, ← List.drop_drop]
    have d : List.drop 4 (long (nz b : Int) ++ packS s) = packS s := rfl
    rw [d, packS_drop s j]
    rfl
theorem packS_word {s : List Nat} (hd : Wd s) {j : Nat} (hj : j < s.length) : wordAt (packS s) j = (nz s[j] : Int) := by
  unfold wordAt
  rw [packS_drop, List.drop_eq_getElem_cons hj]
  have e : packS (s[j] :: s.drop (j + 1)) = long (nz s[j] : Int) ++ packS (s.drop (j + 1)) := rfl
  rw [e, List.take_append_of_le_length (by rw [long_len]; omega), List.take_of_length_le (by rw [long_len]; omega)]
  have := nz_lt (hd _ (List.getElem_mem hj))
  exact number_long (by omega) (by omega)
theorem packS_smps {s : List Nat} (hd : Wd s) : smpsTo (packS s) s.length = s.map nz := by
  refine List.ext_getElem (by simp [smpsTo, tab_len]) fun i h1 h2 => ?_
  have hi : i < s.length := by simpa using h2
  have e : smpsTo (packS s) s.length = tab s.length fun j => (wordAt (packS s) j).toNat := rfl
  simp only [e]
  rw [tab_getElem, packS_word hd hi, List.getElem_map]
  simp
theorem packS_minus {s : List Nat} (hd : Wd s) : minusTo (packS s) s.length = false := by
  unfold minusTo
  rw [List.any_eq_false]
  intro j hj
  rw [packS_word hd (List.mem_range.1 hj)]
  have := nz_ne (s[j]'(List.mem_range.1 hj))
  simp only [decide_eq_true_eq]
  omega
theorem first2 (b : Int) (x : Bool) (hb : b = 0) (hx : x = false) : first [b, whenE x 1] = 0 := by
  subst hb; subst hx; rfl
theorem unpk_pack {nm : List UInt8} {w h : Int} {s : List Nat} (hc : chkPic nm w h s = 0) (hd : Wd s) (hl : s.length ≤ 4096) : unpk (packL nm w h s) = ((nm, w, h, s.map nz), 0) := by
  obtain ⟨c1, c2, c3, c4, c5⟩ := chkPic_zero.1 hc
  have hn := name_len c1
  have ll := packL_len nm w h s
  generalize hX : sum 263 16777183 (packD nm w h s) = X
  have hXb : 0 ≤ X ∧ X < 16777183 := by rw [← hX]; exact sum_bd (by omega) _
  have e : packL nm w h s = [80, 73, 67, 84] ++ ([(nm.length : Int)] ++ (strNs nm ++ ([w] ++ ([h] ++ (packS s ++ long X))))) := by
    unfold packL
    rw [hX]
    unfold packD packH
    rw [show (nm.length : Int) % 256 = (nm.length : Int) by omega, show w % 256 = w by omega, show h % 256 = h by omega]
    simp only [List.append_assoc, List.cons_append, List.nil_append]
  have h4 : List.take 4 (packL nm w h s) = [80, 73, 67, 84] := by rw [e]; rfl
  have d4 : List.drop 4 (packL nm w h s) = [(nm.length : Int)] ++ (strNs nm ++ ([w] ++ ([h] ++ (packS s ++ long X)))) := by rw [e]; rfl
  have d0 : List.take ((packL nm w h s).length - 4) (packL nm w h s) = packD nm w h s := by
    have : (packL nm w h s).length - 4 = (packD nm w h s).length := by rw [ll, packD_len]; omega
    rw [this]
    unfold packL
    rw [List.take_append_of_le_length (Nat.le_refl _), List.take_length]
  have n1 : ∀ x : Int, number [x] = x := fun x => by show 256 * 0 + x = x; omega
  have sl := strNs_len nm
  have pl := packS_len s
  have xl := long_len X
  unfold unpk
  rw [if_neg (by omega), if_neg (by omega), h4, if_pos (by decide)]
  simp only [d4]
  rw [if_neg (by simp), show List.take 1 ([(nm.length : Int)] ++ (strNs nm ++ ([w] ++ ([h] ++ (packS s ++ long X))))) = [(nm.length : Int)] from rfl, show List.drop 1 ([(nm.length : Int)] ++ (strNs nm ++ ([w] ++ ([h] ++ (packS s ++ long X))))) = strNs nm ++ ([w] ++ ([h] ++ (packS s ++ long X))) from rfl, n1]
  rw [if_neg (by rw [List.length_append, sl]; omega), Int.toNat_natCast]
  have t1 : List.take nm.length (strNs nm ++ ([w] ++ ([h] ++ (packS s ++ long X)))) = strNs nm := by
    rw [List.take_append_of_le_length (by omega), List.take_of_length_le (by omega)]
  have t2 : List.drop nm.length (strNs nm ++ ([w] ++ ([h] ++ (packS s ++ long X)))) = [w] ++ ([h] ++ (packS s ++ long X)) := by
    rw [List.drop_append_of_le_length (by omega), List.drop_of_length_le (by omega), List.nil_append]
  rw [t1, t2, bytesOf_strNs, if_neg (by simp)]
  rw [show List.take 1 ([w] ++ ([h] ++ (packS s ++ long X))) = [w] from rfl, show List.drop 1 ([w] ++ ([h] ++ (packS s ++ long X))) = [h] ++ (packS s ++ long X) from rfl, n1, if_neg (by simp)]
  rw [show List.take 1 ([h] ++ (packS s ++ long X)) = [h] from rfl, show List.drop 1 ([h] ++ (packS s ++ long X)) = packS s ++ long X from rfl, n1]
  have e1 : (4 * (w * h) + 4).toNat = (packS s ++ long X).length := by rw [← c4, List.length_append]; omega
  rw [if_neg (by rw [← c4, List.length_append]; omega), e1, List.take_length, List.drop_length]
  unfold unpkE
  have e2 : (4 * (w * h)).toNat = (packS s).length := by rw [← c4]; omega
  have e3 : (w * h).toNat = s.length := by rw [← c4]; omega
  have t3 : List.drop (packS s).length (packS s ++ long X) = long X := by
    rw [List.drop_append_of_le_length (Nat.le_refl _), List.drop_length, List.nil_append]
  have t4 : List.take (packS s).length (packS s ++ long X) = packS s := by
    rw [List.take_append_of_le_length (Nat.le_refl _), List.take_length]
  rw [if_neg (by simp), e2, e3, t3, t4, number_long hXb.1 (by omega), d0, hX, if_pos rfl, packS_smps hd, packS_minus hd]
  simp only []
  rw [if_pos (first2 _ _ (nz_pic hc) rfl)]
theorem unpk_short {nm : List UInt8} {w h : Int} {s : List Nat} {q : List Int} (hn : nm.length ≤ 24) (hl : 10 ≤ nm.length + 4 * s.length) (hb : Bytes q) (hq : q.length + 10 = nm.length + 11 + 4 * s.length) (h10 : List.take 5 q = [80, 73, 67, 84, (nm.length : Int)]) : (unpk q).2 ≠ 0 := by
  have nn : ∀ r : List Int, Bytes r → 0 ≤ number (List.take 1 r) := fun r hr => (number_bd 1 (List.take 1 r) (byTake hr 1) (by simp; omega)).1
  have n1 : ∀ x : Int, number [x] = x := fun x => by show 256 * 0 + x = x; omega
  have e : q = [80, 73, 67, 84] ++ ([(nm.length : Int)] ++ List.drop 5 q) := by
    rw [← List.append_assoc]
    conv => lhs; rw [← List.take_append_drop 5 q, h10]
    rfl
  have h4 : List.take 4 q = [80, 73, 67, 84] := by rw [e]; rfl
  have d4 : List.drop 4 q = [(nm.length : Int)] ++ List.drop 5 q := by
    have : List.drop 4 q = List.drop 4 ([80, 73, 67, 84] ++ ([(nm.length : Int)] ++ List.drop 5 q)) := by rw [← e]
    rw [this]
    rfl
  have hb5 : Bytes (List.drop 5 q) := byDrop hb 5
  have hl5 : (List.drop 5 q).length + 5 = q.length := by simp; omega
  unfold unpk
  split
  · simp
  split
  · simp
  rw [h4, if_pos (by decide)]
  simp only [d4]
  generalize List.drop 5 q = r1 at *
  rw [if_neg (by simp), show List.take 1 ([(nm.length : Int)] ++ r1) = [(nm.length : Int)] from rfl, show List.drop 1 ([(nm.length : Int)] ++ r1) = r1 from rfl, n1, Int.toNat_natCast]
  split
  · simp
  have hl2 : (List.drop nm.length r1).length = r1.length - nm.length := by simp
  have hb2 : Bytes (List.drop nm.length r1) := byDrop hb5 _
  generalize List.drop nm.length r1 = r2 at *
  split
  · simp
  have hw := nn r2 hb2
  generalize number (List.take 1 r2) = w' at *
  have hl3 : (List.drop 1 r2).length = r2.length - 1 := by simp
  have hb3 : Bytes (List.drop 1 r2) := byDrop hb2 _
  generalize List.drop 1 r2 = r3 at *
  split
  · simp
  have hh := nn r3 hb3
  generalize number (List.take 1 r3) = h' at *
  have hl4 : (List.drop 1 r3).length = r3.length - 1 := by simp
  generalize List.drop 1 r3 = r4 at *
  have hm : 0 ≤ w' * h' := Int.mul_nonneg hw hh
  split
  · simp
  unfold unpkE
  rw [if_pos (by rw [List.length_drop]; generalize w' * h' = m at *; omega)]
  simp
end Go.Sx.U

namespace Go.Sx
open U
theorem take5 {C D : List Int} (h : List.take 10 D = List.take 10 C) {n : Nat} (hn : 5 ≤ n) : List.take 5 (List.take n D) = List.take 5 C := by
  have e1 : List.take 5 (List.take n D) = List.take 5 (List.take 10 D) := by rw [List.take_take, List.take_take, Nat.min_eq_left hn, Nat.min_eq_left (by omega)]
  rw [e1, h, List.take_take, Nat.min_eq_left (by omega)]
theorem pack5 (nm : List UInt8) (w h : Int) (s : List Nat) (hn : nm.length ≤ 24) : List.take 5 (packL nm w h s) = [80, 73, 67, 84, (nm.length : Int)] := by
  have e : (nm.length : Int) % 256 = (nm.length : Int) := by omega
  unfold packL packD packH
  rw [e]
  rfl
set_option maxHeartbeats 1000000 in
theorem fn4 (nm : List UInt8) (w h : Int) (s : List Nat) (ns : List Int) (n : Int) (hb : Bytes ns) (hd : Wd s) (hn : 0 ≤ n ∧ n ≤ 255) : Fn P1 gl1 4 [picV nm w h s, .one (.sl (.int .u8) ns), .one (.int .u8 n)] (.val (bV true)) true := by
  refine Fn.flat ?_ rfl
  refine fn_of false [(5, sp5), (6, sp6), (8, sp8h), (17, sp17), (18, sp18), (19, sp19), (20, sp20), (21, sp21), (15, sp15), (22, sp22), (23, sp23)] [] h4 0 Proofs.Try.f4 ⟨so5, so6, so8h, so17, so18, so19, so20, so21, so15, so22, so23, trivial⟩ trivial (by kernel_rfl) rfl (by kernel_rfl) rfl rfl rfl ?_
  rw [vc4]
  try simp only [splitB_iff, -eq_self]
  refine ⟨fun _ => ⟨rfl, trivial⟩, fun e => ?_⟩
  simp only [bcond_l, bcond_r, Bool.or_eq_true, Bool.or_eq_false_iff, Bool.and_eq_true, Bool.and_eq_false_iff, Bool.not_eq_true', Bool.not_eq_false', decide_eq_true_eq, decide_eq_false_iff_not, beq_iff_eq, beq_eq_false_iff_ne, bne_iff_ne, bne_eq_false_iff_eq] at e
  obtain ⟨⟨ea, es⟩, en⟩ := e
  have hc : chkPic nm w h s = 0 := by
    unfold smallPic at ea
    simp only [Bool.and_eq_true, decide_eq_true_eq] at ea
    exact ea.2
  obtain ⟨c1, c2, c3, c4, c5⟩ := chkPic_zero.1 hc
  have hm := name_len c1
  have hC := packL_len nm w h s
  have hB := packL_bytes nm w h s
  have hU : upk (packL nm w h s) = ((nm, w, h, s.map nz), 0) := (hd_eq _).trans (unpk_pack hc hd (by omega))
  have hS := nz_same hc
  have hz : (s.map nz).length = s.length := List.length_map ..
  have h5 := pack5 nm w h s hm.2
  generalize packL nm w h s = C at *
  have hCl : C.length ≤ 195 := by omega
  have hSh : ∀ q, Bytes q → q.length + 10 = C.length → 21 ≤ C.length → List.take 5 q = List.take 5 C → (upk q).2 ≠ 0 := fun q q1 q2 q3 q4 => by
    rw [show upk q = unpk q from hd_eq _]
    exact unpk_short (nm := nm) (w := w) (h := h) (s := s) hm.2 (by omega) q1 (by omega) (by rw [q4, h5])
  refine ⟨⟨0, ⟨Nat.zero_le _, fun j hj => absurd hj (Nat.not_lt_zero _)⟩, by (repeat' (first | exact trivial | exact rfl | apply And.intro))⟩, fun g hg => ⟨fun hlt => ?_, fun hge => ?_⟩⟩
  · have hlt : g < ns.length := by simpa using hlt
    refine ⟨by omega, fun _ => ⟨rfl, trivial⟩, fun e5 => ⟨by simp only [fits]; omega, g + 1, ⟨hlt, fun j hj => ?_⟩, by omega, by omega, by (repeat' (first | exact trivial | exact rfl | apply And.intro))⟩⟩
    by_cases e : j < g
    · exact hg.2 j e
    · have : j = g := by omega
      subst this
      intro e6
      rw [e6] at e5
      cases e5
  have hge : ¬ g < ns.length := by simpa using hge
  have hN : ∀ j, j < ns.length → List.getD ns j 0 ≠ 171 := fun j hj => hg.2 j (by omega)
  clear hg hge ea
  refine ⟨by omega, by omega, hc, hd, fun e => ?_, fun _ => ⟨⟨0, Nat.zero_le _, by (repeat' (first | exact trivial | exact rfl | apply And.intro))⟩, fun m hm' => ⟨fun hlt => ?_, fun hge => ?_⟩⟩⟩
  · have e : decide ((250 : Int) < (C.length : Int)) = true := e
    have := of_decide_eq_true e
    omega
  · have hlt : 10 * m < C.length := by have := of_decide_eq_true hlt; omega
    have e1 : (10 * (m : Int)).toNat = 10 * m := by omega
    have e2 : 10 * (m : Int) / 10 = m := by omega
    have hf : frame 3 (m : Int) (pkD C m) = frI C m := rfl
    have ht : List.take 16 (frI C m) = frI C m := List.take_of_length_le (by rw [frI_len]; omega)
    simp only [e1, e2, pkD_copy (show 10 * m ≤ C.length by omega), pkEnc_ok m (by omega) (pkD C m), hf, ht, frI_len, tab_len, flat_frI, pkD_len, -eq_self]
    refine ⟨⟨by omega, by omega, by simp only [fits]; omega⟩, by omega, by omega, by simp, by omega, ⟨rfl, pkD_bytes hB _⟩, fun h => absurd h (by decide), fun _ => ⟨by omega, rfl, by simp only [room]; omega, by simp only [room]; omega, by omega, rfl, by simp only [room]; omega, by simp only [fits]; omega, m + 1, ?_, by omega, by omega, rfl, rfl, (flat_succ _ _).symm, (tab_succ _ _).symm, by (repeat' (first | exact trivial | exact rfl | apply And.intro))⟩⟩
    show 10 * (m + 1) ≤ C.length + 9
    omega
  have hge : C.length ≤ 10 * m := by have := of_decide_eq_false hge; omega
  have hm' : 10 * m ≤ C.length + 9 := hm'
  have hr := recv_all (c := C) (m := m) hN (by omega) (by omega)
  have hPl : (tab m (pkI C)).length = m := tab_len _ _
  have hPok := pks_ok C (m := m) (by omega)
  have hPd := dat_code hm' hge
  have hPb : ∀ p ∈ tab m (pkI C), Bytes p.2.2 := fun p hp => by
    obtain ⟨i, _, rfl⟩ := mem_tab hp
    exact pkD_bytes hB i
  simp only [hr, tab_len, flat_frI, -eq_self]
  generalize tab m (pkI C) = P at *
  have hsk : (skN ns.length).length ≤ 1 := by unfold skN; split <;> simp
  refine ⟨by simp only [room]; omega, by simp only [room]; omega, byApp hb (flat_bytes hB m), by rw [List.length_append, flat_frI]; omega, fun _ _ => by omega, fun e => ?_, fun _ => ?_⟩
  · exfalso
    by_cases hz : ns.length = 0
    · simp [hz, skN, hPl] at e
    · simp [hz, skN, hPl] at e
  refine ⟨⟨(C, tab m (frI C), P), ⟨rfl, rfl, rfl⟩, by (repeat' (first | exact trivial | exact rfl | apply And.intro))⟩, fun x hx => ?_⟩
  obtain ⟨x1, x2, x3⟩ := x
  obtain ⟨e1, e2, e3⟩ := hx
  simp only at e1 e2 e3
  subst x1
  subst x2
  subst x3
  simp only [hPl, tab_len, -eq_self]
  refine ⟨⟨0, Nat.zero_le _, by (repeat' (first | exact trivial | exact rfl | apply And.intro))⟩, fun j hj => ⟨fun hlt => ?_, fun hge2 => ?_⟩⟩
  · have hlt : j < m := by have := of_decide_eq_true hlt; omega
    have hj' : j < P.length := by omega
    have ok := hPok _ (getD_mem' (d := (0, 0, List.replicate 10 0)) hj')
    have ds := datTo_succ (d := (0, 0, List.replicate 10 0)) hj'
    have dl := datTo_len hPok j (by omega)
    have h10 := ok.2.2
    generalize List.getD P j (0, 0, List.replicate 10 0) = y at *
    have ht : List.take 10 y.2.2 = y.2.2 := List.take_of_length_le (by omega)
    simp only [ht, dl, h10, -eq_self]
    exact ⟨by omega, by omega, by omega, rfl, by simp only [room]; omega, by simp only [fits]; omega, j + 1, hlt, by omega, by omega, rfl, rfl, ds.symm, by (repeat' (first | exact trivial | exact rfl | apply And.intro))⟩
  have hj : j ≤ m := hj
  have hj : j = m := by have := of_decide_eq_false hge2; omega
  subst hj
  have dl := datTo_len hPok j (by omega)
  simp only [hPd, dl, hU, -eq_self]
  have hbb : (bytesOf C != bytesOf C) = false := by simp
  refine ⟨fun _ => by omega, fun _ => rfl, fun e => ?_, fun _ => ⟨by omega, rfl, by simp only [room]; omega, hB, by omega, fun _ => by omega, fun e => ?_, fun _ => ⟨fun _ => ⟨rfl, trivial⟩, fun e3 => ?_⟩⟩⟩
  · exfalso
    rw [decide_eq_false (by omega), hbb] at e
    cases e
  · exfalso
    have e : (bif (0 : Int) != 0 then true else !samePic nm w h (List.map nz s) nm w h s) = true := e
    rw [hS] at e
    cases e
  have e3 : 3 ≤ j := by have := of_decide_eq_false e3; omega
  refine ⟨⟨(C, tab j (frI C)), ⟨rfl, rfl⟩, by (repeat' (first | exact trivial | exact rfl | apply And.intro))⟩, fun y hy => ?_⟩
  obtain ⟨y1, y2⟩ := y
  obtain ⟨e1, e2⟩ := hy
  simp only at e1 e2
  subst y1
  subst y2
  clear hPd hPok hPb hr dl hPl hj hge2
  clear P
  obtain ⟨k, hk, k1, k2⟩ : ∃ k : Nat, 1 + n % ((j : Int) - 2) = (k : Int) ∧ 1 ≤ k ∧ k + 2 ≤ j := by
    have h1 := Int.emod_nonneg n (show (j : Int) - 2 ≠ 0 by omega)
    have h2 := Int.emod_lt_of_pos n (show 0 < (j : Int) - 2 by omega)
    exact ⟨(1 + n % ((j : Int) - 2)).toNat, by omega, by omega, by omega⟩
  simp only [tab_len, hk, -eq_self]
  refine ⟨by simp only [fits]; omega, by simp only [fits]; omega, by omega, by simp only [fits]; omega, ⟨0, Nat.zero_le _, by (repeat' (first | exact trivial | exact rfl | apply And.intro))⟩, fun i hi => ⟨fun hlt => ?_, fun hge3 => ?_⟩⟩
  · have hlt : i < j := by have := of_decide_eq_true hlt; omega
    have ol := outTo_len C (k : Int) j i (by omega)
    have hg : List.getD (tab j (frI C)) i [] = frI C i := tab_get hlt
    refine ⟨by omega, hlt, fun hne => ?_, fun heq => ?_⟩
    · have hne : ¬ (i : Int) = (k : Int) := by simpa using hne
      refine ⟨by rw [hg, frI_len]; simp only [room]; omega, by simp only [fits]; omega, i + 1, hlt, by omega, by omega, rfl, rfl, ?_, by (repeat' (first | exact trivial | exact rfl | apply And.intro))⟩
      conv => rhs; unfold outTo
      rw [if_neg hne]
    · have heq : (i : Int) = (k : Int) := by simpa using heq
      refine ⟨by simp only [fits]; omega, i + 1, hlt, by omega, by omega, rfl, rfl, ?_, by (repeat' (first | exact trivial | exact rfl | apply And.intro))⟩
      conv => rhs; unfold outTo
      rw [if_pos heq]
  have hi : i ≤ j := hi
  have hi : i = j := by have := of_decide_eq_false hge3; omega
  subst hi
  have hQr := recv_out (c := C) (k := k) (m := i) (by omega)
  have hob := outTo_bytes hB (k : Int) i i (Nat.le_refl _)
  have hol := outTo_len C (k : Int) i i (Nat.le_refl _)
  have hQl : (outQ k (pkI C) i).length = i - 1 := by rw [outQ_len, if_neg (by omega)]
  have hQok := outQ_ok C k (m := i) (by omega)
  have hQ3 : ∀ p ∈ outQ k (pkI C) i, p.1 = 3 ∧ Bytes p.2.2 := fun p hp => by
    obtain ⟨a, _, rfl⟩ := outQ_mem hp
    exact ⟨rfl, pkD_bytes hB a⟩
  have hlo := lost_out C (k := k) (m := i) k1 (by omega) (i - 1 - 1) (by omega)
  rw [if_neg (by omega)] at hlo
  have hdq := dat_out (c := C) (k := k) (m := i) k1 (by omega) (by omega) (i - 1) (by omega) (by omega)
  simp only [hQr, -eq_self]
  generalize outQ k (pkI C) i = Q at *
  have i1 : ((i - 1 : Nat) : Int) = (i : Int) - 1 := by omega
  refine ⟨hob, by omega, fun _ => by simp only [fits]; omega, fun e => ?_, fun _ => ?_⟩
  · exfalso
    have e : ((Q.length : Int) != (i : Int) - 1) = true := e
    rw [hQl, i1] at e
    simp at e
  refine ⟨⟨(C, Q, (k : Int)), ⟨rfl, rfl, rfl⟩, by (repeat' (first | exact trivial | exact rfl | apply And.intro))⟩, fun z hz => ?_⟩
  obtain ⟨z1, z2, z3⟩ := z
  obtain ⟨e1, e2, e3⟩ := hz
  simp only at e1 e2 e3
  subst z1
  subst z2
  subst z3
  simp only [hQl, hlo, -eq_self]
  refine ⟨by simp only [room]; omega, by omega, fun p hp => ⟨(hQ3 p hp).1, pcheck_ok (hQok p hp)⟩, by decide, by simp, ⟨0, Nat.zero_le _, by (repeat' (first | exact trivial | exact rfl | apply And.intro))⟩, fun a ha => ⟨fun hlt => ?_, fun hge4 => ?_⟩⟩
  · have hlt : a < i - 1 := by have := of_decide_eq_true hlt; omega
    have ha' : a < Q.length := by omega
    have ok := hQok _ (getD_mem' (d := (0, 0, List.replicate 10 0)) ha')
    have ds := datTo_succ (d := (0, 0, List.replicate 10 0)) ha'
    have dl := datTo_len hQok a (by omega)
    have h10 := ok.2.2
    generalize List.getD Q a (0, 0, List.replicate 10 0) = y at *
    have ht : List.take 10 y.2.2 = y.2.2 := List.take_of_length_le (by omega)
    simp only [ht, dl, h10, -eq_self]
    exact ⟨by omega, by omega, by omega, rfl, by simp only [room]; omega, by simp only [fits]; omega, a + 1, hlt, by omega, by omega, rfl, rfl, rfl, ds.symm, by (repeat' (first | exact trivial | exact rfl | apply And.intro))⟩
  have ha : a ≤ i - 1 := ha
  have ha : a = i - 1 := by have := of_decide_eq_false hge4; omega
  subst ha
  have dl := datTo_len hQok (i - 1) (by omega)
  have hdb := datTo_bytes (fun p hp => (hQ3 p hp).2) (i - 1)
  generalize datTo Q (i - 1) = D at *
  have e1 : (min (D.length : Int) ((C.length : Int) - 10)).toNat = C.length - 10 := by omega
  simp only [e1, -eq_self]
  have hql : (List.take (C.length - 10) D).length = C.length - 10 := by rw [List.length_take]; omega
  have hun := hSh (List.take (C.length - 10) D) (byTake hdb _) (by omega) (by omega) (take5 hdq (by omega))
  refine ⟨by simp only [fits]; omega, by omega, hql, byTake hdb _, by omega, fun _ => by simp, ?_, trivial⟩
  rw [decide_eq_true rfl]
  have : ((upk (List.take (C.length - 10) D)).2 != 0) = true := by simpa using hun
  rw [this]
  rfl
end Go.Sx

namespace Go.Sx
open Go.RowKit
def WF : (t : Ty) → t.T → Prop
  | .int k, n => (Lit.int k n).wf = true
  | .bool, _ => True
  | .str, l => List.length l ≤ maxLen
  | .flt k, n => (Lit.float k n).wf = true
  | .cpx _, _ => True
  | .fnp, _ => True
  | .opq _, _ => True
  | .sl t, xs => List.length xs ≤ maxLen ∧ ∀ i (h : i < List.length xs), WF t (xs[i]'h)
  | .arr n t, xs => List.length xs = n ∧ ∀ i (h : i < List.length xs), WF t (xs[i]'h)
  | .pair a b, x => WF a x.1 ∧ WF b x.2
mutual
def rdChk (P : Program) : Nat → TypeId → Ty → Bool
  | 0, _, _ => false
  | n + 1, t, u => match P.underlying t with
      | some (.int k) => decide (u = .int k)
      | some .bool => decide (u = .bool)
      | some .string => decide (u = .str)
      | some (.float k) => decide (u = .flt k)
      | some (.slice e) => match u with
        | .sl v => decide (P.cellsOf e = v.sz) && decide (v.sz ≠ 0) && rdChk P n e v
        | _ => false
      | some (.array m e) => match u with
        | .arr m' v => decide (m = m') && decide (P.cellsOf e = v.sz) && decide (P.cellsOf t = m * v.sz) && rdChk P n e v
        | _ => false
      | some (.struct fs) => decide (P.cellsOf t = u.sz) && rdFs P n 0 fs.toList u
      | _ => false
def rdFs (P : Program) : Nat → Nat → List Field → Ty → Bool
  | 0, _, _, _ => false
  | n + 1, off, [f], u => decide (f.offset = off) && decide (P.cellsOf f.type = u.sz) && rdChk P n f.type u
  | n + 1, off, f :: r, .pair a b => decide (f.offset = off) && decide (P.cellsOf f.type = a.sz) && rdChk P n f.type a && rdFs P n (off + a.sz) r b
  | _, _, _, _ => false
end
def HW (w : World) : IH := fun b => w.heap[b]?
theorem addp (b off i : Nat) : (Addr.mk b off none).add i = ⟨b, off + i, none⟩ := by
  unfold Addr.add; split <;> simp_all
theorem cells_seg {w : World} {base : Nat} {a : Addr} {n : Nat} {cs : List Value} (h : w.cells? base a n = some cs) (hn : 0 < n) :
    ∃ b off c e fr, a = ⟨b, off, none⟩ ∧ w.heap[b]? = some (.cells c e fr) ∧ seg c off n = cs := by
  obtain ⟨_, hl, hc⟩ := World.cells?_some h
  obtain ⟨b, off, sp⟩ := a
  have h0 := hc 0 hn
  rw [List.getElem?_eq_getElem (by omega)] at h0
  have hs : sp = none := by
    have := World.cell?_spot h0
    simp only [Addr.add] at this
    cases sp with
    | none => rfl
    | some x => simp at this
  subst hs
  have hb : ∃ c e fr, w.heap[b]? = some (.cells c e fr) := by
    simp only [World.cell?, Addr.add] at h0
    split at h0
    · exact ⟨_, _, _, ‹_›⟩
    · cases h0
  obtain ⟨c, e, fr, hb⟩ := hb
  refine ⟨b, off, c, e, fr, rfl, hb, ?_⟩
  have hi : ∀ i, i < n → c[off + i]? = cs[i]? := by
    intro i hi
    have := hc i hi
    rw [addp] at this
    simpa [World.cell?, hb] using this
  apply List.ext_getElem?
  intro i
  simp only [seg, List.getElem?_take, List.getElem?_drop]
  split
  · rename_i h1
    rw [← hi i h1]; simp
  · rename_i h1
    rw [List.getElem?_eq_none (by omega)]
theorem choose_list {α : Type} (n : Nat) (p : Nat → α → Prop) (h : ∀ i, i < n → ∃ y, p i y) : ∃ ys : List α, ys.length = n ∧ ∀ i (hi : i < ys.length), p i (ys[i]'hi) := by
  induction n with
  | zero => exact ⟨[], rfl, fun i hi => by simp at hi⟩
  | succ n ih =>
    obtain ⟨ys, h1, h2⟩ := ih fun i hi => h i (by omega)
    obtain ⟨y, hy⟩ := h n (by omega)
    refine ⟨ys ++ [y], by simp [h1], fun i hi => ?_⟩
    by_cases hlt : i < ys.length
    · rw [List.getElem_append_left hlt]; exact h2 i hlt
    · simp at hi
      have : i = ys.length := by omega
      subst this
      simp
      rw [h1]; exact hy
theorem trod_rd_all {X : Type} {enc : TypeId × Value → X} {P : Program} {w : World} {base : Nat} {spare : Nat → Bool} {held : Bool} : ∀ (n : Nat),
    (∀ (t : TypeId) (u : Ty) (fuel : Nat) (cs : List Value) (x : DataW X × List MemPlace), rdChk P n t u = true → DataW.trod enc P w base spare held fuel t cs = some x → ∃ y : u.T, Rd (HW w) u y cs ∧ WF u y) ∧
    (∀ (off : Nat) (fs : List Field) (u : Ty) (fuel : Nat) (cs : List Value), rdFs P n off fs u = true → cs.length = off + u.sz →
      (∀ f ∈ fs, ∃ x, DataW.trod enc P w base spare held fuel f.type ((cs.drop f.offset).take (P.cellsOf f.type)) = some x) → ∃ y : u.T, Rd (HW w) u y (cs.drop off) ∧ WF u y) := by
  intro n
  induction n with
  | zero => exact ⟨fun _ _ _ _ _ h => by simp [rdChk] at h, fun _ _ _ _ _ h => by simp [rdFs] at h⟩
  | succ n ih =>
    refine ⟨?_, ?_⟩
    · intro t u fuel cs x h hx
      unfold rdChk at h
      split at h
      · rename_i k hu
        simp at h; subst h
        obtain ⟨m, rfl, _, hw⟩ := DataW.trod_int hu hx
        exact ⟨m, rfl, hw⟩
      · rename_i hu
        simp at h; subst h
        obtain ⟨m, rfl, _⟩ := DataW.trod_bool hu hx
        exact ⟨m, rfl, trivial⟩
      · rename_i hu
        simp at h; subst h
        obtain ⟨s, rfl, _, hw⟩ := DataW.trod_string hu hx
        refine ⟨s.data.toList, rfl, ?_⟩
        show s.data.toList.length ≤ maxLen
        rw [Array.length_toList]; exact hw
      · rename_i k hu
        simp at h; subst h
        cases fuel with
        | zero => simp [DataW.trod] at hx
        | succ m =>
          unfold DataW.trod at hx
          rw [hu] at hx
          have : ∃ b, cs = [.float k b] ∧ (Lit.float k b).wf = true := by split at hx <;> simp_all
          obtain ⟨b, rfl, hw⟩ := this
          exact ⟨b, rfl, hw⟩
      · rename_i e hu
        split at h
        · rename_i v
          simp only [Bool.and_eq_true, decide_eq_true_eq] at h
          obtain ⟨⟨h1, h2⟩, h3⟩ := h
          rcases DataW.trod_slice hu hx with ⟨rfl, _⟩ | ⟨a, len, cap, elems, rest, m, _, rfl, _, _, hlc, hm, hel, hei, _, _⟩
          · exact ⟨[], ⟨none, 0, rfl, Nat.le_refl _, .inl rfl⟩, by simp [WF]⟩
          · have hone : ∀ i, i < len → ∃ cs', w.cells? base (a.add (i * P.cellsOf e)) (P.cellsOf e) = some cs' ∧ ∃ y : v.T, Rd (HW w) v y cs' ∧ WF v y := by
              intro i hi
              have := hei i hi
              rw [List.getElem?_eq_getElem (by omega)] at this
              obtain ⟨cs', hc1, hc2⟩ := Option.bind_eq_some_iff.1 this
              exact ⟨cs', hc1, ih.1 _ _ _ _ _ h3 hc2⟩
            obtain ⟨ys, hy1, hy2⟩ := choose_list len (fun i (y : v.T) => ∃ cs', w.cells? base (a.add (i * P.cellsOf e)) (P.cellsOf e) = some cs' ∧ Rd (HW w) v y cs' ∧ WF v y)
              (fun i hi => by obtain ⟨cs', h1, y, h2⟩ := hone i hi; exact ⟨y, cs', h1, h2⟩)
            refine ⟨ys, ⟨some a, cap, by rw [hy1], by rw [hy1]; exact hlc, ?_⟩, by rw [hy1]; omega, fun i hi => ?_⟩
            · rcases Nat.eq_zero_or_pos ys.length with h0 | h0
              · exact .inl h0
              · right
                obtain ⟨cs0, hc0, _⟩ := hy2 0 h0
                obtain ⟨b, off, c, e', fr, ha, hb, _⟩ := cells_seg hc0 (by omega)
                have ha' : a = ⟨b, off, none⟩ := by rw [← ha]; simp [Addr.add]
                refine ⟨b, off, c, e', fr, by rw [ha'], hb, fun i hi => ?_⟩
                obtain ⟨cs', hc', hr, _⟩ := hy2 i hi
                obtain ⟨b', off', c', e'', fr', hab, hb', hsg⟩ := cells_seg hc' (by omega)
                rw [ha', addp] at hab
                simp only [Addr.mk.injEq] at hab
                obtain ⟨rfl, rfl, _⟩ := hab
                rw [hb] at hb'
                cases hb'
                rw [h1] at hsg
                rw [hsg]; exact hr
            · obtain ⟨_, _, _, hwf⟩ := hy2 i hi
              exact hwf
        · cases h
      · rename_i m e hu
        split at h
        · rename_i m' v
          simp only [Bool.and_eq_true, decide_eq_true_eq] at h
          obtain ⟨⟨⟨rfl, h1⟩, h2⟩, h3⟩ := h
          obtain ⟨xs, k, _, _, hl, hxl, hxi⟩ := DataW.trod_array hu hx
          obtain ⟨ys, hy1, hy2⟩ := choose_list m (fun i (y : v.T) => Rd (HW w) v y ((cs.drop (i * P.cellsOf e)).take (P.cellsOf e)) ∧ WF v y)
            (fun i hi => by
              have := hxi i hi
              rw [List.getElem?_eq_getElem (by omega)] at this
              exact ih.1 _ _ _ _ _ h3 this)
          refine ⟨ys, ⟨hy1, by rw [hl, h2], fun i hi => ?_⟩, hy1, fun i hi => (hy2 i hi).2⟩
          have := (hy2 i hi).1
          rw [h1] at this
          exact this
        · cases h
      · rename_i fs hu
        simp only [Bool.and_eq_true, decide_eq_true_eq] at h
        obtain ⟨xs, k, _, _, hl, hxl, hxi⟩ := DataW.trod_struct hu hx
        have := ih.2 0 fs.toList u k cs h.2 (by rw [hl, h.1]; omega) (fun f hf => by
          obtain ⟨i, hi, rfl⟩ := List.mem_iff_getElem.1 hf
          simp at hi
          have := hxi i fs[i] (by simp [hi])
          rw [List.getElem?_eq_getElem (by omega)] at this
          exact ⟨_, by simpa using this⟩)
        simpa using this
      · cases h
    · intro off fs u fuel cs h hl hf
      match fs, u, h, hl, hf with
      | [], u, h, _, _ => simp [rdFs] at h
      | [f], u, h, hl, hf =>
        simp only [rdFs, Bool.and_eq_true, decide_eq_true_eq] at h
        obtain ⟨⟨rfl, h1⟩, h2⟩ := h
        obtain ⟨x, hx⟩ := hf f (by simp)
        rw [h1, List.take_of_length_le (by simp; omega)] at hx
        exact ih.1 _ _ _ _ _ h2 hx
      | f :: g :: r, .pair a b, h, hl, hf =>
        simp only [rdFs, Bool.and_eq_true, decide_eq_true_eq] at h
        obtain ⟨⟨⟨rfl, h1⟩, h2⟩, h3⟩ := h
        simp only [Ty.sz] at hl
        obtain ⟨x, hx⟩ := hf f (by simp)
        rw [h1] at hx
        obtain ⟨y1, hy1, hw1⟩ := ih.1 _ _ _ _ _ h2 hx
        obtain ⟨y2, hy2, hw2⟩ := ih.2 _ _ _ fuel cs h3 (by omega) (fun g' hg => hf g' (List.mem_cons_of_mem _ hg))
        refine ⟨(y1, y2), ⟨hy1, ?_⟩, hw1, hw2⟩
        rw [List.drop_drop]; exact hy2
      | _ :: _ :: _, .int _, h, _, _ => simp [rdFs] at h
      | _ :: _ :: _, .bool, h, _, _ => simp [rdFs] at h
      | _ :: _ :: _, .str, h, _, _ => simp [rdFs] at h
      | _ :: _ :: _, .flt _, h, _, _ => simp [rdFs] at h
      | _ :: _ :: _, .cpx _, h, _, _ => simp [rdFs] at h
      | _ :: _ :: _, .sl _, h, _, _ => simp [rdFs] at h
      | _ :: _ :: _, .arr _ _, h, _, _ => simp [rdFs] at h
theorem trod_rd {X : Type} {enc : TypeId × Value → X} {P : Program} {w : World} {base : Nat} {spare : Nat → Bool} {held : Bool} (n : Nat)
    {t : TypeId} {u : Ty} (h : rdChk P n t u = true) {fuel : Nat} {cs : List Value} {x : DataW X × List MemPlace} (hx : DataW.trod enc P w base spare held fuel t cs = some x) : ∃ y : u.T, Rd (HW w) u y cs ∧ WF u y :=
  (trod_rd_all n).1 t u fuel cs x h hx
end Go.Sx

namespace Go.Sx
open Go.RowKit Go.ChangeShapes Go.WideShapes Go.ChangeAt
section
variable {X : Type} {enc : TypeId × Value → X} {P : Program} {w : World} {base base' : Nat} {spare : Nat → Bool} {held : Bool} {n : Nat} {t : TypeId} {u : Ty} {v : Value} {d : DataW X} {ps : List MemPlace}
theorem cells_one (hv : ∀ cs, v ≠ .agg cs) : v.cells.toList = [v] := by
  cases v <;> simp_all [Value.cells]
theorem okWide_one (ha : aggOf P t = false) (hok : Value.okWide P w .any base' t v) : ∀ cs, v ≠ .agg cs := by
  intro cs hv
  subst hv
  unfold aggOf at ha
  unfold Value.okWide at hok
  split at hok
  · rename_i h; rw [h] at ha; cases ha
  · rename_i h; rw [h] at ha; cases ha
  · unfold Cell.okWide at hok
    split at hok <;> try (rename_i h; cases h; done)
    all_goals first | (rename_i h _; cases h; done) | skip
    all_goals first | (unfold Cell.ok at hok; split at hok <;> first | (exact hok) | (rename_i h; cases h; done) | (rename_i h _; cases h; done) | simp_all; done) | simp_all
theorem arg_one (h : rdChk P n t u = true) (ha : aggOf P t = false) (hok : Value.okWide P w .any base' t v) (hT : DataW.Trod enc P w base spare held t v d ps) : ∃ y : u.T, Rd (HW w) u y [v] ∧ WF u y := by
  obtain ⟨fuel, hT⟩ := hT
  rw [cells_one (okWide_one ha hok)] at hT
  exact trod_rd n h hT
theorem arg_agg (h : rdChk P n t u = true) (ha : aggOf P t = true) (hok : Value.okWide P w .any base' t v) (hT : DataW.Trod enc P w base spare held t v d ps) : ∃ (vs : List Value) (y : u.T), v = .agg ⟨vs⟩ ∧ Rd (HW w) u y vs ∧ WF u y := by
  obtain ⟨fuel, hT⟩ := hT
  have hv : ∃ cs, v = .agg cs := by
    unfold aggOf at ha
    unfold Value.okWide at hok
    split at hok
    · exact ⟨_, hok.choose_spec.1⟩
    · exact ⟨_, hok.choose_spec.1⟩
    · rename_i h1 h2
      split at ha
      · exact absurd ‹_› (h1 _)
      · exact absurd ‹_› (h2 _ _)
      · cases ha
  obtain ⟨cs, rfl⟩ := hv
  obtain ⟨y, h1, h2⟩ := trod_rd n h hT
  exact ⟨cs.toList, y, rfl, h1, h2⟩
end
theorem trodAll_below {X : Type} {enc : TypeId × Value → X} {P : Program} (hl : laidOutB P = true) {W W' : World} (hb : Below W.heap.size W W') : ∀ {ts : List TypeId} {vs : List Value} {ds : List (DataW X)} {ps : List MemPlace},
    (ts.all fun t => P.readableRec t && decide (t < P.types.size)) = true → DataW.TrodAll enc P W 0 (fun _ => true) true ts vs ds ps → (∀ x ∈ ps, x.block < W.heap.size) → DataW.TrodAll enc P W' 0 (fun b => decide (b < W.heap.size)) true ts vs ds ps
  | [], vs, ds, ps, _, h, _ => by
    cases vs <;> cases ds <;> simp_all [DataW.TrodAll]
  | t :: ts, vs, ds, ps, ht, h, hlt => by
    obtain ⟨v, vs', d, ds', p, q, rfl, rfl, rfl, h1, h2⟩ := trodAll_cons h
    simp only [List.all_cons, Bool.and_eq_true, decide_eq_true_eq] at ht
    refine trodAll_cons_mk (Below.trod hl ht.1.1 ht.1.2 h1 hb fun x hx => hlt x (by simp [hx])) (trodAll_below hl hb ht.2 h2 fun x hx => hlt x (by simp [hx]))
theorem law_post {X : Type} {enc : TypeId × Value → X} {P : Program} (hl : laidOutB P = true) {s : ChangeSpec} {f : Func} {tb : TypeId} {W W' : World} {args : Array Value} {ds gs : List (DataW X)} {before : List MemPlace} {r : Value}
    (hvars : s.vars = []) (hts : (f.params.toList.all fun t => P.readableRec t && decide (t < P.types.size)) = true) (hres : f.resultTypes = #[tb]) (htb : P.underlying tb = some .bool)
    (hfn : s.fn X ds = { results := [.lit (.bool true)], args := ds })
    (hW : DataW.Whole enc P f.params.toList s.vars false W args.toList ds gs before) (hb : Below W.heap.size W W') (hr : r = .bool true) :
    s.post enc P f false true false false W args r W' := by
  subst hr
  have hW' := hW
  obtain ⟨p, q, hA, hV, rfl, hfz, hnd⟩ := hW
  rw [hvars] at hV
  obtain ⟨rfl, rfl⟩ := trodVars_none hV
  have hlt : ∀ x ∈ p, x.block < W.heap.size := fun x hx => hW'.lt x (by simp [hx])
  refine ⟨ds, [], p ++ [], [], p, [], hW', ?_, ?_, ?_, hb.frame _, fun h => by cases h⟩
  · rw [List.append_nil, hfn, hres]
    exact trodAll_cons_mk (shut_bool htb _) trodAll_mk0
  · rw [List.append_nil, hfn]
    exact trodAll_below hl hb hts hA hlt
  · rw [List.append_nil, hfn, hvars]
    rfl
theorem law_calls {X : Type} {enc : TypeId × Value → X} {P : Program} (hl : laidOutB P = true) {s : ChangeSpec} {f : Func} {tb : TypeId} {fid : FuncId} {W : World} {args : Array Value} {ds gs : List (DataW X)} {before : List MemPlace}
    (hvars : s.vars = []) (hts : (f.params.toList.all fun t => P.readableRec t && decide (t < P.types.size)) = true) (hres : f.resultTypes = #[tb]) (htb : P.underlying tb = some .bool)
    (hfn : s.fn X ds = { results := [.lit (.bool true)], args := ds })
    (hW : DataW.Whole enc P f.params.toList s.vars false W args.toList ds gs before)
    {gl : Nat → Option ((t : Ty) × t.T)} {avs : List V} (hF : Fn P gl fid avs (.val (.one (.bool true))) true) (hg : GlobOk gl (HW W)) (ha : DenVs ρ0 (HW W) avs args.toList) :
    Calls P fid args W fun e W' => ∃ v, e = .returned v ∧ s.post enc P f false true false false W args v W' := by
  refine (hF W (HW W) args.toList (fun b o h => h) hg ha).mono fun e W' h => ?_
  obtain ⟨v, H', rfl, hb, _, _, hd⟩ := h
  exact ⟨v, rfl, law_post hl hvars hts hres htb hfn hW hb hd.2⟩
end Go.Sx

namespace Go.Sx
open Go.RowKit
theorem wf_u8 {n : Int} (h : (Lit.int .u8 n).wf = true) : fits .u8 n := by
  simp [Lit.wf, IntKind.min, IntKind.max, IntKind.signed, IntKind.bits] at h
  simp only [fits]
  omega
theorem wf_mem {t : Ty} {xs : List t.T} (h : WF (.sl t) xs) : ∀ x ∈ xs, WF t x := by
  intro x hx
  obtain ⟨i, hi, rfl⟩ := List.mem_iff_getElem.1 hx
  exact h.2 i hi
end Go.Sx
