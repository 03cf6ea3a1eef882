/- A verified symbolic run of functions, part 17: lemmas, no claim of their own. -/
import Derived.Test.YtpbipfdpoijgoaaGreatDoorS16
import Derived.OpenShut
import Derived.ProofKit
import Derived.Carry
import Derived.OpenVars
import Derived.Lib.LaidTab
import Derived.ChangeSame
import Derived.WalkKit
import Derived.Deep.DeepHandedRow
import Derived.JoinedCond
import Derived.KernelRfl
import Derived.Test.YtpbipfdpoijgoaaGreatDoorProg
import Derived.Test.YtpbipfdpoijgoaaGreatDoorCards
/- What the engine asks, written out (printed by a program). -/
namespace Go.Sx
open U
theorem vc97 (_u : Unit) : exF (env false [] []) h0 0 97 Proofs.Tryz.f97 [] (.val (.one (.sl rlT aR))) = ([(Array.toList (ByteArray.data { data := #[(97 : UInt8)] }), (10 : Int), [(0 : Int), (100 : Int), (200 : Int), (300 : Int), (400 : Int), (500 : Int)]), (Array.toList (ByteArray.data { data := #[(98 : UInt8)] }), (50 : Int), [(40 : Int), (50 : Int), (60 : Int), (70 : Int)])] = aR ∧ True) := by
  kernel_rfl
theorem vc98 (n : Int) : exF (env false [] []) h0 0 98 Proofs.Tryz.f98 [iV n] (.val (.one (.sl edT (aL n)))) = ([(Array.toList (ByteArray.data { data := #[(97 : UInt8)] }), (11 : Int), (14 : Int), (0 : Int), (0 : Int)), (Array.toList (ByteArray.data { data := #[(98 : UInt8)] }), n, (53 : Int), (1 : Int), (-1 : Int)), (Array.toList (ByteArray.data { data := #[(97 : UInt8)] }), (15 : Int), (16 : Int), (0 : Int), (0 : Int))] = aL n ∧ True) := by
  kernel_rfl
theorem vc96 (_u : Unit) : exF (env false [] []) h0 0 96 Proofs.Tryz.f96 [] (.val (sV aS)) = (List.length (Array.toList (ByteArray.data { data := #[(82 : UInt8), (69 : UInt8), (69 : UInt8), (76 : UInt8), (1 : UInt8), (99 : UInt8), (0 : UInt8), (0 : UInt8), (0 : UInt8), (1 : UInt8)] })) + List.length (bytesOf [(70 : Int), (1 : Int), (2 : Int), (9 : Int), (126 : Int), (69 : Int), (0 : Int), (1 : Int), (1 : Int), (2 : Int)]) ≤ (9223372036854775807 : Nat) ∧ Array.toList (ByteArray.data { data := #[(82 : UInt8), (69 : UInt8), (69 : UInt8), (76 : UInt8), (1 : UInt8), (99 : UInt8), (0 : UInt8), (0 : UInt8), (0 : UInt8), (1 : UInt8)] }) ++ bytesOf [(70 : Int), (1 : Int), (2 : Int), (9 : Int), (126 : Int), (69 : Int), (0 : Int), (1 : Int), (1 : Int), (2 : Int)] = aS ∧ True) := by
  kernel_rfl
theorem vc18 (_u : Unit) : exF (env false [(19, sp19), (29, sp29), (27, sp27), (43, sp43), (33, sp33), (37, sp37), (35, sp35), (36, sp36), (69, sp69), (49, sp49), (50, sp50), (51, sp51), (84, sp84), (58, sp58), (60, sp60), (90, sp90), (97, sp97), (98, sp98), (96, sp96), (48, sp48), (74, sp74), (57, sp57), (32, sp32), (47, sp47), (73, sp73), (56, sp56), (44, sp44), (66, sp66)] []) h0 0 18 Proofs.Tryz.f18 [] (.val (bV true)) = (let q1 := (aL (51 : Int)); let q36 := (((25 : Int), false), ((0 : Int), (0 : Int), (0 : Int), (23 : Int)), (0 : Int)); let q0 := (if chkEds aR q1 = (0 : Int) then labsN q36 (ls q1) else []); let q25 := (ByteArray.data { data := #[(98 : UInt8)] }); let q21 := (ByteArray.data { data := #[(97 : UInt8)] }); let q22 := (chgL aR q1 (2 : Int) (-1 : Int) (1 : Int) rollL); let q2 := (List.drop (1 : Nat) q22 = [(Array.toList q25, (51 : Int), (52 : Int), (1 : Int), (-1 : Int)), (Array.toList q21, (14 : Int), (16 : Int), (0 : Int), (0 : Int))]); let q11 := (chgL aR q1 (0 : Int) (1 : Int) (0 : Int) trimL); let q16 := (List.getD q11 (0 : Nat) ([], (0 : Int), (0 : Int), (0 : Int), (0 : Int))); let q27 := (↑(List.length (partL aR q1 (5 : Int)).1) : Int); let q28 := (aL (50 : Int)); let q29 := (↑(List.length q11) : Int); let q14 := ((partL aR q1 (5 : Int)).2 = [(Array.toList q21, (15 : Int), (16 : Int), (0 : Int), (0 : Int))]); let q3 := (bif bif bif bif bif bif bif chgE aR q1 (0 : Int) (1 : Int) (0 : Int) trimL + chgE aR q1 (2 : Int) (-1 : Int) (1 : Int) rollL + partE aR q1 (5 : Int) + convE aR q1 [(1 : Int), (1 : Int)] + chkEds aR q1 + chkText q28 == (0 : Int) then chgE aR q1 (2 : Int) (1 : Int) (0 : Int) slipL == (14 : Int) else false then partE aR q1 (3 : Int) == (22 : Int) else false then q29 == (3 : Int) else false then q16.2.2.1 == (15 : Int) else false then decide q2 else false then q27 == (2 : Int) else false then decide q14 else false); let q33 := (↑(List.length q0) : Int); let q12 := (List.getD q0 (1 : Nat) ((0 : Int), (0 : Int), (0 : Int), (0 : Int))); let q37 := (Ty.int IntKind.i64); let q23 := (Ty.pair q37 (Ty.pair q37 (Ty.pair q37 q37))); let q24 := (convL aR q1 [(1 : Int), (1 : Int)] = [[(0 : Int), (1 : Int)], [(2 : Int), (3 : Int)], [(4 : Int), (5 : Int)]]); let q4 := (bif bif bif bif bif bif bif bif bif bif chgE aR q1 (0 : Int) (1 : Int) (0 : Int) trimL + chgE aR q1 (2 : Int) (-1 : Int) (1 : Int) rollL + partE aR q1 (5 : Int) + convE aR q1 [(1 : Int), (1 : Int)] + chkEds aR q1 + chkText q28 == (0 : Int) then chgE aR q1 (2 : Int) (1 : Int) (0 : Int) slipL == (14 : Int) else false then partE aR q1 (3 : Int) == (22 : Int) else false then q29 == (3 : Int) else false then q16.2.2.1 == (15 : Int) else false then decide q2 else false then q27 == (2 : Int) else false then decide q14 else false then decide q24 else false then q33 == (3 : Int) else false then eqT q23 (q12.1, q12.2.1, q12.2.2.1, q12.2.2.2) ((0 : Int), (0 : Int), (1 : Int), (1 : Int)) else false); let q5 := (bif bif bif bif chgE aR q1 (0 : Int) (1 : Int) (0 : Int) trimL + chgE aR q1 (2 : Int) (-1 : Int) (1 : Int) rollL + partE aR q1 (5 : Int) + convE aR q1 [(1 : Int), (1 : Int)] + chkEds aR q1 + chkText q28 == (0 : Int) then chgE aR q1 (2 : Int) (1 : Int) (0 : Int) slipL == (14 : Int) else false then partE aR q1 (3 : Int) == (22 : Int) else false then q29 == (3 : Int) else false then q16.2.2.1 == (15 : Int) else false); let q6 := (soundsN aR q1 = [(Array.toList q21, (11 : Int), (1 : Int), (1 : Int)), (Array.toList q21, (12 : Int), (1 : Int), (1 : Int)), (Array.toList q25, (50 : Int), (1 : Int), (1 : Int)), (Array.toList q25, (51 : Int), (1 : Int), (1 : Int)), (Array.toList q25, (52 : Int), (1 : Int), (1 : Int)), (Array.toList q21, (15 : Int), (1 : Int), (1 : Int))]); let q7 := (bif bif bif bif bif bif bif bif bif chgE aR q1 (0 : Int) (1 : Int) (0 : Int) trimL + chgE aR q1 (2 : Int) (-1 : Int) (1 : Int) rollL + partE aR q1 (5 : Int) + convE aR q1 [(1 : Int), (1 : Int)] + chkEds aR q1 + chkText q28 == (0 : Int) then chgE aR q1 (2 : Int) (1 : Int) (0 : Int) slipL == (14 : Int) else false then partE aR q1 (3 : Int) == (22 : Int) else false then q29 == (3 : Int) else false then q16.2.2.1 == (15 : Int) else false then decide q2 else false then q27 == (2 : Int) else false then decide q14 else false then decide q24 else false then q33 == (3 : Int) else false); let q8 := (List.getD (confN aR q1) (3 : Nat) [] = [(Array.toList q21, (14 : Int), (1 : Int), (2 : Int)), (Array.toList q25, (51 : Int), (1 : Int), (2 : Int))]); let q9 := (strNs (List.take (19 : Nat) aS)); let q19 := (1000000 : Nat); let q10 := ((bif bif bif bif bif bif chgE aR q1 (0 : Int) (1 : Int) (0 : Int) trimL + chgE aR q1 (2 : Int) (-1 : Int) (1 : Int) rollL + partE aR q1 (5 : Int) + convE aR q1 [(1 : Int), (1 : Int)] + chkEds aR q1 + chkText q28 == (0 : Int) then chgE aR q1 (2 : Int) (1 : Int) (0 : Int) slipL == (14 : Int) else false then partE aR q1 (3 : Int) == (22 : Int) else false then q29 == (3 : Int) else false then q16.2.2.1 == (15 : Int) else false then decide q2 else false then q27 == (2 : Int) else false) = true → List.length (partL aR q1 (5 : Int)).2 ≤ q19); let q13 := (bif bif bif chgE aR q1 (0 : Int) (1 : Int) (0 : Int) trimL + chgE aR q1 (2 : Int) (-1 : Int) (1 : Int) rollL + partE aR q1 (5 : Int) + convE aR q1 [(1 : Int), (1 : Int)] + chkEds aR q1 + chkText q28 == (0 : Int) then chgE aR q1 (2 : Int) (1 : Int) (0 : Int) slipL == (14 : Int) else false then partE aR q1 (3 : Int) == (22 : Int) else false then q29 == (3 : Int) else false); let q15 := (1000000000 : Nat); let q35 := (ByteArray.data { data := #[(99 : UInt8)] }); let q17 := (((rebuilt q9).1.1, (rebuilt q9).1.2.1, (rebuilt q9).1.2.2) = (Array.toList q35, (1 : Int), [(258 : Int)])); let q18 := (↑(List.length (confN aR q1)) : Int); let q20 := (stream (Array.toList q35) (1 : Int) [(258 : Int)]); let q26 := (List.getD q0 (2 : Nat) ((0 : Int), (0 : Int), (0 : Int), (0 : Int))); let q30 := ((bif bif q18 != (6 : Int) then true else !decide q8 then true else !decide q6) = false → List.length (needN aR q1) ≤ q19); let q31 := ((bif q18 != (6 : Int) then true else !decide q8) = false → List.length (soundsN aR q1) ≤ q19); let q32 := ((0 : Int) ≤ (0 : Int) ∧ (0 : Int) ≤ (19 : Int) ∧ (19 : Int) ≤ (↑(List.length aS) : Int)); let q34 := ((q18 != (6 : Int)) = false → List.length (List.getD (confN aR q1) (3 : Nat) []) ≤ q19); let q38 := (startsN aR q1 = [(0 : Int), (3 : Int), (5 : Int)]); let q39 := (↑(List.length q22) : Int); ReelOk (Array.toList q35) (1 : Int) [(258 : Int)] ∧ q32 ∧ (List.length q9 ≤ q19 ∧ Bytes q9) ∧ q32 ∧ (List.length q9 ≤ q19 ∧ Bytes q9) ∧ List.length aR ≤ q15 ∧ (∀ (r : Rl), r ∈ aR → List.length r.2.2 ≤ q19) ∧ List.length q28 ≤ q15 ∧ List.length aR ≤ q15 ∧ (∀ (r : Rl), r ∈ aR → List.length r.2.2 ≤ q19) ∧ List.length q1 ≤ q15 ∧ List.length aR ≤ q15 ∧ (∀ (r : Rl), r ∈ aR → List.length r.2.2 ≤ q19) ∧ List.length q1 ≤ q15 ∧ List.length aR ≤ q15 ∧ (∀ (r : Rl), r ∈ aR → List.length r.2.2 ≤ q19) ∧ List.length q1 ≤ q15 ∧ List.length aR ≤ q15 ∧ (∀ (r : Rl), r ∈ aR → List.length r.2.2 ≤ q19) ∧ List.length q1 ≤ q15 ∧ List.length aR ≤ q15 ∧ (∀ (r : Rl), r ∈ aR → List.length r.2.2 ≤ q19) ∧ List.length q1 ≤ q15 ∧ fits IntKind.i64 ((0 : Int) + (rebuilt q9).2.2) ∧ fits IntKind.i64 ((0 : Int) + (rebuilt q9).2.2 + chkEds aR q1) ∧ fits IntKind.i64 ((0 : Int) + (rebuilt q9).2.2 + chkEds aR q1 + chkEds aR q1) ∧ fits IntKind.i64 ((0 : Int) + (rebuilt q9).2.2 + chkEds aR q1 + chkEds aR q1 + chkEds aR q1) ∧ fits IntKind.i64 ((0 : Int) + (rebuilt q9).2.2 + chkEds aR q1 + chkEds aR q1 + chkEds aR q1 + chkEds aR q1) ∧ fits IntKind.i64 ((0 : Int) + (rebuilt q9).2.2 + chkEds aR q1 + chkEds aR q1 + chkEds aR q1 + chkEds aR q1 + chkEds aR q1) ∧ ((bif bif bif (0 : Int) + (rebuilt q9).2.2 + chkEds aR q1 + chkEds aR q1 + chkEds aR q1 + chkEds aR q1 + chkEds aR q1 != (0 : Int) then true else (readS q9).2 != (28 : Int) then true else chkEds aR q28 != (16 : Int) then true else bytesOf q20 != aS) = false → List.length (rebuilt q9).1.2.2 ≤ q19) ∧ ((bif bif bif bif bif (0 : Int) + (rebuilt q9).2.2 + chkEds aR q1 + chkEds aR q1 + chkEds aR q1 + chkEds aR q1 + chkEds aR q1 != (0 : Int) then true else (readS q9).2 != (28 : Int) then true else chkEds aR q28 != (16 : Int) then true else bytesOf q20 != aS then true else !decide q17 then true else (rebuilt q9).2.1) = false → List.length (startsN aR q1) ≤ q15) ∧ ((bif bif bif bif bif bif bif (0 : Int) + (rebuilt q9).2.2 + chkEds aR q1 + chkEds aR q1 + chkEds aR q1 + chkEds aR q1 + chkEds aR q1 != (0 : Int) then true else (readS q9).2 != (28 : Int) then true else chkEds aR q28 != (16 : Int) then true else bytesOf q20 != aS then true else !decide q17 then true else (rebuilt q9).2.1 then true else !decide q38 then true else lenN aR q1 != (6 : Int)) = false → List.length (playN aR q1) ≤ q15) ∧ splitB (bif bif bif bif bif bif bif bif (0 : Int) + (rebuilt q9).2.2 + chkEds aR q1 + chkEds aR q1 + chkEds aR q1 + chkEds aR q1 + chkEds aR q1 != (0 : Int) then true else (readS q9).2 != (28 : Int) then true else chkEds aR q28 != (16 : Int) then true else bytesOf q20 != aS then true else !decide q17 then true else (rebuilt q9).2.1 then true else !decide q38 then true else lenN aR q1 != (6 : Int) then true else !decide (playN aR q1 = [(100 : Int), (200 : Int), (300 : Int), (225 : Int), (60 : Int), (500 : Int)])) (false = true ∧ True) (((q18 != (6 : Int)) = false → (0 : Int) ≤ (3 : Int) ∧ (3 : Int) < q18) ∧ ((q18 != (6 : Int)) = false → (3 : Nat) < List.length (confN aR q1)) ∧ q34 ∧ q34 ∧ q31 ∧ q31 ∧ q30 ∧ q30 ∧ splitB (bif bif bif q18 != (6 : Int) then true else !decide q8 then true else !decide q6 then true else !decide (needN aR q1 = [(Array.toList q21, (11 : Int), (16 : Int)), (Array.toList q25, (50 : Int), (53 : Int))])) (false = true ∧ True) (List.length aR ≤ q15 ∧ (∀ (r : Rl), r ∈ aR → List.length r.2.2 ≤ q19) ∧ List.length q1 ≤ q15 ∧ List.length aR ≤ q15 ∧ (∀ (r : Rl), r ∈ aR → List.length r.2.2 ≤ q19) ∧ List.length q1 ≤ q15 ∧ List.length aR ≤ q15 ∧ (∀ (r : Rl), r ∈ aR → List.length r.2.2 ≤ q19) ∧ List.length q1 ≤ q15 ∧ List.length aR ≤ q15 ∧ (∀ (r : Rl), r ∈ aR → List.length r.2.2 ≤ q19) ∧ List.length q1 ≤ q15 ∧ List.length aR ≤ q15 ∧ (∀ (r : Rl), r ∈ aR → List.length r.2.2 ≤ q19) ∧ List.length q1 ≤ q15 ∧ List.length aR ≤ q15 ∧ (∀ (r : Rl), r ∈ aR → List.length r.2.2 ≤ q19) ∧ List.length q1 ≤ q15 ∧ List.length aR ≤ q15 ∧ (∀ (r : Rl), r ∈ aR → List.length r.2.2 ≤ q19) ∧ List.length q1 ≤ q15 ∧ StOk q36 ∧ List.length q28 ≤ q19 ∧ (∀ (x : Ed), x ∈ aL (50 : Int) → (∀ (n : Int), n ∈ numsE x → fits IntKind.i64 n) ∧ List.length x.1 ≤ (1000 : Nat)) ∧ fits IntKind.i64 (chgE aR q1 (0 : Int) (1 : Int) (0 : Int) trimL + chgE aR q1 (2 : Int) (-1 : Int) (1 : Int) rollL) ∧ fits IntKind.i64 (chgE aR q1 (0 : Int) (1 : Int) (0 : Int) trimL + chgE aR q1 (2 : Int) (-1 : Int) (1 : Int) rollL + partE aR q1 (5 : Int)) ∧ fits IntKind.i64 (chgE aR q1 (0 : Int) (1 : Int) (0 : Int) trimL + chgE aR q1 (2 : Int) (-1 : Int) (1 : Int) rollL + partE aR q1 (5 : Int) + convE aR q1 [(1 : Int), (1 : Int)]) ∧ fits IntKind.i64 (chgE aR q1 (0 : Int) (1 : Int) (0 : Int) trimL + chgE aR q1 (2 : Int) (-1 : Int) (1 : Int) rollL + partE aR q1 (5 : Int) + convE aR q1 [(1 : Int), (1 : Int)] + chkEds aR q1) ∧ fits IntKind.i64 (chgE aR q1 (0 : Int) (1 : Int) (0 : Int) trimL + chgE aR q1 (2 : Int) (-1 : Int) (1 : Int) rollL + partE aR q1 (5 : Int) + convE aR q1 [(1 : Int), (1 : Int)] + chkEds aR q1 + chkText q28) ∧ (q13 = true → (0 : Int) ≤ (0 : Int) ∧ (0 : Int) < q29) ∧ (q13 = true → (0 : Nat) < List.length q11) ∧ (q5 = true → List.length q22 ≤ q19) ∧ (q5 = true → (0 : Int) ≤ (1 : Int) ∧ (1 : Int) ≤ q39 ∧ q39 ≤ q39) ∧ (q5 = true → List.length (List.drop (1 : Nat) q22) ≤ q19) ∧ q10 ∧ q10 ∧ (q3 = true → List.length (convL aR q1 [(1 : Int), (1 : Int)]) ≤ q19) ∧ (q3 = true → ∀ (x : List Int), x ∈ convL aR q1 [(1 : Int), (1 : Int)] → List.length x = (2 : Nat)) ∧ (q3 = true → ∀ (x : List Int), x ∈ [[(0 : Int), (1 : Int)], [(2 : Int), (3 : Int)], [(4 : Int), (5 : Int)]] → List.length x = (2 : Nat)) ∧ (q7 = true → (0 : Int) ≤ (1 : Int) ∧ (1 : Int) < q33) ∧ (q7 = true → (1 : Nat) < List.length q0) ∧ (q4 = true → (0 : Int) ≤ (2 : Int) ∧ (2 : Int) < q33) ∧ (q4 = true → (2 : Nat) < List.length q0) ∧ (bif bif bif bif bif bif bif bif bif bif bif bif chgE aR q1 (0 : Int) (1 : Int) (0 : Int) trimL + chgE aR q1 (2 : Int) (-1 : Int) (1 : Int) rollL + partE aR q1 (5 : Int) + convE aR q1 [(1 : Int), (1 : Int)] + chkEds aR q1 + chkText q28 == (0 : Int) then chgE aR q1 (2 : Int) (1 : Int) (0 : Int) slipL == (14 : Int) else false then partE aR q1 (3 : Int) == (22 : Int) else false then q29 == (3 : Int) else false then q16.2.2.1 == (15 : Int) else false then decide q2 else false then q27 == (2 : Int) else false then decide q14 else false then decide q24 else false then q33 == (3 : Int) else false then eqT q23 (q12.1, q12.2.1, q12.2.2.1, q12.2.2.2) ((0 : Int), (0 : Int), (1 : Int), (1 : Int)) else false then eqT q23 (q26.1, q26.2.1, q26.2.2.1, q26.2.2.2) ((0 : Int), (0 : Int), (1 : Int), (3 : Int)) else false then printN q28 == Array.toList (ByteArray.data { data := #[(101 : UInt8), (100 : UInt8), (105 : UInt8), (116 : UInt8), (32 : UInt8), (97 : UInt8), (32 : UInt8), (49 : UInt8), (49 : UInt8), (32 : UInt8), (49 : UInt8), (52 : UInt8), (32 : UInt8), (48 : UInt8), (32 : UInt8), (48 : UInt8), (10 : UInt8), (101 : UInt8), (100 : UInt8), (105 : UInt8), (116 : UInt8), (32 : UInt8), (98 : UInt8), (32 : UInt8), (53 : UInt8), (48 : UInt8), (32 : UInt8), (53 : UInt8), (51 : UInt8), (32 : UInt8), (49 : UInt8), (32 : UInt8), (45 : UInt8), (49 : UInt8), (10 : UInt8), (101 : UInt8), (100 : UInt8), (105 : UInt8), (116 : UInt8), (32 : UInt8), (97 : UInt8), (32 : UInt8), (49 : UInt8), (53 : UInt8), (32 : UInt8), (49 : UInt8), (54 : UInt8), (32 : UInt8), (48 : UInt8), (32 : UInt8), (48 : UInt8), (10 : UInt8)] }) else false) = true ∧ True))) := by
  kernel_rfl
end Go.Sx

/- Contracts. -/
namespace Go.Sx
open U
theorem fn97   : Fn P1 gl1 97 [] (.val (.one (.sl rlT aR))) false := by
  refine fn_of false [] [] h0 0 Proofs.Tryz.f97 trivial trivial (by kernel_rfl) rfl (by kernel_rfl) rfl rfl rfl ?_
  rw [vc97 ()]
  try simp only [-eq_self]
  exact ⟨(hide_eq bothL).symm, trivial⟩
theorem so97_ : SpecOk P1 gl1 97 sp97 := by
  intro vs ps r h _
  simp only [sp97] at h
  split at h
  · cases h; exact fn97  
  · cases h
theorem so97 : Sp1 97 sp97 := ⟨so97_, Proofs.Tryz.f97, _, by kernel_rfl, rfl, by kernel_rfl⟩
theorem fn98 (n : Int)  : Fn P1 gl1 98 [iV n] (.val (.one (.sl edT (aL n)))) false := by
  refine fn_of false [] [] h0 0 Proofs.Tryz.f98 trivial trivial (by kernel_rfl) rfl (by kernel_rfl) rfl rfl rfl ?_
  rw [vc98]
  try simp only [-eq_self]
  exact ⟨(hide_eq (editsL n)).symm, trivial⟩
theorem so98_ : SpecOk P1 gl1 98 sp98 := by
  intro vs ps r h _
  simp only [sp98] at h
  split at h
  · cases h; exact fn98 _ 
  · cases h
theorem so98 : Sp1 98 sp98 := ⟨so98_, Proofs.Tryz.f98, _, by kernel_rfl, rfl, by kernel_rfl⟩
theorem fn96   : Fn P1 gl1 96 [] (.val (sV aS)) true := by
  refine Fn.flat ?_ rfl
  refine fn_of false [] [] h0 0 Proofs.Tryz.f96 trivial trivial (by kernel_rfl) rfl (by kernel_rfl) rfl rfl rfl ?_
  rw [vc96 ()]
  try simp only [-eq_self]
  exact ⟨by decide, (hide_eq strmL).symm, trivial⟩
theorem so96_ : SpecOk P1 gl1 96 sp96 := by
  intro vs ps r h _
  simp only [sp96] at h
  split at h
  · cases h; exact fn96  
  · cases h
theorem so96 : Sp1 96 sp96 := ⟨so96_, Proofs.Tryz.f96, _, by kernel_rfl, rfl, by kernel_rfl⟩
theorem fn18   : Fn P1 gl1 18 [] (.val (bV true)) true := by
  refine Fn.flat ?_ rfl
  refine fn_of false [(19, sp19), (29, sp29), (27, sp27), (43, sp43), (33, sp33), (37, sp37), (35, sp35), (36, sp36), (69, sp69), (49, sp49), (50, sp50), (51, sp51), (84, sp84), (58, sp58), (60, sp60), (90, sp90), (97, sp97), (98, sp98), (96, sp96), (48, sp48), (74, sp74), (57, sp57), (32, sp32), (47, sp47), (73, sp73), (56, sp56), (44, sp44), (66, sp66)] [] h0 0 Proofs.Tryz.f18 ⟨so19, so29, so27, so43, so33, so37, so35, so36, so69, so49, so50, so51, so84, so58, so60, so90, so97, so98, so96, so48, so74, so57, so32, so47, so73, so56, so44, so66, trivial⟩ trivial (by kernel_rfl) rfl (by kernel_rfl) rfl rfl rfl ?_
  rw [vc18 ()]
  try simp only [splitB_iff, -eq_self]
  have hR : aR = bothL := hide_eq bothL
  have hL : aL 51 = editsL 51 := hide_eq (editsL 51)
  have hM : aL 50 = editsL 50 := hide_eq (editsL 50)
  have hS : aS = strmL := hide_eq strmL
  have s1 : strNs (List.take 19 aS) = [82, 69, 69, 76, 1, 99, 0, 0, 0, 1, 70, 1, 2, 9, 126, 69, 0, 1, 1] := by rw [hS]; decide +kernel
  have s2 : rebuilt [82, 69, 69, 76, 1, 99, 0, 0, 0, 1, 70, 1, 2, 9, 126, 69, 0, 1, 1] = (([99], 1, [258]), false, 0) := by decide +kernel
  have s3 : (readS [82, 69, 69, 76, 1, 99, 0, 0, 0, 1, 70, 1, 2, 9, 126, 69, 0, 1, 1]).2 = 28 := by decide +kernel
  have s4 : bytesOf (stream [99] 1 [258]) = aS := by rw [hS]; decide +kernel
  have s5 : Bytes [82, 69, 69, 76, 1, 99, 0, 0, 0, 1, 70, 1, 2, 9, 126, 69, 0, 1, 1] := by unfold Bytes; decide
  have s6 : List.length aS = 20 := by rw [hS]; rfl
  have s7 : ReelOk [99] 1 [258] := checkReel_zero.1 (by decide +kernel)
  have s8 : StOk ((25, false), (0, 0, 0, 23), 0) := chkStZ.1 (by decide +kernel)
  have c1 : chkEds aR (aL 50) = 16 := by rw [hR, hM]; decide +kernel
  have c2 : chkEds aR (aL 51) = 0 := by rw [hR, hL]; decide +kernel
  have c3 : startsN aR (aL 51) = [0, 3, 5] := by rw [hR, hL]; decide +kernel
  have c4 : lenN aR (aL 51) = 6 := by rw [hR, hL]; decide +kernel
  have c5 : playN aR (aL 51) = [100, 200, 300, 225, 60, 500] := by rw [hR, hL]; decide +kernel
  have c6 : confN aR (aL 51) = [[([97], 11, 1, 1)], [([97], 12, 1, 1)], [([97], 13, 1, 1)], [([97], 14, 1, 2), ([98], 51, 1, 2)], [([98], 52, 1, 1)], [([97], 15, 1, 1)]] := by rw [hR, hL]; decide +kernel
  have c7 : soundsN aR (aL 51) = [([97], 11, 1, 1), ([97], 12, 1, 1), ([98], 50, 1, 1), ([98], 51, 1, 1), ([98], 52, 1, 1), ([97], 15, 1, 1)] := by rw [hR, hL]; decide +kernel
  have c8 : needN aR (aL 51) = [([97], 11, 16), ([98], 50, 53)] := by rw [hR, hL]; decide +kernel
  have d1 : chgL aR (aL 51) 0 1 0 trimL = [([97], 11, 15, 0, 0), ([98], 51, 53, 1, -1), ([97], 15, 16, 0, 0)] := by rw [hR, hL]; decide +kernel
  have d2 : chgE aR (aL 51) 0 1 0 trimL = 0 := by rw [hR, hL]; decide +kernel
  have d3 : chgL aR (aL 51) 2 (-1) 1 rollL = [([97], 11, 14, 0, 0), ([98], 51, 52, 1, -1), ([97], 14, 16, 0, 0)] := by rw [hR, hL]; decide +kernel
  have d4 : chgE aR (aL 51) 2 (-1) 1 rollL = 0 := by rw [hR, hL]; decide +kernel
  have d5 : chgE aR (aL 51) 2 1 0 slipL = 14 := by rw [hR, hL]; decide +kernel
  have d6 : partL aR (aL 51) 5 = ([([97], 11, 14, 0, 0), ([98], 51, 53, 1, -1)], [([97], 15, 16, 0, 0)]) := by rw [hR, hL]; exact Prod.ext (by decide +kernel) (by decide +kernel)
  have d7 : partE aR (aL 51) 5 = 0 := by rw [hR, hL]; decide +kernel
  have d8 : partE aR (aL 51) 3 = 22 := by rw [hR, hL]; decide +kernel
  have d9 : convL aR (aL 51) [1, 1] = [[0, 1], [2, 3], [4, 5]] := by rw [hR, hL]; decide +kernel
  have f1 : convE aR (aL 51) [1, 1] = 0 := by rw [hR, hL]; decide +kernel
  have f2 : labsN ((25, false), (0, 0, 0, 23), 0) (ls (aL 51)) = [(0, 0, 0, 23), (0, 0, 1, 1), (0, 0, 1, 3)] := by rw [hL]; decide +kernel
  have f3 : printN (aL 50) = [101, 100, 105, 116, 32, 97, 32, 49, 49, 32, 49, 52, 32, 48, 32, 48, 10, 101, 100, 105, 116, 32, 98, 32, 53, 48, 32, 53, 51, 32, 49, 32, 45, 49, 10, 101, 100, 105, 116, 32, 97, 32, 49, 53, 32, 49, 54, 32, 48, 32, 48, 10] := by rw [hM]; decide +kernel
  have f4 : chkText (aL 50) = 0 := by rw [hM]; decide +kernel
  have g1 : List.length aR = 2 := by rw [hR]; rfl
  have g2 : ∀ r : Rl, r ∈ aR → List.length r.2.2 ≤ 1000000 := by rw [hR]; decide
  have g3 : List.length (aL 51) = 3 := by rw [hL]; rfl
  have g4 : List.length (aL 50) = 3 := by rw [hM]; rfl
  have g5 : ∀ x : Ed, x ∈ aL 50 → (∀ n : Int, n ∈ numsE x → fits .i64 n) ∧ List.length x.1 ≤ 1000 := by rw [hM]; simp only [fits]; decide
  have g6 : ∀ x : List Int, x ∈ [[0, 1], [2, 3], [4, 5]] → List.length x = 2 := by decide
  have k9 : Array.toList (ByteArray.data { data := #[(99 : UInt8)] }) = [99] := rfl
  simp only [s1, s2, s3, s4, s6, c1, c2, c3, c4, c5, c6, c7, c8, d1, d2, d3, d4, d5, d6, d7, d8, d9, f1, f2, f3, f4, g1, g3, g4, if_true]
  simp only [hS, eq_true s5, eq_true s7, eq_true s8, eq_true g2, eq_true g5, eq_true g6]
  simp only [fits]
  repeat' (first | exact trivial | refine And.intro ?_ ?_ | intro _)
  all_goals first | decide +kernel | (rename_i h; exact absurd h (by decide +kernel))
theorem so18_ : SpecOk P1 gl1 18 sp18 := by
  intro vs ps r h _
  simp only [sp18] at h
  split at h
  · cases h; exact fn18  
  · cases h
theorem so18 : Sp1 18 sp18 := ⟨so18_, Proofs.Tryz.f18, _, by kernel_rfl, rfl, by kernel_rfl⟩
end Go.Sx

/- From readings of arguments to pure data. -/
namespace Go.Sx
open Go.RowKit
def WF : (t : Ty) → t.T → Prop
  | .int k, n => (Lit.int k n).wf = true
  | .bool, _ => True
  | .str, l => List.length l ≤ maxLen
  | .flt k, n => (Lit.float k n).wf = true
  | .cpx _, _ => True
  | .sl t, xs => List.length xs ≤ maxLen ∧ ∀ i (h : i < List.length xs), WF t (xs[i]'h)
  | .arr n t, xs => List.length xs = n ∧ ∀ i (h : i < List.length xs), WF t (xs[i]'h)
  | .pair a b, x => WF a x.1 ∧ WF b x.2
mutual
def rdChk (P : Program) : Nat → TypeId → Ty → Bool
  | 0, _, _ => false
  | n + 1, t, u => match P.underlying t with
      | some (.int k) => decide (u = .int k)
      | some .bool => decide (u = .bool)
      | some .string => decide (u = .str)
      | some (.float k) => decide (u = .flt k)
      | some (.slice e) => match u with
        | .sl v => decide (P.cellsOf e = v.sz) && decide (v.sz ≠ 0) && rdChk P n e v
        | _ => false
      | some (.array m e) => match u with
        | .arr m' v => decide (m = m') && decide (P.cellsOf e = v.sz) && decide (P.cellsOf t = m * v.sz) && rdChk P n e v
        | _ => false
      | some (.struct fs) => decide (P.cellsOf t = u.sz) && rdFs P n 0 fs.toList u
      | _ => false
def rdFs (P : Program) : Nat → Nat → List Field → Ty → Bool
  | 0, _, _, _ => false
  | n + 1, off, [f], u => decide (f.offset = off) && decide (P.cellsOf f.type = u.sz) && rdChk P n f.type u
  | n + 1, off, f :: r, .pair a b => decide (f.offset = off) && decide (P.cellsOf f.type = a.sz) && rdChk P n f.type a && rdFs P n (off + a.sz) r b
  | _, _, _, _ => false
end
def HW (w : World) : IH := fun b => w.heap[b]?
theorem addp (b off i : Nat) : (Addr.mk b off none).add i = ⟨b, off + i, none⟩ := by
  unfold Addr.add; split <;> simp_all
theorem cells_seg {w : World} {base : Nat} {a : Addr} {n : Nat} {cs : List Value} (h : w.cells? base a n = some cs) (hn : 0 < n) :
    ∃ b off c e fr, a = ⟨b, off, none⟩ ∧ w.heap[b]? = some (.cells c e fr) ∧ seg c off n = cs := by
  obtain ⟨_, hl, hc⟩ := World.cells?_some h
  obtain ⟨b, off, sp⟩ := a
  have h0 := hc 0 hn
  rw [List.getElem?_eq_getElem (by omega)] at h0
  have hs : sp = none := by
    have := World.cell?_spot h0
    simp only [Addr.add] at this
    cases sp with
    | none => rfl
    | some x => simp at this
  subst hs
  have hb : ∃ c e fr, w.heap[b]? = some (.cells c e fr) := by
    simp only [World.cell?, Addr.add] at h0
    split at h0
    · exact ⟨_, _, _, ‹_›⟩
    · cases h0
  obtain ⟨c, e, fr, hb⟩ := hb
  refine ⟨b, off, c, e, fr, rfl, hb, ?_⟩
  have hi : ∀ i, i < n → c[off + i]? = cs[i]? := by
    intro i hi
    have := hc i hi
    rw [addp] at this
    simpa [World.cell?, hb] using this
  apply List.ext_getElem?
  intro i
  simp only [seg, List.getElem?_take, List.getElem?_drop]
  split
  · rename_i h1
    rw [← hi i h1]; simp
  · rename_i h1
    rw [List.getElem?_eq_none (by omega)]
theorem choose_list {α : Type} (n : Nat) (p : Nat → α → Prop) (h : ∀ i, i < n → ∃ y, p i y) : ∃ ys : List α, ys.length = n ∧ ∀ i (hi : i < ys.length), p i (ys[i]'hi) := by
  induction n with
  | zero => exact ⟨[], rfl, fun i hi => by simp at hi⟩
  | succ n ih =>
    obtain ⟨ys, h1, h2⟩ := ih fun i hi => h i (by omega)
    obtain ⟨y, hy⟩ := h n (by omega)
    refine ⟨ys ++ [y], by simp [h1], fun i hi => ?_⟩
    by_cases hlt : i < ys.length
    · rw [List.getElem_append_left hlt]; exact h2 i hlt
    · simp at hi
      have : i = ys.length := by omega
      subst this
      simp
      rw [h1]; exact hy
theorem trod_rd_all {X : Type} {enc : TypeId × Value → X} {P : Program} {w : World} {base : Nat} {spare : Nat → Bool} {held : Bool} : ∀ (n : Nat),
    (∀ (t : TypeId) (u : Ty) (fuel : Nat) (cs : List Value) (x : DataW X × List MemPlace), rdChk P n t u = true → DataW.trod enc P w base spare held fuel t cs = some x → ∃ y : u.T, Rd (HW w) u y cs ∧ WF u y) ∧
    (∀ (off : Nat) (fs : List Field) (u : Ty) (fuel : Nat) (cs : List Value), rdFs P n off fs u = true → cs.length = off + u.sz →
      (∀ f ∈ fs, ∃ x, DataW.trod enc P w base spare held fuel f.type ((cs.drop f.offset).take (P.cellsOf f.type)) = some x) → ∃ y : u.T, Rd (HW w) u y (cs.drop off) ∧ WF u y) := by
  intro n
  induction n with
  | zero => exact ⟨fun _ _ _ _ _ h => by simp [rdChk] at h, fun _ _ _ _ _ h => by simp [rdFs] at h⟩
  | succ n ih =>
    refine ⟨?_, ?_⟩
    · intro t u fuel cs x h hx
      unfold rdChk at h
      split at h
      · rename_i k hu
        simp at h; subst h
        obtain ⟨m, rfl, _, hw⟩ := DataW.trod_int hu hx
        exact ⟨m, rfl, hw⟩
      · rename_i hu
        simp at h; subst h
        obtain ⟨m, rfl, _⟩ := DataW.trod_bool hu hx
        exact ⟨m, rfl, trivial⟩
      · rename_i hu
        simp at h; subst h
        obtain ⟨s, rfl, _, hw⟩ := DataW.trod_string hu hx
        refine ⟨s.data.toList, rfl, ?_⟩
        show s.data.toList.length ≤ maxLen
        rw [Array.length_toList]; exact hw
      · rename_i k hu
        simp at h; subst h
        cases fuel with
        | zero => simp [DataW.trod] at hx
        | succ m =>
          unfold DataW.trod at hx
          rw [hu] at hx
          have : ∃ b, cs = [.float k b] ∧ (Lit.float k b).wf = true := by split at hx <;> simp_all
          obtain ⟨b, rfl, hw⟩ := this
          exact ⟨b, rfl, hw⟩
      · rename_i e hu
        split at h
        · rename_i v
          simp only [Bool.and_eq_true, decide_eq_true_eq] at h
          obtain ⟨⟨h1, h2⟩, h3⟩ := h
          rcases DataW.trod_slice hu hx with ⟨rfl, _⟩ | ⟨a, len, cap, elems, rest, m, _, rfl, _, _, hlc, hm, hel, hei, _, _⟩
          · exact ⟨[], ⟨none, 0, rfl, Nat.le_refl _, .inl rfl⟩, by simp [WF]⟩
          · have hone : ∀ i, i < len → ∃ cs', w.cells? base (a.add (i * P.cellsOf e)) (P.cellsOf e) = some cs' ∧ ∃ y : v.T, Rd (HW w) v y cs' ∧ WF v y := by
              intro i hi
              have := hei i hi
              rw [List.getElem?_eq_getElem (by omega)] at this
              obtain ⟨cs', hc1, hc2⟩ := Option.bind_eq_some_iff.1 this
              exact ⟨cs', hc1, ih.1 _ _ _ _ _ h3 hc2⟩
            obtain ⟨ys, hy1, hy2⟩ := choose_list len (fun i (y : v.T) => ∃ cs', w.cells? base (a.add (i * P.cellsOf e)) (P.cellsOf e) = some cs' ∧ Rd (HW w) v y cs' ∧ WF v y)
              (fun i hi => by obtain ⟨cs', h1, y, h2⟩ := hone i hi; exact ⟨y, cs', h1, h2⟩)
            refine ⟨ys, ⟨some a, cap, by rw [hy1], by rw [hy1]; exact hlc, ?_⟩, by rw [hy1]; omega, fun i hi => ?_⟩
            · rcases Nat.eq_zero_or_pos ys.length with h0 | h0
              · exact .inl h0
              · right
                obtain ⟨cs0, hc0, _⟩ := hy2 0 h0
                obtain ⟨b, off, c, e', fr, ha, hb, _⟩ := cells_seg hc0 (by omega)
                have ha' : a = ⟨b, off, none⟩ := by rw [← ha]; simp [Addr.add]
                refine ⟨b, off, c, e', fr, by rw [ha'], hb, fun i hi => ?_⟩
                obtain ⟨cs', hc', hr, _⟩ := hy2 i hi
                obtain ⟨b', off', c', e'', fr', hab, hb', hsg⟩ := cells_seg hc' (by omega)
                rw [ha', addp] at hab
                simp only [Addr.mk.injEq] at hab
                obtain ⟨rfl, rfl, _⟩ := hab
                rw [hb] at hb'
                cases hb'
                rw [h1] at hsg
                rw [hsg]; exact hr
            · obtain ⟨_, _, _, hwf⟩ := hy2 i hi
              exact hwf
        · cases h
      · rename_i m e hu
        split at h
        · rename_i m' v
          simp only [Bool.and_eq_true, decide_eq_true_eq] at h
          obtain ⟨⟨⟨rfl, h1⟩, h2⟩, h3⟩ := h
          obtain ⟨xs, k, _, _, hl, hxl, hxi⟩ := DataW.trod_array hu hx
          obtain ⟨ys, hy1, hy2⟩ := choose_list m (fun i (y : v.T) => Rd (HW w) v y ((cs.drop (i * P.cellsOf e)).take (P.cellsOf e)) ∧ WF v y)
            (fun i hi => by
              have := hxi i hi
              rw [List.getElem?_eq_getElem (by omega)] at this
              exact ih.1 _ _ _ _ _ h3 this)
          refine ⟨ys, ⟨hy1, by rw [hl, h2], fun i hi => ?_⟩, hy1, fun i hi => (hy2 i hi).2⟩
          have := (hy2 i hi).1
          rw [h1] at this
          exact this
        · cases h
      · rename_i fs hu
        simp only [Bool.and_eq_true, decide_eq_true_eq] at h
        obtain ⟨xs, k, _, _, hl, hxl, hxi⟩ := DataW.trod_struct hu hx
        have := ih.2 0 fs.toList u k cs h.2 (by rw [hl, h.1]; omega) (fun f hf => by
          obtain ⟨i, hi, rfl⟩ := List.mem_iff_getElem.1 hf
          simp at hi
          have := hxi i fs[i] (by simp [hi])
          rw [List.getElem?_eq_getElem (by omega)] at this
          exact ⟨_, by simpa using this⟩)
        simpa using this
      · cases h
    · intro off fs u fuel cs h hl hf
      match fs, u, h, hl, hf with
      | [], u, h, _, _ => simp [rdFs] at h
      | [f], u, h, hl, hf =>
        simp only [rdFs, Bool.and_eq_true, decide_eq_true_eq] at h
        obtain ⟨⟨rfl, h1⟩, h2⟩ := h
        obtain ⟨x, hx⟩ := hf f (by simp)
        rw [h1, List.take_of_length_le (by simp; omega)] at hx
        exact ih.1 _ _ _ _ _ h2 hx
      | f :: g :: r, .pair a b, h, hl, hf =>
        simp only [rdFs, Bool.and_eq_true, decide_eq_true_eq] at h
        obtain ⟨⟨⟨rfl, h1⟩, h2⟩, h3⟩ := h
        simp only [Ty.sz] at hl
        obtain ⟨x, hx⟩ := hf f (by simp)
        rw [h1] at hx
        obtain ⟨y1, hy1, hw1⟩ := ih.1 _ _ _ _ _ h2 hx
        obtain ⟨y2, hy2, hw2⟩ := ih.2 _ _ _ fuel cs h3 (by omega) (fun g' hg => hf g' (List.mem_cons_of_mem _ hg))
        refine ⟨(y1, y2), ⟨hy1, ?_⟩, hw1, hw2⟩
        rw [List.drop_drop]; exact hy2
      | _ :: _ :: _, .int _, h, _, _ => simp [rdFs] at h
      | _ :: _ :: _, .bool, h, _, _ => simp [rdFs] at h
      | _ :: _ :: _, .str, h, _, _ => simp [rdFs] at h
      | _ :: _ :: _, .flt _, h, _, _ => simp [rdFs] at h
      | _ :: _ :: _, .cpx _, h, _, _ => simp [rdFs] at h
      | _ :: _ :: _, .sl _, h, _, _ => simp [rdFs] at h
      | _ :: _ :: _, .arr _ _, h, _, _ => simp [rdFs] at h
theorem trod_rd {X : Type} {enc : TypeId × Value → X} {P : Program} {w : World} {base : Nat} {spare : Nat → Bool} {held : Bool} (n : Nat)
    {t : TypeId} {u : Ty} (h : rdChk P n t u = true) {fuel : Nat} {cs : List Value} {x : DataW X × List MemPlace} (hx : DataW.trod enc P w base spare held fuel t cs = some x) : ∃ y : u.T, Rd (HW w) u y cs ∧ WF u y :=
  (trod_rd_all n).1 t u fuel cs x h hx
end Go.Sx

/- From readings of arguments to pure data: arguments, variables, what is left behind. -/
namespace Go.Sx
open Go.RowKit Go.ChangeShapes Go.WideShapes Go.ChangeAt
section
variable {X : Type} {enc : TypeId × Value → X} {P : Program} {w : World} {base base' : Nat} {spare : Nat → Bool} {held : Bool} {n : Nat} {t : TypeId} {u : Ty} {v : Value} {d : DataW X} {ps : List MemPlace}
theorem cells_one (hv : ∀ cs, v ≠ .agg cs) : v.cells.toList = [v] := by
  cases v <;> simp_all [Value.cells]
theorem okWide_one (ha : aggOf P t = false) (hok : Value.okWide P w .any base' t v) : ∀ cs, v ≠ .agg cs := by
  intro cs hv
  subst hv
  unfold aggOf at ha
  unfold Value.okWide at hok
  split at hok
  · rename_i h; rw [h] at ha; cases ha
  · rename_i h; rw [h] at ha; cases ha
  · unfold Cell.okWide at hok
    split at hok <;> try (rename_i h; cases h; done)
    all_goals first | (rename_i h _; cases h; done) | skip
    all_goals first | (unfold Cell.ok at hok; split at hok <;> first | (exact hok) | (rename_i h; cases h; done) | (rename_i h _; cases h; done) | simp_all; done) | simp_all
theorem arg_one (h : rdChk P n t u = true) (ha : aggOf P t = false) (hok : Value.okWide P w .any base' t v) (hT : DataW.Trod enc P w base spare held t v d ps) : ∃ y : u.T, Rd (HW w) u y [v] ∧ WF u y := by
  obtain ⟨fuel, hT⟩ := hT
  rw [cells_one (okWide_one ha hok)] at hT
  exact trod_rd n h hT
theorem arg_agg (h : rdChk P n t u = true) (ha : aggOf P t = true) (hok : Value.okWide P w .any base' t v) (hT : DataW.Trod enc P w base spare held t v d ps) : ∃ (vs : List Value) (y : u.T), v = .agg ⟨vs⟩ ∧ Rd (HW w) u y vs ∧ WF u y := by
  obtain ⟨fuel, hT⟩ := hT
  have hv : ∃ cs, v = .agg cs := by
    unfold aggOf at ha
    unfold Value.okWide at hok
    split at hok
    · exact ⟨_, hok.choose_spec.1⟩
    · exact ⟨_, hok.choose_spec.1⟩
    · rename_i h1 h2
      split at ha
      · exact absurd ‹_› (h1 _)
      · exact absurd ‹_› (h2 _ _)
      · cases ha
  obtain ⟨cs, rfl⟩ := hv
  obtain ⟨y, h1, h2⟩ := trod_rd n h hT
  exact ⟨cs.toList, y, rfl, h1, h2⟩
end
theorem trodAll_below {X : Type} {enc : TypeId × Value → X} {P : Program} (hl : laidOutB P = true) {W W' : World} (hb : Below W.heap.size W W') : ∀ {ts : List TypeId} {vs : List Value} {ds : List (DataW X)} {ps : List MemPlace},
    (ts.all fun t => P.readableRec t && decide (t < P.types.size)) = true → DataW.TrodAll enc P W 0 (fun _ => true) true ts vs ds ps → (∀ x ∈ ps, x.block < W.heap.size) → DataW.TrodAll enc P W' 0 (fun b => decide (b < W.heap.size)) true ts vs ds ps
  | [], vs, ds, ps, _, h, _ => by
    cases vs <;> cases ds <;> simp_all [DataW.TrodAll]
  | t :: ts, vs, ds, ps, ht, h, hlt => by
    obtain ⟨v, vs', d, ds', p, q, rfl, rfl, rfl, h1, h2⟩ := trodAll_cons h
    simp only [List.all_cons, Bool.and_eq_true, decide_eq_true_eq] at ht
    refine trodAll_cons_mk (Below.trod hl ht.1.1 ht.1.2 h1 hb fun x hx => hlt x (by simp [hx])) (trodAll_below hl hb ht.2 h2 fun x hx => hlt x (by simp [hx]))
theorem law_post {X : Type} {enc : TypeId × Value → X} {P : Program} (hl : laidOutB P = true) {s : ChangeSpec} {f : Func} {tb : TypeId} {W W' : World} {args : Array Value} {ds gs : List (DataW X)} {before : List MemPlace} {r : Value}
    (hvars : s.vars = []) (hts : (f.params.toList.all fun t => P.readableRec t && decide (t < P.types.size)) = true) (hres : f.resultTypes = #[tb]) (htb : P.underlying tb = some .bool)
    (hfn : s.fn X ds = { results := [.lit (.bool true)], args := ds })
    (hW : DataW.Whole enc P f.params.toList s.vars false W args.toList ds gs before) (hb : Below W.heap.size W W') (hr : r = .bool true) :
    s.post enc P f false true false false W args r W' := by
  subst hr
  have hW' := hW
  obtain ⟨p, q, hA, hV, rfl, hfz, hnd⟩ := hW
  rw [hvars] at hV
  obtain ⟨rfl, rfl⟩ := trodVars_none hV
  have hlt : ∀ x ∈ p, x.block < W.heap.size := fun x hx => hW'.lt x (by simp [hx])
  refine ⟨ds, [], p ++ [], [], p, [], hW', ?_, ?_, ?_, hb.frame _, fun h => by cases h⟩
  · rw [List.append_nil, hfn, hres]
    exact trodAll_cons_mk (shut_bool htb _) trodAll_mk0
  · rw [List.append_nil, hfn]
    exact trodAll_below hl hb hts hA hlt
  · rw [List.append_nil, hfn, hvars]
    rfl
theorem law_calls {X : Type} {enc : TypeId × Value → X} {P : Program} (hl : laidOutB P = true) {s : ChangeSpec} {f : Func} {tb : TypeId} {fid : FuncId} {W : World} {args : Array Value} {ds gs : List (DataW X)} {before : List MemPlace}
    (hvars : s.vars = []) (hts : (f.params.toList.all fun t => P.readableRec t && decide (t < P.types.size)) = true) (hres : f.resultTypes = #[tb]) (htb : P.underlying tb = some .bool)
    (hfn : s.fn X ds = { results := [.lit (.bool true)], args := ds })
    (hW : DataW.Whole enc P f.params.toList s.vars false W args.toList ds gs before)
    {gl : Nat → Option ((t : Ty) × t.T)} {avs : List V} (hF : Fn P gl fid avs (.val (.one (.bool true))) true) (hg : GlobOk gl (HW W)) (ha : DenVs ρ0 (HW W) avs args.toList) :
    Calls P fid args W fun e W' => ∃ v, e = .returned v ∧ s.post enc P f false true false false W args v W' := by
  refine (hF W (HW W) args.toList (fun b o h => h) hg ha).mono fun e W' h => ?_
  obtain ⟨v, H', rfl, hb, _, _, hd⟩ := h
  exact ⟨v, rfl, law_post hl hvars hts hres htb hfn hW hb hd.2⟩
theorem glob_tab {P : Program} {W : World} {name : String} {k : IntKind} {zs : List Int} {g : Nat} (h : Lib.TabIs P W name k zs) (hg : P.globalNamed name = some g) :
    ∃ c e fr, HW W g = some (.cells c e fr) ∧ Rd (HW W) (.arr zs.length (.int k)) zs (seg c 0 (zs.length * 1)) ∧ c.size = zs.length * 1 := by
  unfold Lib.TabIs at h
  simp only [World.var?, hg, Option.bind_some] at h
  split at h
  · rename_i cs e fr hh
    cases h
    refine ⟨_, _, _, hh, ?_, by simp⟩
    have e1 : seg (zs.map fun z => Value.int k z).toArray 0 (zs.length * 1) = zs.map fun z => Value.int k z := by
      simp [seg, List.take_of_length_le]
    rw [e1]
    refine ⟨rfl, by simp [Ty.sz], fun i hi => ?_⟩
    show List.take 1 (List.drop (i * 1) (List.map (fun z => Value.int k z) zs)) = [Value.int k zs[i]]
    simp only [Nat.mul_one]
    rw [List.drop_eq_getElem_cons (by simpa using hi)]
    simp
  · cases h
end Go.Sx

/- What a row's list of variables gives, wherever a variable stands on it. -/
namespace Go.Sx
open Go.RowKit
theorem laid_at {P : Program} {W : World} {name : String} {d : DataW Unit} {l : List (String × DataW Unit)} (h : laidMet P l W) (hm : (name, d) ∈ l) :
    ∃ g t cs fuel p, P.globalNamed name = some g ∧ (P.globals[g]?).map (·.type) = some t ∧ W.var? P name = some cs ∧ DataW.trod (fun _ => ()) P W 0 (fun _ => true) false fuel t cs.toList = some (d, p) := by
  obtain ⟨ps, h, hrest⟩ := h
  clear hrest
  induction l generalizing ps with
  | nil => cases hm
  | cons x r ih =>
    obtain ⟨n, e⟩ := x
    obtain ⟨g, t, cs, fuel, p, q, h1, h2, h3, h4, h5, h6⟩ := h
    rcases List.mem_cons.1 hm with e | hm
    · cases e; exact ⟨g, t, cs, fuel, p, h1, h2, h3, h4⟩
    · exact ih hm _ h5
theorem tab_at {P : Program} {W : World} {name : String} {k : IntKind} {zs : List Int} {l : List (String × DataW Unit)} {g : Nat} {t e : TypeId} {n : Nat} (hm : (name, Lib.tabData k zs) ∈ l)
    (hg : P.globalNamed name = some g) (hty : (P.globals[g]?).map (·.type) = some t) (ht : P.underlying t = some (.array n e)) (he : P.underlying e = some (.int k)) (hce : P.cellsOf e = 1) (hct : P.cellsOf t = n)
    (h : laidMet P l W) : Lib.TabIs P W name k zs := by
  obtain ⟨g', t', cs, fuel, p, h1, h2, h3, h4⟩ := laid_at h hm
  obtain rfl := Option.some.inj (hg.symm.trans h1)
  obtain rfl := Option.some.inj (hty.symm.trans h2)
  unfold Lib.TabIs
  rw [h3, ← Lib.cells_of_tab ht he hce hct h4]
theorem var_heap {P : Program} {W : World} {name : String} {g : Nat} {cs : Array Value} (hg : P.globalNamed name = some g) (h : W.var? P name = some cs) : ∃ e fr, W.heap[g]? = some (.cells cs e fr) := by
  simp only [World.var?, hg, Option.bind_some] at h
  split at h
  · rename_i cs' e fr hh
    cases h
    exact ⟨e, fr, hh⟩
  · cases h
theorem pair_at {P : Program} {W : World} {name : String} {k k' : IntKind} {a b : Int} {l : List (String × DataW Unit)} {g : Nat} {t : TypeId} {fs : Array Field} {f0 f1 : Field} (hm : (name, .agg [.lit (.int k a), .lit (.int k' b)]) ∈ l)
    (hg : P.globalNamed name = some g) (hty : (P.globals[g]?).map (·.type) = some t) (ht : P.underlying t = some (.struct fs)) (hfs : fs.toList = [f0, f1]) (ho0 : f0.offset = 0) (ho1 : f1.offset = 1)
    (hc0 : P.cellsOf f0.type = 1) (hc1 : P.cellsOf f1.type = 1) (hu0 : P.underlying f0.type = some (.int k)) (hu1 : P.underlying f1.type = some (.int k')) (hct : P.cellsOf t = 2)
    (h : laidMet P l W) : ∃ c e fr, HW W g = some (.cells c e fr) ∧ Rd (HW W) (.pair (.int k) (.int k')) (a, b) (seg c 0 2) ∧ c.size = 2 := by
  obtain ⟨g', t', cs, fuel, p, h1, h2, h3, h4⟩ := laid_at h hm
  obtain rfl := Option.some.inj (hg.symm.trans h1)
  obtain rfl := Option.some.inj (hty.symm.trans h2)
  obtain ⟨e, fr, hh⟩ := var_heap hg h3
  refine ⟨cs, e, fr, hh, ?_⟩
  have hcs : cs.toList = [.int k a, .int k' b] := by
    cases fuel with
    | zero => simp [DataW.trod] at h4
    | succ fuel =>
      simp only [DataW.trod, ht, hct, hfs, hc0, hc1, ho0, ho1, List.mapM_cons, List.mapM_nil] at h4
      split at h4
      · rename_i hl
        obtain ⟨xs, hx1, hx2⟩ := Option.map_eq_some_iff.1 h4
        simp only [Option.bind_eq_bind, Option.bind_eq_some_iff, Option.pure_def, Option.some.injEq] at hx1
        obtain ⟨y0, hy0, r, ⟨y1, hy1, r2, rfl, rfl⟩, rfl⟩ := hx1
        obtain ⟨m0, e0, hz0, _⟩ := DataW.trod_int hu0 hy0
        obtain ⟨m1, e1, hz1, _⟩ := DataW.trod_int hu1 hy1
        subst hz0 hz1
        simp only [List.map_cons, List.map_nil, Prod.mk.injEq, DataW.agg.injEq, List.cons.injEq, DataW.lit.injEq, Lit.int.injEq, true_and, and_true] at hx2
        obtain ⟨⟨rfl, rfl⟩, _⟩ := hx2
        match hq : cs.toList, hl with
        | [u, v], _ =>
          rw [hq] at e0 e1
          simp at e0 e1
          rw [e0, e1]
      · cases h4
  have hs : seg cs 0 2 = [.int k a, .int k' b] := by unfold seg; rw [hcs]; rfl
  rw [hs]
  exact ⟨⟨rfl, rfl⟩, by rw [← Array.length_toList, hcs]; rfl⟩
def intB (P : Program) (t : TypeId) (k : IntKind) : Bool := match P.underlying t with
  | some (.int q) => decide (q = k)
  | _ => false
theorem intB_ok {P : Program} {t : TypeId} {k : IntKind} (h : intB P t k = true) : P.underlying t = some (.int k) := by
  unfold intB at h
  split at h
  · rename_i q hq
    rw [hq, of_decide_eq_true h]
  · cases h
def pairB (P : Program) (t : TypeId) (k k' : IntKind) : Bool := match P.underlying t with
  | some (.struct fs) => match fs.toList with
    | [f0, f1] => decide (f0.offset = 0) && decide (f1.offset = 1) && decide (P.cellsOf f0.type = 1) && decide (P.cellsOf f1.type = 1) && intB P f0.type k && intB P f1.type k' && decide (P.cellsOf t = 2)
    | _ => false
  | _ => false
theorem pair_at' {P : Program} {W : World} {name : String} {k k' : IntKind} {a b : Int} {l : List (String × DataW Unit)} {g : Nat} {t : TypeId} (hm : (name, .agg [.lit (.int k a), .lit (.int k' b)]) ∈ l)
    (hg : P.globalNamed name = some g) (hty : (P.globals[g]?).map (·.type) = some t) (hc : pairB P t k k' = true) (h : laidMet P l W) :
    ∃ c e fr, HW W g = some (.cells c e fr) ∧ Rd (HW W) (.pair (.int k) (.int k')) (a, b) (seg c 0 2) ∧ c.size = 2 := by
  unfold pairB at hc
  split at hc
  · rename_i fs hu
    split at hc
    · rename_i f0 f1 hfs
      simp only [Bool.and_eq_true, decide_eq_true_eq] at hc
      obtain ⟨⟨⟨⟨⟨⟨h1, h2⟩, h3⟩, h4⟩, h5⟩, h6⟩, h7⟩ := hc
      exact pair_at hm hg hty hu hfs h1 h2 h3 h4 (intB_ok h5) (intB_ok h6) h7 h
    · cases hc
  · cases hc
theorem rd_pair {H : IH} {a b : Ty} {x : (Ty.pair a b).T} {cs : List Value} (h : Rd H (.pair a b) x cs) : ∃ c1 c2, cs = c1 ++ c2 ∧ Rd H a x.1 c1 ∧ Rd H b x.2 c2 :=
  ⟨_, _, (List.take_append_drop a.sz cs).symm, h.1, h.2⟩
theorem wf_i64 {n : Int} (h : (Lit.int .i64 n).wf = true) : fits .i64 n := by
  simp [Lit.wf, IntKind.min, IntKind.max, IntKind.signed, IntKind.bits] at h
  simp only [fits]
  omega
theorem wf_i8 {n : Int} (h : (Lit.int .i8 n).wf = true) : fits .i8 n := by
  simp [Lit.wf, IntKind.min, IntKind.max, IntKind.signed, IntKind.bits] at h
  simp only [fits]
  omega
theorem wf_u8 {n : Int} (h : (Lit.int .u8 n).wf = true) : fits .u8 n := by
  simp [Lit.wf, IntKind.min, IntKind.max, IntKind.signed, IntKind.bits] at h
  simp only [fits]
  omega
theorem wf_mem {t : Ty} {xs : List t.T} (h : WF (.sl t) xs) : ∀ x ∈ xs, WF t x := by
  intro x hx
  obtain ⟨i, hi, rfl⟩ := List.mem_iff_getElem.1 hx
  exact h.2 i hi
end Go.Sx

/- Facts of the program that every row asks. -/
namespace Go.Sx
theorem j3a : laidOutB Proofs.Tryz.prog = true := by kernel_rfl
theorem j3b : mapsRowed Proofs.Tryz.prog = true := by kernel_rfl
theorem j3c : Proofs.Tryz.prog.stopsHeard = true := by kernel_rfl
theorem j3d : Proofs.Tryz.prog.mayEnter = true := by kernel_rfl
end Go.Sx

/- Results that are the caller's own, told as memory that stays. -/
namespace Go.Sx
def stayV : V → V
  | .one (.frs t xs) => .one (.sl t xs)
  | x => x
def staySV : SV → SV
  | .val x => .val (stayV x)
  | .tup xs => .tup (xs.map stayV)
def FSpec.frz (sp : FSpec) : FSpec := ⟨fun vs => match sp.run vs with
  | some (ps, r) => some (ps, staySV r)
  | none => none, false⟩
theorem stayV_den {w : World} {B : Nat} {H H2 : IH} (hh : HLe H H2) (hn : ∀ b o, B ≤ b → w.heap[b]? = some o → H2 b = some o) {x : V} {v : Value} (h : DenRV w B H x v) : DenRV w B H2 (stayV x) v := by
  have other : ∀ y : V, pureV y = true ∧ DenV ρ0 H y v → pureV y = true ∧ DenV ρ0 H2 y v := fun y hy => ⟨hy.1, DenV.mono (REq.refl 0 ρ0) hh (pureV_lt hy.1 0) hy.2⟩
  cases x with
  | agg cs => exact other _ h
  | one c =>
    cases c with
    | frs t xs =>
      have ho : OwnRow w B H v t xs := h
      show pureV (.one (.sl t xs)) = true ∧ Rd H2 (.sl t) xs [v]
      refine ⟨rfl, ?_⟩
      rcases ho with ⟨rfl, rfl⟩ | ⟨g, cap, cur, e, rfl, h2, _, ⟨_, _, h4⟩, h5, _, _, h8⟩
      · exact ⟨none, 0, rfl, Nat.le_refl _, .inl rfl⟩
      · exact ⟨some ⟨g, 0, none⟩, cap, rfl, h5, .inr ⟨g, 0, cur, e, _, rfl, hn g _ h2 h4, fun i hi => by rw [Nat.zero_add]; exact Rd.mono hh _ _ _ (h8 i hi)⟩⟩
    | _ => exact other _ h
theorem isFrs_stay (x : V) : isFrs (stayV x) = false := by
  cases x with
  | agg cs => rfl
  | one c => cases c <;> rfl
theorem stayVs_den {w : World} {B : Nat} {H H2 : IH} (hh : HLe H H2) (hn : ∀ b o, B ≤ b → w.heap[b]? = some o → H2 b = some o) : ∀ {xs : List V} {vs : List Value}, DenRVs w B H xs vs → DenRVs w B H2 (xs.map stayV) vs
  | [], _, h => h
  | x :: r, _, ⟨v, vs', e, h1, h2, _⟩ => ⟨v, vs', e, stayV_den hh hn h1, stayVs_den hh hn h2, fun h => by rw [isFrs_stay] at h; cases h⟩
theorem Fn.frz {P : Program} {gl : Nat → Option ((t : Ty) × t.T)} {f : FuncId} {args : List V} {r : SV} {fr : Bool} (h : Fn P gl f args r fr) : Fn P gl f args (staySV r) false := by
  intro w H vs hag G hd
  refine (h w H vs hag G hd).mono ?_
  rintro e w' ⟨v, H', rfl, h1, h2, h3, h4⟩
  have hh : HLe H' (fun b => if b < w.heap.size then H b else w'.heap[b]?) := by
    intro b o ho
    show (if b < w.heap.size then H b else w'.heap[b]?) = some o
    split
    · rename_i hlt
      have := h3 b hlt
      rw [ho] at this
      split at this
      · cases this
      · exact this.symm
    · exact h2 b o ho
  have hn : ∀ b o, w.heap.size ≤ b → w'.heap[b]? = some o → (fun b => if b < w.heap.size then H b else w'.heap[b]?) b = some o := fun b o hb ho => (if_neg (by omega)).trans ho
  refine ⟨v, fun b => if b < w.heap.size then H b else w'.heap[b]?, rfl, h1, fun b o ho => ?_, fun b hb => if_pos hb, ?_⟩
  · simp only [] at ho
    split at ho
    · rename_i hlt; rw [h1.block b hlt]; exact hag b o ho
    · exact ho
  · cases r with
    | val x => exact stayV_den hh hn h4
    | tup xs =>
      obtain ⟨us, e, hus⟩ := h4
      exact ⟨us, e, stayVs_den hh hn hus⟩
theorem Sp1.frz {f : FuncId} {sp : FSpec} (h : Sp1 f sp) : Sp1 f sp.frz := by
  refine ⟨fun vs ps r hr hp => ?_, h.2⟩
  unfold FSpec.frz at hr
  simp only [] at hr
  split at hr
  · rename_i ps' r' hs
    cases hr
    exact (h.1 vs _ _ hs hp).frz
  · cases hr
end Go.Sx

/- Plain laws of the frames that are used. -/
namespace Go.Sx
open U
theorem mapGet_putK {k t : Ty} (heq : ∀ a b : k.T, eqT k a b = true ↔ a = b) : ∀ (l : List (k.T × t.T)) (x : k.T) (y : t.T) (z : k.T),
    U.mapGet k t (U.mapPut k t l x y) z = if eqT k x z = true then some y else U.mapGet k t l z
  | [], x, y, z => by
    simp only [U.mapPut, U.mapGet]
    by_cases h : x = z
    · rw [if_pos ((heq _ _).2 h.symm), if_pos ((heq _ _).2 h)]
    · rw [if_neg (fun e => h ((heq _ _).1 e).symm), if_neg (fun e => h ((heq _ _).1 e))]
  | p :: r, x, y, z => by
    have ih := mapGet_putK heq r x y z
    simp only [U.mapPut]
    by_cases hx : x = p.1
    · rw [if_pos ((heq _ _).2 hx)]
      simp only [U.mapGet]
      by_cases h : z = p.1
      · rw [if_pos ((heq _ _).2 (by rw [h]; try exact hx.symm)), if_pos ((heq _ _).2 (by rw [hx, h]))]
      · rw [if_neg (fun e => h (by have := (heq _ _).1 e; first | exact this | rw [this, hx])), if_neg (fun e => h (by rw [← (heq _ _).1 e]; exact hx)), if_neg (fun e => h ((heq _ _).1 e))]
    · rw [if_neg (fun e => hx ((heq _ _).1 e))]
      simp only [U.mapGet]
      by_cases h : z = p.1
      · rw [if_pos ((heq _ _).2 h), if_pos ((heq _ _).2 h), if_neg (fun e => hx (by rw [(heq _ _).1 e, h]))]
      · rw [if_neg (fun e => h ((heq _ _).1 e)), if_neg (fun e => h ((heq _ _).1 e))]; exact ih
theorem eq_key (a b : List UInt8 × Int × Int × Int) : eqT (.pair .str (.pair (.int .i64) (.pair (.int .i64) (.int .i64)))) a b = true ↔ a = b := by
  obtain ⟨a1, a2, a3, a4⟩ := a
  obtain ⟨b1, b2, b3, b4⟩ := b
  simp [eqT]
theorem used_put (m : Mu) (x : Tk) (nm : List UInt8) (n : Int) : usedB (useTk m x) nm n = (decide (x.1 = nm ∧ x.2.1 = n) || usedB m nm n) := by
  unfold usedB useTk
  rw [mapGet_putK eq_key]
  by_cases h : x.1 = nm ∧ x.2.1 = n
  · rw [if_pos ((eq_key _ _).2 (by rw [h.1, h.2])), decide_eq_true h]
    rfl
  · rw [if_neg, decide_eq_false h]
    · rfl
    · intro e
      have := (eq_key _ _).1 e
      simp only [Prod.mk.injEq] at this
      exact h ⟨this.1, this.2.1⟩
theorem used_take (m : Mu) (ts : List Tk) (nm : List UInt8) (n : Int) : ∀ j, j ≤ ts.length → (usedB (useTo m ts j) nm n = true ↔ usedB m nm n = true ∨ ∃ i, i < j ∧ (ts.getD i tk0).1 = nm ∧ (ts.getD i tk0).2.1 = n)
  | 0, _ => by simp [useTo]
  | j + 1, hj => by
    have ih := used_take m ts nm n j (by omega)
    simp only [useTo]
    rw [used_put, Bool.or_eq_true, decide_eq_true_eq, ih]
    constructor
    · rintro (h | h | ⟨i, h1, h2⟩)
      · exact .inr ⟨j, by omega, h⟩
      · exact .inl h
      · exact .inr ⟨i, by omega, h2⟩
    · rintro (h | ⟨i, h1, h2⟩)
      · exact .inr (.inl h)
      · by_cases e : i = j
        · subst e; exact .inl h2
        · exact .inr (.inr ⟨i, by omega, h2⟩)
theorem used_at (p : List Pl) (nm : List UInt8) (n : Int) : ∀ t, usedB (usedTo p t) nm n = true ↔ ∃ u, u < t ∧ ∃ x ∈ allN p u, x.1 = nm ∧ x.2.1 = n
  | 0 => by simp [usedTo, usedB, U.mapGet]
  | t + 1 => by
    have ih := used_at p nm n t
    simp only [usedTo]
    rw [used_take _ _ _ _ _ (Nat.le_refl _), ih]
    constructor
    · rintro (⟨u, h1, h2⟩ | ⟨i, h1, h2⟩)
      · exact ⟨u, by omega, h2⟩
      · exact ⟨t, by omega, _, getD_mem h1, h2⟩
    · rintro ⟨u, h1, x, hx, h2⟩
      by_cases e : u = t
      · subst e
        obtain ⟨i, hi, rfl⟩ := mem_getD tk0 hx
        exact .inr ⟨i, hi, h2⟩
      · exact .inl ⟨u, by omega, x, hx, h2⟩
theorem heard_at {R : List Rl} {L : List Ed} (h : ListOk R L) {t : Int} (h0 : 0 ≤ t) (ht : t < lenL L) :
    ∃ i, i < L.length ∧ lastTo sndN (ls L) t (ls L).length = i ∧ sndN ((ls L).getD i pl0) ≤ t ∧ t < (heardN (ls L) (lenL L) i).2 := by
  obtain ⟨k, hk, _⟩ := seen_at h h0 ht
  have hn : 0 < L.length := by omega
  have hf := (chkEd_ok (h.ed 0 hn)).first rfl
  have hz : sndN ((ls L).getD 0 pl0) = 0 := by
    rw [ls_get L hn]
    unfold sndN
    dsimp only
    rw [hf.2]
    rfl
  have hl := lastTo_lt sndN (ls L) t (ls L).length (by rw [ls_len]; exact hn)
  have hle : sndN ((ls L).getD (lastTo sndN (ls L) t (ls L).length) pl0) ≤ t := lastTo_le (by rw [hz]; exact h0) _
  have hgt := lastTo_gt sndN (ls L) t (ls L).length (lastTo sndN (ls L) t (ls L).length + 1) (by omega)
  refine ⟨_, by rw [ls_len] at hl; rw [ls_len]; exact hl, rfl, hle, ?_⟩
  unfold heardN
  dsimp only
  split
  · rename_i e; exact hgt e
  · exact ht
theorem sound_ok {R : List Rl} {L : List Ed} (h : ListOk R L) {t : Int} (h0 : 0 ≤ t) (ht : t < lenL L) : TkOk R (soundN (ls L) t) := by
  obtain ⟨i, hi, e, h1, h2⟩ := heard_at h h0 ht
  have hs := h.sp i hi
  have hE := chkEd_ok (h.ed i hi)
  unfold spE at hs
  rw [rlM_eq (rs_nodup h.rs), whenE_zero (by decide), decide_eq_false_iff_not] at hs
  have hx : (ls L).getD i pl0 = (L.getD i e0, begN L i) := ls_get L hi
  have h3 : (heardN (ls L) (lenL L) i).1 = sndN ((ls L).getD i pl0) := rfl
  rw [h3] at hs
  unfold soundN
  rw [e]
  rw [hx] at h1 hs ⊢
  dsimp only at hs ⊢
  refine ⟨hE.idx, ?_, ?_, ?_, ?_⟩
  · dsimp only; omega
  · dsimp only; omega
  · dsimp only; omega
  · dsimp only; omega
theorem all_ok {R : List Rl} {L : List Ed} (h : ListOk R L) {t : Nat} (ht : (t : Int) < lenL L) : ∀ x ∈ allN (ls L) t, TkOk R x := by
  intro x hx
  unfold allN at hx
  rcases List.mem_append.1 hx with hx | hx
  · exact (takes_ok h (by omega) ht).2 x hx
  · rw [List.mem_singleton] at hx
    subst hx
    exact sound_ok h (by omega) ht
theorem used_iff (p : List Pl) (nm : List UInt8) (n : Int) (t : Nat) : usedB (usedTo p t) nm n = true ↔ (∃ u, u < t ∧ ∃ x ∈ takesN p (u : Int), x.1 = nm ∧ x.2.1 = n) ∨ ∃ u, u < t ∧ (soundN p (u : Int)).1 = nm ∧ (soundN p (u : Int)).2.1 = n := by
  rw [used_at]
  unfold allN
  constructor
  · rintro ⟨u, h1, x, hx, h2⟩
    rcases List.mem_append.1 hx with hx | hx
    · exact .inl ⟨u, h1, x, hx, h2⟩
    · rw [List.mem_singleton] at hx
      subst hx
      exact .inr ⟨u, h1, h2⟩
  · rintro (⟨u, h1, x, hx, h2⟩ | ⟨u, h1, h2⟩)
    · exact ⟨u, h1, x, List.mem_append_left _ hx, h2⟩
    · exact ⟨u, h1, _, List.mem_append_right _ (List.mem_singleton.2 rfl), h2⟩
theorem spTo_end (is : Int → Bool) (a : Int) : ∀ j, (∀ x ∈ spTo is a j, x.2 ≤ a + (j : Int)) ∧ ∀ (_ : 0 < j), (is (a + (j : Int) - 1) = true → 0 < (spTo is a j).length ∧ ((spTo is a j).getD ((spTo is a j).length - 1) sp0).2 = a + (j : Int)) ∧
    (is (a + (j : Int) - 1) = false → 0 < (spTo is a j).length → ((spTo is a j).getD ((spTo is a j).length - 1) sp0).2 < a + (j : Int))
  | 0 => ⟨fun x hx => (by cases hx), fun h => absurd h (by omega)⟩
  | j + 1 => by
    obtain ⟨ih, _⟩ := spTo_end is a j
    have e : a + ((j + 1 : Nat) : Int) - 1 = a + (j : Int) := by omega
    rw [e]
    have hlast : ∀ (o : List (Int × Int)), 0 < o.length → o.getD (o.length - 1) sp0 ∈ o := fun o ho => getD_mem (by omega)
    by_cases h : is (a + (j : Int)) = true
    · have hs : spTo is a (j + 1) = addSp (spTo is a j) (a + (j : Int)) := by simp only [spTo]; rw [if_pos h]
      rw [hs]
      refine ⟨fun x hx => ?_, fun _ => ⟨fun _ => ?_, fun h2 => by rw [h] at h2; cases h2⟩⟩
      · unfold addSp at hx
        split at hx
        · rename_i hc
          rcases List.mem_or_eq_of_mem_set hx with hx | hx
          · have := ih x hx; omega
          · rw [hx]; dsimp only; omega
        · rcases List.mem_append.1 hx with hx | hx
          · have := ih x hx; omega
          · rw [List.mem_singleton] at hx; subst hx; dsimp only; omega
      · unfold addSp
        split
        · rename_i hc
          rw [List.length_set, List.getD_eq_getElem?_getD, List.getElem?_set_self (by omega)]
          exact ⟨hc.1, by show (List.getD _ _ sp0).2 + 1 = _; omega⟩
        · rw [List.length_append]
          refine ⟨by simp, ?_⟩
          simp only [List.length_cons, List.length_nil]
          rw [List.getD_eq_getElem?_getD, List.getElem?_append_right (by omega)]
          simp
          omega
    · have h' : is (a + (j : Int)) = false := by simpa using h
      have hs : spTo is a (j + 1) = spTo is a j := by simp only [spTo]; rw [if_neg h]
      rw [hs]
      refine ⟨fun x hx => by have := ih x hx; omega, fun _ => ⟨fun h2 => absurd h2 h, fun _ hp => ?_⟩⟩
      have := ih _ (hlast _ hp)
      omega
end Go.Sx

/- Plain functions and hints. -/
namespace Go.Sx.U
def hasTo (ts : List Tk) (nm : List UInt8) (f : Int) : Nat → Bool
  | 0 => false
  | j + 1 => hasTo ts nm f j || ((ts.getD j tk0).1 == nm && (ts.getD j tk0).2.1 == f)
def hasT (ts : List Tk) (nm : List UInt8) (f : Int) : Bool := hasTo ts nm f ts.length
def trTo (p : List Pl) (nm : List UInt8) (f : Int) : Nat → List Int
  | 0 => []
  | i + 1 => trTo p nm f i ++ (bif hasT (takesN p i) nm f then [(i : Int)] else [])
def frE (R : List Rl) (nm : List UInt8) (f : Int) : Int := if idxN nm R < R.length then whenE (decide (f < (rlOf R nm).2.1) || decide ((rlOf R nm).2.1 + ((rlOf R nm).2.2.length : Int) ≤ f)) 14 else 10
def trcE (R : List Rl) (L : List Ed) (nm : List UInt8) (f : Int) : Int := if chkEds R L ≠ 0 then chkEds R L else frE R nm f
def trcN (R : List Rl) (L : List Ed) (nm : List UInt8) (f : Int) : List Int := if trcE R L nm f = 0 then trTo (ls L) nm f (lenL L).toNat else []
def ckH (nm : List UInt8) (f : Int) (r : Rl) : Bool := decide (r.1 = nm) && (decide (r.2.1 ≤ f) && decide (f < r.2.1 + (r.2.2.length : Int)))
def ckN (R : List Rl) (nm : List UInt8) (f : Int) : Int × Bool := if R.findIdx (ckH nm f) < R.length then ((R.getD (R.findIdx (ckH nm f)) r0).2.2.getD (f - (R.getD (R.findIdx (ckH nm f)) r0).2.1).toNat 0, true) else (0, false)
def cmpI (x y : Int) : Int := whenE (decide (y < x)) 1 - whenE (decide (x < y)) 1
end Go.Sx.U
namespace Go.Sx
open U
def tkB : List (Nat × Option AObj) → Option (List UInt8 × Int)
  | [] => none
  | (_, some (.box [.one (.str nm), .one (.int .i64 f), .one (.int .i64 _), .one (.int .i64 _)])) :: _ => some (nm, f)
  | _ :: r => tkB r
def h68 : Hints := ⟨fun f k s => match f, k with
  | 174, 1 => match lsAt s 1, outB (liveO [] s.ob), tkB (liveO [] s.ob) with
    | some (p, n, _), some (b, js), some (nm, fr) => some ⟨Nat, fun i => ⟨tI 6 i :: keepT [0, 1, 5] s.tm, (b, some (.box [.one (.own s.nx)])) :: (s.nx, some (.row (.int .i64) (trTo p nm fr i))) :: (liveO [] s.ob).filter (fun x => x.1 != b && !(js.contains x.1)), s.nx + 1, s.lr⟩, fun i => i ≤ n.toNat, fun i => n.toNat - i⟩
    | _, _, _ => none
  | 193, 2 => match listAs s 0 tkT, tkB (liveO [] s.ob) with
    | some ts, some (nm, fr) => some ⟨Nat, fun i => s.at [0, 1, 6, 7] [tI 8 i], fun i => i ≤ List.length ts ∧ hasTo ts nm fr i = false, fun i => List.length ts - i⟩
    | _, _ => none
  | _, _ => none, 0⟩
@[reducible] noncomputable def fb146 : Nat × Func := (146, Proofs.Tryz.f146)
@[reducible] noncomputable def fb193 : Nat × Func := (193, Proofs.Tryz.f193)
def tkBox (s : St) (t : Nat) : Option (List UInt8 × Int) := match ptrId s t with
  | some b => match lookO s.ob b with
    | some (.box [.one (.str nm), .one (.int .i64 f), .one (.int .i64 _), .one (.int .i64 _)]) => some (nm, f)
    | _ => none
  | none => none
def h151 : Hints := ⟨fun f k s => match f, k with
  | 151, 1 => match intOfT s 0, intOfT s 1 with
    | some n, some d => some ⟨Nat × Nat, fun g => s.at [] [tI 0 g.1, tI 1 g.2], fun g => 0 < g.1 ∧ Nat.gcd g.1 g.2 = Nat.gcd n.toNat d.toNat, fun g => g.2⟩
    | _, _ => none
  | _, _ => none, 0⟩
def h75 : Hints := ⟨fun f k s => match f, k with
  | 75, 2 => match listAs s 7 rlT, tkBox s 2 with
    | some R, some (nm, fr) => some ⟨Nat, fun i => s.at [1, 2, 7, 8] [tI 9 i], fun i => i ≤ List.length R ∧ ∀ j, j < i → ckH nm fr (List.getD R j r0) = false, fun i => List.length R - i⟩
    | _, _ => none
  | _, _ => none, 0⟩
end Go.Sx
namespace Go.Sx
open U
def sp147 : FSpec := ⟨fun vs => match vs with
  | [.agg [.one (.str a), .one (.int .i64 b), .one (.int .i64 _c), .one (.int .i64 _d)], .one (.ref (.pair .str (.pair (.int .i64) (.pair (.int .i64) (.int .i64)))) t)] => some ([], .val (bV (a == (show Tk from t).1 && b == (show Tk from t).2.1)))
  | _ => none, true⟩
def sp68 : FSpec := ⟨fun vs => match vs with
  | [.one (.sl (.pair .str (.pair (.int .i64) (.sl (.int .i64)))) R), .one (.sl (.pair .str (.pair (.int .i64) (.pair (.int .i64) (.pair (.int .i64) (.int .i64))))) L), .agg [.one (.str a), .one (.int .i64 b), .one (.int .i64 _c), .one (.int .i64 _d)]] => some ([List.length R ≤ 1000000000, ∀ r ∈ (show List Rl from R), List.length r.2.2 ≤ 1000000, List.length L ≤ 1000000000], .tup [.one (.frs (.int .i64) (trcN R L a b)), iV (trcE R L a b)])
  | _ => none, true⟩
def sp75 : FSpec := ⟨fun vs => match vs with
  | [.agg [.one (.str a), .one (.int .i64 b), .one (.int .i64 _c), .one (.int .i64 _d)], .one (.ref (.sl (.pair .str (.pair (.int .i64) (.sl (.int .i64))))) R)] => some ([List.length (show List Rl from R) ≤ 1000000, ∀ r ∈ (show List Rl from R), (0 ≤ r.2.1 ∧ r.2.1 ≤ 100000000) ∧ List.length r.2.2 ≤ 1000000, -100000000 ≤ b ∧ b ≤ 100000000], .tup [iV (ckN R a b).1, bV (ckN R a b).2])
  | _ => none, true⟩
def sp151 : FSpec := ⟨fun vs => match vs with
  | [.one (.int .i64 n), .one (.int .i64 d)] => some ([0 < n, 0 < d, n ≤ 1000000 ∧ d ≤ 1000000], .val (iV (Nat.gcd (Int.toNat n) (Int.toNat d) : Int)))
  | _ => none, true⟩
def sp76 : FSpec := ⟨fun vs => match vs with
  | [.agg [.one (.int .i64 n), .one (.int .i64 d)]] => some ([0 < n, 0 < d, n ≤ 1000000 ∧ d ≤ 1000000], .val (iV (whenE ((Nat.gcd (Int.toNat n) (Int.toNat d) : Int) != 1) 1)))
  | _ => none, true⟩
def sp77 : FSpec := ⟨fun vs => match vs with
  | [.agg [.one (.int .i64 a), .one (.int .i64 b)], .agg [.one (.int .i64 c), .one (.int .i64 d)]] => some ([0 ≤ a ∧ a ≤ 1000000, 0 ≤ b ∧ b ≤ 1000000, 0 ≤ c ∧ c ≤ 1000000, 0 ≤ d ∧ d ≤ 1000000], .val (iV (cmpI (a * d) (c * b))))
  | _ => none, true⟩
end Go.Sx

/- What the engine asks, written out (printed by a program). -/
namespace Go.Sx
open U
theorem vc147 (x t : Tk) : exF (env false [] []) h0 0 147 Proofs.Tryz.f147 [tkV x, .one (.ref tkT t)] (.val (bV (x.1 == t.1 && x.2.1 == t.2.1))) = (eqT (Ty.pair Ty.str (Ty.pair (Ty.int IntKind.i64) (Ty.pair (Ty.int IntKind.i64) (Ty.int IntKind.i64)))) (Prod.fst x, Prod.fst (Prod.snd x), Prod.fst (Prod.snd (Prod.snd x)), Prod.snd (Prod.snd (Prod.snd x))) (Prod.fst t, Prod.fst (Prod.snd t), Prod.fst (Prod.snd (Prod.snd x)), Prod.snd (Prod.snd (Prod.snd x))) = (Prod.fst x == Prod.fst t && Prod.fst (Prod.snd x) == Prod.fst (Prod.snd t)) ∧ True) := by
  kernel_rfl
theorem vc68 (R : List Rl) (L : List Ed) (t : Tk) : exF (env false [(43, sp43), (120, sp120), (107, sp107), (106, sp106), (112, sp112), (155, sp155n), (147, sp147)] [fb123, fb174, fb146, fb193]) h68 5 68 Proofs.Tryz.f68 [.one (.sl rlT R), .one (.sl edT L), tkV t] (.tup [.one (.frs (.int .i64) (trcN R L t.1 t.2.1)), iV (trcE R L t.1 t.2.1)]) = (let q5 := (List.length R); let q0 := (mapGet Ty.str (Ty.pair Ty.str (Ty.pair (Ty.int IntKind.i64) (Ty.sl (Ty.int IntKind.i64)))) (mapR R q5) t.1); let q3 := (Option.getD q0 r0); let q1 := (bif decide (t.2.1 < q3.2.1) then true else decide (q3.2.1 + (↑(List.length q3.2.2) : Int) ≤ t.2.1)); let q2 := (List.length L); let q6 := (!Option.isSome q0); let q8 := (Int.toNat (begN L q2)); let q9 := (1000000000 : Nat); List.length R ≤ q9 ∧ (∀ (r : Rl), r ∈ R → List.length r.2.2 ≤ (1000000 : Nat)) ∧ List.length L ≤ q9 ∧ splitB (chkEds R L != (0 : Int)) (trcN R L t.1 t.2.1 = [] ∧ chkEds R L = trcE R L t.1 t.2.1 ∧ True) (List.length R ≤ q9 ∧ EdsIn L ∧ (decide (t.2.1 < q3.2.1) = false → fits IntKind.i64 (q3.2.1 + (↑(List.length q3.2.2) : Int))) ∧ (2 : Nat) ≤ q9 ∧ splitB (first [whenE q6 (10 : Int), whenE q1 (14 : Int)] != (0 : Int)) (trcN R L t.1 t.2.1 = [] ∧ first [whenE q6 (10 : Int), whenE q1 (14 : Int)] = trcE R L t.1 t.2.1 ∧ True) ((∃ (g : Nat), Nat.le g q8 ∧ (0 : Int) = (↑g : Int) ∧ begN L q2 = begN L q2 ∧ trTo (plTo L q2) t.1 t.2.1 g = [] ∧ plTo L q2 = plTo L q2 ∧ begN L q2 = begN L q2 ∧ mapR R q5 = mapR R q5 ∧ [whenE q6 (10 : Int), whenE q1 (14 : Int)] = [whenE q6 (10 : Int), whenE q1 (14 : Int)] ∧ q3.1 = q3.1 ∧ q3.2.1 = q3.2.1 ∧ q3.2.2 = q3.2.2 ∧ plTo L q2 = plTo L q2 ∧ begN L q2 = begN L q2 ∧ mapR R q5 = mapR R q5 ∧ t.1 = t.1 ∧ t.2.1 = t.2.1 ∧ t.2.2.1 = t.2.2.1 ∧ t.2.2.2 = t.2.2.2 ∧ True) ∧ ∀ (g : Nat), let q4 := (takesN (plTo L q2) (↑g : Int)); let q7 := (↑(List.length q4) : Int); Nat.le g q8 → splitB (decide ((↑g : Int) < begN L q2)) (PlsOk (plTo L q2) ∧ ((0 : Int) ≤ (↑g : Int) ∧ (↑g : Int) ≤ (100000 : Int)) ∧ (∃ (g_1 : Nat), (g_1 ≤ List.length q4 ∧ hasTo q4 t.1 t.2.1 g_1 = false) ∧ (0 : Int) = (↑g_1 : Int) ∧ q7 = q7 ∧ takesN (plTo L q2) (↑g : Int) = takesN (plTo L q2) (↑g : Int) ∧ trTo (plTo L q2) t.1 t.2.1 g = trTo (plTo L q2) t.1 t.2.1 g ∧ plTo L q2 = plTo L q2 ∧ begN L q2 = begN L q2 ∧ mapR R q5 = mapR R q5 ∧ [whenE q6 (10 : Int), whenE q1 (14 : Int)] = [whenE q6 (10 : Int), whenE q1 (14 : Int)] ∧ q3.1 = q3.1 ∧ q3.2.1 = q3.2.1 ∧ q3.2.2 = q3.2.2 ∧ plTo L q2 = plTo L q2 ∧ begN L q2 = begN L q2 ∧ mapR R q5 = mapR R q5 ∧ t.1 = t.1 ∧ t.2.1 = t.2.1 ∧ t.2.2.1 = t.2.2.1 ∧ t.2.2.2 = t.2.2.2 ∧ True) ∧ ∀ (g_1 : Nat), g_1 ≤ List.length q4 ∧ hasTo q4 t.1 t.2.1 g_1 = false → splitB (decide ((↑g_1 : Int) < q7)) (((0 : Int) ≤ (↑g_1 : Int) ∧ (↑g_1 : Int) < q7) ∧ g_1 < List.length q4 ∧ splitB ((List.getD q4 g_1 tk0).1 == t.1 && (List.getD q4 g_1 tk0).2.1 == t.2.1) (room (List.length (trTo (plTo L q2) t.1 t.2.1 g) + (1 : Nat)) (8 : Nat) ∧ fits IntKind.i64 ((↑g : Int) + (1 : Int)) ∧ ∃ (g' : Nat), Nat.le g' q8 ∧ Int.toNat (begN L q2) - g' < Int.toNat (begN L q2) - g ∧ (↑g : Int) + (1 : Int) = (↑g' : Int) ∧ begN L q2 = begN L q2 ∧ trTo (plTo L q2) t.1 t.2.1 g ++ [(↑g : Int)] = trTo (plTo L q2) t.1 t.2.1 g' ∧ plTo L q2 = plTo L q2 ∧ begN L q2 = begN L q2 ∧ mapR R q5 = mapR R q5 ∧ [whenE q6 (10 : Int), whenE q1 (14 : Int)] = [whenE q6 (10 : Int), whenE q1 (14 : Int)] ∧ q3.1 = q3.1 ∧ q3.2.1 = q3.2.1 ∧ q3.2.2 = q3.2.2 ∧ plTo L q2 = plTo L q2 ∧ begN L q2 = begN L q2 ∧ mapR R q5 = mapR R q5 ∧ t.1 = t.1 ∧ t.2.1 = t.2.1 ∧ t.2.2.1 = t.2.2.1 ∧ t.2.2.2 = t.2.2.2 ∧ True) (fits IntKind.i64 ((↑g_1 : Int) + (1 : Int)) ∧ ∃ (g' : Nat), (g' ≤ List.length q4 ∧ hasTo q4 t.1 t.2.1 g' = false) ∧ List.length q4 - g' < List.length q4 - g_1 ∧ (↑g_1 : Int) + (1 : Int) = (↑g' : Int) ∧ q7 = q7 ∧ takesN (plTo L q2) (↑g : Int) = takesN (plTo L q2) (↑g : Int) ∧ trTo (plTo L q2) t.1 t.2.1 g = trTo (plTo L q2) t.1 t.2.1 g ∧ plTo L q2 = plTo L q2 ∧ begN L q2 = begN L q2 ∧ mapR R q5 = mapR R q5 ∧ [whenE q6 (10 : Int), whenE q1 (14 : Int)] = [whenE q6 (10 : Int), whenE q1 (14 : Int)] ∧ q3.1 = q3.1 ∧ q3.2.1 = q3.2.1 ∧ q3.2.2 = q3.2.2 ∧ plTo L q2 = plTo L q2 ∧ begN L q2 = begN L q2 ∧ mapR R q5 = mapR R q5 ∧ t.1 = t.1 ∧ t.2.1 = t.2.1 ∧ t.2.2.1 = t.2.2.1 ∧ t.2.2.2 = t.2.2.2 ∧ True)) (fits IntKind.i64 ((↑g : Int) + (1 : Int)) ∧ ∃ (g' : Nat), Nat.le g' q8 ∧ Int.toNat (begN L q2) - g' < Int.toNat (begN L q2) - g ∧ (↑g : Int) + (1 : Int) = (↑g' : Int) ∧ begN L q2 = begN L q2 ∧ trTo (plTo L q2) t.1 t.2.1 g = trTo (plTo L q2) t.1 t.2.1 g' ∧ plTo L q2 = plTo L q2 ∧ begN L q2 = begN L q2 ∧ mapR R q5 = mapR R q5 ∧ [whenE q6 (10 : Int), whenE q1 (14 : Int)] = [whenE q6 (10 : Int), whenE q1 (14 : Int)] ∧ q3.1 = q3.1 ∧ q3.2.1 = q3.2.1 ∧ q3.2.2 = q3.2.2 ∧ plTo L q2 = plTo L q2 ∧ begN L q2 = begN L q2 ∧ mapR R q5 = mapR R q5 ∧ t.1 = t.1 ∧ t.2.1 = t.2.1 ∧ t.2.2.1 = t.2.2.1 ∧ t.2.2.2 = t.2.2.2 ∧ True)) (trTo (plTo L q2) t.1 t.2.1 g = trcN R L t.1 t.2.1 ∧ (0 : Int) = trcE R L t.1 t.2.1 ∧ True)))) := by
  kernel_rfl
theorem vc75 (t : Tk) (R : List Rl) : exF (env false [] []) h75 0 75 Proofs.Tryz.f75 [tkV t, .one (.ref (.sl rlT) R)] (.tup [iV (ckN R t.1 t.2.1).1, bV (ckN R t.1 t.2.1).2]) = (let q1 := (↑(List.length R) : Int); (∃ (g : Nat), (g ≤ List.length R ∧ ∀ (j : Nat), j < g → ckH t.1 t.2.1 (List.getD R j r0) = false) ∧ (0 : Int) = (↑g : Int) ∧ q1 = q1 ∧ R = R ∧ R = R ∧ t.1 = t.1 ∧ t.2.1 = t.2.1 ∧ t.2.2.1 = t.2.2.1 ∧ t.2.2.2 = t.2.2.2 ∧ True) ∧ ∀ (g : Nat), let q0 := (List.getD R g r0); let q2 := (↑(List.length q0.2.2) : Int); (g ≤ List.length R ∧ ∀ (j : Nat), j < g → ckH t.1 t.2.1 (List.getD R j r0) = false) → splitB (decide ((↑g : Int) < q1)) (((0 : Int) ≤ (↑g : Int) ∧ (↑g : Int) < q1) ∧ ((bif q0.1 == t.1 then decide (q0.2.1 ≤ t.2.1) else false) = true → fits IntKind.i64 (q0.2.1 + q2)) ∧ splitB (bif bif q0.1 == t.1 then decide (q0.2.1 ≤ t.2.1) else false then decide (t.2.1 < q0.2.1 + q2) else false) (fits IntKind.i64 (t.2.1 - q0.2.1) ∧ ((0 : Int) ≤ t.2.1 - q0.2.1 ∧ t.2.1 - q0.2.1 < q2) ∧ List.getD q0.2.2 (Int.toNat (t.2.1 - q0.2.1)) (0 : Int) = (ckN R t.1 t.2.1).1 ∧ true = (ckN R t.1 t.2.1).2 ∧ True) (fits IntKind.i64 ((↑g : Int) + (1 : Int)) ∧ ∃ (g' : Nat), (g' ≤ List.length R ∧ ∀ (j : Nat), j < g' → ckH t.1 t.2.1 (List.getD R j r0) = false) ∧ List.length R - g' < List.length R - g ∧ (↑g : Int) + (1 : Int) = (↑g' : Int) ∧ q1 = q1 ∧ R = R ∧ R = R ∧ t.1 = t.1 ∧ t.2.1 = t.2.1 ∧ t.2.2.1 = t.2.2.1 ∧ t.2.2.2 = t.2.2.2 ∧ True)) ((0 : Int) = (ckN R t.1 t.2.1).1 ∧ false = (ckN R t.1 t.2.1).2 ∧ True)) := by
  kernel_rfl
theorem vc151 (n d : Int) : exF (env false [] []) h151 0 151 Proofs.Tryz.f151 [iV n, iV d] (.val (iV (Nat.gcd n.toNat d.toNat : Int))) = ((∃ (g : Nat × Nat), ((0 : Nat) < g.1 ∧ Nat.gcd g.1 g.2 = Nat.gcd (Int.toNat n) (Int.toNat d)) ∧ n = (↑g.1 : Int) ∧ d = (↑g.2 : Int) ∧ True) ∧ ∀ (g : Nat × Nat), (0 : Nat) < g.1 ∧ Nat.gcd g.1 g.2 = Nat.gcd (Int.toNat n) (Int.toNat d) → splitB ((↑g.2 : Int) != (0 : Int)) (((0 : Int) ≤ (↑g.1 : Int) ∧ (0 : Int) < (↑g.2 : Int)) ∧ ∃ (g' : Nat × Nat), ((0 : Nat) < g'.1 ∧ Nat.gcd g'.1 g'.2 = Nat.gcd (Int.toNat n) (Int.toNat d)) ∧ g'.2 < g.2 ∧ (↑g.2 : Int) = (↑g'.1 : Int) ∧ (↑g.1 : Int) % (↑g.2 : Int) = (↑g'.2 : Int) ∧ True) ((↑g.1 : Int) = (↑(Nat.gcd (Int.toNat n) (Int.toNat d)) : Int) ∧ True)) := by
  kernel_rfl
theorem vc76 (n d : Int) : exF (env false [(87, sp87), (61, sp61), (151, sp151), (70, sp70)] []) h0 0 76 Proofs.Tryz.f76 [.agg [.one (.int .i64 n), .one (.int .i64 d)]] (.val (iV (whenE ((Nat.gcd n.toNat d.toNat : Int) != 1) 1))) = (let q0 := ((↑(Nat.gcd (Int.toNat n) (Int.toNat d)) : Int) != (1 : Int)); (2 : Nat) ≤ (1000000000 : Nat) ∧ splitB (first [within n (-999999999 : Int) (999999999 : Int), within d (1 : Int) (999999999 : Int)] != (0 : Int)) (first [within n (-999999999 : Int) (999999999 : Int), within d (1 : Int) (999999999 : Int)] = whenE q0 (1 : Int) ∧ True) ((0 : Int) < n ∧ (0 : Int) < d ∧ (n ≤ (1000000 : Int) ∧ d ≤ (1000000 : Int)) ∧ whenE q0 (1 : Int) = whenE q0 (1 : Int) ∧ True)) := by
  kernel_rfl
theorem vc77 (a b c d : Int) : exF (env false [(70, sp70)] []) h0 0 77 Proofs.Tryz.f77 [.agg [.one (.int .i64 a), .one (.int .i64 b)], .agg [.one (.int .i64 c), .one (.int .i64 d)]] (.val (iV (cmpI (a * d) (c * b)))) = (fits IntKind.i64 (a * d) ∧ fits IntKind.i64 (c * b) ∧ fits IntKind.i64 (whenE (decide (c * b < a * d)) (1 : Int) - whenE (decide (a * d < c * b)) (1 : Int)) ∧ whenE (decide (c * b < a * d)) (1 : Int) - whenE (decide (a * d < c * b)) (1 : Int) = cmpI (a * d) (c * b) ∧ True) := by
  kernel_rfl
end Go.Sx
