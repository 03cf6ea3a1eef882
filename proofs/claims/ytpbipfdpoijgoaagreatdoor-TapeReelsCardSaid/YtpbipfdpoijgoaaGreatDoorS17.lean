/- A verified symbolic run of functions, part 17: lemmas, no claim of their own. -/
import Derived.Test.YtpbipfdpoijgoaaGreatDoorS16
import Derived.OpenShut
import Derived.ProofKit
import Derived.Carry
import Derived.OpenVars
import Derived.Lib.LaidTab
import Derived.ChangeSame
import Derived.WalkKit
import Derived.Deep.DeepHandedRow
import Derived.JoinedCond
import Derived.KernelRfl
import Derived.Test.YtpbipfdpoijgoaaGreatDoorProg
import Derived.Test.YtpbipfdpoijgoaaGreatDoorCards
/- What the engine asks, written out (printed by a program). -/
namespace Go.Sx
open U
theorem vc97 (_u : Unit) : exF (env false [] []) h0 0 97 Proofs.Tryz.f97 [] (.val (.one (.sl rlT aR))) = ([(Array.toList (ByteArray.data { data := #[(97 : UInt8)] }), (10 : Int), [(0 : Int), (100 : Int), (200 : Int), (300 : Int), (400 : Int), (500 : Int)]), (Array.toList (ByteArray.data { data := #[(98 : UInt8)] }), (50 : Int), [(40 : Int), (50 : Int), (60 : Int), (70 : Int)])] = aR ∧ True) := by
  kernel_rfl
theorem vc98 (n : Int) : exF (env false [] []) h0 0 98 Proofs.Tryz.f98 [iV n] (.val (.one (.sl edT (aL n)))) = ([(Array.toList (ByteArray.data { data := #[(97 : UInt8)] }), (11 : Int), (14 : Int), (0 : Int), (0 : Int)), (Array.toList (ByteArray.data { data := #[(98 : UInt8)] }), n, (53 : Int), (1 : Int), (-1 : Int)), (Array.toList (ByteArray.data { data := #[(97 : UInt8)] }), (15 : Int), (16 : Int), (0 : Int), (0 : Int))] = aL n ∧ True) := by
  kernel_rfl
theorem vc96 (_u : Unit) : exF (env false [] []) h0 0 96 Proofs.Tryz.f96 [] (.val (sV aS)) = (List.length (Array.toList (ByteArray.data { data := #[(82 : UInt8), (69 : UInt8), (69 : UInt8), (76 : UInt8), (1 : UInt8), (99 : UInt8), (0 : UInt8), (0 : UInt8), (0 : UInt8), (1 : UInt8)] })) + List.length (bytesOf [(70 : Int), (1 : Int), (2 : Int), (9 : Int), (126 : Int), (69 : Int), (0 : Int), (1 : Int), (1 : Int), (2 : Int)]) ≤ (9223372036854775807 : Nat) ∧ Array.toList (ByteArray.data { data := #[(82 : UInt8), (69 : UInt8), (69 : UInt8), (76 : UInt8), (1 : UInt8), (99 : UInt8), (0 : UInt8), (0 : UInt8), (0 : UInt8), (1 : UInt8)] }) ++ bytesOf [(70 : Int), (1 : Int), (2 : Int), (9 : Int), (126 : Int), (69 : Int), (0 : Int), (1 : Int), (1 : Int), (2 : Int)] = aS ∧ True) := by
  kernel_rfl
theorem vc18 (_u : Unit) : exF (env false [(19, sp19), (29, sp29), (27, sp27), (43, sp43), (33, sp33), (37, sp37), (35, sp35), (36, sp36), (69, sp69), (49, sp49), (50, sp50), (51, sp51), (84, sp84), (58, sp58), (60, sp60), (90, sp90), (97, sp97), (98, sp98), (96, sp96), (48, sp48), (74, sp74), (57, sp57), (32, sp32), (47, sp47), (73, sp73), (56, sp56), (44, sp44), (66, sp66)] []) h0 0 18 Proofs.Tryz.f18 [] (.val (bV true)) = (let q1 := (aL (51 : Int)); let q36 := (((25 : Int), false), ((0 : Int), (0 : Int), (0 : Int), (23 : Int)), (0 : Int)); let q0 := (if chkEds aR q1 = (0 : Int) then labsN q36 (ls q1) else []); let q25 := (ByteArray.data { data := #[(98 : UInt8)] }); let q21 := (ByteArray.data { data := #[(97 : UInt8)] }); let q22 := (chgL aR q1 (2 : Int) (-1 : Int) (1 : Int) rollL); let q2 := (List.drop (1 : Nat) q22 = [(Array.toList q25, (51 : Int), (52 : Int), (1 : Int), (-1 : Int)), (Array.toList q21, (14 : Int), (16 : Int), (0 : Int), (0 : Int))]); let q11 := (chgL aR q1 (0 : Int) (1 : Int) (0 : Int) trimL); let q16 := (List.getD q11 (0 : Nat) ([], (0 : Int), (0 : Int), (0 : Int), (0 : Int))); let q27 := (↑(List.length (partL aR q1 (5 : Int)).1) : Int); let q28 := (aL (50 : Int)); let q29 := (↑(List.length q11) : Int); let q14 := ((partL aR q1 (5 : Int)).2 = [(Array.toList q21, (15 : Int), (16 : Int), (0 : Int), (0 : Int))]); let q3 := (bif bif bif bif bif bif bif chgE aR q1 (0 : Int) (1 : Int) (0 : Int) trimL + chgE aR q1 (2 : Int) (-1 : Int) (1 : Int) rollL + partE aR q1 (5 : Int) + convE aR q1 [(1 : Int), (1 : Int)] + chkEds aR q1 + chkText q28 == (0 : Int) then chgE aR q1 (2 : Int) (1 : Int) (0 : Int) slipL == (14 : Int) else false then partE aR q1 (3 : Int) == (22 : Int) else false then q29 == (3 : Int) else false then q16.2.2.1 == (15 : Int) else false then decide q2 else false then q27 == (2 : Int) else false then decide q14 else false); let q33 := (↑(List.length q0) : Int); let q12 := (List.getD q0 (1 : Nat) ((0 : Int), (0 : Int), (0 : Int), (0 : Int))); let q37 := (Ty.int IntKind.i64); let q23 := (Ty.pair q37 (Ty.pair q37 (Ty.pair q37 q37))); let q24 := (convL aR q1 [(1 : Int), (1 : Int)] = [[(0 : Int), (1 : Int)], [(2 : Int), (3 : Int)], [(4 : Int), (5 : Int)]]); let q4 := (bif bif bif bif bif bif bif bif bif bif chgE aR q1 (0 : Int) (1 : Int) (0 : Int) trimL + chgE aR q1 (2 : Int) (-1 : Int) (1 : Int) rollL + partE aR q1 (5 : Int) + convE aR q1 [(1 : Int), (1 : Int)] + chkEds aR q1 + chkText q28 == (0 : Int) then chgE aR q1 (2 : Int) (1 : Int) (0 : Int) slipL == (14 : Int) else false then partE aR q1 (3 : Int) == (22 : Int) else false then q29 == (3 : Int) else false then q16.2.2.1 == (15 : Int) else false then decide q2 else false then q27 == (2 : Int) else false then decide q14 else false then decide q24 else false then q33 == (3 : Int) else false then eqT q23 (q12.1, q12.2.1, q12.2.2.1, q12.2.2.2) ((0 : Int), (0 : Int), (1 : Int), (1 : Int)) else false); let q5 := (bif bif bif bif chgE aR q1 (0 : Int) (1 : Int) (0 : Int) trimL + chgE aR q1 (2 : Int) (-1 : Int) (1 : Int) rollL + partE aR q1 (5 : Int) + convE aR q1 [(1 : Int), (1 : Int)] + chkEds aR q1 + chkText q28 == (0 : Int) then chgE aR q1 (2 : Int) (1 : Int) (0 : Int) slipL == (14 : Int) else false then partE aR q1 (3 : Int) == (22 : Int) else false then q29 == (3 : Int) else false then q16.2.2.1 == (15 : Int) else false); let q6 := (soundsN aR q1 = [(Array.toList q21, (11 : Int), (1 : Int), (1 : Int)), (Array.toList q21, (12 : Int), (1 : Int), (1 : Int)), (Array.toList q25, (50 : Int), (1 : Int), (1 : Int)), (Array.toList q25, (51 : Int), (1 : Int), (1 : Int)), (Array.toList q25, (52 : Int), (1 : Int), (1 : Int)), (Array.toList q21, (15 : Int), (1 : Int), (1 : Int))]); let q7 := (bif bif bif bif bif bif bif bif bif chgE aR q1 (0 : Int) (1 : Int) (0 : Int) trimL + chgE aR q1 (2 : Int) (-1 : Int) (1 : Int) rollL + partE aR q1 (5 : Int) + convE aR q1 [(1 : Int), (1 : Int)] + chkEds aR q1 + chkText q28 == (0 : Int) then chgE aR q1 (2 : Int) (1 : Int) (0 : Int) slipL == (14 : Int) else false then partE aR q1 (3 : Int) == (22 : Int) else false then q29 == (3 : Int) else false then q16.2.2.1 == (15 : Int) else false then decide q2 else false then q27 == (2 : Int) else false then decide q14 else false then decide q24 else false then q33 == (3 : Int) else false); let q8 := (List.getD (confN aR q1) (3 : Nat) [] = [(Array.toList q21, (14 : Int), (1 : Int), (2 : Int)), (Array.toList q25, (51 : Int), (1 : Int), (2 : Int))]); let q9 := (strNs (List.take (19 : Nat) aS)); let q19 := (1000000 : Nat); let q10 := ((bif bif bif bif bif bif chgE aR q1 (0 : Int) (1 : Int) (0 : Int) trimL + chgE aR q1 (2 : Int) (-1 : Int) (1 : Int) rollL + partE aR q1 (5 : Int) + convE aR q1 [(1 : Int), (1 : Int)] + chkEds aR q1 + chkText q28 == (0 : Int) then chgE aR q1 (2 : Int) (1 : Int) (0 : Int) slipL == (14 : Int) else false then partE aR q1 (3 : Int) == (22 : Int) else false then q29 == (3 : Int) else false then q16.2.2.1 == (15 : Int) else false then decide q2 else false then q27 == (2 : Int) else false) = true → List.length (partL aR q1 (5 : Int)).2 ≤ q19); let q13 := (bif bif bif chgE aR q1 (0 : Int) (1 : Int) (0 : Int) trimL + chgE aR q1 (2 : Int) (-1 : Int) (1 : Int) rollL + partE aR q1 (5 : Int) + convE aR q1 [(1 : Int), (1 : Int)] + chkEds aR q1 + chkText q28 == (0 : Int) then chgE aR q1 (2 : Int) (1 : Int) (0 : Int) slipL == (14 : Int) else false then partE aR q1 (3 : Int) == (22 : Int) else false then q29 == (3 : Int) else false); let q15 := (1000000000 : Nat); let q35 := (ByteArray.data { data := #[(99 : UInt8)] }); let q17 := (((rebuilt q9).1.1, (rebuilt q9).1.2.1, (rebuilt q9).1.2.2) = (Array.toList q35, (1 : Int), [(258 : Int)])); let q18 := (↑(List.length (confN aR q1)) : Int); let q20 := (stream (Array.toList q35) (1 : Int) [(258 : Int)]); let q26 := (List.getD q0 (2 : Nat) ((0 : Int), (0 : Int), (0 : Int), (0 : Int))); let q30 := ((bif bif q18 != (6 : Int) then true else !decide q8 then true else !decide q6) = false → List.length (needN aR q1) ≤ q19); let q31 := ((bif q18 != (6 : Int) then true else !decide q8) = false → List.length (soundsN aR q1) ≤ q19); let q32 := ((0 : Int) ≤ (0 : Int) ∧ (0 : Int) ≤ (19 : Int) ∧ (19 : Int) ≤ (↑(List.length aS) : Int)); let q34 := ((q18 != (6 : Int)) = false → List.length (List.getD (confN aR q1) (3 : Nat) []) ≤ q19); let q38 := (startsN aR q1 = [(0 : Int), (3 : Int), (5 : Int)]); let q39 := (↑(List.length q22) : Int); ReelOk (Array.toList q35) (1 : Int) [(258 : Int)] ∧ q32 ∧ (List.length q9 ≤ q19 ∧ Bytes q9) ∧ q32 ∧ (List.length q9 ≤ q19 ∧ Bytes q9) ∧ List.length aR ≤ q15 ∧ (∀ (r : Rl), r ∈ aR → List.length r.2.2 ≤ q19) ∧ List.length q28 ≤ q15 ∧ List.length aR ≤ q15 ∧ (∀ (r : Rl), r ∈ aR → List.length r.2.2 ≤ q19) ∧ List.length q1 ≤ q15 ∧ List.length aR ≤ q15 ∧ (∀ (r : Rl), r ∈ aR → List.length r.2.2 ≤ q19) ∧ List.length q1 ≤ q15 ∧ List.length aR ≤ q15 ∧ (∀ (r : Rl), r ∈ aR → List.length r.2.2 ≤ q19) ∧ List.length q1 ≤ q15 ∧ List.length aR ≤ q15 ∧ (∀ (r : Rl), r ∈ aR → List.length r.2.2 ≤ q19) ∧ List.length q1 ≤ q15 ∧ List.length aR ≤ q15 ∧ (∀ (r : Rl), r ∈ aR → List.length r.2.2 ≤ q19) ∧ List.length q1 ≤ q15 ∧ fits IntKind.i64 ((0 : Int) + (rebuilt q9).2.2) ∧ fits IntKind.i64 ((0 : Int) + (rebuilt q9).2.2 + chkEds aR q1) ∧ fits IntKind.i64 ((0 : Int) + (rebuilt q9).2.2 + chkEds aR q1 + chkEds aR q1) ∧ fits IntKind.i64 ((0 : Int) + (rebuilt q9).2.2 + chkEds aR q1 + chkEds aR q1 + chkEds aR q1) ∧ fits IntKind.i64 ((0 : Int) + (rebuilt q9).2.2 + chkEds aR q1 + chkEds aR q1 + chkEds aR q1 + chkEds aR q1) ∧ fits IntKind.i64 ((0 : Int) + (rebuilt q9).2.2 + chkEds aR q1 + chkEds aR q1 + chkEds aR q1 + chkEds aR q1 + chkEds aR q1) ∧ ((bif bif bif (0 : Int) + (rebuilt q9).2.2 + chkEds aR q1 + chkEds aR q1 + chkEds aR q1 + chkEds aR q1 + chkEds aR q1 != (0 : Int) then true else (readS q9).2 != (28 : Int) then true else chkEds aR q28 != (16 : Int) then true else bytesOf q20 != aS) = false → List.length (rebuilt q9).1.2.2 ≤ q19) ∧ ((bif bif bif bif bif (0 : Int) + (rebuilt q9).2.2 + chkEds aR q1 + chkEds aR q1 + chkEds aR q1 + chkEds aR q1 + chkEds aR q1 != (0 : Int) then true else (readS q9).2 != (28 : Int) then true else chkEds aR q28 != (16 : Int) then true else bytesOf q20 != aS then true else !decide q17 then true else (rebuilt q9).2.1) = false → List.length (startsN aR q1) ≤ q15) ∧ ((bif bif bif bif bif bif bif (0 : Int) + (rebuilt q9).2.2 + chkEds aR q1 + chkEds aR q1 + chkEds aR q1 + chkEds aR q1 + chkEds aR q1 != (0 : Int) then true else (readS q9).2 != (28 : Int) then true else chkEds aR q28 != (16 : Int) then true else bytesOf q20 != aS then true else !decide q17 then true else (rebuilt q9).2.1 then true else !decide q38 then true else lenN aR q1 != (6 : Int)) = false → List.length (playN aR q1) ≤ q15) ∧ splitB (bif bif bif bif bif bif bif bif (0 : Int) + (rebuilt q9).2.2 + chkEds aR q1 + chkEds aR q1 + chkEds aR q1 + chkEds aR q1 + chkEds aR q1 != (0 : Int) then true else (readS q9).2 != (28 : Int) then true else chkEds aR q28 != (16 : Int) then true else bytesOf q20 != aS then true else !decide q17 then true else (rebuilt q9).2.1 then true else !decide q38 then true else lenN aR q1 != (6 : Int) then true else !decide (playN aR q1 = [(100 : Int), (200 : Int), (300 : Int), (225 : Int), (60 : Int), (500 : Int)])) (false = true ∧ True) (((q18 != (6 : Int)) = false → (0 : Int) ≤ (3 : Int) ∧ (3 : Int) < q18) ∧ ((q18 != (6 : Int)) = false → (3 : Nat) < List.length (confN aR q1)) ∧ q34 ∧ q34 ∧ q31 ∧ q31 ∧ q30 ∧ q30 ∧ splitB (bif bif bif q18 != (6 : Int) then true else !decide q8 then true else !decide q6 then true else !decide (needN aR q1 = [(Array.toList q21, (11 : Int), (16 : Int)), (Array.toList q25, (50 : Int), (53 : Int))])) (false = true ∧ True) (List.length aR ≤ q15 ∧ (∀ (r : Rl), r ∈ aR → List.length r.2.2 ≤ q19) ∧ List.length q1 ≤ q15 ∧ List.length aR ≤ q15 ∧ (∀ (r : Rl), r ∈ aR → List.length r.2.2 ≤ q19) ∧ List.length q1 ≤ q15 ∧ List.length aR ≤ q15 ∧ (∀ (r : Rl), r ∈ aR → List.length r.2.2 ≤ q19) ∧ List.length q1 ≤ q15 ∧ List.length aR ≤ q15 ∧ (∀ (r : Rl), r ∈ aR → List.length r.2.2 ≤ q19) ∧ List.length q1 ≤ q15 ∧ List.length aR ≤ q15 ∧ (∀ (r : Rl), r ∈ aR → List.length r.2.2 ≤ q19) ∧ List.length q1 ≤ q15 ∧ List.length aR ≤ q15 ∧ (∀ (r : Rl), r ∈ aR → List.length r.2.2 ≤ q19) ∧ List.length q1 ≤ q15 ∧ List.length aR ≤ q15 ∧ (∀ (r : Rl), r ∈ aR → List.length r.2.2 ≤ q19) ∧ List.length q1 ≤ q15 ∧ StOk q36 ∧ List.length q28 ≤ q19 ∧ (∀ (x : Ed), x ∈ aL (50 : Int) → (∀ (n : Int), n ∈ numsE x → fits IntKind.i64 n) ∧ List.length x.1 ≤ (1000 : Nat)) ∧ fits IntKind.i64 (chgE aR q1 (0 : Int) (1 : Int) (0 : Int) trimL + chgE aR q1 (2 : Int) (-1 : Int) (1 : Int) rollL) ∧ fits IntKind.i64 (chgE aR q1 (0 : Int) (1 : Int) (0 : Int) trimL + chgE aR q1 (2 : Int) (-1 : Int) (1 : Int) rollL + partE aR q1 (5 : Int)) ∧ fits IntKind.i64 (chgE aR q1 (0 : Int) (1 : Int) (0 : Int) trimL + chgE aR q1 (2 : Int) (-1 : Int) (1 : Int) rollL + partE aR q1 (5 : Int) + convE aR q1 [(1 : Int), (1 : Int)]) ∧ fits IntKind.i64 (chgE aR q1 (0 : Int) (1 : Int) (0 : Int) trimL + chgE aR q1 (2 : Int) (-1 : Int) (1 : Int) rollL + partE aR q1 (5 : Int) + convE aR q1 [(1 : Int), (1 : Int)] + chkEds aR q1) ∧ fits IntKind.i64 (chgE aR q1 (0 : Int) (1 : Int) (0 : Int) trimL + chgE aR q1 (2 : Int) (-1 : Int) (1 : Int) rollL + partE aR q1 (5 : Int) + convE aR q1 [(1 : Int), (1 : Int)] + chkEds aR q1 + chkText q28) ∧ (q13 = true → (0 : Int) ≤ (0 : Int) ∧ (0 : Int) < q29) ∧ (q13 = true → (0 : Nat) < List.length q11) ∧ (q5 = true → List.length q22 ≤ q19) ∧ (q5 = true → (0 : Int) ≤ (1 : Int) ∧ (1 : Int) ≤ q39 ∧ q39 ≤ q39) ∧ (q5 = true → List.length (List.drop (1 : Nat) q22) ≤ q19) ∧ q10 ∧ q10 ∧ (q3 = true → List.length (convL aR q1 [(1 : Int), (1 : Int)]) ≤ q19) ∧ (q3 = true → ∀ (x : List Int), x ∈ convL aR q1 [(1 : Int), (1 : Int)] → List.length x = (2 : Nat)) ∧ (q3 = true → ∀ (x : List Int), x ∈ [[(0 : Int), (1 : Int)], [(2 : Int), (3 : Int)], [(4 : Int), (5 : Int)]] → List.length x = (2 : Nat)) ∧ (q7 = true → (0 : Int) ≤ (1 : Int) ∧ (1 : Int) < q33) ∧ (q7 = true → (1 : Nat) < List.length q0) ∧ (q4 = true → (0 : Int) ≤ (2 : Int) ∧ (2 : Int) < q33) ∧ (q4 = true → (2 : Nat) < List.length q0) ∧ (bif bif bif bif bif bif bif bif bif bif bif bif chgE aR q1 (0 : Int) (1 : Int) (0 : Int) trimL + chgE aR q1 (2 : Int) (-1 : Int) (1 : Int) rollL + partE aR q1 (5 : Int) + convE aR q1 [(1 : Int), (1 : Int)] + chkEds aR q1 + chkText q28 == (0 : Int) then chgE aR q1 (2 : Int) (1 : Int) (0 : Int) slipL == (14 : Int) else false then partE aR q1 (3 : Int) == (22 : Int) else false then q29 == (3 : Int) else false then q16.2.2.1 == (15 : Int) else false then decide q2 else false then q27 == (2 : Int) else false then decide q14 else false then decide q24 else false then q33 == (3 : Int) else false then eqT q23 (q12.1, q12.2.1, q12.2.2.1, q12.2.2.2) ((0 : Int), (0 : Int), (1 : Int), (1 : Int)) else false then eqT q23 (q26.1, q26.2.1, q26.2.2.1, q26.2.2.2) ((0 : Int), (0 : Int), (1 : Int), (3 : Int)) else false then printN q28 == Array.toList (ByteArray.data { data := #[(101 : UInt8), (100 : UInt8), (105 : UInt8), (116 : UInt8), (32 : UInt8), (97 : UInt8), (32 : UInt8), (49 : UInt8), (49 : UInt8), (32 : UInt8), (49 : UInt8), (52 : UInt8), (32 : UInt8), (48 : UInt8), (32 : UInt8), (48 : UInt8), (10 : UInt8), (101 : UInt8), (100 : UInt8), (105 : UInt8), (116 : UInt8), (32 : UInt8), (98 : UInt8), (32 : UInt8), (53 : UInt8), (48 : UInt8), (32 : UInt8), (53 : UInt8), (51 : UInt8), (32 : UInt8), (49 : UInt8), (32 : UInt8), (45 : UInt8), (49 : UInt8), (10 : UInt8), (101 : UInt8), (100 : UInt8), (105 : UInt8), (116 : UInt8), (32 : UInt8), (97 : UInt8), (32 : UInt8), (49 : UInt8), (53 : UInt8), (32 : UInt8), (49 : UInt8), (54 : UInt8), (32 : UInt8), (48 : UInt8), (32 : UInt8), (48 : UInt8), (10 : UInt8)] }) else false) = true ∧ True))) := by
  kernel_rfl
end Go.Sx

/- Contracts. -/
namespace Go.Sx
open U
theorem fn97   : Fn P1 gl1 97 [] (.val (.one (.sl rlT aR))) false := by
  refine fn_of false [] [] h0 0 Proofs.Tryz.f97 trivial trivial (by kernel_rfl) rfl (by kernel_rfl) rfl rfl rfl ?_
  rw [vc97 ()]
  try simp only [-eq_self]
  exact ⟨(hide_eq bothL).symm, trivial⟩
theorem so97_ : SpecOk P1 gl1 97 sp97 := by
  intro vs ps r h _
  simp only [sp97] at h
  split at h
  · cases h; exact fn97  
  · cases h
theorem so97 : Sp1 97 sp97 := ⟨so97_, Proofs.Tryz.f97, _, by kernel_rfl, rfl, by kernel_rfl⟩
theorem fn98 (n : Int)  : Fn P1 gl1 98 [iV n] (.val (.one (.sl edT (aL n)))) false := by
  refine fn_of false [] [] h0 0 Proofs.Tryz.f98 trivial trivial (by kernel_rfl) rfl (by kernel_rfl) rfl rfl rfl ?_
  rw [vc98]
  try simp only [-eq_self]
  exact ⟨(hide_eq (editsL n)).symm, trivial⟩
theorem so98_ : SpecOk P1 gl1 98 sp98 := by
  intro vs ps r h _
  simp only [sp98] at h
  split at h
  · cases h; exact fn98 _ 
  · cases h
theorem so98 : Sp1 98 sp98 := ⟨so98_, Proofs.Tryz.f98, _, by kernel_rfl, rfl, by kernel_rfl⟩
theorem fn96   : Fn P1 gl1 96 [] (.val (sV aS)) true := by
  refine Fn.flat ?_ rfl
  refine fn_of false [] [] h0 0 Proofs.Tryz.f96 trivial trivial (by kernel_rfl) rfl (by kernel_rfl) rfl rfl rfl ?_
  rw [vc96 ()]
  try simp only [-eq_self]
  exact ⟨by decide, (hide_eq strmL).symm, trivial⟩
theorem so96_ : SpecOk P1 gl1 96 sp96 := by
  intro vs ps r h _
  simp only [sp96] at h
  split at h
  · cases h; exact fn96  
  · cases h
theorem so96 : Sp1 96 sp96 := ⟨so96_, Proofs.Tryz.f96, _, by kernel_rfl, rfl, by kernel_rfl⟩
theorem fn18   : Fn P1 gl1 18 [] (.val (bV true)) true := by
  refine Fn.flat ?_ rfl
  refine fn_of false [(19, sp19), (29, sp29), (27, sp27), (43, sp43), (33, sp33), (37, sp37), (35, sp35), (36, sp36), (69, sp69), (49, sp49), (50, sp50), (51, sp51), (84, sp84), (58, sp58), (60, sp60), (90, sp90), (97, sp97), (98, sp98), (96, sp96), (48, sp48), (74, sp74), (57, sp57), (32, sp32), (47, sp47), (73, sp73), (56, sp56), (44, sp44), (66, sp66)] [] h0 0 Proofs.Tryz.f18 ⟨so19, so29, so27, so43, so33, so37, so35, so36, so69, so49, so50, so51, so84, so58, so60, so90, so97, so98, so96, so48, so74, so57, so32, so47, so73, so56, so44, so66, trivial⟩ trivial (by kernel_rfl) rfl (by kernel_rfl) rfl rfl rfl ?_
  rw [vc18 ()]
  try simp only [splitB_iff, -eq_self]
  have hR : aR = bothL := hide_eq bothL
  have hL : aL 51 = editsL 51 := hide_eq (editsL 51)
  have hM : aL 50 = editsL 50 := hide_eq (editsL 50)
  have hS : aS = strmL := hide_eq strmL
  have s1 : strNs (List.take 19 aS) = [82, 69, 69, 76, 1, 99, 0, 0, 0, 1, 70, 1, 2, 9, 126, 69, 0, 1, 1] := by rw [hS]; decide +kernel
  have s2 : rebuilt [82, 69, 69, 76, 1, 99, 0, 0, 0, 1, 70, 1, 2, 9, 126, 69, 0, 1, 1] = (([99], 1, [258]), false, 0) := by decide +kernel
  have s3 : (readS [82, 69, 69, 76, 1, 99, 0, 0, 0, 1, 70, 1, 2, 9, 126, 69, 0, 1, 1]).2 = 28 := by decide +kernel
  have s4 : bytesOf (stream [99] 1 [258]) = aS := by rw [hS]; decide +kernel
  have s5 : Bytes [82, 69, 69, 76, 1, 99, 0, 0, 0, 1, 70, 1, 2, 9, 126, 69, 0, 1, 1] := by unfold Bytes; decide
  have s6 : List.length aS = 20 := by rw [hS]; rfl
  have s7 : ReelOk [99] 1 [258] := checkReel_zero.1 (by decide +kernel)
  have s8 : StOk ((25, false), (0, 0, 0, 23), 0) := chkStZ.1 (by decide +kernel)
  have c1 : chkEds aR (aL 50) = 16 := by rw [hR, hM]; decide +kernel
  have c2 : chkEds aR (aL 51) = 0 := by rw [hR, hL]; decide +kernel
  have c3 : startsN aR (aL 51) = [0, 3, 5] := by rw [hR, hL]; decide +kernel
  have c4 : lenN aR (aL 51) = 6 := by rw [hR, hL]; decide +kernel
  have c5 : playN aR (aL 51) = [100, 200, 300, 225, 60, 500] := by rw [hR, hL]; decide +kernel
  have c6 : confN aR (aL 51) = [[([97], 11, 1, 1)], [([97], 12, 1, 1)], [([97], 13, 1, 1)], [([97], 14, 1, 2), ([98], 51, 1, 2)], [([98], 52, 1, 1)], [([97], 15, 1, 1)]] := by rw [hR, hL]; decide +kernel
  have c7 : soundsN aR (aL 51) = [([97], 11, 1, 1), ([97], 12, 1, 1), ([98], 50, 1, 1), ([98], 51, 1, 1), ([98], 52, 1, 1), ([97], 15, 1, 1)] := by rw [hR, hL]; decide +kernel
  have c8 : needN aR (aL 51) = [([97], 11, 16), ([98], 50, 53)] := by rw [hR, hL]; decide +kernel
  have d1 : chgL aR (aL 51) 0 1 0 trimL = [([97], 11, 15, 0, 0), ([98], 51, 53, 1, -1), ([97], 15, 16, 0, 0)] := by rw [hR, hL]; decide +kernel
  have d2 : chgE aR (aL 51) 0 1 0 trimL = 0 := by rw [hR, hL]; decide +kernel
  have d3 : chgL aR (aL 51) 2 (-1) 1 rollL = [([97], 11, 14, 0, 0), ([98], 51, 52, 1, -1), ([97], 14, 16, 0, 0)] := by rw [hR, hL]; decide +kernel
  have d4 : chgE aR (aL 51) 2 (-1) 1 rollL = 0 := by rw [hR, hL]; decide +kernel
  have d5 : chgE aR (aL 51) 2 1 0 slipL = 14 := by rw [hR, hL]; decide +kernel
  have d6 : partL aR (aL 51) 5 = ([([97], 11, 14, 0, 0), ([98], 51, 53, 1, -1)], [([97], 15, 16, 0, 0)]) := by rw [hR, hL]; exact Prod.ext (by decide +kernel) (by decide +kernel)
  have d7 : partE aR (aL 51) 5 = 0 := by rw [hR, hL]; decide +kernel
  have d8 : partE aR (aL 51) 3 = 22 := by rw [hR, hL]; decide +kernel
  have d9 : convL aR (aL 51) [1, 1] = [[0, 1], [2, 3], [4, 5]] := by rw [hR, hL]; decide +kernel
  have f1 : convE aR (aL 51) [1, 1] = 0 := by rw [hR, hL]; decide +kernel
  have f2 : labsN ((25, false), (0, 0, 0, 23), 0) (ls (aL 51)) = [(0, 0, 0, 23), (0, 0, 1, 1), (0, 0, 1, 3)] := by rw [hL]; decide +kernel
  have f3 : printN (aL 50) = [101, 100, 105, 116, 32, 97, 32, 49, 49, 32, 49, 52, 32, 48, 32, 48, 10, 101, 100, 105, 116, 32, 98, 32, 53, 48, 32, 53, 51, 32, 49, 32, 45, 49, 10, 101, 100, 105, 116, 32, 97, 32, 49, 53, 32, 49, 54, 32, 48, 32, 48, 10] := by rw [hM]; decide +kernel
  have f4 : chkText (aL 50) = 0 := by rw [hM]; decide +kernel
  have g1 : List.length aR = 2 := by rw [hR]; rfl
  have g2 : ∀ r : Rl, r ∈ aR → List.length r.2.2 ≤ 1000000 := by rw [hR]; decide
  have g3 : List.length (aL 51) = 3 := by rw [hL]; rfl
  have g4 : List.length (aL 50) = 3 := by rw [hM]; rfl
  have g5 : ∀ x : Ed, x ∈ aL 50 → (∀ n : Int, n ∈ numsE x → fits .i64 n) ∧ List.length x.1 ≤ 1000 := by rw [hM]; simp only [fits]; decide
  have g6 : ∀ x : List Int, x ∈ [[0, 1], [2, 3], [4, 5]] → List.length x = 2 := by decide
  have k9 : Array.toList (ByteArray.data { data := #[(99 : UInt8)] }) = [99] := rfl
  simp only [s1, s2, s3, s4, s6, c1, c2, c3, c4, c5, c6, c7, c8, d1, d2, d3, d4, d5, d6, d7, d8, d9, f1, f2, f3, f4, g1, g3, g4, if_true]
  simp only [hS, eq_true s5, eq_true s7, eq_true s8, eq_true g2, eq_true g5, eq_true g6]
  simp only [fits]
  repeat' (first | exact trivial | refine And.intro ?_ ?_ | intro _)
  all_goals first | decide +kernel | (rename_i h; exact absurd h (by decide +kernel))
theorem so18_ : SpecOk P1 gl1 18 sp18 := by
  intro vs ps r h _
  simp only [sp18] at h
  split at h
  · cases h; exact fn18  
  · cases h
theorem so18 : Sp1 18 sp18 := ⟨so18_, Proofs.Tryz.f18, _, by kernel_rfl, rfl, by kernel_rfl⟩

end Go.Sx

/- From readings of arguments to pure data. -/
namespace Go.Sx
open Go.RowKit

/-- What a reading gives beside the cells: numbers fit their kinds, lengths are those of machines. -/
def WF : (t : Ty) → t.T → Prop
  | .int k, n => (Lit.int k n).wf = true
  | .bool, _ => True
  | .str, l => List.length l ≤ maxLen
  | .flt k, n => (Lit.float k n).wf = true
  | .cpx _, _ => True
  | .sl t, xs => List.length xs ≤ maxLen ∧ ∀ i (h : i < List.length xs), WF t (xs[i]'h)
  | .arr n t, xs => List.length xs = n ∧ ∀ i (h : i < List.length xs), WF t (xs[i]'h)
  | .pair a b, x => WF a x.1 ∧ WF b x.2

mutual
def rdChk (P : Program) : Nat → TypeId → Ty → Bool
  | 0, _, _ => false
  | n + 1, t, u => match P.underlying t with
      | some (.int k) => decide (u = .int k)
      | some .bool => decide (u = .bool)
      | some .string => decide (u = .str)
      | some (.float k) => decide (u = .flt k)
      | some (.slice e) => match u with
        | .sl v => decide (P.cellsOf e = v.sz) && decide (v.sz ≠ 0) && rdChk P n e v
        | _ => false
      | some (.array m e) => match u with
        | .arr m' v => decide (m = m') && decide (P.cellsOf e = v.sz) && decide (P.cellsOf t = m * v.sz) && rdChk P n e v
        | _ => false
      | some (.struct fs) => decide (P.cellsOf t = u.sz) && rdFs P n 0 fs.toList u
      | _ => false
def rdFs (P : Program) : Nat → Nat → List Field → Ty → Bool
  | 0, _, _, _ => false
  | n + 1, off, [f], u => decide (f.offset = off) && decide (P.cellsOf f.type = u.sz) && rdChk P n f.type u
  | n + 1, off, f :: r, .pair a b => decide (f.offset = off) && decide (P.cellsOf f.type = a.sz) && rdChk P n f.type a && rdFs P n (off + a.sz) r b
  | _, _, _, _ => false
end

def HW (w : World) : IH := fun b => w.heap[b]?

theorem addp (b off i : Nat) : (Addr.mk b off none).add i = ⟨b, off + i, none⟩ := by
  unfold Addr.add; split <;> simp_all
theorem cells_seg {w : World} {base : Nat} {a : Addr} {n : Nat} {cs : List Value} (h : w.cells? base a n = some cs) (hn : 0 < n) :
    ∃ b off c e fr, a = ⟨b, off, none⟩ ∧ w.heap[b]? = some (.cells c e fr) ∧ seg c off n = cs := by
  obtain ⟨_, hl, hc⟩ := World.cells?_some h
  obtain ⟨b, off, sp⟩ := a
  have h0 := hc 0 hn
  rw [List.getElem?_eq_getElem (by omega)] at h0
  have hs : sp = none := by
    have := World.cell?_spot h0
    simp only [Addr.add] at this
    cases sp with
    | none => rfl
    | some x => simp at this
  subst hs
  have hb : ∃ c e fr, w.heap[b]? = some (.cells c e fr) := by
    simp only [World.cell?, Addr.add] at h0
    split at h0
    · exact ⟨_, _, _, ‹_›⟩
    · cases h0
  obtain ⟨c, e, fr, hb⟩ := hb
  refine ⟨b, off, c, e, fr, rfl, hb, ?_⟩
  have hi : ∀ i, i < n → c[off + i]? = cs[i]? := by
    intro i hi
    have := hc i hi
    rw [addp] at this
    simpa [World.cell?, hb] using this
  apply List.ext_getElem?
  intro i
  simp only [seg, List.getElem?_take, List.getElem?_drop]
  split
  · rename_i h1
    rw [← hi i h1]; simp
  · rename_i h1
    rw [List.getElem?_eq_none (by omega)]

theorem choose_list {α : Type} (n : Nat) (p : Nat → α → Prop) (h : ∀ i, i < n → ∃ y, p i y) : ∃ ys : List α, ys.length = n ∧ ∀ i (hi : i < ys.length), p i (ys[i]'hi) := by
  induction n with
  | zero => exact ⟨[], rfl, fun i hi => by simp at hi⟩
  | succ n ih =>
    obtain ⟨ys, h1, h2⟩ := ih fun i hi => h i (by omega)
    obtain ⟨y, hy⟩ := h n (by omega)
    refine ⟨ys ++ [y], by simp [h1], fun i hi => ?_⟩
    by_cases hlt : i < ys.length
    · rw [List.getElem_append_left hlt]; exact h2 i hlt
    · simp at hi
      have : i = ys.length := by omega
      subst this
      simp
      rw [h1]; exact hy

theorem trod_rd_all {X : Type} {enc : TypeId × Value → X} {P : Program} {w : World} {base : Nat} {spare : Nat → Bool} {held : Bool} : ∀ (n : Nat),
    (∀ (t : TypeId) (u : Ty) (fuel : Nat) (cs : List Value) (x : DataW X × List MemPlace), rdChk P n t u = true → DataW.trod enc P w base spare held fuel t cs = some x → ∃ y : u.T, Rd (HW w) u y cs ∧ WF u y) ∧
    (∀ (off : Nat) (fs : List Field) (u : Ty) (fuel : Nat) (cs : List Value), rdFs P n off fs u = true → cs.length = off + u.sz →
      (∀ f ∈ fs, ∃ x, DataW.trod enc P w base spare held fuel f.type ((cs.drop f.offset).take (P.cellsOf f.type)) = some x) → ∃ y : u.T, Rd (HW w) u y (cs.drop off) ∧ WF u y) := by
  intro n
  induction n with
  | zero => exact ⟨fun _ _ _ _ _ h => by simp [rdChk] at h, fun _ _ _ _ _ h => by simp [rdFs] at h⟩
  | succ n ih =>
    refine ⟨?_, ?_⟩
    · intro t u fuel cs x h hx
      unfold rdChk at h
      split at h
      · rename_i k hu
        simp at h; subst h
        obtain ⟨m, rfl, _, hw⟩ := DataW.trod_int hu hx
        exact ⟨m, rfl, hw⟩
      · rename_i hu
        simp at h; subst h
        obtain ⟨m, rfl, _⟩ := DataW.trod_bool hu hx
        exact ⟨m, rfl, trivial⟩
      · rename_i hu
        simp at h; subst h
        obtain ⟨s, rfl, _, hw⟩ := DataW.trod_string hu hx
        refine ⟨s.data.toList, rfl, ?_⟩
        show s.data.toList.length ≤ maxLen
        rw [Array.length_toList]; exact hw
      · rename_i k hu
        simp at h; subst h
        cases fuel with
        | zero => simp [DataW.trod] at hx
        | succ m =>
          unfold DataW.trod at hx
          rw [hu] at hx
          have : ∃ b, cs = [.float k b] ∧ (Lit.float k b).wf = true := by split at hx <;> simp_all
          obtain ⟨b, rfl, hw⟩ := this
          exact ⟨b, rfl, hw⟩
      · rename_i e hu
        split at h
        · rename_i v
          simp only [Bool.and_eq_true, decide_eq_true_eq] at h
          obtain ⟨⟨h1, h2⟩, h3⟩ := h
          rcases DataW.trod_slice hu hx with ⟨rfl, _⟩ | ⟨a, len, cap, elems, rest, m, _, rfl, _, _, hlc, hm, hel, hei, _, _⟩
          · exact ⟨[], ⟨none, 0, rfl, Nat.le_refl _, .inl rfl⟩, by simp [WF]⟩
          · have hone : ∀ i, i < len → ∃ cs', w.cells? base (a.add (i * P.cellsOf e)) (P.cellsOf e) = some cs' ∧ ∃ y : v.T, Rd (HW w) v y cs' ∧ WF v y := by
              intro i hi
              have := hei i hi
              rw [List.getElem?_eq_getElem (by omega)] at this
              obtain ⟨cs', hc1, hc2⟩ := Option.bind_eq_some_iff.1 this
              exact ⟨cs', hc1, ih.1 _ _ _ _ _ h3 hc2⟩
            obtain ⟨ys, hy1, hy2⟩ := choose_list len (fun i (y : v.T) => ∃ cs', w.cells? base (a.add (i * P.cellsOf e)) (P.cellsOf e) = some cs' ∧ Rd (HW w) v y cs' ∧ WF v y)
              (fun i hi => by obtain ⟨cs', h1, y, h2⟩ := hone i hi; exact ⟨y, cs', h1, h2⟩)
            refine ⟨ys, ⟨some a, cap, by rw [hy1], by rw [hy1]; exact hlc, ?_⟩, by rw [hy1]; omega, fun i hi => ?_⟩
            · rcases Nat.eq_zero_or_pos ys.length with h0 | h0
              · exact .inl h0
              · right
                obtain ⟨cs0, hc0, _⟩ := hy2 0 h0
                obtain ⟨b, off, c, e', fr, ha, hb, _⟩ := cells_seg hc0 (by omega)
                have ha' : a = ⟨b, off, none⟩ := by rw [← ha]; simp [Addr.add]
                refine ⟨b, off, c, e', fr, by rw [ha'], hb, fun i hi => ?_⟩
                obtain ⟨cs', hc', hr, _⟩ := hy2 i hi
                obtain ⟨b', off', c', e'', fr', hab, hb', hsg⟩ := cells_seg hc' (by omega)
                rw [ha', addp] at hab
                simp only [Addr.mk.injEq] at hab
                obtain ⟨rfl, rfl, _⟩ := hab
                rw [hb] at hb'
                cases hb'
                rw [h1] at hsg
                rw [hsg]; exact hr
            · obtain ⟨_, _, _, hwf⟩ := hy2 i hi
              exact hwf
        · cases h
      · rename_i m e hu
        split at h
        · rename_i m' v
          simp only [Bool.and_eq_true, decide_eq_true_eq] at h
          obtain ⟨⟨⟨rfl, h1⟩, h2⟩, h3⟩ := h
          obtain ⟨xs, k, _, _, hl, hxl, hxi⟩ := DataW.trod_array hu hx
          obtain ⟨ys, hy1, hy2⟩ := choose_list m (fun i (y : v.T) => Rd (HW w) v y ((cs.drop (i * P.cellsOf e)).take (P.cellsOf e)) ∧ WF v y)
            (fun i hi => by
              have := hxi i hi
              rw [List.getElem?_eq_getElem (by omega)] at this
              exact ih.1 _ _ _ _ _ h3 this)
          refine ⟨ys, ⟨hy1, by rw [hl, h2], fun i hi => ?_⟩, hy1, fun i hi => (hy2 i hi).2⟩
          have := (hy2 i hi).1
          rw [h1] at this
          exact this
        · cases h
      · rename_i fs hu
        simp only [Bool.and_eq_true, decide_eq_true_eq] at h
        obtain ⟨xs, k, _, _, hl, hxl, hxi⟩ := DataW.trod_struct hu hx
        have := ih.2 0 fs.toList u k cs h.2 (by rw [hl, h.1]; omega) (fun f hf => by
          obtain ⟨i, hi, rfl⟩ := List.mem_iff_getElem.1 hf
          simp at hi
          have := hxi i fs[i] (by simp [hi])
          rw [List.getElem?_eq_getElem (by omega)] at this
          exact ⟨_, by simpa using this⟩)
        simpa using this
      · cases h
    · intro off fs u fuel cs h hl hf
      match fs, u, h, hl, hf with
      | [], u, h, _, _ => simp [rdFs] at h
      | [f], u, h, hl, hf =>
        simp only [rdFs, Bool.and_eq_true, decide_eq_true_eq] at h
        obtain ⟨⟨rfl, h1⟩, h2⟩ := h
        obtain ⟨x, hx⟩ := hf f (by simp)
        rw [h1, List.take_of_length_le (by simp; omega)] at hx
        exact ih.1 _ _ _ _ _ h2 hx
      | f :: g :: r, .pair a b, h, hl, hf =>
        simp only [rdFs, Bool.and_eq_true, decide_eq_true_eq] at h
        obtain ⟨⟨⟨rfl, h1⟩, h2⟩, h3⟩ := h
        simp only [Ty.sz] at hl
        obtain ⟨x, hx⟩ := hf f (by simp)
        rw [h1] at hx
        obtain ⟨y1, hy1, hw1⟩ := ih.1 _ _ _ _ _ h2 hx
        obtain ⟨y2, hy2, hw2⟩ := ih.2 _ _ _ fuel cs h3 (by omega) (fun g' hg => hf g' (List.mem_cons_of_mem _ hg))
        refine ⟨(y1, y2), ⟨hy1, ?_⟩, hw1, hw2⟩
        rw [List.drop_drop]; exact hy2
      | _ :: _ :: _, .int _, h, _, _ => simp [rdFs] at h
      | _ :: _ :: _, .bool, h, _, _ => simp [rdFs] at h
      | _ :: _ :: _, .str, h, _, _ => simp [rdFs] at h
      | _ :: _ :: _, .flt _, h, _, _ => simp [rdFs] at h
      | _ :: _ :: _, .cpx _, h, _, _ => simp [rdFs] at h
      | _ :: _ :: _, .sl _, h, _, _ => simp [rdFs] at h
      | _ :: _ :: _, .arr _ _, h, _, _ => simp [rdFs] at h

theorem trod_rd {X : Type} {enc : TypeId × Value → X} {P : Program} {w : World} {base : Nat} {spare : Nat → Bool} {held : Bool} (n : Nat)
    {t : TypeId} {u : Ty} (h : rdChk P n t u = true) {fuel : Nat} {cs : List Value} {x : DataW X × List MemPlace} (hx : DataW.trod enc P w base spare held fuel t cs = some x) : ∃ y : u.T, Rd (HW w) u y cs ∧ WF u y :=
  (trod_rd_all n).1 t u fuel cs x h hx
end Go.Sx

/- From readings of arguments to pure data: arguments, variables, what is left behind. -/
namespace Go.Sx
open Go.RowKit Go.ChangeShapes Go.WideShapes Go.ChangeAt

section
variable {X : Type} {enc : TypeId × Value → X} {P : Program} {w : World} {base base' : Nat} {spare : Nat → Bool} {held : Bool} {n : Nat} {t : TypeId} {u : Ty} {v : Value} {d : DataW X} {ps : List MemPlace}

theorem cells_one (hv : ∀ cs, v ≠ .agg cs) : v.cells.toList = [v] := by
  cases v <;> simp_all [Value.cells]

theorem okWide_one (ha : aggOf P t = false) (hok : Value.okWide P w .any base' t v) : ∀ cs, v ≠ .agg cs := by
  intro cs hv
  subst hv
  unfold aggOf at ha
  unfold Value.okWide at hok
  split at hok
  · rename_i h; rw [h] at ha; cases ha
  · rename_i h; rw [h] at ha; cases ha
  · unfold Cell.okWide at hok
    split at hok <;> try (rename_i h; cases h; done)
    all_goals first | (rename_i h _; cases h; done) | skip
    all_goals first | (unfold Cell.ok at hok; split at hok <;> first | (exact hok) | (rename_i h; cases h; done) | (rename_i h _; cases h; done) | simp_all; done) | simp_all

theorem arg_one (h : rdChk P n t u = true) (ha : aggOf P t = false) (hok : Value.okWide P w .any base' t v) (hT : DataW.Trod enc P w base spare held t v d ps) : ∃ y : u.T, Rd (HW w) u y [v] ∧ WF u y := by
  obtain ⟨fuel, hT⟩ := hT
  rw [cells_one (okWide_one ha hok)] at hT
  exact trod_rd n h hT

theorem arg_agg (h : rdChk P n t u = true) (ha : aggOf P t = true) (hok : Value.okWide P w .any base' t v) (hT : DataW.Trod enc P w base spare held t v d ps) : ∃ (vs : List Value) (y : u.T), v = .agg ⟨vs⟩ ∧ Rd (HW w) u y vs ∧ WF u y := by
  obtain ⟨fuel, hT⟩ := hT
  have hv : ∃ cs, v = .agg cs := by
    unfold aggOf at ha
    unfold Value.okWide at hok
    split at hok
    · exact ⟨_, hok.choose_spec.1⟩
    · exact ⟨_, hok.choose_spec.1⟩
    · rename_i h1 h2
      split at ha
      · exact absurd ‹_› (h1 _)
      · exact absurd ‹_› (h2 _ _)
      · cases ha
  obtain ⟨cs, rfl⟩ := hv
  obtain ⟨y, h1, h2⟩ := trod_rd n h hT
  exact ⟨cs.toList, y, rfl, h1, h2⟩
end

theorem trodAll_below {X : Type} {enc : TypeId × Value → X} {P : Program} (hl : laidOutB P = true) {W W' : World} (hb : Below W.heap.size W W') : ∀ {ts : List TypeId} {vs : List Value} {ds : List (DataW X)} {ps : List MemPlace},
    (ts.all fun t => P.readableRec t && decide (t < P.types.size)) = true → DataW.TrodAll enc P W 0 (fun _ => true) true ts vs ds ps → (∀ x ∈ ps, x.block < W.heap.size) → DataW.TrodAll enc P W' 0 (fun b => decide (b < W.heap.size)) true ts vs ds ps
  | [], vs, ds, ps, _, h, _ => by
    cases vs <;> cases ds <;> simp_all [DataW.TrodAll]
  | t :: ts, vs, ds, ps, ht, h, hlt => by
    obtain ⟨v, vs', d, ds', p, q, rfl, rfl, rfl, h1, h2⟩ := trodAll_cons h
    simp only [List.all_cons, Bool.and_eq_true, decide_eq_true_eq] at ht
    refine trodAll_cons_mk (Below.trod hl ht.1.1 ht.1.2 h1 hb fun x hx => hlt x (by simp [hx])) (trodAll_below hl hb ht.2 h2 fun x hx => hlt x (by simp [hx]))

/-- What a law leaves behind: true, and the arguments as they were. -/
theorem law_post {X : Type} {enc : TypeId × Value → X} {P : Program} (hl : laidOutB P = true) {s : ChangeSpec} {f : Func} {tb : TypeId} {W W' : World} {args : Array Value} {ds gs : List (DataW X)} {before : List MemPlace} {r : Value}
    (hvars : s.vars = []) (hts : (f.params.toList.all fun t => P.readableRec t && decide (t < P.types.size)) = true) (hres : f.resultTypes = #[tb]) (htb : P.underlying tb = some .bool)
    (hfn : s.fn X ds = { results := [.lit (.bool true)], args := ds })
    (hW : DataW.Whole enc P f.params.toList s.vars false W args.toList ds gs before) (hb : Below W.heap.size W W') (hr : r = .bool true) :
    s.post enc P f false true false false W args r W' := by
  subst hr
  have hW' := hW
  obtain ⟨p, q, hA, hV, rfl, hfz, hnd⟩ := hW
  rw [hvars] at hV
  obtain ⟨rfl, rfl⟩ := trodVars_none hV
  have hlt : ∀ x ∈ p, x.block < W.heap.size := fun x hx => hW'.lt x (by simp [hx])
  refine ⟨ds, [], p ++ [], [], p, [], hW', ?_, ?_, ?_, hb.frame _, fun h => by cases h⟩
  · rw [List.append_nil, hfn, hres]
    exact trodAll_cons_mk (shut_bool htb _) trodAll_mk0
  · rw [List.append_nil, hfn]
    exact trodAll_below hl hb hts hA hlt
  · rw [List.append_nil, hfn, hvars]
    rfl

theorem law_calls {X : Type} {enc : TypeId × Value → X} {P : Program} (hl : laidOutB P = true) {s : ChangeSpec} {f : Func} {tb : TypeId} {fid : FuncId} {W : World} {args : Array Value} {ds gs : List (DataW X)} {before : List MemPlace}
    (hvars : s.vars = []) (hts : (f.params.toList.all fun t => P.readableRec t && decide (t < P.types.size)) = true) (hres : f.resultTypes = #[tb]) (htb : P.underlying tb = some .bool)
    (hfn : s.fn X ds = { results := [.lit (.bool true)], args := ds })
    (hW : DataW.Whole enc P f.params.toList s.vars false W args.toList ds gs before)
    {gl : Nat → Option ((t : Ty) × t.T)} {avs : List V} (hF : Fn P gl fid avs (.val (.one (.bool true))) true) (hg : GlobOk gl (HW W)) (ha : DenVs ρ0 (HW W) avs args.toList) :
    Calls P fid args W fun e W' => ∃ v, e = .returned v ∧ s.post enc P f false true false false W args v W' := by
  refine (hF W (HW W) args.toList (fun b o h => h) hg ha).mono fun e W' h => ?_
  obtain ⟨v, H', rfl, hb, _, _, hd⟩ := h
  exact ⟨v, rfl, law_post hl hvars hts hres htb hfn hW hb hd.2⟩

theorem glob_tab {P : Program} {W : World} {name : String} {k : IntKind} {zs : List Int} {g : Nat} (h : Lib.TabIs P W name k zs) (hg : P.globalNamed name = some g) :
    ∃ c e fr, HW W g = some (.cells c e fr) ∧ Rd (HW W) (.arr zs.length (.int k)) zs (seg c 0 (zs.length * 1)) ∧ c.size = zs.length * 1 := by
  unfold Lib.TabIs at h
  simp only [World.var?, hg, Option.bind_some] at h
  split at h
  · rename_i cs e fr hh
    cases h
    refine ⟨_, _, _, hh, ?_, by simp⟩
    have e1 : seg (zs.map fun z => Value.int k z).toArray 0 (zs.length * 1) = zs.map fun z => Value.int k z := by
      simp [seg, List.take_of_length_le]
    rw [e1]
    refine ⟨rfl, by simp [Ty.sz], fun i hi => ?_⟩
    show List.take 1 (List.drop (i * 1) (List.map (fun z => Value.int k z) zs)) = [Value.int k zs[i]]
    simp only [Nat.mul_one]
    rw [List.drop_eq_getElem_cons (by simpa using hi)]
    simp
  · cases h
end Go.Sx

/- What a row's list of variables gives, wherever a variable stands on it. -/
namespace Go.Sx
open Go.RowKit

theorem laid_at {P : Program} {W : World} {name : String} {d : DataW Unit} {l : List (String × DataW Unit)} (h : laidMet P l W) (hm : (name, d) ∈ l) :
    ∃ g t cs fuel p, P.globalNamed name = some g ∧ (P.globals[g]?).map (·.type) = some t ∧ W.var? P name = some cs ∧ DataW.trod (fun _ => ()) P W 0 (fun _ => true) false fuel t cs.toList = some (d, p) := by
  obtain ⟨ps, h, hrest⟩ := h
  clear hrest
  induction l generalizing ps with
  | nil => cases hm
  | cons x r ih =>
    obtain ⟨n, e⟩ := x
    obtain ⟨g, t, cs, fuel, p, q, h1, h2, h3, h4, h5, h6⟩ := h
    rcases List.mem_cons.1 hm with e | hm
    · cases e; exact ⟨g, t, cs, fuel, p, h1, h2, h3, h4⟩
    · exact ih hm _ h5

theorem tab_at {P : Program} {W : World} {name : String} {k : IntKind} {zs : List Int} {l : List (String × DataW Unit)} {g : Nat} {t e : TypeId} {n : Nat} (hm : (name, Lib.tabData k zs) ∈ l)
    (hg : P.globalNamed name = some g) (hty : (P.globals[g]?).map (·.type) = some t) (ht : P.underlying t = some (.array n e)) (he : P.underlying e = some (.int k)) (hce : P.cellsOf e = 1) (hct : P.cellsOf t = n)
    (h : laidMet P l W) : Lib.TabIs P W name k zs := by
  obtain ⟨g', t', cs, fuel, p, h1, h2, h3, h4⟩ := laid_at h hm
  obtain rfl := Option.some.inj (hg.symm.trans h1)
  obtain rfl := Option.some.inj (hty.symm.trans h2)
  unfold Lib.TabIs
  rw [h3, ← Lib.cells_of_tab ht he hce hct h4]

theorem var_heap {P : Program} {W : World} {name : String} {g : Nat} {cs : Array Value} (hg : P.globalNamed name = some g) (h : W.var? P name = some cs) : ∃ e fr, W.heap[g]? = some (.cells cs e fr) := by
  simp only [World.var?, hg, Option.bind_some] at h
  split at h
  · rename_i cs' e fr hh
    cases h
    exact ⟨e, fr, hh⟩
  · cases h

theorem pair_at {P : Program} {W : World} {name : String} {k k' : IntKind} {a b : Int} {l : List (String × DataW Unit)} {g : Nat} {t : TypeId} {fs : Array Field} {f0 f1 : Field} (hm : (name, .agg [.lit (.int k a), .lit (.int k' b)]) ∈ l)
    (hg : P.globalNamed name = some g) (hty : (P.globals[g]?).map (·.type) = some t) (ht : P.underlying t = some (.struct fs)) (hfs : fs.toList = [f0, f1]) (ho0 : f0.offset = 0) (ho1 : f1.offset = 1)
    (hc0 : P.cellsOf f0.type = 1) (hc1 : P.cellsOf f1.type = 1) (hu0 : P.underlying f0.type = some (.int k)) (hu1 : P.underlying f1.type = some (.int k')) (hct : P.cellsOf t = 2)
    (h : laidMet P l W) : ∃ c e fr, HW W g = some (.cells c e fr) ∧ Rd (HW W) (.pair (.int k) (.int k')) (a, b) (seg c 0 2) ∧ c.size = 2 := by
  obtain ⟨g', t', cs, fuel, p, h1, h2, h3, h4⟩ := laid_at h hm
  obtain rfl := Option.some.inj (hg.symm.trans h1)
  obtain rfl := Option.some.inj (hty.symm.trans h2)
  obtain ⟨e, fr, hh⟩ := var_heap hg h3
  refine ⟨cs, e, fr, hh, ?_⟩
  have hcs : cs.toList = [.int k a, .int k' b] := by
    cases fuel with
    | zero => simp [DataW.trod] at h4
    | succ fuel =>
      simp only [DataW.trod, ht, hct, hfs, hc0, hc1, ho0, ho1, List.mapM_cons, List.mapM_nil] at h4
      split at h4
      · rename_i hl
        obtain ⟨xs, hx1, hx2⟩ := Option.map_eq_some_iff.1 h4
        simp only [Option.bind_eq_bind, Option.bind_eq_some_iff, Option.pure_def, Option.some.injEq] at hx1
        obtain ⟨y0, hy0, r, ⟨y1, hy1, r2, rfl, rfl⟩, rfl⟩ := hx1
        obtain ⟨m0, e0, hz0, _⟩ := DataW.trod_int hu0 hy0
        obtain ⟨m1, e1, hz1, _⟩ := DataW.trod_int hu1 hy1
        subst hz0 hz1
        simp only [List.map_cons, List.map_nil, Prod.mk.injEq, DataW.agg.injEq, List.cons.injEq, DataW.lit.injEq, Lit.int.injEq, true_and, and_true] at hx2
        obtain ⟨⟨rfl, rfl⟩, _⟩ := hx2
        match hq : cs.toList, hl with
        | [u, v], _ =>
          rw [hq] at e0 e1
          simp at e0 e1
          rw [e0, e1]
      · cases h4
  have hs : seg cs 0 2 = [.int k a, .int k' b] := by unfold seg; rw [hcs]; rfl
  rw [hs]
  exact ⟨⟨rfl, rfl⟩, by rw [← Array.length_toList, hcs]; rfl⟩

def intB (P : Program) (t : TypeId) (k : IntKind) : Bool := match P.underlying t with
  | some (.int q) => decide (q = k)
  | _ => false
theorem intB_ok {P : Program} {t : TypeId} {k : IntKind} (h : intB P t k = true) : P.underlying t = some (.int k) := by
  unfold intB at h
  split at h
  · rename_i q hq
    rw [hq, of_decide_eq_true h]
  · cases h
/-- A struct of two numbers. -/
def pairB (P : Program) (t : TypeId) (k k' : IntKind) : Bool := match P.underlying t with
  | some (.struct fs) => match fs.toList with
    | [f0, f1] => decide (f0.offset = 0) && decide (f1.offset = 1) && decide (P.cellsOf f0.type = 1) && decide (P.cellsOf f1.type = 1) && intB P f0.type k && intB P f1.type k' && decide (P.cellsOf t = 2)
    | _ => false
  | _ => false
theorem pair_at' {P : Program} {W : World} {name : String} {k k' : IntKind} {a b : Int} {l : List (String × DataW Unit)} {g : Nat} {t : TypeId} (hm : (name, .agg [.lit (.int k a), .lit (.int k' b)]) ∈ l)
    (hg : P.globalNamed name = some g) (hty : (P.globals[g]?).map (·.type) = some t) (hc : pairB P t k k' = true) (h : laidMet P l W) :
    ∃ c e fr, HW W g = some (.cells c e fr) ∧ Rd (HW W) (.pair (.int k) (.int k')) (a, b) (seg c 0 2) ∧ c.size = 2 := by
  unfold pairB at hc
  split at hc
  · rename_i fs hu
    split at hc
    · rename_i f0 f1 hfs
      simp only [Bool.and_eq_true, decide_eq_true_eq] at hc
      obtain ⟨⟨⟨⟨⟨⟨h1, h2⟩, h3⟩, h4⟩, h5⟩, h6⟩, h7⟩ := hc
      exact pair_at hm hg hty hu hfs h1 h2 h3 h4 (intB_ok h5) (intB_ok h6) h7 h
    · cases hc
  · cases hc

theorem rd_pair {H : IH} {a b : Ty} {x : (Ty.pair a b).T} {cs : List Value} (h : Rd H (.pair a b) x cs) : ∃ c1 c2, cs = c1 ++ c2 ∧ Rd H a x.1 c1 ∧ Rd H b x.2 c2 :=
  ⟨_, _, (List.take_append_drop a.sz cs).symm, h.1, h.2⟩
theorem wf_i64 {n : Int} (h : (Lit.int .i64 n).wf = true) : fits .i64 n := by
  simp [Lit.wf, IntKind.min, IntKind.max, IntKind.signed, IntKind.bits] at h
  simp only [fits]
  omega
theorem wf_i8 {n : Int} (h : (Lit.int .i8 n).wf = true) : fits .i8 n := by
  simp [Lit.wf, IntKind.min, IntKind.max, IntKind.signed, IntKind.bits] at h
  simp only [fits]
  omega
theorem wf_u8 {n : Int} (h : (Lit.int .u8 n).wf = true) : fits .u8 n := by
  simp [Lit.wf, IntKind.min, IntKind.max, IntKind.signed, IntKind.bits] at h
  simp only [fits]
  omega
theorem wf_mem {t : Ty} {xs : List t.T} (h : WF (.sl t) xs) : ∀ x ∈ xs, WF t x := by
  intro x hx
  obtain ⟨i, hi, rfl⟩ := List.mem_iff_getElem.1 hx
  exact h.2 i hi
end Go.Sx

/- Facts of the program that every row asks. -/
namespace Go.Sx
theorem j3a : laidOutB Proofs.Tryz.prog = true := by kernel_rfl
theorem j3b : mapsRowed Proofs.Tryz.prog = true := by kernel_rfl
theorem j3c : Proofs.Tryz.prog.stopsHeard = true := by kernel_rfl
theorem j3d : Proofs.Tryz.prog.mayEnter = true := by kernel_rfl
end Go.Sx

/- The plain law: streams of reels, whatever the name. -/
namespace Go.Sx
open U

theorem Bytes.app {a b : List Int} (h : Bytes a) (k : Bytes b) : Bytes (a ++ b) := by
  intro x hx
  rcases List.mem_append.1 hx with h' | h'
  · exact h x h'
  · exact k x h'

theorem rdRec_frame {l t : List Int} {c : Int} (hl : l.length < 256) (hc : 0 ≤ c ∧ c ≤ 65535) : rdRec (tframe l.length c ++ t) l = (0, false, c) := by
  have hn : number (((tframe l.length c ++ t).drop 1).take 2) = c := by
    show 256 * (256 * 0 + c / 256 % 256) + c % 256 = c
    omega
  have h0 : (tframe l.length c ++ t).getD 0 0 = 70 := rfl
  have he : recErr ((tframe l.length c ++ t).getD 0 0) l.length = 0 := by
    rw [h0]
    have : (((l.length : Nat) : Int) == 256) = false := by simp; omega
    unfold recErr
    rw [this]
    rfl
  rw [rdRec_full he (by simp [tframe_len]), hn, h0]
  have ht : List.take 5 (tframe l.length c ++ t) = tframe l.length c := rfl
  rw [ht]
  rw [if_neg (by decide)]
  simp [whenE]

theorem rdRec_last {l t : List Int} (hl : l.length ≤ 256) : rdRec (tlast l ++ t) l = (0, true, (l.length : Int)) := by
  have hn : number (((tlast l ++ t).drop 1).take 2) = l.length := by
    show 256 * (256 * 0 + (l.length : Int) / 256 % 256) + (l.length : Int) % 256 = l.length
    omega
  have h0 : (tlast l ++ t).getD 0 0 = 69 := rfl
  have he : recErr ((tlast l ++ t).getD 0 0) l.length = 0 := by rw [h0]; rfl
  rw [rdRec_full he (by simp [tlast_len]), hn, h0]
  have ht : List.take 5 (tlast l ++ t) = tlast l := rfl
  rw [ht, if_pos (by decide)]
  simp [whenE]

theorem rdRec_part {l t : List Int} (hl : t.length = 0 ∨ l.length < 256 ∨ t.getD 0 0 = 69) (ht : t.length < 5) (h0 : t.length = 0 ∨ t.getD 0 0 = 69 ∨ t.getD 0 0 = 70) : rdRec t l = (28, false, 0) := by
  by_cases h1 : t.length < 1
  · exact rdRec_none h1
  · refine rdRec_torn h1 ?_ ht
    rcases h0 with h0 | h0 | h0
    · omega
    · rw [h0]; rfl
    · rw [h0] at hl ⊢
      have hl' : l.length < 256 := by
        rcases hl with h | h | h
        · omega
        · exact h
        · cases h
      have : (((l.length : Nat) : Int) == 256) = false := by simp; omega
      unfold recErr
      rw [this]
      rfl

/-- Some frames' records. -/
def recsF (l : List Int) : Nat → Nat → List Int
  | _, 0 => []
  | i, k + 1 => tframe i (l.getD i 0) ++ recsF l (i + 1) k

theorem recs_recsF (l : List Int) : ∀ k i, recs l i ++ recsF l i k = recs l (i + k)
  | 0, i => by simp [recsF]
  | k + 1, i => by
    have := recs_recsF l k (i + 1)
    rw [show i + (k + 1) = (i + 1) + k by omega, ← this]
    simp [recsF, recs]

theorem recsF_len (l : List Int) : ∀ k i, (recsF l i k).length = 5 * k
  | 0, _ => rfl
  | k + 1, i => by simp only [recsF, List.length_append, recsF_len l k, tframe_len]; omega

theorem take_succ' {l : List Int} {i : Nat} (h : i < l.length) : l.take i ++ [l.getD i 0] = l.take (i + 1) := by
  rw [getD_of h, List.take_succ_eq_append_getElem h]

theorem rdAll_recs {l : List Int} (hw : W16 l) (h256 : l.length ≤ 256) (t : List Int) (m : Nat) : ∀ k i, i + k ≤ l.length → rdAll (m + k) (recsF l i k ++ t) (l.take i) = rdAll m t (l.take (i + k))
  | 0, i, _ => rfl
  | k + 1, i, h => by
    have hi : i < l.length := by omega
    have hlen : (l.take i).length = i := by rw [List.length_take]; omega
    have hc := hw _ (List.getElem_mem hi)
    have hr := rdRec_frame (l := l.take i) (t := recsF l (i + 1) k ++ t) (c := l.getD i 0) (by omega) (by rw [getD_of hi]; exact hc)
    rw [hlen] at hr
    have e : recsF l i (k + 1) ++ t = tframe i (l.getD i 0) ++ (recsF l (i + 1) k ++ t) := by simp [recsF]
    rw [e, show m + (k + 1) = (m + k) + 1 by omega, rdAll_more (by rw [hr]) (by rw [hr]), hr]
    have hd : List.drop 5 (tframe i (l.getD i 0) ++ (recsF l (i + 1) k ++ t)) = recsF l (i + 1) k ++ t := rfl
    rw [hd]
    simp only []
    rw [take_succ' hi, rdAll_recs hw h256 t m k (i + 1) (by omega)]
    congr 1
    congr 1
    omega

theorem rbAll_recs {f : Int} {l : List Int} (hw : W16 l) (h256 : l.length ≤ 256) (hf : f + (l.length : Int) ≤ 10000000) (t : List Int) (m : Nat) : ∀ k i, i + k ≤ l.length → rbAll f (m + k) (recsF l i k ++ t) (l.take i) = rbAll f m t (l.take (i + k))
  | 0, i, _ => rfl
  | k + 1, i, h => by
    have hi : i < l.length := by omega
    have hlen : (l.take i).length = i := by rw [List.length_take]; omega
    have hc := hw _ (List.getElem_mem hi)
    have hr := rdRec_frame (l := l.take i) (t := recsF l (i + 1) k ++ t) (c := l.getD i 0) (by omega) (by rw [getD_of hi]; exact hc)
    rw [hlen] at hr
    have e : recsF l i (k + 1) ++ t = tframe i (l.getD i 0) ++ (recsF l (i + 1) k ++ t) := by simp [recsF]
    rw [e, show m + (k + 1) = (m + k) + 1 by omega, rbAll_more (by rw [hr]; exact ⟨rfl, rfl, by rw [hlen]; omega⟩), hr]
    have hd : List.drop 5 (tframe i (l.getD i 0) ++ (recsF l (i + 1) k ++ t)) = recsF l (i + 1) k ++ t := rfl
    rw [hd]
    simp only []
    rw [take_succ' hi, rbAll_recs hw h256 hf t m k (i + 1) (by omega)]
    congr 1
    congr 1
    omega

/-- What is left of a record that is cut off. -/
theorem tail_head {l : List Int} {k n q : Nat} (hn : k + n = l.length) : ((recsF l k n ++ tlast l).take q).length = 0 ∨ ((recsF l k n ++ tlast l).take q).getD 0 0 = 69 ∧ n = 0 ∨ ((recsF l k n ++ tlast l).take q).getD 0 0 = 70 ∧ n ≠ 0 := by
  cases q with
  | zero => exact .inl rfl
  | succ q =>
    cases n with
    | zero => exact .inr (.inl ⟨rfl, rfl⟩)
    | succ n => exact .inr (.inr ⟨rfl, by omega⟩)

theorem record_bytes {k a b : Int} (hk : 0 ≤ k ∧ k ≤ 255) : Bytes (record k a b) := by
  intro x hx
  simp only [record, List.mem_cons, List.not_mem_nil, or_false] at hx
  rcases hx with rfl | rfl | rfl | rfl | rfl <;> omega


theorem isName_byte {nm : List UInt8} (h : isName nm = true) : ∀ b ∈ nm, b.toNat < 128 := by
  unfold isName at h
  simp only [Bool.and_eq_true, List.all_eq_true] at h
  intro b hb
  obtain ⟨i, hi, rfl⟩ := List.mem_iff_getElem.1 hb
  have := h.1 i (List.mem_range.2 hi)
  unfold nameAt at this
  rw [getD_of hi] at this
  simp only [Bool.or_eq_true, Bool.and_eq_true, decide_eq_true_eq, beq_iff_eq] at this
  omega
theorem plain_name {nm : List UInt8} (h : isName nm = true) : plain nm = true := by
  unfold plain
  rw [List.all_eq_true]
  exact fun b hb => decide_eq_true (isName_byte h b hb)
theorem bytesOf_strNs (nm : List UInt8) : bytesOf (strNs nm) = nm := by
  unfold bytesOf strNs
  rw [List.map_map]
  have : ((fun n : Int => UInt8.ofNat n.toNat) ∘ fun c : UInt8 => (c.toNat : Int)) = id := by
    funext c
    simp
  rw [this, List.map_id]
theorem head_len (nm : List UInt8) (f : Int) : (head nm f).length = 9 + nm.length := by
  simp only [head, List.length_append, strNs_len, four, List.length_cons, List.length_nil]; omega
theorem four_num {f : Int} (hf : 0 ≤ f ∧ f ≤ 10000000) : number (four f) = f := by
  show 256 * (256 * (256 * (256 * 0 + f / 16777216 % 256) + f / 65536 % 256) + f / 256 % 256) + f % 256 = f
  omega

theorem begin_nm {nm : List UInt8} {f : Int} (hn : isName nm = true) (hf : 0 ≤ f ∧ f ≤ 10000000) (r : List Int) : rdBegin (head nm f ++ r) = (0, nm, f, r) := by
  obtain ⟨l1, l2⟩ := isName_len hn
  have e : head nm f ++ r = [82, 69, 69, 76] ++ ([((nm.length : Int)) % 256] ++ (strNs nm ++ (four f ++ r))) := by
    simp only [head, List.append_assoc]
  rw [e]
  have d4 : List.drop 4 ([82, 69, 69, 76] ++ ([((nm.length : Int)) % 256] ++ (strNs nm ++ (four f ++ r)))) = [((nm.length : Int)) % 256] ++ (strNs nm ++ (four f ++ r)) := rfl
  have t4 : List.take 4 ([82, 69, 69, 76] ++ ([((nm.length : Int)) % 256] ++ (strNs nm ++ (four f ++ r)))) = [82, 69, 69, 76] := rfl
  have g0 : (([((nm.length : Int)) % 256] ++ (strNs nm ++ (four f ++ r))).getD 0 0).toNat = nm.length := by
    show ((nm.length : Int) % 256).toNat = nm.length
    omega
  have d1 : List.drop 1 ([((nm.length : Int)) % 256] ++ (strNs nm ++ (four f ++ r))) = strNs nm ++ (four f ++ r) := rfl
  have tk : List.take nm.length (strNs nm ++ (four f ++ r)) = strNs nm := by rw [List.take_append_of_le_length (by rw [strNs_len]; exact Nat.le_refl _), List.take_of_length_le (by rw [strNs_len]; exact Nat.le_refl _)]
  have dk : List.drop nm.length (strNs nm ++ (four f ++ r)) = four f ++ r := by rw [List.drop_append_of_le_length (by rw [strNs_len]; exact Nat.le_refl _), List.drop_of_length_le (by rw [strNs_len]; exact Nat.le_refl _)]; rfl
  have t5 : List.take 4 (four f ++ r) = four f := rfl
  have d5 : List.drop 4 (four f ++ r) = r := rfl
  unfold rdBegin
  rw [if_neg (by simp), t4, if_pos rfl, d4, g0, d1, tk, dk, t5, d5, bytesOf_strNs, plain_name hn, hn, four_num hf, if_neg (by simp), if_neg (by simp [strNs_len]), if_pos (show (true && true) = true from rfl), if_neg (by simp [four]), decide_eq_false (by omega)]
  rfl

section
variable {nm : List UInt8} {f : Int} {l : List Int}

theorem stream_eq : stream nm f l = head nm f ++ (recsF l 0 l.length ++ tlast l) := by
  unfold stream
  have a := recs_recsF l l.length 0
  rw [Nat.zero_add] at a
  rw [← a, List.append_assoc]
  rfl
theorem stream_length : (stream nm f l).length = 9 + nm.length + 5 * l.length + 5 := by
  rw [stream_eq]
  simp only [List.length_append, recsF_len, tlast_len, head_len]; omega

theorem cut_eqN (k q : Nat) (hk : k ≤ l.length) : (stream nm f l).take (9 + nm.length + 5 * k + q) = head nm f ++ (recsF l 0 k ++ (recsF l k (l.length - k) ++ tlast l).take q) := by
  have e1 : recsF l 0 l.length = recsF l 0 k ++ recsF l k (l.length - k) := by
    have a := recs_recsF l k 0
    have b := recs_recsF l (l.length - k) k
    have c := recs_recsF l l.length 0
    rw [show k + (l.length - k) = l.length by omega] at b
    have e0 : recs l 0 = [] := rfl
    rw [e0, List.nil_append, Nat.zero_add] at a c
    rw [c, ← b, a]
  have e2 : stream nm f l = (head nm f ++ recsF l 0 k) ++ (recsF l k (l.length - k) ++ tlast l) := by
    rw [stream_eq, e1]
    simp only [List.append_assoc]
  have hl : (head nm f ++ recsF l 0 k).length = 9 + nm.length + 5 * k := by rw [List.length_append, recsF_len, head_len]
  rw [e2, List.take_append, List.take_of_length_le (by omega), hl, show 9 + nm.length + 5 * k + q - (9 + nm.length + 5 * k) = q by omega, List.append_assoc]

theorem cut_lenN (k q : Nat) (hk : k ≤ l.length) (hq : q < 5) : ((stream nm f l).take (9 + nm.length + 5 * k + q)).length = 9 + nm.length + 5 * k + q := by
  rw [List.length_take, stream_length]; omega

variable (h : ReelOk nm f l)
include h
theorem tail_recN (k q : Nat) (hk : k ≤ l.length) (hq : q < 5) : rdRec ((recsF l k (l.length - k) ++ tlast l).take q) (l.take k) = (28, false, 0) := by
  have ht := tail_head (l := l) (k := k) (n := l.length - k) (q := q) (by omega)
  have hlt : (l.take k).length = k := by rw [List.length_take]; omega
  have h2 := h.len
  refine rdRec_part ?_ (by rw [List.length_take]; omega) ?_
  · rcases ht with ht | ht | ht
    · exact .inl ht
    · exact .inr (.inr ht.1)
    · exact .inr (.inl (by omega))
  · rcases ht with ht | ht | ht
    · exact .inl ht
    · exact .inr (.inl ht.1)
    · exact .inr (.inr ht.1)

theorem read_cutN (k q : Nat) (hk : k ≤ l.length) (hq : q < 5) : readS ((stream nm f l).take (9 + nm.length + 5 * k + q)) = (([], 0, []), 28) := by
  have hlen := cut_lenN (nm := nm) (f := f) k q hk hq
  rw [cut_eqN k q hk] at *
  have hb := begin_nm h.name h.start (recsF l 0 k ++ (recsF l k (l.length - k) ++ tlast l).take q)
  refine readS_err hb (l := l.take k) (q := (recsF l k (l.length - k) ++ tlast l).take q) ?_ (by decide)
  rw [hlen, show 9 + nm.length + 5 * k + q + 1 = (9 + nm.length + 4 * k + q + 1) + k by omega]
  have := rdAll_recs h.w h.len ((recsF l k (l.length - k) ++ tlast l).take q) (9 + nm.length + 4 * k + q + 1) k 0 (by omega)
  rw [Nat.zero_add, List.take_zero] at this
  rw [this]
  have hp := tail_recN h k q hk hq
  rw [rdAll_stop (by rw [hp]; decide), hp]

theorem rebuilt_cutN (k q : Nat) (h1 : 1 ≤ k) (hk : k ≤ l.length) (hq : q < 5) : rebuilt ((stream nm f l).take (9 + nm.length + 5 * k + q)) = ((nm, f, l.take k), false, 0) := by
  have hlen := cut_lenN (nm := nm) (f := f) k q hk hq
  have hrd := read_cutN h k q hk hq
  rw [cut_eqN k q hk] at *
  have hb := begin_nm h.name h.start (recsF l 0 k ++ (recsF l k (l.length - k) ++ tlast l).take q)
  have hlt : (l.take k).length = k := by rw [List.length_take]; omega
  have hx := rebuilt_some hb (l := l.take k) ?_ (by omega)
  · rw [hx, hrd]; rfl
  rw [hlen, show 9 + nm.length + 5 * k + q + 1 = (9 + nm.length + 4 * k + q + 1) + k by omega]
  have := rbAll_recs h.w h.len h.fin ((recsF l k (l.length - k) ++ tlast l).take q) (9 + nm.length + 4 * k + q + 1) k 0 (by omega)
  rw [Nat.zero_add, List.take_zero] at this
  rw [this]
  have hp := tail_recN h k q hk hq
  exact rbAll_stop (by rw [hp]; simp)

theorem read_allN : readS (stream nm f l) = ((nm, f, l), 0) := by
  have hb := begin_nm h.name h.start (recsF l 0 l.length ++ tlast l)
  rw [← stream_eq] at hb
  refine readS_ok hb (l := l) (q := []) ?_ ?_
  · rw [stream_length, show 9 + nm.length + 5 * l.length + 5 + 1 = (9 + nm.length + 4 * l.length + 5 + 1) + l.length by omega]
    have := rdAll_recs h.w h.len (tlast l) (9 + nm.length + 4 * l.length + 5 + 1) l.length 0 (by omega)
    rw [Nat.zero_add, List.take_zero, List.take_length] at this
    rw [this]
    have hr := rdRec_last (l := l) (t := []) h.len
    rw [List.append_nil] at hr
    rw [rdAll_last (by rw [hr]) (by rw [hr])]
    rfl
  · rw [checkReel_zero.2 h]; rfl

omit h in
theorem stream_byte : Bytes (stream nm f l) := by
  unfold stream
  refine Bytes.app (Bytes.app ?_ ?_) ?_
  · intro x hx
    simp only [head, four, List.mem_append, List.mem_cons, List.not_mem_nil, or_false] at hx
    rcases hx with ((hx | hx) | hx) | hx
    · rcases hx with rfl | rfl | rfl | rfl <;> omega
    · omega
    · unfold strNs at hx
      obtain ⟨c, _, rfl⟩ := List.mem_map.1 hx
      have := c.toNat_lt
      omega
    · rcases hx with rfl | rfl | rfl | rfl <;> omega
  · have key : ∀ i, Bytes (recs l i) := by
      intro i
      induction i with
      | zero => intro x hx; cases hx
      | succ i ih => exact Bytes.app ih (record_bytes (by omega))
    exact key _
  · exact record_bytes (by omega)
end
end Go.Sx

/- Plain functions and hints. -/
namespace Go.Sx.U
/-- What the reference reads at a place. -/
def recS (s : List Int) (at_ : Int) (l : List Int) : Int × Bool × Int := rdRec (s.drop at_.toNat) l
def hdAt (s : List Int) : Int := 9 + s.getD 4 0
end Go.Sx.U
namespace Go.Sx
open U
@[reducible] def rnV (nm : List UInt8) (f : Int) : V := .agg [.one (.str nm), .one (.int .i64 f), .one .nils]
def h105 : Hints := ⟨fun f k s => match f, k with
  | 105, 3 => match listAs s 0 (.int .i64) with
    | some l => some ⟨Nat, fun i => s.at [0] [tI 4 i, tI 3 (isum (List.take i l) % 65521)], fun i => i ≤ List.length l, fun i => List.length l - i⟩
    | _ => none
  | _, _ => none, 0⟩
def h30 : Hints := ⟨fun f k s => match f, k with
  | 30, 4 => match boxAt s 4, boxAt s 2, listAs s 0 (.int .u8), intOfT s 5 with
    | some (i4, [.one (.str nm), .one (.int .i64 f), _]), some (i2, c2), some r, some a => some ⟨Nat, fun i => ⟨tI 5 (a + 5 * (i : Int)) :: keepT [0, 2, 4] s.tm, [(i2, some (.box c2)), (i4, some (.box [.one (.str nm), .one (.int .i64 f), .one (.own s.nx)])), (s.nx, some (.row (.int .i64) (chks (List.drop a.toNat r) i)))], s.nx + 1, s.lr⟩,
        fun i => 5 * i ≤ List.length (List.drop a.toNat r) ∧ i ≤ 256 ∧ rdAt (List.drop a.toNat r) nm f i, fun i => List.length (List.drop a.toNat r) - 5 * i⟩
    | _, _, _, _ => none
  | _, _ => none, 0⟩
def h31 : Hints := ⟨fun f k s => match f, k with
  | 31, 4 => match boxAt s 5, boxAt s 2, listAs s 0 (.int .u8), intOfT s 6 with
    | some (i4, [.one (.str nm), .one (.int .i64 f), _]), some (i2, c2), some r, some a => some ⟨Nat, fun i => ⟨tI 6 (a + 5 * (i : Int)) :: keepT [0, 2, 5] s.tm, [(i2, some (.box c2)), (i4, some (.box [.one (.str nm), .one (.int .i64 f), .one (.own s.nx)])), (s.nx, some (.row (.int .i64) (chks (List.drop a.toNat r) i)))], s.nx + 1, s.lr⟩,
        fun i => 5 * i ≤ List.length (List.drop a.toNat r) ∧ i ≤ 256 ∧ rbAt (List.drop a.toNat r) nm f i, fun i => List.length (List.drop a.toNat r) - 5 * i⟩
    | _, _, _, _ => none
  | _, _ => none, 0⟩
def h118 : Hints := ⟨fun _ _ _ => none, 5⟩
end Go.Sx
namespace Go.Sx
open U
def sp103 : FSpec := ⟨fun vs => match vs with
  | [.one (.int .i64 n)] => some ([0 ≤ n ∧ n ≤ 65535], .val (.one (.frs (.int .u8) [n / 256 % 256, n % 256])))
  | _ => none, true⟩
def sp104 : FSpec := ⟨fun vs => match vs with
  | [.one (.int .i64 n), .one (.int .i64 c)] => some ([0 ≤ n ∧ n ≤ 1000, 0 ≤ c ∧ c ≤ 65535], .val (.one (.frs (.int .u8) (tframe n c))))
  | _ => none, true⟩
def sp105 : FSpec := ⟨fun vs => match vs with
  | [.one (.sl (.int .i64) l)] => some ([List.length l ≤ 65535, W16 l], .val (.one (.frs (.int .u8) (tlast l))))
  | _ => none, true⟩
def sp119 : FSpec := ⟨fun vs => match vs with
  | [.one (.sl (.int .u8) s), .one (.int .i64 a), .agg [.one (.str _nm), .one (.int .i64 _f), .one (.sl (.int .i64) l)]] => some ([List.length s ≤ 1000000, Bytes s, 0 ≤ a ∧ a ≤ 1000000, List.length l ≤ 256, W16 l], .tup [iV (if (recS s a l).1 = 0 then (recS s a l).2.2 else 0), bV (if (recS s a l).1 = 0 then (recS s a l).2.1 else false), iV (recS s a l).1])
  | _ => none, true⟩
def sp118 : FSpec := ⟨fun vs => match vs with
  | [.one (.sl (.int .u8) s)] => some ([List.length s ≤ 1000000, Bytes s], .tup [rnV (if (rdBegin s).1 = 0 then (rdBegin s).2.1 else []) (if (rdBegin s).1 = 0 then (rdBegin s).2.2.1 else 0), iV (if (rdBegin s).1 = 0 then hdAt s else 0), iV (rdBegin s).1])
  | _ => none, true⟩
def sp30 : FSpec := ⟨fun vs => match vs with
  | [.one (.sl (.int .u8) s)] => some ([List.length s ≤ 100000, Bytes s], .tup [rV (readS s).1.1 (readS s).1.2.1 (readS s).1.2.2, iV (readS s).2])
  | _ => none, true⟩
def sp31 : FSpec := ⟨fun vs => match vs with
  | [.one (.sl (.int .u8) s)] => some ([List.length s ≤ 100000, Bytes s], .tup [rV (rebuilt s).1.1 (rebuilt s).1.2.1 (rebuilt s).1.2.2, bV (rebuilt s).2.1, iV (rebuilt s).2.2])
  | _ => none, true⟩
end Go.Sx

/- What the engine asks, written out (printed by a program). -/
namespace Go.Sx
open U
theorem vc103 (n : Int) : exF (env false [] []) h0 0 103 Proofs.Tryz.f103 [iV n] (.val (.one (.frs (.int .u8) [n / 256 % 256, n % 256]))) = (((0 : Int) ≤ n ∧ (0 : Int) < (256 : Int) ∧ fits IntKind.i64 (n / (256 : Int))) ∧ ((0 : Int) ≤ n ∧ (0 : Int) < (256 : Int)) ∧ [n / (256 : Int) % (256 : Int), n % (256 : Int) % (256 : Int)] = [n / (256 : Int) % (256 : Int), n % (256 : Int)] ∧ True) := by
  kernel_rfl
theorem vc104 (n c : Int) : exF (env false [(103, sp103)] []) h0 0 104 Proofs.Tryz.f104 [iV n, iV c] (.val (.one (.frs (.int .u8) (tframe n c)))) = (((0 : Int) ≤ c ∧ c ≤ (65535 : Int)) ∧ room (3 : Nat) (1 : Nat) ∧ fits IntKind.i64 ((263 : Int) * n) ∧ fits IntKind.i64 ((263 : Int) * n + c) ∧ fits IntKind.i64 ((263 : Int) * ((263 : Int) * n + c)) ∧ fits IntKind.i64 ((263 : Int) * ((263 : Int) * n + c) + (97 : Int)) ∧ ((0 : Int) ≤ (263 : Int) * ((263 : Int) * n + c) + (97 : Int) ∧ (0 : Int) < (65521 : Int)) ∧ ((0 : Int) ≤ ((263 : Int) * ((263 : Int) * n + c) + (97 : Int)) % (65521 : Int) ∧ ((263 : Int) * ((263 : Int) * n + c) + (97 : Int)) % (65521 : Int) ≤ (65535 : Int)) ∧ room (List.length ([(70 : Int)] ++ [c / (256 : Int) % (256 : Int), c % (256 : Int)]) + (2 : Nat)) (1 : Nat) ∧ [(70 : Int)] ++ [c / (256 : Int) % (256 : Int), c % (256 : Int)] ++ [((263 : Int) * ((263 : Int) * n + c) + (97 : Int)) % (65521 : Int) / (256 : Int) % (256 : Int), ((263 : Int) * ((263 : Int) * n + c) + (97 : Int)) % (65521 : Int) % (256 : Int)] = tframe n c ∧ True) := by
  kernel_rfl
theorem vc105 (l : List Int) : exF (env false [(103, sp103)] []) h105 0 105 Proofs.Tryz.f105 [.one (.sl (.int .i64) l)] (.val (.one (.frs (.int .u8) (tlast l)))) = (let q0 := (↑(List.length l) : Int); (∃ (g : Nat), Nat.le g (List.length l) ∧ (0 : Int) = (↑g : Int) ∧ (0 : Int) = isum (List.take g l) % (65521 : Int) ∧ l = l ∧ True) ∧ ∀ (g : Nat), let q1 := (List.take g l); let q2 := (isum q1 % (65521 : Int) + List.getD l g (0 : Int)); Nat.le g (List.length l) → splitB (decide ((↑g : Int) < q0)) (((0 : Int) ≤ (↑g : Int) ∧ (↑g : Int) < q0) ∧ fits IntKind.i64 q2 ∧ ((0 : Int) ≤ isum q1 % (65521 : Int) + List.getD l g (0 : Int) ∧ (0 : Int) < (65521 : Int)) ∧ fits IntKind.i64 ((↑g : Int) + (1 : Int)) ∧ ∃ (g' : Nat), Nat.le g' (List.length l) ∧ List.length l - g' < List.length l - g ∧ (↑g : Int) + (1 : Int) = (↑g' : Int) ∧ q2 % (65521 : Int) = isum (List.take g' l) % (65521 : Int) ∧ l = l ∧ True) (((0 : Int) ≤ q0 ∧ q0 ≤ (65535 : Int)) ∧ room (3 : Nat) (1 : Nat) ∧ ((0 : Int) ≤ isum q1 % (65521 : Int) ∧ isum q1 % (65521 : Int) ≤ (65535 : Int)) ∧ room (List.length ([(69 : Int)] ++ [q0 / (256 : Int) % (256 : Int), q0 % (256 : Int)]) + (2 : Nat)) (1 : Nat) ∧ [(69 : Int)] ++ [q0 / (256 : Int) % (256 : Int), q0 % (256 : Int)] ++ [isum q1 % (65521 : Int) / (256 : Int) % (256 : Int), isum q1 % (65521 : Int) % (256 : Int)] = tlast l ∧ True)) := by
  kernel_rfl
theorem vc119 (s : List Int) (a : Int) (nm : List UInt8) (f : Int) (l : List Int) : exF (env false [(104, sp104), (105, sp105)] []) h0 0 119 Proofs.Tryz.f119 [.one (.sl (.int .u8) s), iV a, rV nm f l] (.tup [iV (if (recS s a l).1 = 0 then (recS s a l).2.2 else 0), bV (if (recS s a l).1 = 0 then (recS s a l).2.1 else false), iV (recS s a l).1]) = (let q3 := (↑(List.length s) : Int); let q8 := ((0 : Int) ≤ a ∧ a < q3); let q11 := (List.getD s (Int.toNat a) (0 : Int) == (69 : Int)); let q4 := (Int.toNat (a + (1 : Int))); let q5 := (Int.toNat (a + (2 : Int))); let q0 := (q8 ∧ ((256 : Int) * List.getD s q4 (0 : Int) + List.getD s q5 (0 : Int) = if (recS s a l).1 = (0 : Int) then (recS s a l).2.2 else (0 : Int)) ∧ (q11 = if (recS s a l).1 = (0 : Int) then (recS s a l).2.1 else false) ∧ (0 : Int) = (recS s a l).1 ∧ True); let q1 := ((0 : Int) = if (recS s a l).1 = (0 : Int) then (recS s a l).2.2 else (0 : Int)); let q2 := (false = if (recS s a l).1 = (0 : Int) then (recS s a l).2.1 else false); let q6 := (List.take (Int.toNat (a + (5 : Int)) - Int.toNat a) (List.drop (Int.toNat a) s)); let q7 := ((256 : Int) * List.getD s q4 (0 : Int) + List.getD s q5 (0 : Int)); let q9 := (↑(List.length l) : Int); let q10 := ((0 : Int) ≤ a ∧ a ≤ a + (5 : Int) ∧ a + (5 : Int) ≤ q3); let q12 := (q1 ∧ q2 ∧ (28 : Int) = (recS s a l).1 ∧ True); let q13 := (q1 ∧ q2 ∧ (27 : Int) = (recS s a l).1 ∧ True); splitB (decide (q3 ≤ a)) q12 (q8 ∧ ((List.getD s (Int.toNat a) (0 : Int) != (70 : Int)) = true → (0 : Int) ≤ a ∧ a < q3) ∧ splitB (bif List.getD s (Int.toNat a) (0 : Int) != (70 : Int) then List.getD s (Int.toNat a) (0 : Int) != (69 : Int) else false) (q1 ∧ q2 ∧ (1 : Int) = (recS s a l).1 ∧ True) (q8 ∧ splitB (bif List.getD s (Int.toNat a) (0 : Int) == (70 : Int) then q9 == (256 : Int) else false) (q1 ∧ q2 ∧ (5 : Int) = (recS s a l).1 ∧ True) (fits IntKind.i64 (a + (5 : Int)) ∧ splitB (decide (q3 < a + (5 : Int))) q12 (fits IntKind.i64 (a + (1 : Int)) ∧ ((0 : Int) ≤ a + (1 : Int) ∧ a + (1 : Int) < q3) ∧ fits IntKind.i64 (List.getD s q4 (0 : Int)) ∧ fits IntKind.i64 ((256 : Int) * List.getD s q4 (0 : Int)) ∧ fits IntKind.i64 (a + (2 : Int)) ∧ ((0 : Int) ≤ a + (2 : Int) ∧ a + (2 : Int) < q3) ∧ fits IntKind.i64 (List.getD s q5 (0 : Int)) ∧ fits IntKind.i64 q7 ∧ ((0 : Int) ≤ q9 ∧ q9 ≤ (1000 : Int)) ∧ ((0 : Int) ≤ (256 : Int) * List.getD s q4 (0 : Int) + List.getD s q5 (0 : Int) ∧ (256 : Int) * List.getD s q4 (0 : Int) + List.getD s q5 (0 : Int) ≤ (65535 : Int)) ∧ q8 ∧ splitB q11 (List.length l ≤ (65535 : Nat) ∧ (∀ (x : Int), x ∈ l → (0 : Int) ≤ x ∧ x ≤ (65535 : Int)) ∧ fits IntKind.i64 (a + (5 : Int)) ∧ q10 ∧ splitB (bytesOf (tlast l) != bytesOf q6) q13 q0) (fits IntKind.i64 (a + (5 : Int)) ∧ q10 ∧ splitB (bytesOf (tframe q9 q7) != bytesOf q6) q13 q0)))))) := by
  kernel_rfl
theorem vc118 (s : List Int) : exF (env false [(102, sp102)] []) h118 0 118 Proofs.Tryz.f118 [.one (.sl (.int .u8) s)] (.tup [rnV (if (rdBegin s).1 = 0 then (rdBegin s).2.1 else []) (if (rdBegin s).1 = 0 then (rdBegin s).2.2.1 else 0), iV (if (rdBegin s).1 = 0 then hdAt s else 0), iV (rdBegin s).1]) = (let q9 := ((5 : Int) + List.getD s (4 : Nat) (0 : Int) + (2 : Int)); let q8 := ((5 : Int) + List.getD s (4 : Nat) (0 : Int) + (1 : Int)); let q5 := ((5 : Int) + List.getD s (4 : Nat) (0 : Int) + (0 : Int)); let q10 := ((0 : Int) + List.getD s (Int.toNat q5) (0 : Int)); let q3 := ((256 : Int) * q10 + List.getD s (Int.toNat q8) (0 : Int)); let q0 := ((256 : Int) * q3 + List.getD s (Int.toNat q9) (0 : Int)); let q12 := ((0 : Int) = if (rdBegin s).1 = (0 : Int) then (rdBegin s).2.2.1 else (0 : Int)); let q13 := ((0 : Int) = if (rdBegin s).1 = (0 : Int) then hdAt s else (0 : Int)); let q14 := ([] = if (rdBegin s).1 = (0 : Int) then (rdBegin s).2.1 else []); let q1 := (q14 ∧ q12 ∧ q13 ∧ (28 : Int) = (rdBegin s).1 ∧ True); let q2 := (q14 ∧ q12 ∧ q13 ∧ (1 : Int) = (rdBegin s).1 ∧ True); let q4 := (↑(List.length s) : Int); let q6 := ((5 : Int) + List.getD s (4 : Nat) (0 : Int) + (3 : Int)); let q11 := ((5 : Int) + List.getD s (4 : Nat) (0 : Int)); let q7 := (List.take (Int.toNat q11 - (5 : Nat)) (List.drop (5 : Nat) s)); let q15 := ((5 : Int) + List.getD s (4 : Nat) (0 : Int) + (4 : Int)); splitB (decide (q4 < (4 : Int))) q1 (((0 : Int) ≤ (0 : Int) ∧ (0 : Int) ≤ (4 : Int) ∧ (4 : Int) ≤ q4) ∧ splitB (bytesOf (List.take (4 : Nat) s) != Array.toList (ByteArray.data { data := #[(82 : UInt8), (69 : UInt8), (69 : UInt8), (76 : UInt8)] })) q2 ((decide (q4 < (5 : Int)) = false → (0 : Int) ≤ (4 : Int) ∧ (4 : Int) < q4) ∧ (decide (q4 < (5 : Int)) = false → fits IntKind.i64 (List.getD s (4 : Nat) (0 : Int))) ∧ (decide (q4 < (5 : Int)) = false → fits IntKind.i64 q11) ∧ splitB (bif decide (q4 < (5 : Int)) then true else decide (q4 < (5 : Int) + List.getD s (4 : Nat) (0 : Int))) q1 (((0 : Int) ≤ (4 : Int) ∧ (4 : Int) < q4) ∧ fits IntKind.i64 (List.getD s (4 : Nat) (0 : Int)) ∧ fits IntKind.i64 q11 ∧ ((0 : Int) ≤ (5 : Int) ∧ (5 : Int) ≤ (5 : Int) + List.getD s (4 : Nat) (0 : Int) ∧ (5 : Int) + List.getD s (4 : Nat) (0 : Int) ≤ q4) ∧ List.length (bytesOf q7) ≤ (1000000000 : Nat) ∧ splitB (whenE (!isName (bytesOf q7)) (8 : Int) != (0 : Int)) q2 (fits IntKind.i64 q15 ∧ splitB (decide (q4 < (5 : Int) + List.getD s (4 : Nat) (0 : Int) + (4 : Int))) q1 (fits IntKind.i64 (0 : Int) ∧ fits IntKind.i64 q5 ∧ ((0 : Int) ≤ (5 : Int) + List.getD s (4 : Nat) (0 : Int) + (0 : Int) ∧ (5 : Int) + List.getD s (4 : Nat) (0 : Int) + (0 : Int) < q4) ∧ fits IntKind.i64 (List.getD s (Int.toNat q5) (0 : Int)) ∧ fits IntKind.i64 q10 ∧ fits IntKind.i64 (1 : Int) ∧ fits IntKind.i64 ((256 : Int) * q10) ∧ fits IntKind.i64 q8 ∧ ((0 : Int) ≤ (5 : Int) + List.getD s (4 : Nat) (0 : Int) + (1 : Int) ∧ (5 : Int) + List.getD s (4 : Nat) (0 : Int) + (1 : Int) < q4) ∧ fits IntKind.i64 (List.getD s (Int.toNat q8) (0 : Int)) ∧ fits IntKind.i64 q3 ∧ fits IntKind.i64 (2 : Int) ∧ fits IntKind.i64 ((256 : Int) * q3) ∧ fits IntKind.i64 q9 ∧ ((0 : Int) ≤ (5 : Int) + List.getD s (4 : Nat) (0 : Int) + (2 : Int) ∧ (5 : Int) + List.getD s (4 : Nat) (0 : Int) + (2 : Int) < q4) ∧ fits IntKind.i64 (List.getD s (Int.toNat q9) (0 : Int)) ∧ fits IntKind.i64 q0 ∧ fits IntKind.i64 (3 : Int) ∧ fits IntKind.i64 ((256 : Int) * q0) ∧ fits IntKind.i64 q6 ∧ ((0 : Int) ≤ (5 : Int) + List.getD s (4 : Nat) (0 : Int) + (3 : Int) ∧ (5 : Int) + List.getD s (4 : Nat) (0 : Int) + (3 : Int) < q4) ∧ fits IntKind.i64 (List.getD s (Int.toNat q6) (0 : Int)) ∧ fits IntKind.i64 ((256 : Int) * q0 + List.getD s (Int.toNat q6) (0 : Int)) ∧ fits IntKind.i64 (4 : Int) ∧ splitB (decide ((10000000 : Int) < (256 : Int) * q0 + List.getD s (Int.toNat q6) (0 : Int))) q2 (fits IntKind.i64 q15 ∧ (bytesOf q7 = if (rdBegin s).1 = (0 : Int) then (rdBegin s).2.1 else []) ∧ ((256 : Int) * q0 + List.getD s (Int.toNat q6) (0 : Int) = if (rdBegin s).1 = (0 : Int) then (rdBegin s).2.2.1 else (0 : Int)) ∧ ((5 : Int) + List.getD s (4 : Nat) (0 : Int) + (4 : Int) = if (rdBegin s).1 = (0 : Int) then hdAt s else (0 : Int)) ∧ (0 : Int) = (rdBegin s).1 ∧ True))))))) := by
  kernel_rfl
theorem vc30 (s : List Int) : exFr (env false [(118, sp118), (119, sp119), (21, sp21)] []) h30 0 30 Proofs.Tryz.f30 [.one (.sl (.int .u8) s)] (.tup [rV (readS s).1.1 (readS s).1.2.1 (readS s).1.2.2, iV (readS s).2]) = (let q1 := (if (rdBegin s).1 = (0 : Int) then hdAt s else (0 : Int)); let q0 := (List.drop (Int.toNat q1) s); let q2 := (if (rdBegin s).1 = (0 : Int) then (rdBegin s).2.1 else []); let q3 := (if (rdBegin s).1 = (0 : Int) then (rdBegin s).2.2.1 else (0 : Int)); let q5 := (q3 = if (rdBegin s).1 = (0 : Int) then (rdBegin s).2.2.1 else (0 : Int)); let q6 := (q2 = if (rdBegin s).1 = (0 : Int) then (rdBegin s).2.1 else []); List.length s ≤ (1000000 : Nat) ∧ Bytes s ∧ splitB ((rdBegin s).1 != (0 : Int)) ([] = (readS s).1.1 ∧ (0 : Int) = (readS s).1.2.1 ∧ (readS s).1.2.2 = [] ∧ (rdBegin s).1 = (readS s).2 ∧ True) ((∃ (g : Nat), ((5 : Nat) * g ≤ List.length q0 ∧ g ≤ (256 : Nat) ∧ ∀ (n : Nat), rdAll (n + g) q0 [] = rdAll n (List.drop ((5 : Nat) * g) q0) (chks q0 g)) ∧ q1 = q1 + (5 : Int) * (↑g : Int) ∧ s = s ∧ nilB = [] ∧ (0 : Int) = (0 : Int) ∧ q6 ∧ q5 ∧ chks q0 g = [] ∧ True) ∧ ∀ (g : Nat), let q4 := (recS s (q1 + (5 : Int) * (↑g : Int)) (chks q0 g)); ((5 : Nat) * g ≤ List.length q0 ∧ g ≤ (256 : Nat) ∧ ∀ (n : Nat), rdAll (n + g) q0 [] = rdAll n (List.drop ((5 : Nat) * g) q0) (chks q0 g)) → List.length s ≤ (1000000 : Nat) ∧ Bytes s ∧ ((0 : Int) ≤ q1 + (5 : Int) * (↑g : Int) ∧ q1 + (5 : Int) * (↑g : Int) ≤ (1000000 : Int)) ∧ List.length (chks q0 g) ≤ (256 : Nat) ∧ (∀ (x : Int), x ∈ chks q0 g → (0 : Int) ≤ x ∧ x ≤ (65535 : Int)) ∧ splitB (q4.1 != (0 : Int)) ([] = (readS s).1.1 ∧ (0 : Int) = (readS s).1.2.1 ∧ (readS s).1.2.2 = [] ∧ q4.1 = (readS s).2 ∧ True) (fits IntKind.i64 (q1 + (5 : Int) * (↑g : Int) + (5 : Int)) ∧ splitB (if q4.1 = (0 : Int) then q4.2.1 else false) (splitB (decide (q1 + (5 : Int) * (↑g : Int) + (5 : Int) < (↑(List.length s) : Int))) ([] = (readS s).1.1 ∧ (0 : Int) = (readS s).1.2.1 ∧ (readS s).1.2.2 = [] ∧ (23 : Int) = (readS s).2 ∧ True) (List.length q2 ≤ (1000000000 : Nat) ∧ List.length (chks q0 g) ≤ (1000000 : Nat) ∧ splitB (checkReel q2 q3 (chks q0 g) != (0 : Int)) ([] = (readS s).1.1 ∧ (0 : Int) = (readS s).1.2.1 ∧ (readS s).1.2.2 = [] ∧ checkReel q2 q3 (chks q0 g) = (readS s).2 ∧ True) (q2 = (readS s).1.1 ∧ q3 = (readS s).1.2.1 ∧ chks q0 g = (readS s).1.2.2 ∧ (0 : Int) = (readS s).2 ∧ True))) (room (List.length (chks q0 g) + (1 : Nat)) (8 : Nat) ∧ ∃ (g' : Nat), ((5 : Nat) * g' ≤ List.length q0 ∧ g' ≤ (256 : Nat) ∧ ∀ (n : Nat), rdAll (n + g') q0 [] = rdAll n (List.drop ((5 : Nat) * g') q0) (chks q0 g')) ∧ List.length q0 - (5 : Nat) * g' < List.length q0 - (5 : Nat) * g ∧ q1 + (5 : Int) * (↑g : Int) + (5 : Int) = q1 + (5 : Int) * (↑g' : Int) ∧ s = s ∧ nilB = [] ∧ (0 : Int) = (0 : Int) ∧ q6 ∧ q5 ∧ chks q0 g ++ [if q4.1 = (0 : Int) then q4.2.2 else (0 : Int)] = chks q0 g' ∧ True)))) := by
  kernel_rfl
theorem vc31 (s : List Int) : exFr (env false [(118, sp118), (119, sp119), (30, sp30)] []) h31 0 31 Proofs.Tryz.f31 [.one (.sl (.int .u8) s)] (.tup [rV (rebuilt s).1.1 (rebuilt s).1.2.1 (rebuilt s).1.2.2, bV (rebuilt s).2.1, iV (rebuilt s).2.2]) = (let q2 := (if (rdBegin s).1 = (0 : Int) then hdAt s else (0 : Int)); let q0 := (List.drop (Int.toNat q2) s); let q1 := (if (rdBegin s).1 = (0 : Int) then (rdBegin s).2.2.1 else (0 : Int)); let q8 := (if (rdBegin s).1 = (0 : Int) then (rdBegin s).2.1 else []); let q5 := (q8 = if (rdBegin s).1 = (0 : Int) then (rdBegin s).2.1 else []); let q6 := (q1 = if (rdBegin s).1 = (0 : Int) then (rdBegin s).2.2.1 else (0 : Int)); List.length s ≤ (1000000 : Nat) ∧ Bytes s ∧ splitB ((rdBegin s).1 != (0 : Int)) ([] = (rebuilt s).1.1 ∧ (0 : Int) = (rebuilt s).1.2.1 ∧ (rebuilt s).1.2.2 = [] ∧ false = (rebuilt s).2.1 ∧ (rdBegin s).1 = (rebuilt s).2.2 ∧ True) ((∃ (g : Nat), ((5 : Nat) * g ≤ List.length q0 ∧ g ≤ (256 : Nat) ∧ ∀ (n : Nat), rbAll q1 (n + g) q0 [] = rbAll q1 n (List.drop ((5 : Nat) * g) q0) (chks q0 g)) ∧ q2 = q2 + (5 : Int) * (↑g : Int) ∧ s = s ∧ nilB = [] ∧ (0 : Int) = (0 : Int) ∧ q5 ∧ q6 ∧ chks q0 g = [] ∧ True) ∧ ∀ (g : Nat), let q7 := (↑(List.length (chks q0 g)) : Int); let q3 := (splitB (q7 == (0 : Int)) ([] = (rebuilt s).1.1 ∧ (0 : Int) = (rebuilt s).1.2.1 ∧ (rebuilt s).1.2.2 = [] ∧ false = (rebuilt s).2.1 ∧ (12 : Int) = (rebuilt s).2.2 ∧ True) (List.length s ≤ (100000 : Nat) ∧ Bytes s ∧ q8 = (rebuilt s).1.1 ∧ q1 = (rebuilt s).1.2.1 ∧ chks q0 g = (rebuilt s).1.2.2 ∧ ((readS s).2 == (0 : Int)) = (rebuilt s).2.1 ∧ (0 : Int) = (rebuilt s).2.2 ∧ True)); let q4 := (recS s (q2 + (5 : Int) * (↑g : Int)) (chks q0 g)); ((5 : Nat) * g ≤ List.length q0 ∧ g ≤ (256 : Nat) ∧ ∀ (n : Nat), rbAll q1 (n + g) q0 [] = rbAll q1 n (List.drop ((5 : Nat) * g) q0) (chks q0 g)) → fits IntKind.i64 (q1 + q7) ∧ splitB (decide (q1 + q7 < (10000000 : Int))) (List.length s ≤ (1000000 : Nat) ∧ Bytes s ∧ ((0 : Int) ≤ q2 + (5 : Int) * (↑g : Int) ∧ q2 + (5 : Int) * (↑g : Int) ≤ (1000000 : Int)) ∧ List.length (chks q0 g) ≤ (256 : Nat) ∧ (∀ (x : Int), x ∈ chks q0 g → (0 : Int) ≤ x ∧ x ≤ (65535 : Int)) ∧ splitB (bif q4.1 != (0 : Int) then true else if q4.1 = (0 : Int) then q4.2.1 else false) q3 (room (List.length (chks q0 g) + (1 : Nat)) (8 : Nat) ∧ fits IntKind.i64 (q2 + (5 : Int) * (↑g : Int) + (5 : Int)) ∧ ∃ (g' : Nat), ((5 : Nat) * g' ≤ List.length q0 ∧ g' ≤ (256 : Nat) ∧ ∀ (n : Nat), rbAll q1 (n + g') q0 [] = rbAll q1 n (List.drop ((5 : Nat) * g') q0) (chks q0 g')) ∧ List.length q0 - (5 : Nat) * g' < List.length q0 - (5 : Nat) * g ∧ q2 + (5 : Int) * (↑g : Int) + (5 : Int) = q2 + (5 : Int) * (↑g' : Int) ∧ s = s ∧ nilB = [] ∧ (0 : Int) = (0 : Int) ∧ q5 ∧ q6 ∧ chks q0 g ++ [if q4.1 = (0 : Int) then q4.2.2 else (0 : Int)] = chks q0 g' ∧ True)) q3)) := by
  kernel_rfl
theorem vc4 (s : List Int) : exF (env false [(18, sp18), (28, sp28), (27, sp27), (29, sp29), (30, sp30), (31, sp31), (32, sp32)] []) h0 0 4 Proofs.Tryz.f4 [.one (.sl (.int .u8) s)] (.val (bV true)) = (let q0 := ((readS s).1.1, (readS s).1.2.1, (readS s).1.2.2); let q1 := (1000000 : Nat); let q2 := ((rebuilt s).1.1, (rebuilt s).1.2.1, (rebuilt s).1.2.2); splitB (decide ((1500 : Int) < (↑(List.length s) : Int))) (true = true ∧ True) (List.length s ≤ q1 ∧ (List.length s ≤ q1 ∧ Bytes s) ∧ List.length s ≤ q1 ∧ (List.length s ≤ q1 ∧ Bytes s) ∧ List.length s ≤ (100000 : Nat) ∧ Bytes s ∧ List.length s ≤ (100000 : Nat) ∧ Bytes s ∧ List.length (readS s).1.2.2 ≤ q1 ∧ ((bif decide (q0 = q0) then (readS s).2 == (readS s).2 else false) = true → List.length (rebuilt s).1.2.2 ≤ q1) ∧ (bif bif bif bif bif decide (q0 = q0) then (readS s).2 == (readS s).2 else false then decide (q2 = q2) else false then (rebuilt s).2.1 == (rebuilt s).2.1 else false then (rebuilt s).2.2 == (rebuilt s).2.2 else false then true else false) = true ∧ True)) := by
  kernel_rfl
end Go.Sx
