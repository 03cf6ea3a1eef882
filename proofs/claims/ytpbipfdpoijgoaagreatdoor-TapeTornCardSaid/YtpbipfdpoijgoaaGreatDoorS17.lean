/- A verified symbolic run of functions, part 17: lemmas, no claim of their own. -/
import Derived.Test.YtpbipfdpoijgoaaGreatDoorS16
import Derived.OpenShut
import Derived.ProofKit
import Derived.Carry
import Derived.OpenVars
import Derived.Lib.LaidTab
import Derived.ChangeSame
import Derived.WalkKit
import Derived.Deep.DeepHandedRow
import Derived.JoinedCond
import Derived.KernelRfl
import Derived.Test.YtpbipfdpoijgoaaGreatDoorProg
import Derived.Test.YtpbipfdpoijgoaaGreatDoorCards
/- What the engine asks, written out (printed by a program). -/
namespace Go.Sx
open U
theorem vc97 (_u : Unit) : exF (env false [] []) h0 0 97 Proofs.Tryz.f97 [] (.val (.one (.sl rlT aR))) = ([(Array.toList (ByteArray.data { data := #[(97 : UInt8)] }), (10 : Int), [(0 : Int), (100 : Int), (200 : Int), (300 : Int), (400 : Int), (500 : Int)]), (Array.toList (ByteArray.data { data := #[(98 : UInt8)] }), (50 : Int), [(40 : Int), (50 : Int), (60 : Int), (70 : Int)])] = aR ∧ True) := by
  kernel_rfl
theorem vc98 (n : Int) : exF (env false [] []) h0 0 98 Proofs.Tryz.f98 [iV n] (.val (.one (.sl edT (aL n)))) = ([(Array.toList (ByteArray.data { data := #[(97 : UInt8)] }), (11 : Int), (14 : Int), (0 : Int), (0 : Int)), (Array.toList (ByteArray.data { data := #[(98 : UInt8)] }), n, (53 : Int), (1 : Int), (-1 : Int)), (Array.toList (ByteArray.data { data := #[(97 : UInt8)] }), (15 : Int), (16 : Int), (0 : Int), (0 : Int))] = aL n ∧ True) := by
  kernel_rfl
theorem vc96 (_u : Unit) : exF (env false [] []) h0 0 96 Proofs.Tryz.f96 [] (.val (sV aS)) = (List.length (Array.toList (ByteArray.data { data := #[(82 : UInt8), (69 : UInt8), (69 : UInt8), (76 : UInt8), (1 : UInt8), (99 : UInt8), (0 : UInt8), (0 : UInt8), (0 : UInt8), (1 : UInt8)] })) + List.length (bytesOf [(70 : Int), (1 : Int), (2 : Int), (9 : Int), (126 : Int), (69 : Int), (0 : Int), (1 : Int), (1 : Int), (2 : Int)]) ≤ (9223372036854775807 : Nat) ∧ Array.toList (ByteArray.data { data := #[(82 : UInt8), (69 : UInt8), (69 : UInt8), (76 : UInt8), (1 : UInt8), (99 : UInt8), (0 : UInt8), (0 : UInt8), (0 : UInt8), (1 : UInt8)] }) ++ bytesOf [(70 : Int), (1 : Int), (2 : Int), (9 : Int), (126 : Int), (69 : Int), (0 : Int), (1 : Int), (1 : Int), (2 : Int)] = aS ∧ True) := by
  kernel_rfl
theorem vc18 (_u : Unit) : exF (env false [(19, sp19), (29, sp29), (27, sp27), (43, sp43), (33, sp33), (37, sp37), (35, sp35), (36, sp36), (69, sp69), (49, sp49), (50, sp50), (51, sp51), (84, sp84), (58, sp58), (60, sp60), (90, sp90), (97, sp97), (98, sp98), (96, sp96), (48, sp48), (74, sp74), (57, sp57), (32, sp32), (47, sp47), (73, sp73), (56, sp56), (44, sp44), (66, sp66)] []) h0 0 18 Proofs.Tryz.f18 [] (.val (bV true)) = (let q1 := (aL (51 : Int)); let q36 := (((25 : Int), false), ((0 : Int), (0 : Int), (0 : Int), (23 : Int)), (0 : Int)); let q0 := (if chkEds aR q1 = (0 : Int) then labsN q36 (ls q1) else []); let q25 := (ByteArray.data { data := #[(98 : UInt8)] }); let q21 := (ByteArray.data { data := #[(97 : UInt8)] }); let q22 := (chgL aR q1 (2 : Int) (-1 : Int) (1 : Int) rollL); let q2 := (List.drop (1 : Nat) q22 = [(Array.toList q25, (51 : Int), (52 : Int), (1 : Int), (-1 : Int)), (Array.toList q21, (14 : Int), (16 : Int), (0 : Int), (0 : Int))]); let q11 := (chgL aR q1 (0 : Int) (1 : Int) (0 : Int) trimL); let q16 := (List.getD q11 (0 : Nat) ([], (0 : Int), (0 : Int), (0 : Int), (0 : Int))); let q27 := (↑(List.length (partL aR q1 (5 : Int)).1) : Int); let q28 := (aL (50 : Int)); let q29 := (↑(List.length q11) : Int); let q14 := ((partL aR q1 (5 : Int)).2 = [(Array.toList q21, (15 : Int), (16 : Int), (0 : Int), (0 : Int))]); let q3 := (bif bif bif bif bif bif bif chgE aR q1 (0 : Int) (1 : Int) (0 : Int) trimL + chgE aR q1 (2 : Int) (-1 : Int) (1 : Int) rollL + partE aR q1 (5 : Int) + convE aR q1 [(1 : Int), (1 : Int)] + chkEds aR q1 + chkText q28 == (0 : Int) then chgE aR q1 (2 : Int) (1 : Int) (0 : Int) slipL == (14 : Int) else false then partE aR q1 (3 : Int) == (22 : Int) else false then q29 == (3 : Int) else false then q16.2.2.1 == (15 : Int) else false then decide q2 else false then q27 == (2 : Int) else false then decide q14 else false); let q33 := (↑(List.length q0) : Int); let q12 := (List.getD q0 (1 : Nat) ((0 : Int), (0 : Int), (0 : Int), (0 : Int))); let q37 := (Ty.int IntKind.i64); let q23 := (Ty.pair q37 (Ty.pair q37 (Ty.pair q37 q37))); let q24 := (convL aR q1 [(1 : Int), (1 : Int)] = [[(0 : Int), (1 : Int)], [(2 : Int), (3 : Int)], [(4 : Int), (5 : Int)]]); let q4 := (bif bif bif bif bif bif bif bif bif bif chgE aR q1 (0 : Int) (1 : Int) (0 : Int) trimL + chgE aR q1 (2 : Int) (-1 : Int) (1 : Int) rollL + partE aR q1 (5 : Int) + convE aR q1 [(1 : Int), (1 : Int)] + chkEds aR q1 + chkText q28 == (0 : Int) then chgE aR q1 (2 : Int) (1 : Int) (0 : Int) slipL == (14 : Int) else false then partE aR q1 (3 : Int) == (22 : Int) else false then q29 == (3 : Int) else false then q16.2.2.1 == (15 : Int) else false then decide q2 else false then q27 == (2 : Int) else false then decide q14 else false then decide q24 else false then q33 == (3 : Int) else false then eqT q23 (q12.1, q12.2.1, q12.2.2.1, q12.2.2.2) ((0 : Int), (0 : Int), (1 : Int), (1 : Int)) else false); let q5 := (bif bif bif bif chgE aR q1 (0 : Int) (1 : Int) (0 : Int) trimL + chgE aR q1 (2 : Int) (-1 : Int) (1 : Int) rollL + partE aR q1 (5 : Int) + convE aR q1 [(1 : Int), (1 : Int)] + chkEds aR q1 + chkText q28 == (0 : Int) then chgE aR q1 (2 : Int) (1 : Int) (0 : Int) slipL == (14 : Int) else false then partE aR q1 (3 : Int) == (22 : Int) else false then q29 == (3 : Int) else false then q16.2.2.1 == (15 : Int) else false); let q6 := (soundsN aR q1 = [(Array.toList q21, (11 : Int), (1 : Int), (1 : Int)), (Array.toList q21, (12 : Int), (1 : Int), (1 : Int)), (Array.toList q25, (50 : Int), (1 : Int), (1 : Int)), (Array.toList q25, (51 : Int), (1 : Int), (1 : Int)), (Array.toList q25, (52 : Int), (1 : Int), (1 : Int)), (Array.toList q21, (15 : Int), (1 : Int), (1 : Int))]); let q7 := (bif bif bif bif bif bif bif bif bif chgE aR q1 (0 : Int) (1 : Int) (0 : Int) trimL + chgE aR q1 (2 : Int) (-1 : Int) (1 : Int) rollL + partE aR q1 (5 : Int) + convE aR q1 [(1 : Int), (1 : Int)] + chkEds aR q1 + chkText q28 == (0 : Int) then chgE aR q1 (2 : Int) (1 : Int) (0 : Int) slipL == (14 : Int) else false then partE aR q1 (3 : Int) == (22 : Int) else false then q29 == (3 : Int) else false then q16.2.2.1 == (15 : Int) else false then decide q2 else false then q27 == (2 : Int) else false then decide q14 else false then decide q24 else false then q33 == (3 : Int) else false); let q8 := (List.getD (confN aR q1) (3 : Nat) [] = [(Array.toList q21, (14 : Int), (1 : Int), (2 : Int)), (Array.toList q25, (51 : Int), (1 : Int), (2 : Int))]); let q9 := (strNs (List.take (19 : Nat) aS)); let q19 := (1000000 : Nat); let q10 := ((bif bif bif bif bif bif chgE aR q1 (0 : Int) (1 : Int) (0 : Int) trimL + chgE aR q1 (2 : Int) (-1 : Int) (1 : Int) rollL + partE aR q1 (5 : Int) + convE aR q1 [(1 : Int), (1 : Int)] + chkEds aR q1 + chkText q28 == (0 : Int) then chgE aR q1 (2 : Int) (1 : Int) (0 : Int) slipL == (14 : Int) else false then partE aR q1 (3 : Int) == (22 : Int) else false then q29 == (3 : Int) else false then q16.2.2.1 == (15 : Int) else false then decide q2 else false then q27 == (2 : Int) else false) = true → List.length (partL aR q1 (5 : Int)).2 ≤ q19); let q13 := (bif bif bif chgE aR q1 (0 : Int) (1 : Int) (0 : Int) trimL + chgE aR q1 (2 : Int) (-1 : Int) (1 : Int) rollL + partE aR q1 (5 : Int) + convE aR q1 [(1 : Int), (1 : Int)] + chkEds aR q1 + chkText q28 == (0 : Int) then chgE aR q1 (2 : Int) (1 : Int) (0 : Int) slipL == (14 : Int) else false then partE aR q1 (3 : Int) == (22 : Int) else false then q29 == (3 : Int) else false); let q15 := (1000000000 : Nat); let q35 := (ByteArray.data { data := #[(99 : UInt8)] }); let q17 := (((rebuilt q9).1.1, (rebuilt q9).1.2.1, (rebuilt q9).1.2.2) = (Array.toList q35, (1 : Int), [(258 : Int)])); let q18 := (↑(List.length (confN aR q1)) : Int); let q20 := (stream (Array.toList q35) (1 : Int) [(258 : Int)]); let q26 := (List.getD q0 (2 : Nat) ((0 : Int), (0 : Int), (0 : Int), (0 : Int))); let q30 := ((bif bif q18 != (6 : Int) then true else !decide q8 then true else !decide q6) = false → List.length (needN aR q1) ≤ q19); let q31 := ((bif q18 != (6 : Int) then true else !decide q8) = false → List.length (soundsN aR q1) ≤ q19); let q32 := ((0 : Int) ≤ (0 : Int) ∧ (0 : Int) ≤ (19 : Int) ∧ (19 : Int) ≤ (↑(List.length aS) : Int)); let q34 := ((q18 != (6 : Int)) = false → List.length (List.getD (confN aR q1) (3 : Nat) []) ≤ q19); let q38 := (startsN aR q1 = [(0 : Int), (3 : Int), (5 : Int)]); let q39 := (↑(List.length q22) : Int); ReelOk (Array.toList q35) (1 : Int) [(258 : Int)] ∧ q32 ∧ (List.length q9 ≤ q19 ∧ Bytes q9) ∧ q32 ∧ (List.length q9 ≤ q19 ∧ Bytes q9) ∧ List.length aR ≤ q15 ∧ (∀ (r : Rl), r ∈ aR → List.length r.2.2 ≤ q19) ∧ List.length q28 ≤ q15 ∧ List.length aR ≤ q15 ∧ (∀ (r : Rl), r ∈ aR → List.length r.2.2 ≤ q19) ∧ List.length q1 ≤ q15 ∧ List.length aR ≤ q15 ∧ (∀ (r : Rl), r ∈ aR → List.length r.2.2 ≤ q19) ∧ List.length q1 ≤ q15 ∧ List.length aR ≤ q15 ∧ (∀ (r : Rl), r ∈ aR → List.length r.2.2 ≤ q19) ∧ List.length q1 ≤ q15 ∧ List.length aR ≤ q15 ∧ (∀ (r : Rl), r ∈ aR → List.length r.2.2 ≤ q19) ∧ List.length q1 ≤ q15 ∧ List.length aR ≤ q15 ∧ (∀ (r : Rl), r ∈ aR → List.length r.2.2 ≤ q19) ∧ List.length q1 ≤ q15 ∧ fits IntKind.i64 ((0 : Int) + (rebuilt q9).2.2) ∧ fits IntKind.i64 ((0 : Int) + (rebuilt q9).2.2 + chkEds aR q1) ∧ fits IntKind.i64 ((0 : Int) + (rebuilt q9).2.2 + chkEds aR q1 + chkEds aR q1) ∧ fits IntKind.i64 ((0 : Int) + (rebuilt q9).2.2 + chkEds aR q1 + chkEds aR q1 + chkEds aR q1) ∧ fits IntKind.i64 ((0 : Int) + (rebuilt q9).2.2 + chkEds aR q1 + chkEds aR q1 + chkEds aR q1 + chkEds aR q1) ∧ fits IntKind.i64 ((0 : Int) + (rebuilt q9).2.2 + chkEds aR q1 + chkEds aR q1 + chkEds aR q1 + chkEds aR q1 + chkEds aR q1) ∧ ((bif bif bif (0 : Int) + (rebuilt q9).2.2 + chkEds aR q1 + chkEds aR q1 + chkEds aR q1 + chkEds aR q1 + chkEds aR q1 != (0 : Int) then true else (readS q9).2 != (28 : Int) then true else chkEds aR q28 != (16 : Int) then true else bytesOf q20 != aS) = false → List.length (rebuilt q9).1.2.2 ≤ q19) ∧ ((bif bif bif bif bif (0 : Int) + (rebuilt q9).2.2 + chkEds aR q1 + chkEds aR q1 + chkEds aR q1 + chkEds aR q1 + chkEds aR q1 != (0 : Int) then true else (readS q9).2 != (28 : Int) then true else chkEds aR q28 != (16 : Int) then true else bytesOf q20 != aS then true else !decide q17 then true else (rebuilt q9).2.1) = false → List.length (startsN aR q1) ≤ q15) ∧ ((bif bif bif bif bif bif bif (0 : Int) + (rebuilt q9).2.2 + chkEds aR q1 + chkEds aR q1 + chkEds aR q1 + chkEds aR q1 + chkEds aR q1 != (0 : Int) then true else (readS q9).2 != (28 : Int) then true else chkEds aR q28 != (16 : Int) then true else bytesOf q20 != aS then true else !decide q17 then true else (rebuilt q9).2.1 then true else !decide q38 then true else lenN aR q1 != (6 : Int)) = false → List.length (playN aR q1) ≤ q15) ∧ splitB (bif bif bif bif bif bif bif bif (0 : Int) + (rebuilt q9).2.2 + chkEds aR q1 + chkEds aR q1 + chkEds aR q1 + chkEds aR q1 + chkEds aR q1 != (0 : Int) then true else (readS q9).2 != (28 : Int) then true else chkEds aR q28 != (16 : Int) then true else bytesOf q20 != aS then true else !decide q17 then true else (rebuilt q9).2.1 then true else !decide q38 then true else lenN aR q1 != (6 : Int) then true else !decide (playN aR q1 = [(100 : Int), (200 : Int), (300 : Int), (225 : Int), (60 : Int), (500 : Int)])) (false = true ∧ True) (((q18 != (6 : Int)) = false → (0 : Int) ≤ (3 : Int) ∧ (3 : Int) < q18) ∧ ((q18 != (6 : Int)) = false → (3 : Nat) < List.length (confN aR q1)) ∧ q34 ∧ q34 ∧ q31 ∧ q31 ∧ q30 ∧ q30 ∧ splitB (bif bif bif q18 != (6 : Int) then true else !decide q8 then true else !decide q6 then true else !decide (needN aR q1 = [(Array.toList q21, (11 : Int), (16 : Int)), (Array.toList q25, (50 : Int), (53 : Int))])) (false = true ∧ True) (List.length aR ≤ q15 ∧ (∀ (r : Rl), r ∈ aR → List.length r.2.2 ≤ q19) ∧ List.length q1 ≤ q15 ∧ List.length aR ≤ q15 ∧ (∀ (r : Rl), r ∈ aR → List.length r.2.2 ≤ q19) ∧ List.length q1 ≤ q15 ∧ List.length aR ≤ q15 ∧ (∀ (r : Rl), r ∈ aR → List.length r.2.2 ≤ q19) ∧ List.length q1 ≤ q15 ∧ List.length aR ≤ q15 ∧ (∀ (r : Rl), r ∈ aR → List.length r.2.2 ≤ q19) ∧ List.length q1 ≤ q15 ∧ List.length aR ≤ q15 ∧ (∀ (r : Rl), r ∈ aR → List.length r.2.2 ≤ q19) ∧ List.length q1 ≤ q15 ∧ List.length aR ≤ q15 ∧ (∀ (r : Rl), r ∈ aR → List.length r.2.2 ≤ q19) ∧ List.length q1 ≤ q15 ∧ List.length aR ≤ q15 ∧ (∀ (r : Rl), r ∈ aR → List.length r.2.2 ≤ q19) ∧ List.length q1 ≤ q15 ∧ StOk q36 ∧ List.length q28 ≤ q19 ∧ (∀ (x : Ed), x ∈ aL (50 : Int) → (∀ (n : Int), n ∈ numsE x → fits IntKind.i64 n) ∧ List.length x.1 ≤ (1000 : Nat)) ∧ fits IntKind.i64 (chgE aR q1 (0 : Int) (1 : Int) (0 : Int) trimL + chgE aR q1 (2 : Int) (-1 : Int) (1 : Int) rollL) ∧ fits IntKind.i64 (chgE aR q1 (0 : Int) (1 : Int) (0 : Int) trimL + chgE aR q1 (2 : Int) (-1 : Int) (1 : Int) rollL + partE aR q1 (5 : Int)) ∧ fits IntKind.i64 (chgE aR q1 (0 : Int) (1 : Int) (0 : Int) trimL + chgE aR q1 (2 : Int) (-1 : Int) (1 : Int) rollL + partE aR q1 (5 : Int) + convE aR q1 [(1 : Int), (1 : Int)]) ∧ fits IntKind.i64 (chgE aR q1 (0 : Int) (1 : Int) (0 : Int) trimL + chgE aR q1 (2 : Int) (-1 : Int) (1 : Int) rollL + partE aR q1 (5 : Int) + convE aR q1 [(1 : Int), (1 : Int)] + chkEds aR q1) ∧ fits IntKind.i64 (chgE aR q1 (0 : Int) (1 : Int) (0 : Int) trimL + chgE aR q1 (2 : Int) (-1 : Int) (1 : Int) rollL + partE aR q1 (5 : Int) + convE aR q1 [(1 : Int), (1 : Int)] + chkEds aR q1 + chkText q28) ∧ (q13 = true → (0 : Int) ≤ (0 : Int) ∧ (0 : Int) < q29) ∧ (q13 = true → (0 : Nat) < List.length q11) ∧ (q5 = true → List.length q22 ≤ q19) ∧ (q5 = true → (0 : Int) ≤ (1 : Int) ∧ (1 : Int) ≤ q39 ∧ q39 ≤ q39) ∧ (q5 = true → List.length (List.drop (1 : Nat) q22) ≤ q19) ∧ q10 ∧ q10 ∧ (q3 = true → List.length (convL aR q1 [(1 : Int), (1 : Int)]) ≤ q19) ∧ (q3 = true → ∀ (x : List Int), x ∈ convL aR q1 [(1 : Int), (1 : Int)] → List.length x = (2 : Nat)) ∧ (q3 = true → ∀ (x : List Int), x ∈ [[(0 : Int), (1 : Int)], [(2 : Int), (3 : Int)], [(4 : Int), (5 : Int)]] → List.length x = (2 : Nat)) ∧ (q7 = true → (0 : Int) ≤ (1 : Int) ∧ (1 : Int) < q33) ∧ (q7 = true → (1 : Nat) < List.length q0) ∧ (q4 = true → (0 : Int) ≤ (2 : Int) ∧ (2 : Int) < q33) ∧ (q4 = true → (2 : Nat) < List.length q0) ∧ (bif bif bif bif bif bif bif bif bif bif bif bif chgE aR q1 (0 : Int) (1 : Int) (0 : Int) trimL + chgE aR q1 (2 : Int) (-1 : Int) (1 : Int) rollL + partE aR q1 (5 : Int) + convE aR q1 [(1 : Int), (1 : Int)] + chkEds aR q1 + chkText q28 == (0 : Int) then chgE aR q1 (2 : Int) (1 : Int) (0 : Int) slipL == (14 : Int) else false then partE aR q1 (3 : Int) == (22 : Int) else false then q29 == (3 : Int) else false then q16.2.2.1 == (15 : Int) else false then decide q2 else false then q27 == (2 : Int) else false then decide q14 else false then decide q24 else false then q33 == (3 : Int) else false then eqT q23 (q12.1, q12.2.1, q12.2.2.1, q12.2.2.2) ((0 : Int), (0 : Int), (1 : Int), (1 : Int)) else false then eqT q23 (q26.1, q26.2.1, q26.2.2.1, q26.2.2.2) ((0 : Int), (0 : Int), (1 : Int), (3 : Int)) else false then printN q28 == Array.toList (ByteArray.data { data := #[(101 : UInt8), (100 : UInt8), (105 : UInt8), (116 : UInt8), (32 : UInt8), (97 : UInt8), (32 : UInt8), (49 : UInt8), (49 : UInt8), (32 : UInt8), (49 : UInt8), (52 : UInt8), (32 : UInt8), (48 : UInt8), (32 : UInt8), (48 : UInt8), (10 : UInt8), (101 : UInt8), (100 : UInt8), (105 : UInt8), (116 : UInt8), (32 : UInt8), (98 : UInt8), (32 : UInt8), (53 : UInt8), (48 : UInt8), (32 : UInt8), (53 : UInt8), (51 : UInt8), (32 : UInt8), (49 : UInt8), (32 : UInt8), (45 : UInt8), (49 : UInt8), (10 : UInt8), (101 : UInt8), (100 : UInt8), (105 : UInt8), (116 : UInt8), (32 : UInt8), (97 : UInt8), (32 : UInt8), (49 : UInt8), (53 : UInt8), (32 : UInt8), (49 : UInt8), (54 : UInt8), (32 : UInt8), (48 : UInt8), (32 : UInt8), (48 : UInt8), (10 : UInt8)] }) else false) = true ∧ True))) := by
  kernel_rfl
end Go.Sx

/- Contracts. -/
namespace Go.Sx
open U
theorem fn97   : Fn P1 gl1 97 [] (.val (.one (.sl rlT aR))) false := by
  refine fn_of false [] [] h0 0 Proofs.Tryz.f97 trivial trivial (by kernel_rfl) rfl (by kernel_rfl) rfl rfl rfl ?_
  rw [vc97 ()]
  try simp only [-eq_self]
  exact ⟨(hide_eq bothL).symm, trivial⟩
theorem so97_ : SpecOk P1 gl1 97 sp97 := by
  intro vs ps r h _
  simp only [sp97] at h
  split at h
  · cases h; exact fn97  
  · cases h
theorem so97 : Sp1 97 sp97 := ⟨so97_, Proofs.Tryz.f97, _, by kernel_rfl, rfl, by kernel_rfl⟩
theorem fn98 (n : Int)  : Fn P1 gl1 98 [iV n] (.val (.one (.sl edT (aL n)))) false := by
  refine fn_of false [] [] h0 0 Proofs.Tryz.f98 trivial trivial (by kernel_rfl) rfl (by kernel_rfl) rfl rfl rfl ?_
  rw [vc98]
  try simp only [-eq_self]
  exact ⟨(hide_eq (editsL n)).symm, trivial⟩
theorem so98_ : SpecOk P1 gl1 98 sp98 := by
  intro vs ps r h _
  simp only [sp98] at h
  split at h
  · cases h; exact fn98 _ 
  · cases h
theorem so98 : Sp1 98 sp98 := ⟨so98_, Proofs.Tryz.f98, _, by kernel_rfl, rfl, by kernel_rfl⟩
theorem fn96   : Fn P1 gl1 96 [] (.val (sV aS)) true := by
  refine Fn.flat ?_ rfl
  refine fn_of false [] [] h0 0 Proofs.Tryz.f96 trivial trivial (by kernel_rfl) rfl (by kernel_rfl) rfl rfl rfl ?_
  rw [vc96 ()]
  try simp only [-eq_self]
  exact ⟨by decide, (hide_eq strmL).symm, trivial⟩
theorem so96_ : SpecOk P1 gl1 96 sp96 := by
  intro vs ps r h _
  simp only [sp96] at h
  split at h
  · cases h; exact fn96  
  · cases h
theorem so96 : Sp1 96 sp96 := ⟨so96_, Proofs.Tryz.f96, _, by kernel_rfl, rfl, by kernel_rfl⟩
theorem fn18   : Fn P1 gl1 18 [] (.val (bV true)) true := by
  refine Fn.flat ?_ rfl
  refine fn_of false [(19, sp19), (29, sp29), (27, sp27), (43, sp43), (33, sp33), (37, sp37), (35, sp35), (36, sp36), (69, sp69), (49, sp49), (50, sp50), (51, sp51), (84, sp84), (58, sp58), (60, sp60), (90, sp90), (97, sp97), (98, sp98), (96, sp96), (48, sp48), (74, sp74), (57, sp57), (32, sp32), (47, sp47), (73, sp73), (56, sp56), (44, sp44), (66, sp66)] [] h0 0 Proofs.Tryz.f18 ⟨so19, so29, so27, so43, so33, so37, so35, so36, so69, so49, so50, so51, so84, so58, so60, so90, so97, so98, so96, so48, so74, so57, so32, so47, so73, so56, so44, so66, trivial⟩ trivial (by kernel_rfl) rfl (by kernel_rfl) rfl rfl rfl ?_
  rw [vc18 ()]
  try simp only [splitB_iff, -eq_self]
  have hR : aR = bothL := hide_eq bothL
  have hL : aL 51 = editsL 51 := hide_eq (editsL 51)
  have hM : aL 50 = editsL 50 := hide_eq (editsL 50)
  have hS : aS = strmL := hide_eq strmL
  have s1 : strNs (List.take 19 aS) = [82, 69, 69, 76, 1, 99, 0, 0, 0, 1, 70, 1, 2, 9, 126, 69, 0, 1, 1] := by rw [hS]; decide +kernel
  have s2 : rebuilt [82, 69, 69, 76, 1, 99, 0, 0, 0, 1, 70, 1, 2, 9, 126, 69, 0, 1, 1] = (([99], 1, [258]), false, 0) := by decide +kernel
  have s3 : (readS [82, 69, 69, 76, 1, 99, 0, 0, 0, 1, 70, 1, 2, 9, 126, 69, 0, 1, 1]).2 = 28 := by decide +kernel
  have s4 : bytesOf (stream [99] 1 [258]) = aS := by rw [hS]; decide +kernel
  have s5 : Bytes [82, 69, 69, 76, 1, 99, 0, 0, 0, 1, 70, 1, 2, 9, 126, 69, 0, 1, 1] := by unfold Bytes; decide
  have s6 : List.length aS = 20 := by rw [hS]; rfl
  have s7 : ReelOk [99] 1 [258] := checkReel_zero.1 (by decide +kernel)
  have s8 : StOk ((25, false), (0, 0, 0, 23), 0) := chkStZ.1 (by decide +kernel)
  have c1 : chkEds aR (aL 50) = 16 := by rw [hR, hM]; decide +kernel
  have c2 : chkEds aR (aL 51) = 0 := by rw [hR, hL]; decide +kernel
  have c3 : startsN aR (aL 51) = [0, 3, 5] := by rw [hR, hL]; decide +kernel
  have c4 : lenN aR (aL 51) = 6 := by rw [hR, hL]; decide +kernel
  have c5 : playN aR (aL 51) = [100, 200, 300, 225, 60, 500] := by rw [hR, hL]; decide +kernel
  have c6 : confN aR (aL 51) = [[([97], 11, 1, 1)], [([97], 12, 1, 1)], [([97], 13, 1, 1)], [([97], 14, 1, 2), ([98], 51, 1, 2)], [([98], 52, 1, 1)], [([97], 15, 1, 1)]] := by rw [hR, hL]; decide +kernel
  have c7 : soundsN aR (aL 51) = [([97], 11, 1, 1), ([97], 12, 1, 1), ([98], 50, 1, 1), ([98], 51, 1, 1), ([98], 52, 1, 1), ([97], 15, 1, 1)] := by rw [hR, hL]; decide +kernel
  have c8 : needN aR (aL 51) = [([97], 11, 16), ([98], 50, 53)] := by rw [hR, hL]; decide +kernel
  have d1 : chgL aR (aL 51) 0 1 0 trimL = [([97], 11, 15, 0, 0), ([98], 51, 53, 1, -1), ([97], 15, 16, 0, 0)] := by rw [hR, hL]; decide +kernel
  have d2 : chgE aR (aL 51) 0 1 0 trimL = 0 := by rw [hR, hL]; decide +kernel
  have d3 : chgL aR (aL 51) 2 (-1) 1 rollL = [([97], 11, 14, 0, 0), ([98], 51, 52, 1, -1), ([97], 14, 16, 0, 0)] := by rw [hR, hL]; decide +kernel
  have d4 : chgE aR (aL 51) 2 (-1) 1 rollL = 0 := by rw [hR, hL]; decide +kernel
  have d5 : chgE aR (aL 51) 2 1 0 slipL = 14 := by rw [hR, hL]; decide +kernel
  have d6 : partL aR (aL 51) 5 = ([([97], 11, 14, 0, 0), ([98], 51, 53, 1, -1)], [([97], 15, 16, 0, 0)]) := by rw [hR, hL]; exact Prod.ext (by decide +kernel) (by decide +kernel)
  have d7 : partE aR (aL 51) 5 = 0 := by rw [hR, hL]; decide +kernel
  have d8 : partE aR (aL 51) 3 = 22 := by rw [hR, hL]; decide +kernel
  have d9 : convL aR (aL 51) [1, 1] = [[0, 1], [2, 3], [4, 5]] := by rw [hR, hL]; decide +kernel
  have f1 : convE aR (aL 51) [1, 1] = 0 := by rw [hR, hL]; decide +kernel
  have f2 : labsN ((25, false), (0, 0, 0, 23), 0) (ls (aL 51)) = [(0, 0, 0, 23), (0, 0, 1, 1), (0, 0, 1, 3)] := by rw [hL]; decide +kernel
  have f3 : printN (aL 50) = [101, 100, 105, 116, 32, 97, 32, 49, 49, 32, 49, 52, 32, 48, 32, 48, 10, 101, 100, 105, 116, 32, 98, 32, 53, 48, 32, 53, 51, 32, 49, 32, 45, 49, 10, 101, 100, 105, 116, 32, 97, 32, 49, 53, 32, 49, 54, 32, 48, 32, 48, 10] := by rw [hM]; decide +kernel
  have f4 : chkText (aL 50) = 0 := by rw [hM]; decide +kernel
  have g1 : List.length aR = 2 := by rw [hR]; rfl
  have g2 : ∀ r : Rl, r ∈ aR → List.length r.2.2 ≤ 1000000 := by rw [hR]; decide
  have g3 : List.length (aL 51) = 3 := by rw [hL]; rfl
  have g4 : List.length (aL 50) = 3 := by rw [hM]; rfl
  have g5 : ∀ x : Ed, x ∈ aL 50 → (∀ n : Int, n ∈ numsE x → fits .i64 n) ∧ List.length x.1 ≤ 1000 := by rw [hM]; simp only [fits]; decide
  have g6 : ∀ x : List Int, x ∈ [[0, 1], [2, 3], [4, 5]] → List.length x = 2 := by decide
  have k9 : Array.toList (ByteArray.data { data := #[(99 : UInt8)] }) = [99] := rfl
  simp only [s1, s2, s3, s4, s6, c1, c2, c3, c4, c5, c6, c7, c8, d1, d2, d3, d4, d5, d6, d7, d8, d9, f1, f2, f3, f4, g1, g3, g4, if_true]
  simp only [hS, eq_true s5, eq_true s7, eq_true s8, eq_true g2, eq_true g5, eq_true g6]
  simp only [fits]
  repeat' (first | exact trivial | refine And.intro ?_ ?_ | intro _)
  all_goals first | decide +kernel | (rename_i h; exact absurd h (by decide +kernel))
theorem so18_ : SpecOk P1 gl1 18 sp18 := by
  intro vs ps r h _
  simp only [sp18] at h
  split at h
  · cases h; exact fn18  
  · cases h
theorem so18 : Sp1 18 sp18 := ⟨so18_, Proofs.Tryz.f18, _, by kernel_rfl, rfl, by kernel_rfl⟩

end Go.Sx

/- From readings of arguments to pure data. -/
namespace Go.Sx
open Go.RowKit

/-- What a reading gives beside the cells: numbers fit their kinds, lengths are those of machines. -/
def WF : (t : Ty) → t.T → Prop
  | .int k, n => (Lit.int k n).wf = true
  | .bool, _ => True
  | .str, l => List.length l ≤ maxLen
  | .flt k, n => (Lit.float k n).wf = true
  | .cpx _, _ => True
  | .sl t, xs => List.length xs ≤ maxLen ∧ ∀ i (h : i < List.length xs), WF t (xs[i]'h)
  | .arr n t, xs => List.length xs = n ∧ ∀ i (h : i < List.length xs), WF t (xs[i]'h)
  | .pair a b, x => WF a x.1 ∧ WF b x.2

mutual
def rdChk (P : Program) : Nat → TypeId → Ty → Bool
  | 0, _, _ => false
  | n + 1, t, u => match P.underlying t with
      | some (.int k) => decide (u = .int k)
      | some .bool => decide (u = .bool)
      | some .string => decide (u = .str)
      | some (.float k) => decide (u = .flt k)
      | some (.slice e) => match u with
        | .sl v => decide (P.cellsOf e = v.sz) && decide (v.sz ≠ 0) && rdChk P n e v
        | _ => false
      | some (.array m e) => match u with
        | .arr m' v => decide (m = m') && decide (P.cellsOf e = v.sz) && decide (P.cellsOf t = m * v.sz) && rdChk P n e v
        | _ => false
      | some (.struct fs) => decide (P.cellsOf t = u.sz) && rdFs P n 0 fs.toList u
      | _ => false
def rdFs (P : Program) : Nat → Nat → List Field → Ty → Bool
  | 0, _, _, _ => false
  | n + 1, off, [f], u => decide (f.offset = off) && decide (P.cellsOf f.type = u.sz) && rdChk P n f.type u
  | n + 1, off, f :: r, .pair a b => decide (f.offset = off) && decide (P.cellsOf f.type = a.sz) && rdChk P n f.type a && rdFs P n (off + a.sz) r b
  | _, _, _, _ => false
end

def HW (w : World) : IH := fun b => w.heap[b]?

theorem addp (b off i : Nat) : (Addr.mk b off none).add i = ⟨b, off + i, none⟩ := by
  unfold Addr.add; split <;> simp_all
theorem cells_seg {w : World} {base : Nat} {a : Addr} {n : Nat} {cs : List Value} (h : w.cells? base a n = some cs) (hn : 0 < n) :
    ∃ b off c e fr, a = ⟨b, off, none⟩ ∧ w.heap[b]? = some (.cells c e fr) ∧ seg c off n = cs := by
  obtain ⟨_, hl, hc⟩ := World.cells?_some h
  obtain ⟨b, off, sp⟩ := a
  have h0 := hc 0 hn
  rw [List.getElem?_eq_getElem (by omega)] at h0
  have hs : sp = none := by
    have := World.cell?_spot h0
    simp only [Addr.add] at this
    cases sp with
    | none => rfl
    | some x => simp at this
  subst hs
  have hb : ∃ c e fr, w.heap[b]? = some (.cells c e fr) := by
    simp only [World.cell?, Addr.add] at h0
    split at h0
    · exact ⟨_, _, _, ‹_›⟩
    · cases h0
  obtain ⟨c, e, fr, hb⟩ := hb
  refine ⟨b, off, c, e, fr, rfl, hb, ?_⟩
  have hi : ∀ i, i < n → c[off + i]? = cs[i]? := by
    intro i hi
    have := hc i hi
    rw [addp] at this
    simpa [World.cell?, hb] using this
  apply List.ext_getElem?
  intro i
  simp only [seg, List.getElem?_take, List.getElem?_drop]
  split
  · rename_i h1
    rw [← hi i h1]; simp
  · rename_i h1
    rw [List.getElem?_eq_none (by omega)]

theorem choose_list {α : Type} (n : Nat) (p : Nat → α → Prop) (h : ∀ i, i < n → ∃ y, p i y) : ∃ ys : List α, ys.length = n ∧ ∀ i (hi : i < ys.length), p i (ys[i]'hi) := by
  induction n with
  | zero => exact ⟨[], rfl, fun i hi => by simp at hi⟩
  | succ n ih =>
    obtain ⟨ys, h1, h2⟩ := ih fun i hi => h i (by omega)
    obtain ⟨y, hy⟩ := h n (by omega)
    refine ⟨ys ++ [y], by simp [h1], fun i hi => ?_⟩
    by_cases hlt : i < ys.length
    · rw [List.getElem_append_left hlt]; exact h2 i hlt
    · simp at hi
      have : i = ys.length := by omega
      subst this
      simp
      rw [h1]; exact hy

theorem trod_rd_all {X : Type} {enc : TypeId × Value → X} {P : Program} {w : World} {base : Nat} {spare : Nat → Bool} {held : Bool} : ∀ (n : Nat),
    (∀ (t : TypeId) (u : Ty) (fuel : Nat) (cs : List Value) (x : DataW X × List MemPlace), rdChk P n t u = true → DataW.trod enc P w base spare held fuel t cs = some x → ∃ y : u.T, Rd (HW w) u y cs ∧ WF u y) ∧
    (∀ (off : Nat) (fs : List Field) (u : Ty) (fuel : Nat) (cs : List Value), rdFs P n off fs u = true → cs.length = off + u.sz →
      (∀ f ∈ fs, ∃ x, DataW.trod enc P w base spare held fuel f.type ((cs.drop f.offset).take (P.cellsOf f.type)) = some x) → ∃ y : u.T, Rd (HW w) u y (cs.drop off) ∧ WF u y) := by
  intro n
  induction n with
  | zero => exact ⟨fun _ _ _ _ _ h => by simp [rdChk] at h, fun _ _ _ _ _ h => by simp [rdFs] at h⟩
  | succ n ih =>
    refine ⟨?_, ?_⟩
    · intro t u fuel cs x h hx
      unfold rdChk at h
      split at h
      · rename_i k hu
        simp at h; subst h
        obtain ⟨m, rfl, _, hw⟩ := DataW.trod_int hu hx
        exact ⟨m, rfl, hw⟩
      · rename_i hu
        simp at h; subst h
        obtain ⟨m, rfl, _⟩ := DataW.trod_bool hu hx
        exact ⟨m, rfl, trivial⟩
      · rename_i hu
        simp at h; subst h
        obtain ⟨s, rfl, _, hw⟩ := DataW.trod_string hu hx
        refine ⟨s.data.toList, rfl, ?_⟩
        show s.data.toList.length ≤ maxLen
        rw [Array.length_toList]; exact hw
      · rename_i k hu
        simp at h; subst h
        cases fuel with
        | zero => simp [DataW.trod] at hx
        | succ m =>
          unfold DataW.trod at hx
          rw [hu] at hx
          have : ∃ b, cs = [.float k b] ∧ (Lit.float k b).wf = true := by split at hx <;> simp_all
          obtain ⟨b, rfl, hw⟩ := this
          exact ⟨b, rfl, hw⟩
      · rename_i e hu
        split at h
        · rename_i v
          simp only [Bool.and_eq_true, decide_eq_true_eq] at h
          obtain ⟨⟨h1, h2⟩, h3⟩ := h
          rcases DataW.trod_slice hu hx with ⟨rfl, _⟩ | ⟨a, len, cap, elems, rest, m, _, rfl, _, _, hlc, hm, hel, hei, _, _⟩
          · exact ⟨[], ⟨none, 0, rfl, Nat.le_refl _, .inl rfl⟩, by simp [WF]⟩
          · have hone : ∀ i, i < len → ∃ cs', w.cells? base (a.add (i * P.cellsOf e)) (P.cellsOf e) = some cs' ∧ ∃ y : v.T, Rd (HW w) v y cs' ∧ WF v y := by
              intro i hi
              have := hei i hi
              rw [List.getElem?_eq_getElem (by omega)] at this
              obtain ⟨cs', hc1, hc2⟩ := Option.bind_eq_some_iff.1 this
              exact ⟨cs', hc1, ih.1 _ _ _ _ _ h3 hc2⟩
            obtain ⟨ys, hy1, hy2⟩ := choose_list len (fun i (y : v.T) => ∃ cs', w.cells? base (a.add (i * P.cellsOf e)) (P.cellsOf e) = some cs' ∧ Rd (HW w) v y cs' ∧ WF v y)
              (fun i hi => by obtain ⟨cs', h1, y, h2⟩ := hone i hi; exact ⟨y, cs', h1, h2⟩)
            refine ⟨ys, ⟨some a, cap, by rw [hy1], by rw [hy1]; exact hlc, ?_⟩, by rw [hy1]; omega, fun i hi => ?_⟩
            · rcases Nat.eq_zero_or_pos ys.length with h0 | h0
              · exact .inl h0
              · right
                obtain ⟨cs0, hc0, _⟩ := hy2 0 h0
                obtain ⟨b, off, c, e', fr, ha, hb, _⟩ := cells_seg hc0 (by omega)
                have ha' : a = ⟨b, off, none⟩ := by rw [← ha]; simp [Addr.add]
                refine ⟨b, off, c, e', fr, by rw [ha'], hb, fun i hi => ?_⟩
                obtain ⟨cs', hc', hr, _⟩ := hy2 i hi
                obtain ⟨b', off', c', e'', fr', hab, hb', hsg⟩ := cells_seg hc' (by omega)
                rw [ha', addp] at hab
                simp only [Addr.mk.injEq] at hab
                obtain ⟨rfl, rfl, _⟩ := hab
                rw [hb] at hb'
                cases hb'
                rw [h1] at hsg
                rw [hsg]; exact hr
            · obtain ⟨_, _, _, hwf⟩ := hy2 i hi
              exact hwf
        · cases h
      · rename_i m e hu
        split at h
        · rename_i m' v
          simp only [Bool.and_eq_true, decide_eq_true_eq] at h
          obtain ⟨⟨⟨rfl, h1⟩, h2⟩, h3⟩ := h
          obtain ⟨xs, k, _, _, hl, hxl, hxi⟩ := DataW.trod_array hu hx
          obtain ⟨ys, hy1, hy2⟩ := choose_list m (fun i (y : v.T) => Rd (HW w) v y ((cs.drop (i * P.cellsOf e)).take (P.cellsOf e)) ∧ WF v y)
            (fun i hi => by
              have := hxi i hi
              rw [List.getElem?_eq_getElem (by omega)] at this
              exact ih.1 _ _ _ _ _ h3 this)
          refine ⟨ys, ⟨hy1, by rw [hl, h2], fun i hi => ?_⟩, hy1, fun i hi => (hy2 i hi).2⟩
          have := (hy2 i hi).1
          rw [h1] at this
          exact this
        · cases h
      · rename_i fs hu
        simp only [Bool.and_eq_true, decide_eq_true_eq] at h
        obtain ⟨xs, k, _, _, hl, hxl, hxi⟩ := DataW.trod_struct hu hx
        have := ih.2 0 fs.toList u k cs h.2 (by rw [hl, h.1]; omega) (fun f hf => by
          obtain ⟨i, hi, rfl⟩ := List.mem_iff_getElem.1 hf
          simp at hi
          have := hxi i fs[i] (by simp [hi])
          rw [List.getElem?_eq_getElem (by omega)] at this
          exact ⟨_, by simpa using this⟩)
        simpa using this
      · cases h
    · intro off fs u fuel cs h hl hf
      match fs, u, h, hl, hf with
      | [], u, h, _, _ => simp [rdFs] at h
      | [f], u, h, hl, hf =>
        simp only [rdFs, Bool.and_eq_true, decide_eq_true_eq] at h
        obtain ⟨⟨rfl, h1⟩, h2⟩ := h
        obtain ⟨x, hx⟩ := hf f (by simp)
        rw [h1, List.take_of_length_le (by simp; omega)] at hx
        exact ih.1 _ _ _ _ _ h2 hx
      | f :: g :: r, .pair a b, h, hl, hf =>
        simp only [rdFs, Bool.and_eq_true, decide_eq_true_eq] at h
        obtain ⟨⟨⟨rfl, h1⟩, h2⟩, h3⟩ := h
        simp only [Ty.sz] at hl
        obtain ⟨x, hx⟩ := hf f (by simp)
        rw [h1] at hx
        obtain ⟨y1, hy1, hw1⟩ := ih.1 _ _ _ _ _ h2 hx
        obtain ⟨y2, hy2, hw2⟩ := ih.2 _ _ _ fuel cs h3 (by omega) (fun g' hg => hf g' (List.mem_cons_of_mem _ hg))
        refine ⟨(y1, y2), ⟨hy1, ?_⟩, hw1, hw2⟩
        rw [List.drop_drop]; exact hy2
      | _ :: _ :: _, .int _, h, _, _ => simp [rdFs] at h
      | _ :: _ :: _, .bool, h, _, _ => simp [rdFs] at h
      | _ :: _ :: _, .str, h, _, _ => simp [rdFs] at h
      | _ :: _ :: _, .flt _, h, _, _ => simp [rdFs] at h
      | _ :: _ :: _, .cpx _, h, _, _ => simp [rdFs] at h
      | _ :: _ :: _, .sl _, h, _, _ => simp [rdFs] at h
      | _ :: _ :: _, .arr _ _, h, _, _ => simp [rdFs] at h

theorem trod_rd {X : Type} {enc : TypeId × Value → X} {P : Program} {w : World} {base : Nat} {spare : Nat → Bool} {held : Bool} (n : Nat)
    {t : TypeId} {u : Ty} (h : rdChk P n t u = true) {fuel : Nat} {cs : List Value} {x : DataW X × List MemPlace} (hx : DataW.trod enc P w base spare held fuel t cs = some x) : ∃ y : u.T, Rd (HW w) u y cs ∧ WF u y :=
  (trod_rd_all n).1 t u fuel cs x h hx
end Go.Sx

/- From readings of arguments to pure data: arguments, variables, what is left behind. -/
namespace Go.Sx
open Go.RowKit Go.ChangeShapes Go.WideShapes Go.ChangeAt

section
variable {X : Type} {enc : TypeId × Value → X} {P : Program} {w : World} {base base' : Nat} {spare : Nat → Bool} {held : Bool} {n : Nat} {t : TypeId} {u : Ty} {v : Value} {d : DataW X} {ps : List MemPlace}

theorem cells_one (hv : ∀ cs, v ≠ .agg cs) : v.cells.toList = [v] := by
  cases v <;> simp_all [Value.cells]

theorem okWide_one (ha : aggOf P t = false) (hok : Value.okWide P w .any base' t v) : ∀ cs, v ≠ .agg cs := by
  intro cs hv
  subst hv
  unfold aggOf at ha
  unfold Value.okWide at hok
  split at hok
  · rename_i h; rw [h] at ha; cases ha
  · rename_i h; rw [h] at ha; cases ha
  · unfold Cell.okWide at hok
    split at hok <;> try (rename_i h; cases h; done)
    all_goals first | (rename_i h _; cases h; done) | skip
    all_goals first | (unfold Cell.ok at hok; split at hok <;> first | (exact hok) | (rename_i h; cases h; done) | (rename_i h _; cases h; done) | simp_all; done) | simp_all

theorem arg_one (h : rdChk P n t u = true) (ha : aggOf P t = false) (hok : Value.okWide P w .any base' t v) (hT : DataW.Trod enc P w base spare held t v d ps) : ∃ y : u.T, Rd (HW w) u y [v] ∧ WF u y := by
  obtain ⟨fuel, hT⟩ := hT
  rw [cells_one (okWide_one ha hok)] at hT
  exact trod_rd n h hT

theorem arg_agg (h : rdChk P n t u = true) (ha : aggOf P t = true) (hok : Value.okWide P w .any base' t v) (hT : DataW.Trod enc P w base spare held t v d ps) : ∃ (vs : List Value) (y : u.T), v = .agg ⟨vs⟩ ∧ Rd (HW w) u y vs ∧ WF u y := by
  obtain ⟨fuel, hT⟩ := hT
  have hv : ∃ cs, v = .agg cs := by
    unfold aggOf at ha
    unfold Value.okWide at hok
    split at hok
    · exact ⟨_, hok.choose_spec.1⟩
    · exact ⟨_, hok.choose_spec.1⟩
    · rename_i h1 h2
      split at ha
      · exact absurd ‹_› (h1 _)
      · exact absurd ‹_› (h2 _ _)
      · cases ha
  obtain ⟨cs, rfl⟩ := hv
  obtain ⟨y, h1, h2⟩ := trod_rd n h hT
  exact ⟨cs.toList, y, rfl, h1, h2⟩
end

theorem trodAll_below {X : Type} {enc : TypeId × Value → X} {P : Program} (hl : laidOutB P = true) {W W' : World} (hb : Below W.heap.size W W') : ∀ {ts : List TypeId} {vs : List Value} {ds : List (DataW X)} {ps : List MemPlace},
    (ts.all fun t => P.readableRec t && decide (t < P.types.size)) = true → DataW.TrodAll enc P W 0 (fun _ => true) true ts vs ds ps → (∀ x ∈ ps, x.block < W.heap.size) → DataW.TrodAll enc P W' 0 (fun b => decide (b < W.heap.size)) true ts vs ds ps
  | [], vs, ds, ps, _, h, _ => by
    cases vs <;> cases ds <;> simp_all [DataW.TrodAll]
  | t :: ts, vs, ds, ps, ht, h, hlt => by
    obtain ⟨v, vs', d, ds', p, q, rfl, rfl, rfl, h1, h2⟩ := trodAll_cons h
    simp only [List.all_cons, Bool.and_eq_true, decide_eq_true_eq] at ht
    refine trodAll_cons_mk (Below.trod hl ht.1.1 ht.1.2 h1 hb fun x hx => hlt x (by simp [hx])) (trodAll_below hl hb ht.2 h2 fun x hx => hlt x (by simp [hx]))

/-- What a law leaves behind: true, and the arguments as they were. -/
theorem law_post {X : Type} {enc : TypeId × Value → X} {P : Program} (hl : laidOutB P = true) {s : ChangeSpec} {f : Func} {tb : TypeId} {W W' : World} {args : Array Value} {ds gs : List (DataW X)} {before : List MemPlace} {r : Value}
    (hvars : s.vars = []) (hts : (f.params.toList.all fun t => P.readableRec t && decide (t < P.types.size)) = true) (hres : f.resultTypes = #[tb]) (htb : P.underlying tb = some .bool)
    (hfn : s.fn X ds = { results := [.lit (.bool true)], args := ds })
    (hW : DataW.Whole enc P f.params.toList s.vars false W args.toList ds gs before) (hb : Below W.heap.size W W') (hr : r = .bool true) :
    s.post enc P f false true false false W args r W' := by
  subst hr
  have hW' := hW
  obtain ⟨p, q, hA, hV, rfl, hfz, hnd⟩ := hW
  rw [hvars] at hV
  obtain ⟨rfl, rfl⟩ := trodVars_none hV
  have hlt : ∀ x ∈ p, x.block < W.heap.size := fun x hx => hW'.lt x (by simp [hx])
  refine ⟨ds, [], p ++ [], [], p, [], hW', ?_, ?_, ?_, hb.frame _, fun h => by cases h⟩
  · rw [List.append_nil, hfn, hres]
    exact trodAll_cons_mk (shut_bool htb _) trodAll_mk0
  · rw [List.append_nil, hfn]
    exact trodAll_below hl hb hts hA hlt
  · rw [List.append_nil, hfn, hvars]
    rfl

theorem law_calls {X : Type} {enc : TypeId × Value → X} {P : Program} (hl : laidOutB P = true) {s : ChangeSpec} {f : Func} {tb : TypeId} {fid : FuncId} {W : World} {args : Array Value} {ds gs : List (DataW X)} {before : List MemPlace}
    (hvars : s.vars = []) (hts : (f.params.toList.all fun t => P.readableRec t && decide (t < P.types.size)) = true) (hres : f.resultTypes = #[tb]) (htb : P.underlying tb = some .bool)
    (hfn : s.fn X ds = { results := [.lit (.bool true)], args := ds })
    (hW : DataW.Whole enc P f.params.toList s.vars false W args.toList ds gs before)
    {gl : Nat → Option ((t : Ty) × t.T)} {avs : List V} (hF : Fn P gl fid avs (.val (.one (.bool true))) true) (hg : GlobOk gl (HW W)) (ha : DenVs ρ0 (HW W) avs args.toList) :
    Calls P fid args W fun e W' => ∃ v, e = .returned v ∧ s.post enc P f false true false false W args v W' := by
  refine (hF W (HW W) args.toList (fun b o h => h) hg ha).mono fun e W' h => ?_
  obtain ⟨v, H', rfl, hb, _, _, hd⟩ := h
  exact ⟨v, rfl, law_post hl hvars hts hres htb hfn hW hb hd.2⟩

theorem glob_tab {P : Program} {W : World} {name : String} {k : IntKind} {zs : List Int} {g : Nat} (h : Lib.TabIs P W name k zs) (hg : P.globalNamed name = some g) :
    ∃ c e fr, HW W g = some (.cells c e fr) ∧ Rd (HW W) (.arr zs.length (.int k)) zs (seg c 0 (zs.length * 1)) ∧ c.size = zs.length * 1 := by
  unfold Lib.TabIs at h
  simp only [World.var?, hg, Option.bind_some] at h
  split at h
  · rename_i cs e fr hh
    cases h
    refine ⟨_, _, _, hh, ?_, by simp⟩
    have e1 : seg (zs.map fun z => Value.int k z).toArray 0 (zs.length * 1) = zs.map fun z => Value.int k z := by
      simp [seg, List.take_of_length_le]
    rw [e1]
    refine ⟨rfl, by simp [Ty.sz], fun i hi => ?_⟩
    show List.take 1 (List.drop (i * 1) (List.map (fun z => Value.int k z) zs)) = [Value.int k zs[i]]
    simp only [Nat.mul_one]
    rw [List.drop_eq_getElem_cons (by simpa using hi)]
    simp
  · cases h
end Go.Sx

/- What a row's list of variables gives, wherever a variable stands on it. -/
namespace Go.Sx
open Go.RowKit

theorem laid_at {P : Program} {W : World} {name : String} {d : DataW Unit} {l : List (String × DataW Unit)} (h : laidMet P l W) (hm : (name, d) ∈ l) :
    ∃ g t cs fuel p, P.globalNamed name = some g ∧ (P.globals[g]?).map (·.type) = some t ∧ W.var? P name = some cs ∧ DataW.trod (fun _ => ()) P W 0 (fun _ => true) false fuel t cs.toList = some (d, p) := by
  obtain ⟨ps, h, hrest⟩ := h
  clear hrest
  induction l generalizing ps with
  | nil => cases hm
  | cons x r ih =>
    obtain ⟨n, e⟩ := x
    obtain ⟨g, t, cs, fuel, p, q, h1, h2, h3, h4, h5, h6⟩ := h
    rcases List.mem_cons.1 hm with e | hm
    · cases e; exact ⟨g, t, cs, fuel, p, h1, h2, h3, h4⟩
    · exact ih hm _ h5

theorem tab_at {P : Program} {W : World} {name : String} {k : IntKind} {zs : List Int} {l : List (String × DataW Unit)} {g : Nat} {t e : TypeId} {n : Nat} (hm : (name, Lib.tabData k zs) ∈ l)
    (hg : P.globalNamed name = some g) (hty : (P.globals[g]?).map (·.type) = some t) (ht : P.underlying t = some (.array n e)) (he : P.underlying e = some (.int k)) (hce : P.cellsOf e = 1) (hct : P.cellsOf t = n)
    (h : laidMet P l W) : Lib.TabIs P W name k zs := by
  obtain ⟨g', t', cs, fuel, p, h1, h2, h3, h4⟩ := laid_at h hm
  obtain rfl := Option.some.inj (hg.symm.trans h1)
  obtain rfl := Option.some.inj (hty.symm.trans h2)
  unfold Lib.TabIs
  rw [h3, ← Lib.cells_of_tab ht he hce hct h4]

theorem var_heap {P : Program} {W : World} {name : String} {g : Nat} {cs : Array Value} (hg : P.globalNamed name = some g) (h : W.var? P name = some cs) : ∃ e fr, W.heap[g]? = some (.cells cs e fr) := by
  simp only [World.var?, hg, Option.bind_some] at h
  split at h
  · rename_i cs' e fr hh
    cases h
    exact ⟨e, fr, hh⟩
  · cases h

theorem pair_at {P : Program} {W : World} {name : String} {k k' : IntKind} {a b : Int} {l : List (String × DataW Unit)} {g : Nat} {t : TypeId} {fs : Array Field} {f0 f1 : Field} (hm : (name, .agg [.lit (.int k a), .lit (.int k' b)]) ∈ l)
    (hg : P.globalNamed name = some g) (hty : (P.globals[g]?).map (·.type) = some t) (ht : P.underlying t = some (.struct fs)) (hfs : fs.toList = [f0, f1]) (ho0 : f0.offset = 0) (ho1 : f1.offset = 1)
    (hc0 : P.cellsOf f0.type = 1) (hc1 : P.cellsOf f1.type = 1) (hu0 : P.underlying f0.type = some (.int k)) (hu1 : P.underlying f1.type = some (.int k')) (hct : P.cellsOf t = 2)
    (h : laidMet P l W) : ∃ c e fr, HW W g = some (.cells c e fr) ∧ Rd (HW W) (.pair (.int k) (.int k')) (a, b) (seg c 0 2) ∧ c.size = 2 := by
  obtain ⟨g', t', cs, fuel, p, h1, h2, h3, h4⟩ := laid_at h hm
  obtain rfl := Option.some.inj (hg.symm.trans h1)
  obtain rfl := Option.some.inj (hty.symm.trans h2)
  obtain ⟨e, fr, hh⟩ := var_heap hg h3
  refine ⟨cs, e, fr, hh, ?_⟩
  have hcs : cs.toList = [.int k a, .int k' b] := by
    cases fuel with
    | zero => simp [DataW.trod] at h4
    | succ fuel =>
      simp only [DataW.trod, ht, hct, hfs, hc0, hc1, ho0, ho1, List.mapM_cons, List.mapM_nil] at h4
      split at h4
      · rename_i hl
        obtain ⟨xs, hx1, hx2⟩ := Option.map_eq_some_iff.1 h4
        simp only [Option.bind_eq_bind, Option.bind_eq_some_iff, Option.pure_def, Option.some.injEq] at hx1
        obtain ⟨y0, hy0, r, ⟨y1, hy1, r2, rfl, rfl⟩, rfl⟩ := hx1
        obtain ⟨m0, e0, hz0, _⟩ := DataW.trod_int hu0 hy0
        obtain ⟨m1, e1, hz1, _⟩ := DataW.trod_int hu1 hy1
        subst hz0 hz1
        simp only [List.map_cons, List.map_nil, Prod.mk.injEq, DataW.agg.injEq, List.cons.injEq, DataW.lit.injEq, Lit.int.injEq, true_and, and_true] at hx2
        obtain ⟨⟨rfl, rfl⟩, _⟩ := hx2
        match hq : cs.toList, hl with
        | [u, v], _ =>
          rw [hq] at e0 e1
          simp at e0 e1
          rw [e0, e1]
      · cases h4
  have hs : seg cs 0 2 = [.int k a, .int k' b] := by unfold seg; rw [hcs]; rfl
  rw [hs]
  exact ⟨⟨rfl, rfl⟩, by rw [← Array.length_toList, hcs]; rfl⟩

def intB (P : Program) (t : TypeId) (k : IntKind) : Bool := match P.underlying t with
  | some (.int q) => decide (q = k)
  | _ => false
theorem intB_ok {P : Program} {t : TypeId} {k : IntKind} (h : intB P t k = true) : P.underlying t = some (.int k) := by
  unfold intB at h
  split at h
  · rename_i q hq
    rw [hq, of_decide_eq_true h]
  · cases h
/-- A struct of two numbers. -/
def pairB (P : Program) (t : TypeId) (k k' : IntKind) : Bool := match P.underlying t with
  | some (.struct fs) => match fs.toList with
    | [f0, f1] => decide (f0.offset = 0) && decide (f1.offset = 1) && decide (P.cellsOf f0.type = 1) && decide (P.cellsOf f1.type = 1) && intB P f0.type k && intB P f1.type k' && decide (P.cellsOf t = 2)
    | _ => false
  | _ => false
theorem pair_at' {P : Program} {W : World} {name : String} {k k' : IntKind} {a b : Int} {l : List (String × DataW Unit)} {g : Nat} {t : TypeId} (hm : (name, .agg [.lit (.int k a), .lit (.int k' b)]) ∈ l)
    (hg : P.globalNamed name = some g) (hty : (P.globals[g]?).map (·.type) = some t) (hc : pairB P t k k' = true) (h : laidMet P l W) :
    ∃ c e fr, HW W g = some (.cells c e fr) ∧ Rd (HW W) (.pair (.int k) (.int k')) (a, b) (seg c 0 2) ∧ c.size = 2 := by
  unfold pairB at hc
  split at hc
  · rename_i fs hu
    split at hc
    · rename_i f0 f1 hfs
      simp only [Bool.and_eq_true, decide_eq_true_eq] at hc
      obtain ⟨⟨⟨⟨⟨⟨h1, h2⟩, h3⟩, h4⟩, h5⟩, h6⟩, h7⟩ := hc
      exact pair_at hm hg hty hu hfs h1 h2 h3 h4 (intB_ok h5) (intB_ok h6) h7 h
    · cases hc
  · cases hc

theorem rd_pair {H : IH} {a b : Ty} {x : (Ty.pair a b).T} {cs : List Value} (h : Rd H (.pair a b) x cs) : ∃ c1 c2, cs = c1 ++ c2 ∧ Rd H a x.1 c1 ∧ Rd H b x.2 c2 :=
  ⟨_, _, (List.take_append_drop a.sz cs).symm, h.1, h.2⟩
theorem wf_i64 {n : Int} (h : (Lit.int .i64 n).wf = true) : fits .i64 n := by
  simp [Lit.wf, IntKind.min, IntKind.max, IntKind.signed, IntKind.bits] at h
  simp only [fits]
  omega
theorem wf_i8 {n : Int} (h : (Lit.int .i8 n).wf = true) : fits .i8 n := by
  simp [Lit.wf, IntKind.min, IntKind.max, IntKind.signed, IntKind.bits] at h
  simp only [fits]
  omega
theorem wf_u8 {n : Int} (h : (Lit.int .u8 n).wf = true) : fits .u8 n := by
  simp [Lit.wf, IntKind.min, IntKind.max, IntKind.signed, IntKind.bits] at h
  simp only [fits]
  omega
theorem wf_mem {t : Ty} {xs : List t.T} (h : WF (.sl t) xs) : ∀ x ∈ xs, WF t x := by
  intro x hx
  obtain ⟨i, hi, rfl⟩ := List.mem_iff_getElem.1 hx
  exact h.2 i hi
end Go.Sx

/- Facts of the program that every row asks. -/
namespace Go.Sx
theorem j3a : laidOutB Proofs.Tryz.prog = true := by kernel_rfl
theorem j3b : mapsRowed Proofs.Tryz.prog = true := by kernel_rfl
theorem j3c : Proofs.Tryz.prog.stopsHeard = true := by kernel_rfl
theorem j3d : Proofs.Tryz.prog.mayEnter = true := by kernel_rfl
end Go.Sx

/- The plain law: streams of reels, whatever the name. -/
namespace Go.Sx
open U

theorem Bytes.app {a b : List Int} (h : Bytes a) (k : Bytes b) : Bytes (a ++ b) := by
  intro x hx
  rcases List.mem_append.1 hx with h' | h'
  · exact h x h'
  · exact k x h'

theorem rdRec_frame {l t : List Int} {c : Int} (hl : l.length < 256) (hc : 0 ≤ c ∧ c ≤ 65535) : rdRec (tframe l.length c ++ t) l = (0, false, c) := by
  have hn : number (((tframe l.length c ++ t).drop 1).take 2) = c := by
    show 256 * (256 * 0 + c / 256 % 256) + c % 256 = c
    omega
  have h0 : (tframe l.length c ++ t).getD 0 0 = 70 := rfl
  have he : recErr ((tframe l.length c ++ t).getD 0 0) l.length = 0 := by
    rw [h0]
    have : (((l.length : Nat) : Int) == 256) = false := by simp; omega
    unfold recErr
    rw [this]
    rfl
  rw [rdRec_full he (by simp [tframe_len]), hn, h0]
  have ht : List.take 5 (tframe l.length c ++ t) = tframe l.length c := rfl
  rw [ht]
  rw [if_neg (by decide)]
  simp [whenE]

theorem rdRec_last {l t : List Int} (hl : l.length ≤ 256) : rdRec (tlast l ++ t) l = (0, true, (l.length : Int)) := by
  have hn : number (((tlast l ++ t).drop 1).take 2) = l.length := by
    show 256 * (256 * 0 + (l.length : Int) / 256 % 256) + (l.length : Int) % 256 = l.length
    omega
  have h0 : (tlast l ++ t).getD 0 0 = 69 := rfl
  have he : recErr ((tlast l ++ t).getD 0 0) l.length = 0 := by rw [h0]; rfl
  rw [rdRec_full he (by simp [tlast_len]), hn, h0]
  have ht : List.take 5 (tlast l ++ t) = tlast l := rfl
  rw [ht, if_pos (by decide)]
  simp [whenE]

theorem rdRec_part {l t : List Int} (hl : t.length = 0 ∨ l.length < 256 ∨ t.getD 0 0 = 69) (ht : t.length < 5) (h0 : t.length = 0 ∨ t.getD 0 0 = 69 ∨ t.getD 0 0 = 70) : rdRec t l = (28, false, 0) := by
  by_cases h1 : t.length < 1
  · exact rdRec_none h1
  · refine rdRec_torn h1 ?_ ht
    rcases h0 with h0 | h0 | h0
    · omega
    · rw [h0]; rfl
    · rw [h0] at hl ⊢
      have hl' : l.length < 256 := by
        rcases hl with h | h | h
        · omega
        · exact h
        · cases h
      have : (((l.length : Nat) : Int) == 256) = false := by simp; omega
      unfold recErr
      rw [this]
      rfl

/-- Some frames' records. -/
def recsF (l : List Int) : Nat → Nat → List Int
  | _, 0 => []
  | i, k + 1 => tframe i (l.getD i 0) ++ recsF l (i + 1) k

theorem recs_recsF (l : List Int) : ∀ k i, recs l i ++ recsF l i k = recs l (i + k)
  | 0, i => by simp [recsF]
  | k + 1, i => by
    have := recs_recsF l k (i + 1)
    rw [show i + (k + 1) = (i + 1) + k by omega, ← this]
    simp [recsF, recs]

theorem recsF_len (l : List Int) : ∀ k i, (recsF l i k).length = 5 * k
  | 0, _ => rfl
  | k + 1, i => by simp only [recsF, List.length_append, recsF_len l k, tframe_len]; omega

theorem take_succ' {l : List Int} {i : Nat} (h : i < l.length) : l.take i ++ [l.getD i 0] = l.take (i + 1) := by
  rw [getD_of h, List.take_succ_eq_append_getElem h]

theorem rdAll_recs {l : List Int} (hw : W16 l) (h256 : l.length ≤ 256) (t : List Int) (m : Nat) : ∀ k i, i + k ≤ l.length → rdAll (m + k) (recsF l i k ++ t) (l.take i) = rdAll m t (l.take (i + k))
  | 0, i, _ => rfl
  | k + 1, i, h => by
    have hi : i < l.length := by omega
    have hlen : (l.take i).length = i := by rw [List.length_take]; omega
    have hc := hw _ (List.getElem_mem hi)
    have hr := rdRec_frame (l := l.take i) (t := recsF l (i + 1) k ++ t) (c := l.getD i 0) (by omega) (by rw [getD_of hi]; exact hc)
    rw [hlen] at hr
    have e : recsF l i (k + 1) ++ t = tframe i (l.getD i 0) ++ (recsF l (i + 1) k ++ t) := by simp [recsF]
    rw [e, show m + (k + 1) = (m + k) + 1 by omega, rdAll_more (by rw [hr]) (by rw [hr]), hr]
    have hd : List.drop 5 (tframe i (l.getD i 0) ++ (recsF l (i + 1) k ++ t)) = recsF l (i + 1) k ++ t := rfl
    rw [hd]
    simp only []
    rw [take_succ' hi, rdAll_recs hw h256 t m k (i + 1) (by omega)]
    congr 1
    congr 1
    omega

theorem rbAll_recs {f : Int} {l : List Int} (hw : W16 l) (h256 : l.length ≤ 256) (hf : f + (l.length : Int) ≤ 10000000) (t : List Int) (m : Nat) : ∀ k i, i + k ≤ l.length → rbAll f (m + k) (recsF l i k ++ t) (l.take i) = rbAll f m t (l.take (i + k))
  | 0, i, _ => rfl
  | k + 1, i, h => by
    have hi : i < l.length := by omega
    have hlen : (l.take i).length = i := by rw [List.length_take]; omega
    have hc := hw _ (List.getElem_mem hi)
    have hr := rdRec_frame (l := l.take i) (t := recsF l (i + 1) k ++ t) (c := l.getD i 0) (by omega) (by rw [getD_of hi]; exact hc)
    rw [hlen] at hr
    have e : recsF l i (k + 1) ++ t = tframe i (l.getD i 0) ++ (recsF l (i + 1) k ++ t) := by simp [recsF]
    rw [e, show m + (k + 1) = (m + k) + 1 by omega, rbAll_more (by rw [hr]; exact ⟨rfl, rfl, by rw [hlen]; omega⟩), hr]
    have hd : List.drop 5 (tframe i (l.getD i 0) ++ (recsF l (i + 1) k ++ t)) = recsF l (i + 1) k ++ t := rfl
    rw [hd]
    simp only []
    rw [take_succ' hi, rbAll_recs hw h256 hf t m k (i + 1) (by omega)]
    congr 1
    congr 1
    omega

/-- What is left of a record that is cut off. -/
theorem tail_head {l : List Int} {k n q : Nat} (hn : k + n = l.length) : ((recsF l k n ++ tlast l).take q).length = 0 ∨ ((recsF l k n ++ tlast l).take q).getD 0 0 = 69 ∧ n = 0 ∨ ((recsF l k n ++ tlast l).take q).getD 0 0 = 70 ∧ n ≠ 0 := by
  cases q with
  | zero => exact .inl rfl
  | succ q =>
    cases n with
    | zero => exact .inr (.inl ⟨rfl, rfl⟩)
    | succ n => exact .inr (.inr ⟨rfl, by omega⟩)

theorem record_bytes {k a b : Int} (hk : 0 ≤ k ∧ k ≤ 255) : Bytes (record k a b) := by
  intro x hx
  simp only [record, List.mem_cons, List.not_mem_nil, or_false] at hx
  rcases hx with rfl | rfl | rfl | rfl | rfl <;> omega


theorem isName_byte {nm : List UInt8} (h : isName nm = true) : ∀ b ∈ nm, b.toNat < 128 := by
  unfold isName at h
  simp only [Bool.and_eq_true, List.all_eq_true] at h
  intro b hb
  obtain ⟨i, hi, rfl⟩ := List.mem_iff_getElem.1 hb
  have := h.1 i (List.mem_range.2 hi)
  unfold nameAt at this
  rw [getD_of hi] at this
  simp only [Bool.or_eq_true, Bool.and_eq_true, decide_eq_true_eq, beq_iff_eq] at this
  omega
theorem plain_name {nm : List UInt8} (h : isName nm = true) : plain nm = true := by
  unfold plain
  rw [List.all_eq_true]
  exact fun b hb => decide_eq_true (isName_byte h b hb)
theorem bytesOf_strNs (nm : List UInt8) : bytesOf (strNs nm) = nm := by
  unfold bytesOf strNs
  rw [List.map_map]
  have : ((fun n : Int => UInt8.ofNat n.toNat) ∘ fun c : UInt8 => (c.toNat : Int)) = id := by
    funext c
    simp
  rw [this, List.map_id]
theorem head_len (nm : List UInt8) (f : Int) : (head nm f).length = 9 + nm.length := by
  simp only [head, List.length_append, strNs_len, four, List.length_cons, List.length_nil]; omega
theorem four_num {f : Int} (hf : 0 ≤ f ∧ f ≤ 10000000) : number (four f) = f := by
  show 256 * (256 * (256 * (256 * 0 + f / 16777216 % 256) + f / 65536 % 256) + f / 256 % 256) + f % 256 = f
  omega

theorem begin_nm {nm : List UInt8} {f : Int} (hn : isName nm = true) (hf : 0 ≤ f ∧ f ≤ 10000000) (r : List Int) : rdBegin (head nm f ++ r) = (0, nm, f, r) := by
  obtain ⟨l1, l2⟩ := isName_len hn
  have e : head nm f ++ r = [82, 69, 69, 76] ++ ([((nm.length : Int)) % 256] ++ (strNs nm ++ (four f ++ r))) := by
    simp only [head, List.append_assoc]
  rw [e]
  have d4 : List.drop 4 ([82, 69, 69, 76] ++ ([((nm.length : Int)) % 256] ++ (strNs nm ++ (four f ++ r)))) = [((nm.length : Int)) % 256] ++ (strNs nm ++ (four f ++ r)) := rfl
  have t4 : List.take 4 ([82, 69, 69, 76] ++ ([((nm.length : Int)) % 256] ++ (strNs nm ++ (four f ++ r)))) = [82, 69, 69, 76] := rfl
  have g0 : (([((nm.length : Int)) % 256] ++ (strNs nm ++ (four f ++ r))).getD 0 0).toNat = nm.length := by
    show ((nm.length : Int) % 256).toNat = nm.length
    omega
  have d1 : List.drop 1 ([((nm.length : Int)) % 256] ++ (strNs nm ++ (four f ++ r))) = strNs nm ++ (four f ++ r) := rfl
  have tk : List.take nm.length (strNs nm ++ (four f ++ r)) = strNs nm := by rw [List.take_append_of_le_length (by rw [strNs_len]; exact Nat.le_refl _), List.take_of_length_le (by rw [strNs_len]; exact Nat.le_refl _)]
  have dk : List.drop nm.length (strNs nm ++ (four f ++ r)) = four f ++ r := by rw [List.drop_append_of_le_length (by rw [strNs_len]; exact Nat.le_refl _), List.drop_of_length_le (by rw [strNs_len]; exact Nat.le_refl _)]; rfl
  have t5 : List.take 4 (four f ++ r) = four f := rfl
  have d5 : List.drop 4 (four f ++ r) = r := rfl
  unfold rdBegin
  rw [if_neg (by simp), t4, if_pos rfl, d4, g0, d1, tk, dk, t5, d5, bytesOf_strNs, plain_name hn, hn, four_num hf, if_neg (by simp), if_neg (by simp [strNs_len]), if_pos (show (true && true) = true from rfl), if_neg (by simp [four]), decide_eq_false (by omega)]
  rfl

section
variable {nm : List UInt8} {f : Int} {l : List Int}

theorem stream_eq : stream nm f l = head nm f ++ (recsF l 0 l.length ++ tlast l) := by
  unfold stream
  have a := recs_recsF l l.length 0
  rw [Nat.zero_add] at a
  rw [← a, List.append_assoc]
  rfl
theorem stream_length : (stream nm f l).length = 9 + nm.length + 5 * l.length + 5 := by
  rw [stream_eq]
  simp only [List.length_append, recsF_len, tlast_len, head_len]; omega

theorem cut_eqN (k q : Nat) (hk : k ≤ l.length) : (stream nm f l).take (9 + nm.length + 5 * k + q) = head nm f ++ (recsF l 0 k ++ (recsF l k (l.length - k) ++ tlast l).take q) := by
  have e1 : recsF l 0 l.length = recsF l 0 k ++ recsF l k (l.length - k) := by
    have a := recs_recsF l k 0
    have b := recs_recsF l (l.length - k) k
    have c := recs_recsF l l.length 0
    rw [show k + (l.length - k) = l.length by omega] at b
    have e0 : recs l 0 = [] := rfl
    rw [e0, List.nil_append, Nat.zero_add] at a c
    rw [c, ← b, a]
  have e2 : stream nm f l = (head nm f ++ recsF l 0 k) ++ (recsF l k (l.length - k) ++ tlast l) := by
    rw [stream_eq, e1]
    simp only [List.append_assoc]
  have hl : (head nm f ++ recsF l 0 k).length = 9 + nm.length + 5 * k := by rw [List.length_append, recsF_len, head_len]
  rw [e2, List.take_append, List.take_of_length_le (by omega), hl, show 9 + nm.length + 5 * k + q - (9 + nm.length + 5 * k) = q by omega, List.append_assoc]

theorem cut_lenN (k q : Nat) (hk : k ≤ l.length) (hq : q < 5) : ((stream nm f l).take (9 + nm.length + 5 * k + q)).length = 9 + nm.length + 5 * k + q := by
  rw [List.length_take, stream_length]; omega

variable (h : ReelOk nm f l)
include h
theorem tail_recN (k q : Nat) (hk : k ≤ l.length) (hq : q < 5) : rdRec ((recsF l k (l.length - k) ++ tlast l).take q) (l.take k) = (28, false, 0) := by
  have ht := tail_head (l := l) (k := k) (n := l.length - k) (q := q) (by omega)
  have hlt : (l.take k).length = k := by rw [List.length_take]; omega
  have h2 := h.len
  refine rdRec_part ?_ (by rw [List.length_take]; omega) ?_
  · rcases ht with ht | ht | ht
    · exact .inl ht
    · exact .inr (.inr ht.1)
    · exact .inr (.inl (by omega))
  · rcases ht with ht | ht | ht
    · exact .inl ht
    · exact .inr (.inl ht.1)
    · exact .inr (.inr ht.1)

theorem read_cutN (k q : Nat) (hk : k ≤ l.length) (hq : q < 5) : readS ((stream nm f l).take (9 + nm.length + 5 * k + q)) = (([], 0, []), 28) := by
  have hlen := cut_lenN (nm := nm) (f := f) k q hk hq
  rw [cut_eqN k q hk] at *
  have hb := begin_nm h.name h.start (recsF l 0 k ++ (recsF l k (l.length - k) ++ tlast l).take q)
  refine readS_err hb (l := l.take k) (q := (recsF l k (l.length - k) ++ tlast l).take q) ?_ (by decide)
  rw [hlen, show 9 + nm.length + 5 * k + q + 1 = (9 + nm.length + 4 * k + q + 1) + k by omega]
  have := rdAll_recs h.w h.len ((recsF l k (l.length - k) ++ tlast l).take q) (9 + nm.length + 4 * k + q + 1) k 0 (by omega)
  rw [Nat.zero_add, List.take_zero] at this
  rw [this]
  have hp := tail_recN h k q hk hq
  rw [rdAll_stop (by rw [hp]; decide), hp]

theorem rebuilt_cutN (k q : Nat) (h1 : 1 ≤ k) (hk : k ≤ l.length) (hq : q < 5) : rebuilt ((stream nm f l).take (9 + nm.length + 5 * k + q)) = ((nm, f, l.take k), false, 0) := by
  have hlen := cut_lenN (nm := nm) (f := f) k q hk hq
  have hrd := read_cutN h k q hk hq
  rw [cut_eqN k q hk] at *
  have hb := begin_nm h.name h.start (recsF l 0 k ++ (recsF l k (l.length - k) ++ tlast l).take q)
  have hlt : (l.take k).length = k := by rw [List.length_take]; omega
  have hx := rebuilt_some hb (l := l.take k) ?_ (by omega)
  · rw [hx, hrd]; rfl
  rw [hlen, show 9 + nm.length + 5 * k + q + 1 = (9 + nm.length + 4 * k + q + 1) + k by omega]
  have := rbAll_recs h.w h.len h.fin ((recsF l k (l.length - k) ++ tlast l).take q) (9 + nm.length + 4 * k + q + 1) k 0 (by omega)
  rw [Nat.zero_add, List.take_zero] at this
  rw [this]
  have hp := tail_recN h k q hk hq
  exact rbAll_stop (by rw [hp]; simp)

theorem read_allN : readS (stream nm f l) = ((nm, f, l), 0) := by
  have hb := begin_nm h.name h.start (recsF l 0 l.length ++ tlast l)
  rw [← stream_eq] at hb
  refine readS_ok hb (l := l) (q := []) ?_ ?_
  · rw [stream_length, show 9 + nm.length + 5 * l.length + 5 + 1 = (9 + nm.length + 4 * l.length + 5 + 1) + l.length by omega]
    have := rdAll_recs h.w h.len (tlast l) (9 + nm.length + 4 * l.length + 5 + 1) l.length 0 (by omega)
    rw [Nat.zero_add, List.take_zero, List.take_length] at this
    rw [this]
    have hr := rdRec_last (l := l) (t := []) h.len
    rw [List.append_nil] at hr
    rw [rdAll_last (by rw [hr]) (by rw [hr])]
    rfl
  · rw [checkReel_zero.2 h]; rfl

omit h in
theorem stream_byte : Bytes (stream nm f l) := by
  unfold stream
  refine Bytes.app (Bytes.app ?_ ?_) ?_
  · intro x hx
    simp only [head, four, List.mem_append, List.mem_cons, List.not_mem_nil, or_false] at hx
    rcases hx with ((hx | hx) | hx) | hx
    · rcases hx with rfl | rfl | rfl | rfl <;> omega
    · omega
    · unfold strNs at hx
      obtain ⟨c, _, rfl⟩ := List.mem_map.1 hx
      have := c.toNat_lt
      omega
    · rcases hx with rfl | rfl | rfl | rfl <;> omega
  · have key : ∀ i, Bytes (recs l i) := by
      intro i
      induction i with
      | zero => intro x hx; cases hx
      | succ i ih => exact Bytes.app ih (record_bytes (by omega))
    exact key _
  · exact record_bytes (by omega)
end
end Go.Sx

/- Plain laws of streams of reels that are cut before a frame's record, and of whole ones. -/
namespace Go.Sx
open U
section
variable {nm : List UInt8} {f : Int} {l : List Int}

theorem begin_torn (hn : isName nm = true) (hp : plain nm = true) (m : Nat) (hm : m < 9 + nm.length) : rdBegin ((stream nm f l).take m) = (28, [], 0, []) := by
  obtain ⟨l1, l2⟩ := isName_len hn
  have hS : stream nm f l = [82, 69, 69, 76] ++ ([((nm.length : Int)) % 256] ++ (strNs nm ++ (four f ++ (recsF l 0 l.length ++ tlast l)))) := by
    rw [stream_eq]
    simp only [head, List.append_assoc]
  have hL : ((stream nm f l).take m).length = m := by rw [List.length_take, stream_length]; omega
  by_cases h4 : m < 4
  · unfold rdBegin
    rw [if_pos (by omega)]
  · obtain ⟨m1, rfl⟩ : ∃ m1, m = 4 + m1 := ⟨m - 4, by omega⟩
    have e4 : (stream nm f l).take (4 + m1) = [82, 69, 69, 76] ++ ([((nm.length : Int)) % 256] ++ (strNs nm ++ (four f ++ (recsF l 0 l.length ++ tlast l)))).take m1 := by
      rw [hS, List.take_append, List.take_of_length_le (by simp only [List.length_cons, List.length_nil]; omega)]
      simp
    rw [e4] at hL ⊢
    generalize hx : ([((nm.length : Int)) % 256] ++ (strNs nm ++ (four f ++ (recsF l 0 l.length ++ tlast l)))).take m1 = X at *
    have d4 : List.drop 4 ([82, 69, 69, 76] ++ X) = X := rfl
    have t4 : List.take 4 ([82, 69, 69, 76] ++ X) = [82, 69, 69, 76] := rfl
    have hXl : X.length = m1 := by simpa [List.length_append] using (by rw [List.length_append] at hL; simp only [List.length_cons, List.length_nil] at hL; omega : X.length = m1)
    unfold rdBegin
    rw [if_neg (by omega), t4, if_pos rfl, d4]
    by_cases h5 : m1 < 1
    · rw [if_pos (by omega)]
    · obtain ⟨m2, rfl⟩ : ∃ m2, m1 = 1 + m2 := ⟨m1 - 1, by omega⟩
      have e5 : X = [((nm.length : Int)) % 256] ++ (strNs nm ++ (four f ++ (recsF l 0 l.length ++ tlast l))).take m2 := by
        rw [← hx, List.take_append, List.take_of_length_le (by simp)]
        simp
      generalize hy : (strNs nm ++ (four f ++ (recsF l 0 l.length ++ tlast l))).take m2 = Y at *
      subst e5
      have d1 : List.drop 1 ([((nm.length : Int)) % 256] ++ Y) = Y := rfl
      have g0 : (([((nm.length : Int)) % 256] ++ Y).getD 0 0).toNat = nm.length := by
        show ((nm.length : Int) % 256).toNat = nm.length
        omega
      have hYl : Y.length = m2 := by simp only [List.length_append, List.length_cons, List.length_nil] at hXl; omega
      rw [if_neg (by omega), d1, g0]
      by_cases h6 : m2 < nm.length
      · rw [if_pos (by omega)]
      · obtain ⟨m3, rfl⟩ : ∃ m3, m2 = nm.length + m3 := ⟨m2 - nm.length, by omega⟩
        have e6 : Y = strNs nm ++ (four f ++ (recsF l 0 l.length ++ tlast l)).take m3 := by
          rw [← hy, List.take_append, List.take_of_length_le (by rw [strNs_len]; omega), strNs_len]
          simp
        generalize hz : (four f ++ (recsF l 0 l.length ++ tlast l)).take m3 = Z at *
        subst e6
        have tk : List.take nm.length (strNs nm ++ Z) = strNs nm := by rw [List.take_append_of_le_length (by rw [strNs_len]; exact Nat.le_refl _), List.take_of_length_le (by rw [strNs_len]; exact Nat.le_refl _)]
        have dk : List.drop nm.length (strNs nm ++ Z) = Z := by rw [List.drop_append_of_le_length (by rw [strNs_len]; exact Nat.le_refl _), List.drop_of_length_le (by rw [strNs_len]; exact Nat.le_refl _)]; rfl
        have hZl : Z.length = m3 := by simp only [List.length_append, strNs_len] at hYl; omega
        rw [if_neg (by omega), tk, dk, bytesOf_strNs, hp, hn, if_pos (show (true && true) = true from rfl), if_pos (by omega)]

theorem rebuilt_torn (hn : isName nm = true) (m : Nat) (hm : m < 9 + nm.length) : rebuilt ((stream nm f l).take m) = (([], 0, []), false, 28) := by
  have hb := begin_torn (f := f) (l := l) hn (plain_name hn) m hm
  rw [rebuilt_begin (by rw [hb]; decide), hb]
theorem read_torn (hn : isName nm = true) (m : Nat) (hm : m < 9 + nm.length) : readS ((stream nm f l).take m) = (([], 0, []), 28) := by
  have hb := begin_torn (f := f) (l := l) hn (plain_name hn) m hm
  unfold readS
  rw [if_neg (by rw [hb]; decide), hb]

variable (h : ReelOk nm f l)
include h
theorem rebuilt_zeroN (q : Nat) (hq : q < 5) : rebuilt ((stream nm f l).take (9 + nm.length + 5 * 0 + q)) = (([], 0, []), false, 12) := by
  have hlen := cut_lenN (nm := nm) (f := f) (l := l) 0 q (Nat.zero_le _) hq
  rw [cut_eqN 0 q (Nat.zero_le _)] at *
  have hb := begin_nm h.name h.start (recsF l 0 0 ++ (recsF l 0 (l.length - 0) ++ tlast l).take q)
  refine rebuilt_none hb (l := []) ?_ rfl
  have hp := tail_recN h 0 q (Nat.zero_le _) hq
  rw [List.take_zero] at hp
  exact rbAll_stop (by rw [show recsF l 0 0 = [] from rfl, List.nil_append, hp]; simp)

theorem rebuilt_allN : rebuilt (stream nm f l) = ((nm, f, l), true, 0) := by
  have hb := begin_nm h.name h.start (recsF l 0 l.length ++ tlast l)
  rw [← stream_eq] at hb
  have hpos : 0 < l.length := Nat.pos_of_ne_zero h.ne
  have hx := rebuilt_some hb (l := l) ?_ (by omega)
  · rw [hx, read_allN h]; rfl
  rw [stream_length, show 9 + nm.length + 5 * l.length + 5 + 1 = (9 + nm.length + 4 * l.length + 5 + 1) + l.length by omega]
  have := rbAll_recs h.w h.len h.fin (tlast l) (9 + nm.length + 4 * l.length + 5 + 1) l.length 0 (by omega)
  rw [Nat.zero_add, List.take_zero, List.take_length] at this
  rw [this]
  have hr := rdRec_last (l := l) (t := []) h.len
  rw [List.append_nil] at hr
  exact rbAll_stop (by rw [hr]; simp)

/-- What is rebuilt of a stream's first bytes. -/
theorem rebuilt_pre (m : Nat) (hm : m ≤ (stream nm f l).length) :
    (m < 9 + nm.length ∧ rebuilt ((stream nm f l).take m) = (([], 0, []), false, 28)) ∨ (9 + nm.length ≤ m ∧ min l.length ((m - (9 + nm.length)) / 5) = 0 ∧ rebuilt ((stream nm f l).take m) = (([], 0, []), false, 12)) ∨
      ∃ k w, k = min l.length ((m - (9 + nm.length)) / 5) ∧ 9 + nm.length ≤ m ∧ 1 ≤ k ∧ k ≤ l.length ∧ rebuilt ((stream nm f l).take m) = ((nm, f, l.take k), w, 0) ∧ (m < (stream nm f l).length → w = false) := by
  have hl : 0 < l.length := Nat.pos_of_ne_zero h.ne
  rw [stream_length] at hm ⊢
  by_cases h1 : m < 9 + nm.length
  · exact .inl ⟨h1, rebuilt_torn h.name m h1⟩
  right
  by_cases h2 : m = 9 + nm.length + 5 * l.length + 5
  · right
    refine ⟨l.length, true, by omega, by omega, by omega, Nat.le_refl _, ?_, fun hh => absurd hh (by omega)⟩
    rw [List.take_of_length_le (by rw [stream_length]; omega), List.take_length, rebuilt_allN h]
  · have hdm := Nat.div_add_mod (m - (9 + nm.length)) 5
    have hml := Nat.mod_lt (m - (9 + nm.length)) (show 0 < 5 by decide)
    have hk : (m - (9 + nm.length)) / 5 ≤ l.length := by omega
    have e : m = 9 + nm.length + 5 * ((m - (9 + nm.length)) / 5) + (m - (9 + nm.length)) % 5 := by omega
    by_cases h3 : (m - (9 + nm.length)) / 5 = 0
    · left
      refine ⟨by omega, by omega, ?_⟩
      rw [h3] at e
      rw [e]
      exact rebuilt_zeroN h _ hml
    · right
      refine ⟨(m - (9 + nm.length)) / 5, false, by omega, by omega, by omega, hk, ?_, fun _ => rfl⟩
      have := rebuilt_cutN h ((m - (9 + nm.length)) / 5) ((m - (9 + nm.length)) % 5) (by omega) hk hml
      rw [← e] at this
      exact this
end
end Go.Sx

/- Plain laws of streams of reels with a changed byte, and with a further one. -/
namespace Go.Sx
open U
theorem set_app {α : Type} (a b : List α) (i : Nat) (x : α) : (a ++ b).set (a.length + i) x = a ++ b.set i x := by
  rw [List.set_append_right _ _ (by omega)]
  congr 2
  omega
theorem xor_ne {a d : Int} (ha : 0 ≤ a ∧ a ≤ 255) (hd : 1 ≤ d ∧ d ≤ 255) : (0 ≤ bits .xor .u8 a d ∧ bits .xor .u8 a d ≤ 255) ∧ bits .xor .u8 a d ≠ a := by
  have hb : (BitVec.ofInt 8 a ^^^ BitVec.ofInt 8 d).toNat < 256 := (BitVec.ofInt 8 a ^^^ BitVec.ofInt 8 d).isLt
  have e : bits .xor .u8 a d = (((BitVec.ofInt 8 a ^^^ BitVec.ofInt 8 d).toNat : Nat) : Int) := by
    show IntKind.u8.wrap (((BitVec.ofInt 8 a ^^^ BitVec.ofInt 8 d).toNat : Nat) : Int) = _
    generalize (BitVec.ofInt 8 a ^^^ BitVec.ofInt 8 d).toNat = n at *
    simp [IntKind.wrap, IntKind.bits, IntKind.signed]
    omega
  rw [e]
  refine ⟨⟨by omega, by omega⟩, fun h => ?_⟩
  have h1 : BitVec.ofInt 8 a ^^^ BitVec.ofInt 8 d = BitVec.ofInt 8 a := by
    apply BitVec.eq_of_toNat_eq
    have : (BitVec.ofInt 8 a).toNat = (a % 256).toNat := BitVec.toNat_ofInt (n := 8) a
    omega
  have h2 : BitVec.ofInt 8 d = 0#8 := by
    have := congrArg (BitVec.ofInt 8 a ^^^ ·) h1
    simpa [← BitVec.xor_assoc] using this
  have h3 : (BitVec.ofInt 8 d).toNat = (d % 256).toNat := BitVec.toNat_ofInt (n := 8) d
  rw [h2] at h3
  have : (0#8).toNat = 0 := rfl
  omega
theorem by_two {t u : Int} (t1 : 0 ≤ t) (t2 : t < 65521) (u1 : 0 ≤ u) (u2 : u < 65521) (h1 : t / 256 % 256 = u / 256 % 256) (h2 : t % 256 = u % 256) : t = u := by omega
theorem mul_uniq {x y : Int} (h : 263 * x = 65521 * y) (h1 : x < 65521) (h2 : -65521 < x) : x = 0 := by omega
theorem rem_nn (n : Int) : 0 ≤ n % 65521 ∧ n % 65521 < 65521 := ⟨by omega, by omega⟩
theorem rem_eq {n m : Int} (h : n % 65521 = m % 65521) : ∃ y, n - m = 65521 * y := ⟨n / 65521 - m / 65521, by omega⟩
theorem sum_uniq {i c d t u : Int} (ht : t = (263 * (263 * i + c) + 97) % 65521) (hu : u = (263 * (263 * i + d) + 97) % 65521) (h1 : t / 256 % 256 = u / 256 % 256) (h2 : t % 256 = u % 256)
    (h3 : c - d < 65521 ∧ d - c < 65521) : c = d := by
  have a := rem_nn (263 * (263 * i + c) + 97)
  have b := rem_nn (263 * (263 * i + d) + 97)
  rw [← ht] at a
  rw [← hu] at b
  have e := by_two a.1 a.2 b.1 b.2 h1 h2
  rw [ht, hu] at e
  obtain ⟨y, hy⟩ := rem_eq e
  clear e a b h1 h2 ht hu
  obtain ⟨p, hp⟩ : ∃ p, 263 * i + c = p := ⟨_, rfl⟩
  obtain ⟨q, hq⟩ : ∃ q, 263 * i + d = q := ⟨_, rfl⟩
  rw [hp, hq] at hy
  have e1 : c - d = p - q := by omega
  have e2 : 263 * (p - q) = 65521 * y := by omega
  have := mul_uniq e2 (by omega) (by omega)
  omega
theorem bd1 {x c : Int} (hx : 0 ≤ x ∧ x ≤ 255) (hc : 0 ≤ c ∧ c ≤ 65535) : 256 * x + c % 256 - c < 65521 ∧ c - (256 * x + c % 256) < 65521 := by omega
theorem bd2 {x c : Int} (hx : 0 ≤ x ∧ x ≤ 255) (hc : 0 ≤ c ∧ c ≤ 65535) : 256 * (c / 256 % 256) + x - c < 65521 ∧ c - (256 * (c / 256 % 256) + x) < 65521 := by omega
theorem chq1 {x c : Int} (hx : 0 ≤ x ∧ x ≤ 255) (h : 256 * x + c % 256 = c) : x = c / 256 % 256 := by omega
theorem chq2 {x c : Int} (hc : 0 ≤ c ∧ c ≤ 65535) (h : 256 * (c / 256 % 256) + x = c) : x = c % 256 := by omega
theorem chq3 {c : Int} (hc : 0 ≤ c ∧ c ≤ 65535) : 256 * (c / 256 % 256) + c % 256 = c := by omega
theorem chg_rec {l rest : List Int} {j q : Nat} {c x : Int} (hl : l.length = j) (hc : 0 ≤ c ∧ c ≤ 65535) (hq : q < 5) (hx : 0 ≤ x ∧ x ≤ 255) (hne : x ≠ (tframe j c).getD q 0) :
    ¬ ((rdRec ((tframe j c).set q x ++ rest) l).1 = 0 ∧ (rdRec ((tframe j c).set q x ++ rest) l).2.1 = false) := by
  rintro ⟨h1, h2⟩
  have hT : ∀ c : Int, tframe j c = [70, c / 256 % 256, c % 256, (263 * (263 * (j : Int) + c) + 97) % 65521 / 256 % 256, (263 * (263 * (j : Int) + c) + 97) % 65521 % 256] := fun _ => rfl
  have key : ∀ b1 b2 b3 b4 : Int, (rdRec (70 :: b1 :: b2 :: b3 :: b4 :: rest) l).1 = 0 → (256 * b1 + b2) / 256 % 256 = b1 ∧ (256 * b1 + b2) % 256 = b2 ∧ (263 * (263 * (j : Int) + (256 * b1 + b2)) + 97) % 65521 / 256 % 256 = b3 ∧ (263 * (263 * (j : Int) + (256 * b1 + b2)) + 97) % 65521 % 256 = b4 := by
    intro b1 b2 b3 b4 h
    unfold rdRec at h
    rw [if_neg (by simp)] at h
    by_cases he : recErr ((70 :: b1 :: b2 :: b3 :: b4 :: rest).getD 0 0) l.length = 0
    · rw [if_pos he, if_neg (by simp)] at h
      have hn : number (List.take 2 (List.drop 1 (70 :: b1 :: b2 :: b3 :: b4 :: rest))) = 256 * b1 + b2 := by
        show 256 * (256 * 0 + b1) + b2 = _
        omega
      have hd : List.take 5 (70 :: b1 :: b2 :: b3 :: b4 :: rest) = [70, b1, b2, b3, b4] := rfl
      rw [hn, hd, if_neg (show ¬ ((70 :: b1 :: b2 :: b3 :: b4 :: rest).getD 0 0 == 69) = true from by show ¬ ((70 : Int) == 69) = true; decide), hl, hT] at h
      have h3 : [70, b1, b2, b3, b4] = [70, (256 * b1 + b2) / 256 % 256, (256 * b1 + b2) % 256, (263 * (263 * (j : Int) + (256 * b1 + b2)) + 97) % 65521 / 256 % 256, (263 * (263 * (j : Int) + (256 * b1 + b2)) + 97) % 65521 % 256] := by
        by_cases hh : [70, b1, b2, b3, b4] = [70, (256 * b1 + b2) / 256 % 256, (256 * b1 + b2) % 256, (263 * (263 * (j : Int) + (256 * b1 + b2)) + 97) % 65521 / 256 % 256, (263 * (263 * (j : Int) + (256 * b1 + b2)) + 97) % 65521 % 256]
        · exact hh
        · rw [decide_eq_false hh] at h; cases h
      simp only [List.cons.injEq, and_true, true_and] at h3
      exact ⟨h3.1.symm, h3.2.1.symm, h3.2.2.1.symm, h3.2.2.2.symm⟩
    · rw [if_neg he] at h
      exact absurd h he
  rw [hT] at h1 h2 hne
  match q, hq with
  | 0, _ =>
    have h2' : (rdRec (x :: c / 256 % 256 :: c % 256 :: (263 * (263 * (j : Int) + c) + 97) % 65521 / 256 % 256 :: (263 * (263 * (j : Int) + c) + 97) % 65521 % 256 :: rest) l).2.1 = false := h2
    have h1' : (rdRec (x :: c / 256 % 256 :: c % 256 :: (263 * (263 * (j : Int) + c) + 97) % 65521 / 256 % 256 :: (263 * (263 * (j : Int) + c) + 97) % 65521 % 256 :: rest) l).1 = 0 := h1
    have hx70 : x ≠ 70 := hne
    have hgd : ∀ (x : Int) (r : List Int), (x :: r).getD 0 0 = x := fun _ _ => rfl
    unfold rdRec at h1' h2'
    rw [if_neg (by simp)] at h1' h2'
    simp only [hgd] at h1' h2'
    by_cases h69 : x = 69
    · subst h69
      rw [if_pos (show recErr 69 l.length = 0 from rfl), if_neg (by simp)] at h2'
      cases h2'
    · have he : recErr x l.length = 1 := by
        unfold recErr
        rw [show (!(x == 69) && (x != 70)) = true by rw [show (x == 69) = false from beq_eq_false_iff_ne.2 h69, show (x != 70) = true from bne_iff_ne.2 hx70]; rfl]; rfl
      rw [if_neg (by rw [he]; decide)] at h1'
      have : recErr x l.length = 0 := h1'
      rw [he] at this
      cases this
  | 1, _ =>
    have hne' : x ≠ c / 256 % 256 := hne
    have := key x (c % 256) _ _ h1
    exact hne' (chq1 hx (sum_uniq rfl rfl this.2.2.1 this.2.2.2 (bd1 hx hc)))
  | 2, _ =>
    have hne' : x ≠ c % 256 := hne
    have := key (c / 256 % 256) x _ _ h1
    exact hne' (chq2 hc (sum_uniq rfl rfl this.2.2.1 this.2.2.2 (bd2 hx hc)))
  | 3, _ =>
    have hne' : x ≠ (263 * (263 * (j : Int) + c) + 97) % 65521 / 256 % 256 := hne
    have := key (c / 256 % 256) (c % 256) x _ h1
    rw [chq3 hc] at this
    exact hne' this.2.2.1.symm
  | 4, _ =>
    have hne' : x ≠ (263 * (263 * (j : Int) + c) + 97) % 65521 % 256 := hne
    have := key (c / 256 % 256) (c % 256) _ x h1
    rw [chq3 hc] at this
    exact hne' this.2.2.2.symm
section
variable {nm : List UInt8} {f : Int} {l : List Int}
theorem stream_at {j : Nat} (hj : j < l.length) : stream nm f l = (head nm f ++ recsF l 0 j) ++ (tframe j (l.getD j 0) ++ (recsF l (j + 1) (l.length - (j + 1)) ++ tlast l)) := by
  have e1 : recsF l 0 l.length = recsF l 0 j ++ recsF l j (l.length - j) := by
    have a := recs_recsF l j 0
    have b := recs_recsF l (l.length - j) j
    have c := recs_recsF l l.length 0
    rw [show j + (l.length - j) = l.length by omega] at b
    have e0 : recs l 0 = [] := rfl
    rw [e0, List.nil_append, Nat.zero_add] at a c
    rw [c, ← b, a]
  have e2 : recsF l j (l.length - j) = tframe j (l.getD j 0) ++ recsF l (j + 1) (l.length - (j + 1)) := by
    rw [show l.length - j = (l.length - (j + 1)) + 1 by omega]
    rfl
  rw [stream_eq, e1, e2]
  simp only [List.append_assoc]
theorem headrec_len (j : Nat) : (head nm f ++ recsF l 0 j).length = 9 + nm.length + 5 * j := by rw [List.length_append, recsF_len, head_len]
variable (h : ReelOk nm f l)
include h
theorem read_pre (m : Nat) (hm : m < (stream nm f l).length) : readS ((stream nm f l).take m) = (([], 0, []), 28) := by
  rw [stream_length] at hm
  by_cases h1 : m < 9 + nm.length
  · exact read_torn h.name m h1
  · have e : m = 9 + nm.length + 5 * ((m - (9 + nm.length)) / 5) + (m - (9 + nm.length)) % 5 := by omega
    rw [e]
    exact read_cutN h _ _ (by omega) (Nat.mod_lt _ (by decide))
/-- What is read and rebuilt where the record of a frame is not right. -/
theorem bad_at {j : Nat} (hj : j < l.length) {t : List Int} (ht : ¬ ((rdRec t (l.take j)).1 = 0 ∧ (rdRec t (l.take j)).2.1 = false)) (ht5 : 5 < t.length) :
    (readS ((head nm f ++ recsF l 0 j) ++ t)).2 ≠ 0 ∧ rebuilt ((head nm f ++ recsF l 0 j) ++ t) = if j = 0 then (([], 0, []), false, 12) else ((nm, f, l.take j), false, 0) := by
  have hlt : (l.take j).length = j := by rw [List.length_take]; omega
  rw [List.append_assoc]
  have hb := begin_nm h.name h.start (recsF l 0 j ++ t)
  have hL : (head nm f ++ (recsF l 0 j ++ t)).length = 9 + nm.length + 5 * j + t.length := by
    rw [← List.append_assoc, List.length_append, headrec_len]
  have hr : ∀ m, rdAll ((m + 1) + j) (recsF l 0 j ++ t) [] = rdAll (m + 1) t (l.take j) := fun m => by
    have := rdAll_recs h.w h.len t (m + 1) j 0 (by omega)
    rw [Nat.zero_add, List.take_zero] at this
    exact this
  have hrb : ∀ m, rbAll f ((m + 1) + j) (recsF l 0 j ++ t) [] = rbAll f (m + 1) t (l.take j) := fun m => by
    have := rbAll_recs h.w h.len h.fin t (m + 1) j 0 (by omega)
    rw [Nat.zero_add, List.take_zero] at this
    exact this
  obtain ⟨m, hm⟩ : ∃ m, (head nm f ++ (recsF l 0 j ++ t)).length + 1 = (m + 1) + j := ⟨9 + nm.length + 4 * j + t.length, by omega⟩
  have hread : (readS (head nm f ++ (recsF l 0 j ++ t))).2 ≠ 0 := by
    by_cases h1 : (rdRec t (l.take j)).1 = 0
    · have h2 : (rdRec t (l.take j)).2.1 = true := by
        cases hq : (rdRec t (l.take j)).2.1
        · exact absurd ⟨h1, hq⟩ ht
        · rfl
      have he : first [whenE (decide (0 < (t.drop 5).length)) 23, checkReel nm f (l.take j)] = 23 := by
        rw [decide_eq_true (show 0 < (t.drop 5).length by rw [List.length_drop]; omega)]; rfl
      rw [readS_bad hb (by rw [hm, hr]; exact rdAll_last h1 h2) (by rw [he]; decide), he]
      decide
    · rw [readS_err hb (by rw [hm, hr]; exact rdAll_stop h1) h1]
      exact h1
  refine ⟨hread, ?_⟩
  have hst : rbAll f ((head nm f ++ (recsF l 0 j ++ t)).length + 1) (recsF l 0 j ++ t) [] = l.take j := by
    rw [hm, hrb]
    exact rbAll_stop fun q => ht ⟨q.1, q.2.1⟩
  by_cases h0 : j = 0
  · rw [if_pos h0]
    exact rebuilt_none hb hst (by omega)
  · rw [if_neg h0, rebuilt_some hb hst (by omega), decide_eq_false hread]

theorem changed (k : Nat) (x : Int) (hk : k < 5 * l.length) (hx : 0 ≤ x ∧ x ≤ 255) (hne : x ≠ (stream nm f l).getD (9 + nm.length + k) 0) :
    (readS ((stream nm f l).set (9 + nm.length + k) x)).2 ≠ 0 ∧ rebuilt ((stream nm f l).set (9 + nm.length + k) x) = if k / 5 = 0 then (([], 0, []), false, 12) else ((nm, f, l.take (k / 5)), false, 0) := by
  have hj : k / 5 < l.length := by omega
  have hq : k % 5 < 5 := Nat.mod_lt _ (by decide)
  have e : 9 + nm.length + k = (head nm f ++ recsF l 0 (k / 5)).length + k % 5 := by rw [headrec_len]; omega
  have hc : 0 ≤ l.getD (k / 5) 0 ∧ l.getD (k / 5) 0 ≤ 65535 := by rw [getD_of hj]; exact h.w _ (List.getElem_mem hj)
  have hlt : (l.take (k / 5)).length = k / 5 := by rw [List.length_take]; omega
  have hset : (stream nm f l).set (9 + nm.length + k) x = (head nm f ++ recsF l 0 (k / 5)) ++ ((tframe (k / 5 : Nat) (l.getD (k / 5) 0)).set (k % 5) x ++ (recsF l (k / 5 + 1) (l.length - (k / 5 + 1)) ++ tlast l)) := by
    rw [e, stream_at hj, set_app, List.set_append_left _ _ (by rw [tframe_len]; exact hq)]
  have hne' : x ≠ (tframe (k / 5 : Nat) (l.getD (k / 5) 0)).getD (k % 5) 0 := by
    rw [e, stream_at hj, List.getD_eq_getElem?_getD, List.getElem?_append_right (by omega), Nat.add_sub_cancel_left, List.getElem?_append_left (by rw [tframe_len]; exact hq), ← List.getD_eq_getElem?_getD] at hne
    exact hne
  rw [hset]
  refine bad_at h hj (chg_rec hlt hc hq hx hne') ?_
  simp only [List.length_append, List.length_set, tframe_len, tlast_len]
  omega

theorem further : (readS (stream nm f l ++ [0])).2 = 23 ∧ rebuilt (stream nm f l ++ [0]) = ((nm, f, l), false, 0) := by
  have e : stream nm f l ++ [0] = head nm f ++ (recsF l 0 l.length ++ (tlast l ++ [0])) := by rw [stream_eq]; simp only [List.append_assoc]
  rw [e]
  have hb := begin_nm h.name h.start (recsF l 0 l.length ++ (tlast l ++ [0]))
  have hL : (head nm f ++ (recsF l 0 l.length ++ (tlast l ++ [0]))).length = 9 + nm.length + 5 * l.length + 6 := by
    simp only [List.length_append, recsF_len, tlast_len, head_len, List.length_cons, List.length_nil]; omega
  obtain ⟨m, hm⟩ : ∃ m, (head nm f ++ (recsF l 0 l.length ++ (tlast l ++ [0]))).length + 1 = (m + 1) + l.length := ⟨9 + nm.length + 4 * l.length + 6, by omega⟩
  have hrl := rdRec_last (l := l) (t := [0]) h.len
  have hr := rdAll_recs h.w h.len (tlast l ++ [0]) (m + 1) l.length 0 (by omega)
  have hrb := rbAll_recs h.w h.len h.fin (tlast l ++ [0]) (m + 1) l.length 0 (by omega)
  rw [Nat.zero_add, List.take_zero, List.take_length] at hr hrb
  have hread : readS (head nm f ++ (recsF l 0 l.length ++ (tlast l ++ [0]))) = (([], 0, []), 23) := by
    have he : first [whenE (decide (0 < ((tlast l ++ [0]).drop 5).length)) 23, checkReel nm f l] = 23 := rfl
    rw [readS_bad hb (by rw [hm, hr]; exact rdAll_last (by rw [hrl]) (by rw [hrl])) (by rw [he]; decide), he]
  refine ⟨by rw [hread], ?_⟩
  have := h.ne
  rw [rebuilt_some hb (l := l) (by rw [hm, hrb]; exact rbAll_stop (by rw [hrl]; simp)) (by omega), hread]
  rfl
end
end Go.Sx

/- Plain functions and hints. -/
namespace Go.Sx.U
/-- Whether what was rebuilt is the first frames of a reel. -/
def begB (ynm : List UInt8) (yf : Int) (yl : List Int) (w : Bool) (e k : Int) (nm : List UInt8) (f : Int) (l : List Int) : Bool :=
  if k = 0 then e == 12 && !w else e == 0 && !w && ynm == nm && yf == f && yl == l.take k.toNat
end Go.Sx.U
namespace Go.Sx
open U
def h8 : Hints := ⟨fun f k s => match f, k with
  | 8, 10 => match listAs s 5 (.int .u8) with
    | some r => some ⟨Nat, fun i => s.at [2, 3, 5, 9, 10, 77, 78] [tI 79 i], fun i => i ≤ List.length r, fun i => List.length r - i⟩
    | _ => none
  | _, _ => none, 0⟩
end Go.Sx
namespace Go.Sx
open U
def sp67 : FSpec := ⟨fun vs => match vs with
  | [.agg [.one (.str a), .one (.int .i64 b), .one (.sl (.int .i64) c)], .one (.bool w), .one (.int .i64 e), .one (.int .i64 k), .one (.ref (.pair .str (.pair (.int .i64) (.sl (.int .i64)))) r)] => some ([List.length c ≤ 1000000, 0 ≤ k ∧ k ≤ (List.length (show Rl from r).2.2 : Int)], .val (bV (begB a b c w e k (show Rl from r).1 (show Rl from r).2.1 (show Rl from r).2.2)))
  | _ => none, true⟩
end Go.Sx
