/- A verified symbolic run of functions, part 17: lemmas, no claim of their own. -/
import Derived.Test.YtpbipfdpoijgoaaGreatDoorS16
import Derived.OpenShut
import Derived.ProofKit
import Derived.Carry
import Derived.OpenVars
import Derived.Lib.LaidTab
import Derived.ChangeSame
import Derived.WalkKit
import Derived.Deep.DeepHandedRow
import Derived.JoinedCond
import Derived.KernelRfl
import Derived.Test.YtpbipfdpoijgoaaGreatDoorProg
import Derived.Test.YtpbipfdpoijgoaaGreatDoorCards
import Derived.Shelf.Spec.SlicesGrow
/- What the engine asks, written out (printed by a program). -/
namespace Go.Sx
open U
theorem vc97 (_u : Unit) : exF (env false [] []) h0 0 97 Proofs.Tryz.f97 [] (.val (.one (.sl rlT aR))) = ([(Array.toList (ByteArray.data { data := #[(97 : UInt8)] }), (10 : Int), [(0 : Int), (100 : Int), (200 : Int), (300 : Int), (400 : Int), (500 : Int)]), (Array.toList (ByteArray.data { data := #[(98 : UInt8)] }), (50 : Int), [(40 : Int), (50 : Int), (60 : Int), (70 : Int)])] = aR ∧ True) := by
  kernel_rfl
theorem vc98 (n : Int) : exF (env false [] []) h0 0 98 Proofs.Tryz.f98 [iV n] (.val (.one (.sl edT (aL n)))) = ([(Array.toList (ByteArray.data { data := #[(97 : UInt8)] }), (11 : Int), (14 : Int), (0 : Int), (0 : Int)), (Array.toList (ByteArray.data { data := #[(98 : UInt8)] }), n, (53 : Int), (1 : Int), (-1 : Int)), (Array.toList (ByteArray.data { data := #[(97 : UInt8)] }), (15 : Int), (16 : Int), (0 : Int), (0 : Int))] = aL n ∧ True) := by
  kernel_rfl
theorem vc96 (_u : Unit) : exF (env false [] []) h0 0 96 Proofs.Tryz.f96 [] (.val (sV aS)) = (List.length (Array.toList (ByteArray.data { data := #[(82 : UInt8), (69 : UInt8), (69 : UInt8), (76 : UInt8), (1 : UInt8), (99 : UInt8), (0 : UInt8), (0 : UInt8), (0 : UInt8), (1 : UInt8)] })) + List.length (bytesOf [(70 : Int), (1 : Int), (2 : Int), (9 : Int), (126 : Int), (69 : Int), (0 : Int), (1 : Int), (1 : Int), (2 : Int)]) ≤ (9223372036854775807 : Nat) ∧ Array.toList (ByteArray.data { data := #[(82 : UInt8), (69 : UInt8), (69 : UInt8), (76 : UInt8), (1 : UInt8), (99 : UInt8), (0 : UInt8), (0 : UInt8), (0 : UInt8), (1 : UInt8)] }) ++ bytesOf [(70 : Int), (1 : Int), (2 : Int), (9 : Int), (126 : Int), (69 : Int), (0 : Int), (1 : Int), (1 : Int), (2 : Int)] = aS ∧ True) := by
  kernel_rfl
theorem vc18 (_u : Unit) : exF (env false [(19, sp19), (29, sp29), (27, sp27), (43, sp43), (33, sp33), (37, sp37), (35, sp35), (36, sp36), (69, sp69), (49, sp49), (50, sp50), (51, sp51), (84, sp84), (58, sp58), (60, sp60), (90, sp90), (97, sp97), (98, sp98), (96, sp96), (48, sp48), (74, sp74), (57, sp57), (32, sp32), (47, sp47), (73, sp73), (56, sp56), (44, sp44), (66, sp66)] []) h0 0 18 Proofs.Tryz.f18 [] (.val (bV true)) = (let q1 := (aL (51 : Int)); let q36 := (((25 : Int), false), ((0 : Int), (0 : Int), (0 : Int), (23 : Int)), (0 : Int)); let q0 := (if chkEds aR q1 = (0 : Int) then labsN q36 (ls q1) else []); let q25 := (ByteArray.data { data := #[(98 : UInt8)] }); let q21 := (ByteArray.data { data := #[(97 : UInt8)] }); let q22 := (chgL aR q1 (2 : Int) (-1 : Int) (1 : Int) rollL); let q2 := (List.drop (1 : Nat) q22 = [(Array.toList q25, (51 : Int), (52 : Int), (1 : Int), (-1 : Int)), (Array.toList q21, (14 : Int), (16 : Int), (0 : Int), (0 : Int))]); let q11 := (chgL aR q1 (0 : Int) (1 : Int) (0 : Int) trimL); let q16 := (List.getD q11 (0 : Nat) ([], (0 : Int), (0 : Int), (0 : Int), (0 : Int))); let q27 := (↑(List.length (partL aR q1 (5 : Int)).1) : Int); let q28 := (aL (50 : Int)); let q29 := (↑(List.length q11) : Int); let q14 := ((partL aR q1 (5 : Int)).2 = [(Array.toList q21, (15 : Int), (16 : Int), (0 : Int), (0 : Int))]); let q3 := (bif bif bif bif bif bif bif chgE aR q1 (0 : Int) (1 : Int) (0 : Int) trimL + chgE aR q1 (2 : Int) (-1 : Int) (1 : Int) rollL + partE aR q1 (5 : Int) + convE aR q1 [(1 : Int), (1 : Int)] + chkEds aR q1 + chkText q28 == (0 : Int) then chgE aR q1 (2 : Int) (1 : Int) (0 : Int) slipL == (14 : Int) else false then partE aR q1 (3 : Int) == (22 : Int) else false then q29 == (3 : Int) else false then q16.2.2.1 == (15 : Int) else false then decide q2 else false then q27 == (2 : Int) else false then decide q14 else false); let q33 := (↑(List.length q0) : Int); let q12 := (List.getD q0 (1 : Nat) ((0 : Int), (0 : Int), (0 : Int), (0 : Int))); let q37 := (Ty.int IntKind.i64); let q23 := (Ty.pair q37 (Ty.pair q37 (Ty.pair q37 q37))); let q24 := (convL aR q1 [(1 : Int), (1 : Int)] = [[(0 : Int), (1 : Int)], [(2 : Int), (3 : Int)], [(4 : Int), (5 : Int)]]); let q4 := (bif bif bif bif bif bif bif bif bif bif chgE aR q1 (0 : Int) (1 : Int) (0 : Int) trimL + chgE aR q1 (2 : Int) (-1 : Int) (1 : Int) rollL + partE aR q1 (5 : Int) + convE aR q1 [(1 : Int), (1 : Int)] + chkEds aR q1 + chkText q28 == (0 : Int) then chgE aR q1 (2 : Int) (1 : Int) (0 : Int) slipL == (14 : Int) else false then partE aR q1 (3 : Int) == (22 : Int) else false then q29 == (3 : Int) else false then q16.2.2.1 == (15 : Int) else false then decide q2 else false then q27 == (2 : Int) else false then decide q14 else false then decide q24 else false then q33 == (3 : Int) else false then eqT q23 (q12.1, q12.2.1, q12.2.2.1, q12.2.2.2) ((0 : Int), (0 : Int), (1 : Int), (1 : Int)) else false); let q5 := (bif bif bif bif chgE aR q1 (0 : Int) (1 : Int) (0 : Int) trimL + chgE aR q1 (2 : Int) (-1 : Int) (1 : Int) rollL + partE aR q1 (5 : Int) + convE aR q1 [(1 : Int), (1 : Int)] + chkEds aR q1 + chkText q28 == (0 : Int) then chgE aR q1 (2 : Int) (1 : Int) (0 : Int) slipL == (14 : Int) else false then partE aR q1 (3 : Int) == (22 : Int) else false then q29 == (3 : Int) else false then q16.2.2.1 == (15 : Int) else false); let q6 := (soundsN aR q1 = [(Array.toList q21, (11 : Int), (1 : Int), (1 : Int)), (Array.toList q21, (12 : Int), (1 : Int), (1 : Int)), (Array.toList q25, (50 : Int), (1 : Int), (1 : Int)), (Array.toList q25, (51 : Int), (1 : Int), (1 : Int)), (Array.toList q25, (52 : Int), (1 : Int), (1 : Int)), (Array.toList q21, (15 : Int), (1 : Int), (1 : Int))]); let q7 := (bif bif bif bif bif bif bif bif bif chgE aR q1 (0 : Int) (1 : Int) (0 : Int) trimL + chgE aR q1 (2 : Int) (-1 : Int) (1 : Int) rollL + partE aR q1 (5 : Int) + convE aR q1 [(1 : Int), (1 : Int)] + chkEds aR q1 + chkText q28 == (0 : Int) then chgE aR q1 (2 : Int) (1 : Int) (0 : Int) slipL == (14 : Int) else false then partE aR q1 (3 : Int) == (22 : Int) else false then q29 == (3 : Int) else false then q16.2.2.1 == (15 : Int) else false then decide q2 else false then q27 == (2 : Int) else false then decide q14 else false then decide q24 else false then q33 == (3 : Int) else false); let q8 := (List.getD (confN aR q1) (3 : Nat) [] = [(Array.toList q21, (14 : Int), (1 : Int), (2 : Int)), (Array.toList q25, (51 : Int), (1 : Int), (2 : Int))]); let q9 := (strNs (List.take (19 : Nat) aS)); let q19 := (1000000 : Nat); let q10 := ((bif bif bif bif bif bif chgE aR q1 (0 : Int) (1 : Int) (0 : Int) trimL + chgE aR q1 (2 : Int) (-1 : Int) (1 : Int) rollL + partE aR q1 (5 : Int) + convE aR q1 [(1 : Int), (1 : Int)] + chkEds aR q1 + chkText q28 == (0 : Int) then chgE aR q1 (2 : Int) (1 : Int) (0 : Int) slipL == (14 : Int) else false then partE aR q1 (3 : Int) == (22 : Int) else false then q29 == (3 : Int) else false then q16.2.2.1 == (15 : Int) else false then decide q2 else false then q27 == (2 : Int) else false) = true → List.length (partL aR q1 (5 : Int)).2 ≤ q19); let q13 := (bif bif bif chgE aR q1 (0 : Int) (1 : Int) (0 : Int) trimL + chgE aR q1 (2 : Int) (-1 : Int) (1 : Int) rollL + partE aR q1 (5 : Int) + convE aR q1 [(1 : Int), (1 : Int)] + chkEds aR q1 + chkText q28 == (0 : Int) then chgE aR q1 (2 : Int) (1 : Int) (0 : Int) slipL == (14 : Int) else false then partE aR q1 (3 : Int) == (22 : Int) else false then q29 == (3 : Int) else false); let q15 := (1000000000 : Nat); let q35 := (ByteArray.data { data := #[(99 : UInt8)] }); let q17 := (((rebuilt q9).1.1, (rebuilt q9).1.2.1, (rebuilt q9).1.2.2) = (Array.toList q35, (1 : Int), [(258 : Int)])); let q18 := (↑(List.length (confN aR q1)) : Int); let q20 := (stream (Array.toList q35) (1 : Int) [(258 : Int)]); let q26 := (List.getD q0 (2 : Nat) ((0 : Int), (0 : Int), (0 : Int), (0 : Int))); let q30 := ((bif bif q18 != (6 : Int) then true else !decide q8 then true else !decide q6) = false → List.length (needN aR q1) ≤ q19); let q31 := ((bif q18 != (6 : Int) then true else !decide q8) = false → List.length (soundsN aR q1) ≤ q19); let q32 := ((0 : Int) ≤ (0 : Int) ∧ (0 : Int) ≤ (19 : Int) ∧ (19 : Int) ≤ (↑(List.length aS) : Int)); let q34 := ((q18 != (6 : Int)) = false → List.length (List.getD (confN aR q1) (3 : Nat) []) ≤ q19); let q38 := (startsN aR q1 = [(0 : Int), (3 : Int), (5 : Int)]); let q39 := (↑(List.length q22) : Int); ReelOk (Array.toList q35) (1 : Int) [(258 : Int)] ∧ q32 ∧ (List.length q9 ≤ q19 ∧ Bytes q9) ∧ q32 ∧ (List.length q9 ≤ q19 ∧ Bytes q9) ∧ List.length aR ≤ q15 ∧ (∀ (r : Rl), r ∈ aR → List.length r.2.2 ≤ q19) ∧ List.length q28 ≤ q15 ∧ List.length aR ≤ q15 ∧ (∀ (r : Rl), r ∈ aR → List.length r.2.2 ≤ q19) ∧ List.length q1 ≤ q15 ∧ List.length aR ≤ q15 ∧ (∀ (r : Rl), r ∈ aR → List.length r.2.2 ≤ q19) ∧ List.length q1 ≤ q15 ∧ List.length aR ≤ q15 ∧ (∀ (r : Rl), r ∈ aR → List.length r.2.2 ≤ q19) ∧ List.length q1 ≤ q15 ∧ List.length aR ≤ q15 ∧ (∀ (r : Rl), r ∈ aR → List.length r.2.2 ≤ q19) ∧ List.length q1 ≤ q15 ∧ List.length aR ≤ q15 ∧ (∀ (r : Rl), r ∈ aR → List.length r.2.2 ≤ q19) ∧ List.length q1 ≤ q15 ∧ fits IntKind.i64 ((0 : Int) + (rebuilt q9).2.2) ∧ fits IntKind.i64 ((0 : Int) + (rebuilt q9).2.2 + chkEds aR q1) ∧ fits IntKind.i64 ((0 : Int) + (rebuilt q9).2.2 + chkEds aR q1 + chkEds aR q1) ∧ fits IntKind.i64 ((0 : Int) + (rebuilt q9).2.2 + chkEds aR q1 + chkEds aR q1 + chkEds aR q1) ∧ fits IntKind.i64 ((0 : Int) + (rebuilt q9).2.2 + chkEds aR q1 + chkEds aR q1 + chkEds aR q1 + chkEds aR q1) ∧ fits IntKind.i64 ((0 : Int) + (rebuilt q9).2.2 + chkEds aR q1 + chkEds aR q1 + chkEds aR q1 + chkEds aR q1 + chkEds aR q1) ∧ ((bif bif bif (0 : Int) + (rebuilt q9).2.2 + chkEds aR q1 + chkEds aR q1 + chkEds aR q1 + chkEds aR q1 + chkEds aR q1 != (0 : Int) then true else (readS q9).2 != (28 : Int) then true else chkEds aR q28 != (16 : Int) then true else bytesOf q20 != aS) = false → List.length (rebuilt q9).1.2.2 ≤ q19) ∧ ((bif bif bif bif bif (0 : Int) + (rebuilt q9).2.2 + chkEds aR q1 + chkEds aR q1 + chkEds aR q1 + chkEds aR q1 + chkEds aR q1 != (0 : Int) then true else (readS q9).2 != (28 : Int) then true else chkEds aR q28 != (16 : Int) then true else bytesOf q20 != aS then true else !decide q17 then true else (rebuilt q9).2.1) = false → List.length (startsN aR q1) ≤ q15) ∧ ((bif bif bif bif bif bif bif (0 : Int) + (rebuilt q9).2.2 + chkEds aR q1 + chkEds aR q1 + chkEds aR q1 + chkEds aR q1 + chkEds aR q1 != (0 : Int) then true else (readS q9).2 != (28 : Int) then true else chkEds aR q28 != (16 : Int) then true else bytesOf q20 != aS then true else !decide q17 then true else (rebuilt q9).2.1 then true else !decide q38 then true else lenN aR q1 != (6 : Int)) = false → List.length (playN aR q1) ≤ q15) ∧ splitB (bif bif bif bif bif bif bif bif (0 : Int) + (rebuilt q9).2.2 + chkEds aR q1 + chkEds aR q1 + chkEds aR q1 + chkEds aR q1 + chkEds aR q1 != (0 : Int) then true else (readS q9).2 != (28 : Int) then true else chkEds aR q28 != (16 : Int) then true else bytesOf q20 != aS then true else !decide q17 then true else (rebuilt q9).2.1 then true else !decide q38 then true else lenN aR q1 != (6 : Int) then true else !decide (playN aR q1 = [(100 : Int), (200 : Int), (300 : Int), (225 : Int), (60 : Int), (500 : Int)])) (false = true ∧ True) (((q18 != (6 : Int)) = false → (0 : Int) ≤ (3 : Int) ∧ (3 : Int) < q18) ∧ ((q18 != (6 : Int)) = false → (3 : Nat) < List.length (confN aR q1)) ∧ q34 ∧ q34 ∧ q31 ∧ q31 ∧ q30 ∧ q30 ∧ splitB (bif bif bif q18 != (6 : Int) then true else !decide q8 then true else !decide q6 then true else !decide (needN aR q1 = [(Array.toList q21, (11 : Int), (16 : Int)), (Array.toList q25, (50 : Int), (53 : Int))])) (false = true ∧ True) (List.length aR ≤ q15 ∧ (∀ (r : Rl), r ∈ aR → List.length r.2.2 ≤ q19) ∧ List.length q1 ≤ q15 ∧ List.length aR ≤ q15 ∧ (∀ (r : Rl), r ∈ aR → List.length r.2.2 ≤ q19) ∧ List.length q1 ≤ q15 ∧ List.length aR ≤ q15 ∧ (∀ (r : Rl), r ∈ aR → List.length r.2.2 ≤ q19) ∧ List.length q1 ≤ q15 ∧ List.length aR ≤ q15 ∧ (∀ (r : Rl), r ∈ aR → List.length r.2.2 ≤ q19) ∧ List.length q1 ≤ q15 ∧ List.length aR ≤ q15 ∧ (∀ (r : Rl), r ∈ aR → List.length r.2.2 ≤ q19) ∧ List.length q1 ≤ q15 ∧ List.length aR ≤ q15 ∧ (∀ (r : Rl), r ∈ aR → List.length r.2.2 ≤ q19) ∧ List.length q1 ≤ q15 ∧ List.length aR ≤ q15 ∧ (∀ (r : Rl), r ∈ aR → List.length r.2.2 ≤ q19) ∧ List.length q1 ≤ q15 ∧ StOk q36 ∧ List.length q28 ≤ q19 ∧ (∀ (x : Ed), x ∈ aL (50 : Int) → (∀ (n : Int), n ∈ numsE x → fits IntKind.i64 n) ∧ List.length x.1 ≤ (1000 : Nat)) ∧ fits IntKind.i64 (chgE aR q1 (0 : Int) (1 : Int) (0 : Int) trimL + chgE aR q1 (2 : Int) (-1 : Int) (1 : Int) rollL) ∧ fits IntKind.i64 (chgE aR q1 (0 : Int) (1 : Int) (0 : Int) trimL + chgE aR q1 (2 : Int) (-1 : Int) (1 : Int) rollL + partE aR q1 (5 : Int)) ∧ fits IntKind.i64 (chgE aR q1 (0 : Int) (1 : Int) (0 : Int) trimL + chgE aR q1 (2 : Int) (-1 : Int) (1 : Int) rollL + partE aR q1 (5 : Int) + convE aR q1 [(1 : Int), (1 : Int)]) ∧ fits IntKind.i64 (chgE aR q1 (0 : Int) (1 : Int) (0 : Int) trimL + chgE aR q1 (2 : Int) (-1 : Int) (1 : Int) rollL + partE aR q1 (5 : Int) + convE aR q1 [(1 : Int), (1 : Int)] + chkEds aR q1) ∧ fits IntKind.i64 (chgE aR q1 (0 : Int) (1 : Int) (0 : Int) trimL + chgE aR q1 (2 : Int) (-1 : Int) (1 : Int) rollL + partE aR q1 (5 : Int) + convE aR q1 [(1 : Int), (1 : Int)] + chkEds aR q1 + chkText q28) ∧ (q13 = true → (0 : Int) ≤ (0 : Int) ∧ (0 : Int) < q29) ∧ (q13 = true → (0 : Nat) < List.length q11) ∧ (q5 = true → List.length q22 ≤ q19) ∧ (q5 = true → (0 : Int) ≤ (1 : Int) ∧ (1 : Int) ≤ q39 ∧ q39 ≤ q39) ∧ (q5 = true → List.length (List.drop (1 : Nat) q22) ≤ q19) ∧ q10 ∧ q10 ∧ (q3 = true → List.length (convL aR q1 [(1 : Int), (1 : Int)]) ≤ q19) ∧ (q3 = true → ∀ (x : List Int), x ∈ convL aR q1 [(1 : Int), (1 : Int)] → List.length x = (2 : Nat)) ∧ (q3 = true → ∀ (x : List Int), x ∈ [[(0 : Int), (1 : Int)], [(2 : Int), (3 : Int)], [(4 : Int), (5 : Int)]] → List.length x = (2 : Nat)) ∧ (q7 = true → (0 : Int) ≤ (1 : Int) ∧ (1 : Int) < q33) ∧ (q7 = true → (1 : Nat) < List.length q0) ∧ (q4 = true → (0 : Int) ≤ (2 : Int) ∧ (2 : Int) < q33) ∧ (q4 = true → (2 : Nat) < List.length q0) ∧ (bif bif bif bif bif bif bif bif bif bif bif bif chgE aR q1 (0 : Int) (1 : Int) (0 : Int) trimL + chgE aR q1 (2 : Int) (-1 : Int) (1 : Int) rollL + partE aR q1 (5 : Int) + convE aR q1 [(1 : Int), (1 : Int)] + chkEds aR q1 + chkText q28 == (0 : Int) then chgE aR q1 (2 : Int) (1 : Int) (0 : Int) slipL == (14 : Int) else false then partE aR q1 (3 : Int) == (22 : Int) else false then q29 == (3 : Int) else false then q16.2.2.1 == (15 : Int) else false then decide q2 else false then q27 == (2 : Int) else false then decide q14 else false then decide q24 else false then q33 == (3 : Int) else false then eqT q23 (q12.1, q12.2.1, q12.2.2.1, q12.2.2.2) ((0 : Int), (0 : Int), (1 : Int), (1 : Int)) else false then eqT q23 (q26.1, q26.2.1, q26.2.2.1, q26.2.2.2) ((0 : Int), (0 : Int), (1 : Int), (3 : Int)) else false then printN q28 == Array.toList (ByteArray.data { data := #[(101 : UInt8), (100 : UInt8), (105 : UInt8), (116 : UInt8), (32 : UInt8), (97 : UInt8), (32 : UInt8), (49 : UInt8), (49 : UInt8), (32 : UInt8), (49 : UInt8), (52 : UInt8), (32 : UInt8), (48 : UInt8), (32 : UInt8), (48 : UInt8), (10 : UInt8), (101 : UInt8), (100 : UInt8), (105 : UInt8), (116 : UInt8), (32 : UInt8), (98 : UInt8), (32 : UInt8), (53 : UInt8), (48 : UInt8), (32 : UInt8), (53 : UInt8), (51 : UInt8), (32 : UInt8), (49 : UInt8), (32 : UInt8), (45 : UInt8), (49 : UInt8), (10 : UInt8), (101 : UInt8), (100 : UInt8), (105 : UInt8), (116 : UInt8), (32 : UInt8), (97 : UInt8), (32 : UInt8), (49 : UInt8), (53 : UInt8), (32 : UInt8), (49 : UInt8), (54 : UInt8), (32 : UInt8), (48 : UInt8), (32 : UInt8), (48 : UInt8), (10 : UInt8)] }) else false) = true ∧ True))) := by
  kernel_rfl
end Go.Sx

/- Contracts. -/
namespace Go.Sx
open U
theorem fn97   : Fn P1 gl1 97 [] (.val (.one (.sl rlT aR))) false := by
  refine fn_of false [] [] h0 0 Proofs.Tryz.f97 trivial trivial (by kernel_rfl) rfl (by kernel_rfl) rfl rfl rfl ?_
  rw [vc97 ()]
  try simp only [-eq_self]
  exact ⟨(hide_eq bothL).symm, trivial⟩
theorem so97_ : SpecOk P1 gl1 97 sp97 := by
  intro vs ps r h _
  simp only [sp97] at h
  split at h
  · cases h; exact fn97  
  · cases h
theorem so97 : Sp1 97 sp97 := ⟨so97_, Proofs.Tryz.f97, _, by kernel_rfl, rfl, by kernel_rfl⟩
theorem fn98 (n : Int)  : Fn P1 gl1 98 [iV n] (.val (.one (.sl edT (aL n)))) false := by
  refine fn_of false [] [] h0 0 Proofs.Tryz.f98 trivial trivial (by kernel_rfl) rfl (by kernel_rfl) rfl rfl rfl ?_
  rw [vc98]
  try simp only [-eq_self]
  exact ⟨(hide_eq (editsL n)).symm, trivial⟩
theorem so98_ : SpecOk P1 gl1 98 sp98 := by
  intro vs ps r h _
  simp only [sp98] at h
  split at h
  · cases h; exact fn98 _ 
  · cases h
theorem so98 : Sp1 98 sp98 := ⟨so98_, Proofs.Tryz.f98, _, by kernel_rfl, rfl, by kernel_rfl⟩
theorem fn96   : Fn P1 gl1 96 [] (.val (sV aS)) true := by
  refine Fn.flat ?_ rfl
  refine fn_of false [] [] h0 0 Proofs.Tryz.f96 trivial trivial (by kernel_rfl) rfl (by kernel_rfl) rfl rfl rfl ?_
  rw [vc96 ()]
  try simp only [-eq_self]
  exact ⟨by decide, (hide_eq strmL).symm, trivial⟩
theorem so96_ : SpecOk P1 gl1 96 sp96 := by
  intro vs ps r h _
  simp only [sp96] at h
  split at h
  · cases h; exact fn96  
  · cases h
theorem so96 : Sp1 96 sp96 := ⟨so96_, Proofs.Tryz.f96, _, by kernel_rfl, rfl, by kernel_rfl⟩
theorem fn18   : Fn P1 gl1 18 [] (.val (bV true)) true := by
  refine Fn.flat ?_ rfl
  refine fn_of false [(19, sp19), (29, sp29), (27, sp27), (43, sp43), (33, sp33), (37, sp37), (35, sp35), (36, sp36), (69, sp69), (49, sp49), (50, sp50), (51, sp51), (84, sp84), (58, sp58), (60, sp60), (90, sp90), (97, sp97), (98, sp98), (96, sp96), (48, sp48), (74, sp74), (57, sp57), (32, sp32), (47, sp47), (73, sp73), (56, sp56), (44, sp44), (66, sp66)] [] h0 0 Proofs.Tryz.f18 ⟨so19, so29, so27, so43, so33, so37, so35, so36, so69, so49, so50, so51, so84, so58, so60, so90, so97, so98, so96, so48, so74, so57, so32, so47, so73, so56, so44, so66, trivial⟩ trivial (by kernel_rfl) rfl (by kernel_rfl) rfl rfl rfl ?_
  rw [vc18 ()]
  try simp only [splitB_iff, -eq_self]
  have hR : aR = bothL := hide_eq bothL
  have hL : aL 51 = editsL 51 := hide_eq (editsL 51)
  have hM : aL 50 = editsL 50 := hide_eq (editsL 50)
  have hS : aS = strmL := hide_eq strmL
  have s1 : strNs (List.take 19 aS) = [82, 69, 69, 76, 1, 99, 0, 0, 0, 1, 70, 1, 2, 9, 126, 69, 0, 1, 1] := by rw [hS]; decide +kernel
  have s2 : rebuilt [82, 69, 69, 76, 1, 99, 0, 0, 0, 1, 70, 1, 2, 9, 126, 69, 0, 1, 1] = (([99], 1, [258]), false, 0) := by decide +kernel
  have s3 : (readS [82, 69, 69, 76, 1, 99, 0, 0, 0, 1, 70, 1, 2, 9, 126, 69, 0, 1, 1]).2 = 28 := by decide +kernel
  have s4 : bytesOf (stream [99] 1 [258]) = aS := by rw [hS]; decide +kernel
  have s5 : Bytes [82, 69, 69, 76, 1, 99, 0, 0, 0, 1, 70, 1, 2, 9, 126, 69, 0, 1, 1] := by unfold Bytes; decide
  have s6 : List.length aS = 20 := by rw [hS]; rfl
  have s7 : ReelOk [99] 1 [258] := checkReel_zero.1 (by decide +kernel)
  have s8 : StOk ((25, false), (0, 0, 0, 23), 0) := chkStZ.1 (by decide +kernel)
  have c1 : chkEds aR (aL 50) = 16 := by rw [hR, hM]; decide +kernel
  have c2 : chkEds aR (aL 51) = 0 := by rw [hR, hL]; decide +kernel
  have c3 : startsN aR (aL 51) = [0, 3, 5] := by rw [hR, hL]; decide +kernel
  have c4 : lenN aR (aL 51) = 6 := by rw [hR, hL]; decide +kernel
  have c5 : playN aR (aL 51) = [100, 200, 300, 225, 60, 500] := by rw [hR, hL]; decide +kernel
  have c6 : confN aR (aL 51) = [[([97], 11, 1, 1)], [([97], 12, 1, 1)], [([97], 13, 1, 1)], [([97], 14, 1, 2), ([98], 51, 1, 2)], [([98], 52, 1, 1)], [([97], 15, 1, 1)]] := by rw [hR, hL]; decide +kernel
  have c7 : soundsN aR (aL 51) = [([97], 11, 1, 1), ([97], 12, 1, 1), ([98], 50, 1, 1), ([98], 51, 1, 1), ([98], 52, 1, 1), ([97], 15, 1, 1)] := by rw [hR, hL]; decide +kernel
  have c8 : needN aR (aL 51) = [([97], 11, 16), ([98], 50, 53)] := by rw [hR, hL]; decide +kernel
  have d1 : chgL aR (aL 51) 0 1 0 trimL = [([97], 11, 15, 0, 0), ([98], 51, 53, 1, -1), ([97], 15, 16, 0, 0)] := by rw [hR, hL]; decide +kernel
  have d2 : chgE aR (aL 51) 0 1 0 trimL = 0 := by rw [hR, hL]; decide +kernel
  have d3 : chgL aR (aL 51) 2 (-1) 1 rollL = [([97], 11, 14, 0, 0), ([98], 51, 52, 1, -1), ([97], 14, 16, 0, 0)] := by rw [hR, hL]; decide +kernel
  have d4 : chgE aR (aL 51) 2 (-1) 1 rollL = 0 := by rw [hR, hL]; decide +kernel
  have d5 : chgE aR (aL 51) 2 1 0 slipL = 14 := by rw [hR, hL]; decide +kernel
  have d6 : partL aR (aL 51) 5 = ([([97], 11, 14, 0, 0), ([98], 51, 53, 1, -1)], [([97], 15, 16, 0, 0)]) := by rw [hR, hL]; exact Prod.ext (by decide +kernel) (by decide +kernel)
  have d7 : partE aR (aL 51) 5 = 0 := by rw [hR, hL]; decide +kernel
  have d8 : partE aR (aL 51) 3 = 22 := by rw [hR, hL]; decide +kernel
  have d9 : convL aR (aL 51) [1, 1] = [[0, 1], [2, 3], [4, 5]] := by rw [hR, hL]; decide +kernel
  have f1 : convE aR (aL 51) [1, 1] = 0 := by rw [hR, hL]; decide +kernel
  have f2 : labsN ((25, false), (0, 0, 0, 23), 0) (ls (aL 51)) = [(0, 0, 0, 23), (0, 0, 1, 1), (0, 0, 1, 3)] := by rw [hL]; decide +kernel
  have f3 : printN (aL 50) = [101, 100, 105, 116, 32, 97, 32, 49, 49, 32, 49, 52, 32, 48, 32, 48, 10, 101, 100, 105, 116, 32, 98, 32, 53, 48, 32, 53, 51, 32, 49, 32, 45, 49, 10, 101, 100, 105, 116, 32, 97, 32, 49, 53, 32, 49, 54, 32, 48, 32, 48, 10] := by rw [hM]; decide +kernel
  have f4 : chkText (aL 50) = 0 := by rw [hM]; decide +kernel
  have g1 : List.length aR = 2 := by rw [hR]; rfl
  have g2 : ∀ r : Rl, r ∈ aR → List.length r.2.2 ≤ 1000000 := by rw [hR]; decide
  have g3 : List.length (aL 51) = 3 := by rw [hL]; rfl
  have g4 : List.length (aL 50) = 3 := by rw [hM]; rfl
  have g5 : ∀ x : Ed, x ∈ aL 50 → (∀ n : Int, n ∈ numsE x → fits .i64 n) ∧ List.length x.1 ≤ 1000 := by rw [hM]; simp only [fits]; decide
  have g6 : ∀ x : List Int, x ∈ [[0, 1], [2, 3], [4, 5]] → List.length x = 2 := by decide
  have k9 : Array.toList (ByteArray.data { data := #[(99 : UInt8)] }) = [99] := rfl
  simp only [s1, s2, s3, s4, s6, c1, c2, c3, c4, c5, c6, c7, c8, d1, d2, d3, d4, d5, d6, d7, d8, d9, f1, f2, f3, f4, g1, g3, g4, if_true]
  simp only [hS, eq_true s5, eq_true s7, eq_true s8, eq_true g2, eq_true g5, eq_true g6]
  simp only [fits]
  repeat' (first | exact trivial | refine And.intro ?_ ?_ | intro _)
  all_goals first | decide +kernel | (rename_i h; exact absurd h (by decide +kernel))
theorem so18_ : SpecOk P1 gl1 18 sp18 := by
  intro vs ps r h _
  simp only [sp18] at h
  split at h
  · cases h; exact fn18  
  · cases h
theorem so18 : Sp1 18 sp18 := ⟨so18_, Proofs.Tryz.f18, _, by kernel_rfl, rfl, by kernel_rfl⟩

end Go.Sx

/- From readings of arguments to pure data. -/
namespace Go.Sx
open Go.RowKit

/-- What a reading gives beside the cells: numbers fit their kinds, lengths are those of machines. -/
def WF : (t : Ty) → t.T → Prop
  | .int k, n => (Lit.int k n).wf = true
  | .bool, _ => True
  | .str, l => List.length l ≤ maxLen
  | .flt k, n => (Lit.float k n).wf = true
  | .cpx _, _ => True
  | .sl t, xs => List.length xs ≤ maxLen ∧ ∀ i (h : i < List.length xs), WF t (xs[i]'h)
  | .arr n t, xs => List.length xs = n ∧ ∀ i (h : i < List.length xs), WF t (xs[i]'h)
  | .pair a b, x => WF a x.1 ∧ WF b x.2

mutual
def rdChk (P : Program) : Nat → TypeId → Ty → Bool
  | 0, _, _ => false
  | n + 1, t, u => match P.underlying t with
      | some (.int k) => decide (u = .int k)
      | some .bool => decide (u = .bool)
      | some .string => decide (u = .str)
      | some (.float k) => decide (u = .flt k)
      | some (.slice e) => match u with
        | .sl v => decide (P.cellsOf e = v.sz) && decide (v.sz ≠ 0) && rdChk P n e v
        | _ => false
      | some (.array m e) => match u with
        | .arr m' v => decide (m = m') && decide (P.cellsOf e = v.sz) && decide (P.cellsOf t = m * v.sz) && rdChk P n e v
        | _ => false
      | some (.struct fs) => decide (P.cellsOf t = u.sz) && rdFs P n 0 fs.toList u
      | _ => false
def rdFs (P : Program) : Nat → Nat → List Field → Ty → Bool
  | 0, _, _, _ => false
  | n + 1, off, [f], u => decide (f.offset = off) && decide (P.cellsOf f.type = u.sz) && rdChk P n f.type u
  | n + 1, off, f :: r, .pair a b => decide (f.offset = off) && decide (P.cellsOf f.type = a.sz) && rdChk P n f.type a && rdFs P n (off + a.sz) r b
  | _, _, _, _ => false
end

def HW (w : World) : IH := fun b => w.heap[b]?

theorem addp (b off i : Nat) : (Addr.mk b off none).add i = ⟨b, off + i, none⟩ := by
  unfold Addr.add; split <;> simp_all
theorem cells_seg {w : World} {base : Nat} {a : Addr} {n : Nat} {cs : List Value} (h : w.cells? base a n = some cs) (hn : 0 < n) :
    ∃ b off c e fr, a = ⟨b, off, none⟩ ∧ w.heap[b]? = some (.cells c e fr) ∧ seg c off n = cs := by
  obtain ⟨_, hl, hc⟩ := World.cells?_some h
  obtain ⟨b, off, sp⟩ := a
  have h0 := hc 0 hn
  rw [List.getElem?_eq_getElem (by omega)] at h0
  have hs : sp = none := by
    have := World.cell?_spot h0
    simp only [Addr.add] at this
    cases sp with
    | none => rfl
    | some x => simp at this
  subst hs
  have hb : ∃ c e fr, w.heap[b]? = some (.cells c e fr) := by
    simp only [World.cell?, Addr.add] at h0
    split at h0
    · exact ⟨_, _, _, ‹_›⟩
    · cases h0
  obtain ⟨c, e, fr, hb⟩ := hb
  refine ⟨b, off, c, e, fr, rfl, hb, ?_⟩
  have hi : ∀ i, i < n → c[off + i]? = cs[i]? := by
    intro i hi
    have := hc i hi
    rw [addp] at this
    simpa [World.cell?, hb] using this
  apply List.ext_getElem?
  intro i
  simp only [seg, List.getElem?_take, List.getElem?_drop]
  split
  · rename_i h1
    rw [← hi i h1]; simp
  · rename_i h1
    rw [List.getElem?_eq_none (by omega)]

theorem choose_list {α : Type} (n : Nat) (p : Nat → α → Prop) (h : ∀ i, i < n → ∃ y, p i y) : ∃ ys : List α, ys.length = n ∧ ∀ i (hi : i < ys.length), p i (ys[i]'hi) := by
  induction n with
  | zero => exact ⟨[], rfl, fun i hi => by simp at hi⟩
  | succ n ih =>
    obtain ⟨ys, h1, h2⟩ := ih fun i hi => h i (by omega)
    obtain ⟨y, hy⟩ := h n (by omega)
    refine ⟨ys ++ [y], by simp [h1], fun i hi => ?_⟩
    by_cases hlt : i < ys.length
    · rw [List.getElem_append_left hlt]; exact h2 i hlt
    · simp at hi
      have : i = ys.length := by omega
      subst this
      simp
      rw [h1]; exact hy

theorem trod_rd_all {X : Type} {enc : TypeId × Value → X} {P : Program} {w : World} {base : Nat} {spare : Nat → Bool} {held : Bool} : ∀ (n : Nat),
    (∀ (t : TypeId) (u : Ty) (fuel : Nat) (cs : List Value) (x : DataW X × List MemPlace), rdChk P n t u = true → DataW.trod enc P w base spare held fuel t cs = some x → ∃ y : u.T, Rd (HW w) u y cs ∧ WF u y) ∧
    (∀ (off : Nat) (fs : List Field) (u : Ty) (fuel : Nat) (cs : List Value), rdFs P n off fs u = true → cs.length = off + u.sz →
      (∀ f ∈ fs, ∃ x, DataW.trod enc P w base spare held fuel f.type ((cs.drop f.offset).take (P.cellsOf f.type)) = some x) → ∃ y : u.T, Rd (HW w) u y (cs.drop off) ∧ WF u y) := by
  intro n
  induction n with
  | zero => exact ⟨fun _ _ _ _ _ h => by simp [rdChk] at h, fun _ _ _ _ _ h => by simp [rdFs] at h⟩
  | succ n ih =>
    refine ⟨?_, ?_⟩
    · intro t u fuel cs x h hx
      unfold rdChk at h
      split at h
      · rename_i k hu
        simp at h; subst h
        obtain ⟨m, rfl, _, hw⟩ := DataW.trod_int hu hx
        exact ⟨m, rfl, hw⟩
      · rename_i hu
        simp at h; subst h
        obtain ⟨m, rfl, _⟩ := DataW.trod_bool hu hx
        exact ⟨m, rfl, trivial⟩
      · rename_i hu
        simp at h; subst h
        obtain ⟨s, rfl, _, hw⟩ := DataW.trod_string hu hx
        refine ⟨s.data.toList, rfl, ?_⟩
        show s.data.toList.length ≤ maxLen
        rw [Array.length_toList]; exact hw
      · rename_i k hu
        simp at h; subst h
        cases fuel with
        | zero => simp [DataW.trod] at hx
        | succ m =>
          unfold DataW.trod at hx
          rw [hu] at hx
          have : ∃ b, cs = [.float k b] ∧ (Lit.float k b).wf = true := by split at hx <;> simp_all
          obtain ⟨b, rfl, hw⟩ := this
          exact ⟨b, rfl, hw⟩
      · rename_i e hu
        split at h
        · rename_i v
          simp only [Bool.and_eq_true, decide_eq_true_eq] at h
          obtain ⟨⟨h1, h2⟩, h3⟩ := h
          rcases DataW.trod_slice hu hx with ⟨rfl, _⟩ | ⟨a, len, cap, elems, rest, m, _, rfl, _, _, hlc, hm, hel, hei, _, _⟩
          · exact ⟨[], ⟨none, 0, rfl, Nat.le_refl _, .inl rfl⟩, by simp [WF]⟩
          · have hone : ∀ i, i < len → ∃ cs', w.cells? base (a.add (i * P.cellsOf e)) (P.cellsOf e) = some cs' ∧ ∃ y : v.T, Rd (HW w) v y cs' ∧ WF v y := by
              intro i hi
              have := hei i hi
              rw [List.getElem?_eq_getElem (by omega)] at this
              obtain ⟨cs', hc1, hc2⟩ := Option.bind_eq_some_iff.1 this
              exact ⟨cs', hc1, ih.1 _ _ _ _ _ h3 hc2⟩
            obtain ⟨ys, hy1, hy2⟩ := choose_list len (fun i (y : v.T) => ∃ cs', w.cells? base (a.add (i * P.cellsOf e)) (P.cellsOf e) = some cs' ∧ Rd (HW w) v y cs' ∧ WF v y)
              (fun i hi => by obtain ⟨cs', h1, y, h2⟩ := hone i hi; exact ⟨y, cs', h1, h2⟩)
            refine ⟨ys, ⟨some a, cap, by rw [hy1], by rw [hy1]; exact hlc, ?_⟩, by rw [hy1]; omega, fun i hi => ?_⟩
            · rcases Nat.eq_zero_or_pos ys.length with h0 | h0
              · exact .inl h0
              · right
                obtain ⟨cs0, hc0, _⟩ := hy2 0 h0
                obtain ⟨b, off, c, e', fr, ha, hb, _⟩ := cells_seg hc0 (by omega)
                have ha' : a = ⟨b, off, none⟩ := by rw [← ha]; simp [Addr.add]
                refine ⟨b, off, c, e', fr, by rw [ha'], hb, fun i hi => ?_⟩
                obtain ⟨cs', hc', hr, _⟩ := hy2 i hi
                obtain ⟨b', off', c', e'', fr', hab, hb', hsg⟩ := cells_seg hc' (by omega)
                rw [ha', addp] at hab
                simp only [Addr.mk.injEq] at hab
                obtain ⟨rfl, rfl, _⟩ := hab
                rw [hb] at hb'
                cases hb'
                rw [h1] at hsg
                rw [hsg]; exact hr
            · obtain ⟨_, _, _, hwf⟩ := hy2 i hi
              exact hwf
        · cases h
      · rename_i m e hu
        split at h
        · rename_i m' v
          simp only [Bool.and_eq_true, decide_eq_true_eq] at h
          obtain ⟨⟨⟨rfl, h1⟩, h2⟩, h3⟩ := h
          obtain ⟨xs, k, _, _, hl, hxl, hxi⟩ := DataW.trod_array hu hx
          obtain ⟨ys, hy1, hy2⟩ := choose_list m (fun i (y : v.T) => Rd (HW w) v y ((cs.drop (i * P.cellsOf e)).take (P.cellsOf e)) ∧ WF v y)
            (fun i hi => by
              have := hxi i hi
              rw [List.getElem?_eq_getElem (by omega)] at this
              exact ih.1 _ _ _ _ _ h3 this)
          refine ⟨ys, ⟨hy1, by rw [hl, h2], fun i hi => ?_⟩, hy1, fun i hi => (hy2 i hi).2⟩
          have := (hy2 i hi).1
          rw [h1] at this
          exact this
        · cases h
      · rename_i fs hu
        simp only [Bool.and_eq_true, decide_eq_true_eq] at h
        obtain ⟨xs, k, _, _, hl, hxl, hxi⟩ := DataW.trod_struct hu hx
        have := ih.2 0 fs.toList u k cs h.2 (by rw [hl, h.1]; omega) (fun f hf => by
          obtain ⟨i, hi, rfl⟩ := List.mem_iff_getElem.1 hf
          simp at hi
          have := hxi i fs[i] (by simp [hi])
          rw [List.getElem?_eq_getElem (by omega)] at this
          exact ⟨_, by simpa using this⟩)
        simpa using this
      · cases h
    · intro off fs u fuel cs h hl hf
      match fs, u, h, hl, hf with
      | [], u, h, _, _ => simp [rdFs] at h
      | [f], u, h, hl, hf =>
        simp only [rdFs, Bool.and_eq_true, decide_eq_true_eq] at h
        obtain ⟨⟨rfl, h1⟩, h2⟩ := h
        obtain ⟨x, hx⟩ := hf f (by simp)
        rw [h1, List.take_of_length_le (by simp; omega)] at hx
        exact ih.1 _ _ _ _ _ h2 hx
      | f :: g :: r, .pair a b, h, hl, hf =>
        simp only [rdFs, Bool.and_eq_true, decide_eq_true_eq] at h
        obtain ⟨⟨⟨rfl, h1⟩, h2⟩, h3⟩ := h
        simp only [Ty.sz] at hl
        obtain ⟨x, hx⟩ := hf f (by simp)
        rw [h1] at hx
        obtain ⟨y1, hy1, hw1⟩ := ih.1 _ _ _ _ _ h2 hx
        obtain ⟨y2, hy2, hw2⟩ := ih.2 _ _ _ fuel cs h3 (by omega) (fun g' hg => hf g' (List.mem_cons_of_mem _ hg))
        refine ⟨(y1, y2), ⟨hy1, ?_⟩, hw1, hw2⟩
        rw [List.drop_drop]; exact hy2
      | _ :: _ :: _, .int _, h, _, _ => simp [rdFs] at h
      | _ :: _ :: _, .bool, h, _, _ => simp [rdFs] at h
      | _ :: _ :: _, .str, h, _, _ => simp [rdFs] at h
      | _ :: _ :: _, .flt _, h, _, _ => simp [rdFs] at h
      | _ :: _ :: _, .cpx _, h, _, _ => simp [rdFs] at h
      | _ :: _ :: _, .sl _, h, _, _ => simp [rdFs] at h
      | _ :: _ :: _, .arr _ _, h, _, _ => simp [rdFs] at h

theorem trod_rd {X : Type} {enc : TypeId × Value → X} {P : Program} {w : World} {base : Nat} {spare : Nat → Bool} {held : Bool} (n : Nat)
    {t : TypeId} {u : Ty} (h : rdChk P n t u = true) {fuel : Nat} {cs : List Value} {x : DataW X × List MemPlace} (hx : DataW.trod enc P w base spare held fuel t cs = some x) : ∃ y : u.T, Rd (HW w) u y cs ∧ WF u y :=
  (trod_rd_all n).1 t u fuel cs x h hx
end Go.Sx

/- From readings of arguments to pure data: arguments, variables, what is left behind. -/
namespace Go.Sx
open Go.RowKit Go.ChangeShapes Go.WideShapes Go.ChangeAt

section
variable {X : Type} {enc : TypeId × Value → X} {P : Program} {w : World} {base base' : Nat} {spare : Nat → Bool} {held : Bool} {n : Nat} {t : TypeId} {u : Ty} {v : Value} {d : DataW X} {ps : List MemPlace}

theorem cells_one (hv : ∀ cs, v ≠ .agg cs) : v.cells.toList = [v] := by
  cases v <;> simp_all [Value.cells]

theorem okWide_one (ha : aggOf P t = false) (hok : Value.okWide P w .any base' t v) : ∀ cs, v ≠ .agg cs := by
  intro cs hv
  subst hv
  unfold aggOf at ha
  unfold Value.okWide at hok
  split at hok
  · rename_i h; rw [h] at ha; cases ha
  · rename_i h; rw [h] at ha; cases ha
  · unfold Cell.okWide at hok
    split at hok <;> try (rename_i h; cases h; done)
    all_goals first | (rename_i h _; cases h; done) | skip
    all_goals first | (unfold Cell.ok at hok; split at hok <;> first | (exact hok) | (rename_i h; cases h; done) | (rename_i h _; cases h; done) | simp_all; done) | simp_all

theorem arg_one (h : rdChk P n t u = true) (ha : aggOf P t = false) (hok : Value.okWide P w .any base' t v) (hT : DataW.Trod enc P w base spare held t v d ps) : ∃ y : u.T, Rd (HW w) u y [v] ∧ WF u y := by
  obtain ⟨fuel, hT⟩ := hT
  rw [cells_one (okWide_one ha hok)] at hT
  exact trod_rd n h hT

theorem arg_agg (h : rdChk P n t u = true) (ha : aggOf P t = true) (hok : Value.okWide P w .any base' t v) (hT : DataW.Trod enc P w base spare held t v d ps) : ∃ (vs : List Value) (y : u.T), v = .agg ⟨vs⟩ ∧ Rd (HW w) u y vs ∧ WF u y := by
  obtain ⟨fuel, hT⟩ := hT
  have hv : ∃ cs, v = .agg cs := by
    unfold aggOf at ha
    unfold Value.okWide at hok
    split at hok
    · exact ⟨_, hok.choose_spec.1⟩
    · exact ⟨_, hok.choose_spec.1⟩
    · rename_i h1 h2
      split at ha
      · exact absurd ‹_› (h1 _)
      · exact absurd ‹_› (h2 _ _)
      · cases ha
  obtain ⟨cs, rfl⟩ := hv
  obtain ⟨y, h1, h2⟩ := trod_rd n h hT
  exact ⟨cs.toList, y, rfl, h1, h2⟩
end

theorem trodAll_below {X : Type} {enc : TypeId × Value → X} {P : Program} (hl : laidOutB P = true) {W W' : World} (hb : Below W.heap.size W W') : ∀ {ts : List TypeId} {vs : List Value} {ds : List (DataW X)} {ps : List MemPlace},
    (ts.all fun t => P.readableRec t && decide (t < P.types.size)) = true → DataW.TrodAll enc P W 0 (fun _ => true) true ts vs ds ps → (∀ x ∈ ps, x.block < W.heap.size) → DataW.TrodAll enc P W' 0 (fun b => decide (b < W.heap.size)) true ts vs ds ps
  | [], vs, ds, ps, _, h, _ => by
    cases vs <;> cases ds <;> simp_all [DataW.TrodAll]
  | t :: ts, vs, ds, ps, ht, h, hlt => by
    obtain ⟨v, vs', d, ds', p, q, rfl, rfl, rfl, h1, h2⟩ := trodAll_cons h
    simp only [List.all_cons, Bool.and_eq_true, decide_eq_true_eq] at ht
    refine trodAll_cons_mk (Below.trod hl ht.1.1 ht.1.2 h1 hb fun x hx => hlt x (by simp [hx])) (trodAll_below hl hb ht.2 h2 fun x hx => hlt x (by simp [hx]))

/-- What a law leaves behind: true, and the arguments as they were. -/
theorem law_post {X : Type} {enc : TypeId × Value → X} {P : Program} (hl : laidOutB P = true) {s : ChangeSpec} {f : Func} {tb : TypeId} {W W' : World} {args : Array Value} {ds gs : List (DataW X)} {before : List MemPlace} {r : Value}
    (hvars : s.vars = []) (hts : (f.params.toList.all fun t => P.readableRec t && decide (t < P.types.size)) = true) (hres : f.resultTypes = #[tb]) (htb : P.underlying tb = some .bool)
    (hfn : s.fn X ds = { results := [.lit (.bool true)], args := ds })
    (hW : DataW.Whole enc P f.params.toList s.vars false W args.toList ds gs before) (hb : Below W.heap.size W W') (hr : r = .bool true) :
    s.post enc P f false true false false W args r W' := by
  subst hr
  have hW' := hW
  obtain ⟨p, q, hA, hV, rfl, hfz, hnd⟩ := hW
  rw [hvars] at hV
  obtain ⟨rfl, rfl⟩ := trodVars_none hV
  have hlt : ∀ x ∈ p, x.block < W.heap.size := fun x hx => hW'.lt x (by simp [hx])
  refine ⟨ds, [], p ++ [], [], p, [], hW', ?_, ?_, ?_, hb.frame _, fun h => by cases h⟩
  · rw [List.append_nil, hfn, hres]
    exact trodAll_cons_mk (shut_bool htb _) trodAll_mk0
  · rw [List.append_nil, hfn]
    exact trodAll_below hl hb hts hA hlt
  · rw [List.append_nil, hfn, hvars]
    rfl

theorem law_calls {X : Type} {enc : TypeId × Value → X} {P : Program} (hl : laidOutB P = true) {s : ChangeSpec} {f : Func} {tb : TypeId} {fid : FuncId} {W : World} {args : Array Value} {ds gs : List (DataW X)} {before : List MemPlace}
    (hvars : s.vars = []) (hts : (f.params.toList.all fun t => P.readableRec t && decide (t < P.types.size)) = true) (hres : f.resultTypes = #[tb]) (htb : P.underlying tb = some .bool)
    (hfn : s.fn X ds = { results := [.lit (.bool true)], args := ds })
    (hW : DataW.Whole enc P f.params.toList s.vars false W args.toList ds gs before)
    {gl : Nat → Option ((t : Ty) × t.T)} {avs : List V} (hF : Fn P gl fid avs (.val (.one (.bool true))) true) (hg : GlobOk gl (HW W)) (ha : DenVs ρ0 (HW W) avs args.toList) :
    Calls P fid args W fun e W' => ∃ v, e = .returned v ∧ s.post enc P f false true false false W args v W' := by
  refine (hF W (HW W) args.toList (fun b o h => h) hg ha).mono fun e W' h => ?_
  obtain ⟨v, H', rfl, hb, _, _, hd⟩ := h
  exact ⟨v, rfl, law_post hl hvars hts hres htb hfn hW hb hd.2⟩

theorem glob_tab {P : Program} {W : World} {name : String} {k : IntKind} {zs : List Int} {g : Nat} (h : Lib.TabIs P W name k zs) (hg : P.globalNamed name = some g) :
    ∃ c e fr, HW W g = some (.cells c e fr) ∧ Rd (HW W) (.arr zs.length (.int k)) zs (seg c 0 (zs.length * 1)) ∧ c.size = zs.length * 1 := by
  unfold Lib.TabIs at h
  simp only [World.var?, hg, Option.bind_some] at h
  split at h
  · rename_i cs e fr hh
    cases h
    refine ⟨_, _, _, hh, ?_, by simp⟩
    have e1 : seg (zs.map fun z => Value.int k z).toArray 0 (zs.length * 1) = zs.map fun z => Value.int k z := by
      simp [seg, List.take_of_length_le]
    rw [e1]
    refine ⟨rfl, by simp [Ty.sz], fun i hi => ?_⟩
    show List.take 1 (List.drop (i * 1) (List.map (fun z => Value.int k z) zs)) = [Value.int k zs[i]]
    simp only [Nat.mul_one]
    rw [List.drop_eq_getElem_cons (by simpa using hi)]
    simp
  · cases h
end Go.Sx

/- What a row's list of variables gives, wherever a variable stands on it. -/
namespace Go.Sx
open Go.RowKit

theorem laid_at {P : Program} {W : World} {name : String} {d : DataW Unit} {l : List (String × DataW Unit)} (h : laidMet P l W) (hm : (name, d) ∈ l) :
    ∃ g t cs fuel p, P.globalNamed name = some g ∧ (P.globals[g]?).map (·.type) = some t ∧ W.var? P name = some cs ∧ DataW.trod (fun _ => ()) P W 0 (fun _ => true) false fuel t cs.toList = some (d, p) := by
  obtain ⟨ps, h, hrest⟩ := h
  clear hrest
  induction l generalizing ps with
  | nil => cases hm
  | cons x r ih =>
    obtain ⟨n, e⟩ := x
    obtain ⟨g, t, cs, fuel, p, q, h1, h2, h3, h4, h5, h6⟩ := h
    rcases List.mem_cons.1 hm with e | hm
    · cases e; exact ⟨g, t, cs, fuel, p, h1, h2, h3, h4⟩
    · exact ih hm _ h5

theorem tab_at {P : Program} {W : World} {name : String} {k : IntKind} {zs : List Int} {l : List (String × DataW Unit)} {g : Nat} {t e : TypeId} {n : Nat} (hm : (name, Lib.tabData k zs) ∈ l)
    (hg : P.globalNamed name = some g) (hty : (P.globals[g]?).map (·.type) = some t) (ht : P.underlying t = some (.array n e)) (he : P.underlying e = some (.int k)) (hce : P.cellsOf e = 1) (hct : P.cellsOf t = n)
    (h : laidMet P l W) : Lib.TabIs P W name k zs := by
  obtain ⟨g', t', cs, fuel, p, h1, h2, h3, h4⟩ := laid_at h hm
  obtain rfl := Option.some.inj (hg.symm.trans h1)
  obtain rfl := Option.some.inj (hty.symm.trans h2)
  unfold Lib.TabIs
  rw [h3, ← Lib.cells_of_tab ht he hce hct h4]

theorem var_heap {P : Program} {W : World} {name : String} {g : Nat} {cs : Array Value} (hg : P.globalNamed name = some g) (h : W.var? P name = some cs) : ∃ e fr, W.heap[g]? = some (.cells cs e fr) := by
  simp only [World.var?, hg, Option.bind_some] at h
  split at h
  · rename_i cs' e fr hh
    cases h
    exact ⟨e, fr, hh⟩
  · cases h

theorem pair_at {P : Program} {W : World} {name : String} {k k' : IntKind} {a b : Int} {l : List (String × DataW Unit)} {g : Nat} {t : TypeId} {fs : Array Field} {f0 f1 : Field} (hm : (name, .agg [.lit (.int k a), .lit (.int k' b)]) ∈ l)
    (hg : P.globalNamed name = some g) (hty : (P.globals[g]?).map (·.type) = some t) (ht : P.underlying t = some (.struct fs)) (hfs : fs.toList = [f0, f1]) (ho0 : f0.offset = 0) (ho1 : f1.offset = 1)
    (hc0 : P.cellsOf f0.type = 1) (hc1 : P.cellsOf f1.type = 1) (hu0 : P.underlying f0.type = some (.int k)) (hu1 : P.underlying f1.type = some (.int k')) (hct : P.cellsOf t = 2)
    (h : laidMet P l W) : ∃ c e fr, HW W g = some (.cells c e fr) ∧ Rd (HW W) (.pair (.int k) (.int k')) (a, b) (seg c 0 2) ∧ c.size = 2 := by
  obtain ⟨g', t', cs, fuel, p, h1, h2, h3, h4⟩ := laid_at h hm
  obtain rfl := Option.some.inj (hg.symm.trans h1)
  obtain rfl := Option.some.inj (hty.symm.trans h2)
  obtain ⟨e, fr, hh⟩ := var_heap hg h3
  refine ⟨cs, e, fr, hh, ?_⟩
  have hcs : cs.toList = [.int k a, .int k' b] := by
    cases fuel with
    | zero => simp [DataW.trod] at h4
    | succ fuel =>
      simp only [DataW.trod, ht, hct, hfs, hc0, hc1, ho0, ho1, List.mapM_cons, List.mapM_nil] at h4
      split at h4
      · rename_i hl
        obtain ⟨xs, hx1, hx2⟩ := Option.map_eq_some_iff.1 h4
        simp only [Option.bind_eq_bind, Option.bind_eq_some_iff, Option.pure_def, Option.some.injEq] at hx1
        obtain ⟨y0, hy0, r, ⟨y1, hy1, r2, rfl, rfl⟩, rfl⟩ := hx1
        obtain ⟨m0, e0, hz0, _⟩ := DataW.trod_int hu0 hy0
        obtain ⟨m1, e1, hz1, _⟩ := DataW.trod_int hu1 hy1
        subst hz0 hz1
        simp only [List.map_cons, List.map_nil, Prod.mk.injEq, DataW.agg.injEq, List.cons.injEq, DataW.lit.injEq, Lit.int.injEq, true_and, and_true] at hx2
        obtain ⟨⟨rfl, rfl⟩, _⟩ := hx2
        match hq : cs.toList, hl with
        | [u, v], _ =>
          rw [hq] at e0 e1
          simp at e0 e1
          rw [e0, e1]
      · cases h4
  have hs : seg cs 0 2 = [.int k a, .int k' b] := by unfold seg; rw [hcs]; rfl
  rw [hs]
  exact ⟨⟨rfl, rfl⟩, by rw [← Array.length_toList, hcs]; rfl⟩

def intB (P : Program) (t : TypeId) (k : IntKind) : Bool := match P.underlying t with
  | some (.int q) => decide (q = k)
  | _ => false
theorem intB_ok {P : Program} {t : TypeId} {k : IntKind} (h : intB P t k = true) : P.underlying t = some (.int k) := by
  unfold intB at h
  split at h
  · rename_i q hq
    rw [hq, of_decide_eq_true h]
  · cases h
/-- A struct of two numbers. -/
def pairB (P : Program) (t : TypeId) (k k' : IntKind) : Bool := match P.underlying t with
  | some (.struct fs) => match fs.toList with
    | [f0, f1] => decide (f0.offset = 0) && decide (f1.offset = 1) && decide (P.cellsOf f0.type = 1) && decide (P.cellsOf f1.type = 1) && intB P f0.type k && intB P f1.type k' && decide (P.cellsOf t = 2)
    | _ => false
  | _ => false
theorem pair_at' {P : Program} {W : World} {name : String} {k k' : IntKind} {a b : Int} {l : List (String × DataW Unit)} {g : Nat} {t : TypeId} (hm : (name, .agg [.lit (.int k a), .lit (.int k' b)]) ∈ l)
    (hg : P.globalNamed name = some g) (hty : (P.globals[g]?).map (·.type) = some t) (hc : pairB P t k k' = true) (h : laidMet P l W) :
    ∃ c e fr, HW W g = some (.cells c e fr) ∧ Rd (HW W) (.pair (.int k) (.int k')) (a, b) (seg c 0 2) ∧ c.size = 2 := by
  unfold pairB at hc
  split at hc
  · rename_i fs hu
    split at hc
    · rename_i f0 f1 hfs
      simp only [Bool.and_eq_true, decide_eq_true_eq] at hc
      obtain ⟨⟨⟨⟨⟨⟨h1, h2⟩, h3⟩, h4⟩, h5⟩, h6⟩, h7⟩ := hc
      exact pair_at hm hg hty hu hfs h1 h2 h3 h4 (intB_ok h5) (intB_ok h6) h7 h
    · cases hc
  · cases hc

theorem rd_pair {H : IH} {a b : Ty} {x : (Ty.pair a b).T} {cs : List Value} (h : Rd H (.pair a b) x cs) : ∃ c1 c2, cs = c1 ++ c2 ∧ Rd H a x.1 c1 ∧ Rd H b x.2 c2 :=
  ⟨_, _, (List.take_append_drop a.sz cs).symm, h.1, h.2⟩
theorem wf_i64 {n : Int} (h : (Lit.int .i64 n).wf = true) : fits .i64 n := by
  simp [Lit.wf, IntKind.min, IntKind.max, IntKind.signed, IntKind.bits] at h
  simp only [fits]
  omega
theorem wf_i8 {n : Int} (h : (Lit.int .i8 n).wf = true) : fits .i8 n := by
  simp [Lit.wf, IntKind.min, IntKind.max, IntKind.signed, IntKind.bits] at h
  simp only [fits]
  omega
theorem wf_u8 {n : Int} (h : (Lit.int .u8 n).wf = true) : fits .u8 n := by
  simp [Lit.wf, IntKind.min, IntKind.max, IntKind.signed, IntKind.bits] at h
  simp only [fits]
  omega
theorem wf_mem {t : Ty} {xs : List t.T} (h : WF (.sl t) xs) : ∀ x ∈ xs, WF t x := by
  intro x hx
  obtain ⟨i, hi, rfl⟩ := List.mem_iff_getElem.1 hx
  exact h.2 i hi
end Go.Sx

/- Facts of the program that every row asks. -/
namespace Go.Sx
theorem j3a : laidOutB Proofs.Tryz.prog = true := by kernel_rfl
theorem j3b : mapsRowed Proofs.Tryz.prog = true := by kernel_rfl
theorem j3c : Proofs.Tryz.prog.stopsHeard = true := by kernel_rfl
theorem j3d : Proofs.Tryz.prog.mayEnter = true := by kernel_rfl
end Go.Sx

/- Results that are the caller's own, told as memory that stays. -/
namespace Go.Sx
def stayV : V → V
  | .one (.frs t xs) => .one (.sl t xs)
  | x => x
def staySV : SV → SV
  | .val x => .val (stayV x)
  | .tup xs => .tup (xs.map stayV)
/-- The contract whose results stay. -/
def FSpec.frz (sp : FSpec) : FSpec := ⟨fun vs => match sp.run vs with
  | some (ps, r) => some (ps, staySV r)
  | none => none, false⟩

theorem stayV_den {w : World} {B : Nat} {H H2 : IH} (hh : HLe H H2) (hn : ∀ b o, B ≤ b → w.heap[b]? = some o → H2 b = some o) {x : V} {v : Value} (h : DenRV w B H x v) : DenRV w B H2 (stayV x) v := by
  have other : ∀ y : V, pureV y = true ∧ DenV ρ0 H y v → pureV y = true ∧ DenV ρ0 H2 y v := fun y hy => ⟨hy.1, DenV.mono (REq.refl 0 ρ0) hh (pureV_lt hy.1 0) hy.2⟩
  cases x with
  | agg cs => exact other _ h
  | one c =>
    cases c with
    | frs t xs =>
      have ho : OwnRow w B H v t xs := h
      show pureV (.one (.sl t xs)) = true ∧ Rd H2 (.sl t) xs [v]
      refine ⟨rfl, ?_⟩
      rcases ho with ⟨rfl, rfl⟩ | ⟨g, cap, cur, e, rfl, h2, _, ⟨_, _, h4⟩, h5, _, _, h8⟩
      · exact ⟨none, 0, rfl, Nat.le_refl _, .inl rfl⟩
      · exact ⟨some ⟨g, 0, none⟩, cap, rfl, h5, .inr ⟨g, 0, cur, e, _, rfl, hn g _ h2 h4, fun i hi => by rw [Nat.zero_add]; exact Rd.mono hh _ _ _ (h8 i hi)⟩⟩
    | _ => exact other _ h

theorem isFrs_stay (x : V) : isFrs (stayV x) = false := by
  cases x with
  | agg cs => rfl
  | one c => cases c <;> rfl

theorem stayVs_den {w : World} {B : Nat} {H H2 : IH} (hh : HLe H H2) (hn : ∀ b o, B ≤ b → w.heap[b]? = some o → H2 b = some o) : ∀ {xs : List V} {vs : List Value}, DenRVs w B H xs vs → DenRVs w B H2 (xs.map stayV) vs
  | [], _, h => h
  | x :: r, _, ⟨v, vs', e, h1, h2, _⟩ => ⟨v, vs', e, stayV_den hh hn h1, stayVs_den hh hn h2, fun h => by rw [isFrs_stay] at h; cases h⟩

theorem Fn.frz {P : Program} {gl : Nat → Option ((t : Ty) × t.T)} {f : FuncId} {args : List V} {r : SV} {fr : Bool} (h : Fn P gl f args r fr) : Fn P gl f args (staySV r) false := by
  intro w H vs hag G hd
  refine (h w H vs hag G hd).mono ?_
  rintro e w' ⟨v, H', rfl, h1, h2, h3, h4⟩
  have hh : HLe H' (fun b => if b < w.heap.size then H b else w'.heap[b]?) := by
    intro b o ho
    show (if b < w.heap.size then H b else w'.heap[b]?) = some o
    split
    · rename_i hlt
      have := h3 b hlt
      rw [ho] at this
      split at this
      · cases this
      · exact this.symm
    · exact h2 b o ho
  have hn : ∀ b o, w.heap.size ≤ b → w'.heap[b]? = some o → (fun b => if b < w.heap.size then H b else w'.heap[b]?) b = some o := fun b o hb ho => (if_neg (by omega)).trans ho
  refine ⟨v, fun b => if b < w.heap.size then H b else w'.heap[b]?, rfl, h1, fun b o ho => ?_, fun b hb => if_pos hb, ?_⟩
  · simp only [] at ho
    split at ho
    · rename_i hlt; rw [h1.block b hlt]; exact hag b o ho
    · exact ho
  · cases r with
    | val x => exact stayV_den hh hn h4
    | tup xs =>
      obtain ⟨us, e, hus⟩ := h4
      exact ⟨us, e, stayVs_den hh hn hus⟩

theorem Sp1.frz {f : FuncId} {sp : FSpec} (h : Sp1 f sp) : Sp1 f sp.frz := by
  refine ⟨fun vs ps r hr hp => ?_, h.2⟩
  unfold FSpec.frz at hr
  simp only [] at hr
  split at hr
  · rename_i ps' r' hs
    cases hr
    exact (h.1 vs _ _ hs hp).frz
  · cases hr
end Go.Sx

/- Plain functions and hints. -/
namespace Go.Sx.U
/-- Two lists differ at a frame. -/
def diffB (p q : List Pl) (n m t : Int) : Bool := decide (min n m ≤ t) || (!decide (soundN p t = soundN q t) || !decide (takesN p t = takesN q t))
def diffTo (A B : List Ed) (i : Nat) : List (Int × Int) := spTo (diffB (ls A) (ls B) (lenL A) (lenL B)) 0 i
def bothE (R : List Rl) (A B : List Ed) : Int := first [chkEds R A, chkEds R B]
def diffN (R : List Rl) (A B : List Ed) : List (Int × Int) := if bothE R A B = 0 then diffTo A B (max (lenL A) (lenL B)).toNat else []
end Go.Sx.U
namespace Go.Sx
open U
/-- The placed edits and the length in a box. -/
def lsB (ob : List (Nat × Option AObj)) (q : Nat) : Option (List Pl × Int) := match lookO ob q with
  | some (.box [.one (.sl (.pair (.pair .str (.pair (.int .i64) (.pair (.int .i64) (.pair (.int .i64) (.int .i64))))) (.int .i64)) p), .one (.int .i64 n), _]) => some (p, n)
  | _ => none
def h78 : Hints := ⟨fun f k s => match f, k with
  | 148, 3 => match intOfT s 0, intOfT s 1, lookT s.tm 2 with
    | some a, some b, some (.val (.one (.fn 153 [] [(q, 0), (r, 0)]))) => match lsB s.ob q, lsB s.ob r with
      | some (p, n), some (p', m) => some ⟨Nat, fun i => ⟨[tI 8 (a + (i : Int)), (7, .val (.one (.own s.nx)))] ++ keepT [0, 1, 2] s.tm, (s.nx, some (.row snT (spTo (diffB p p' n m) a i))) :: lessO s [7], s.nx + 1, s.lr⟩, fun i => i ≤ (b - a).toNat, fun i => (b - a).toNat - i⟩
      | _, _ => none
    | _, _, _ => none
  | _, _ => none, 0⟩
def h154 : Hints := ⟨fun f k s => match f, k with
  | 154, 4 => match listAs s 0 tkT, listAs s 1 tkT with
    | some a, some b => hCt s [0, 1, 12] 13 (List.length a) fun i => ∀ j, j < i → List.getD a j tk0 = List.getD b j tk0
    | _, _ => none
  | _, _ => none, 0⟩
@[reducible] noncomputable def fb153 : Nat × Func := (153, Proofs.Tryz.f153)
end Go.Sx
namespace Go.Sx
open U
def sp154 : FSpec := ⟨fun vs => match vs with
  | [.one (.sl (.pair .str (.pair (.int .i64) (.pair (.int .i64) (.int .i64)))) a), .one (.sl (.pair .str (.pair (.int .i64) (.pair (.int .i64) (.int .i64)))) b)] => some ([List.length a ≤ 1000000], .val (bV (decide ((show List Tk from a) = b))))
  | _ => none, true⟩
def sp78 : FSpec := ⟨fun vs => match vs with
  | [.one (.sl (.pair .str (.pair (.int .i64) (.sl (.int .i64)))) R), .one (.sl (.pair .str (.pair (.int .i64) (.pair (.int .i64) (.pair (.int .i64) (.int .i64))))) A), .one (.sl (.pair .str (.pair (.int .i64) (.pair (.int .i64) (.pair (.int .i64) (.int .i64))))) B)] => some ([List.length R ≤ 1000000000, ∀ r ∈ (show List Rl from R), List.length r.2.2 ≤ 1000000, List.length A ≤ 1000000000, List.length B ≤ 1000000000], .tup [.one (.frs snT (diffN R A B)), iV (bothE R A B)])
  | _ => none, true⟩
end Go.Sx

/- What the engine asks, written out (printed by a program). -/
namespace Go.Sx
open U
theorem vc154 (a b : List Tk) : exF (env false [] []) h154 0 154 Proofs.Tryz.f154 [.one (.sl tkT a), .one (.sl tkT b)] (.val (bV (decide (a = b)))) = (let q0 := (↑(List.length a) : Int); splitB (q0 != (↑(List.length b) : Int)) (false = decide (a = b) ∧ True) ((∃ (g : Nat), (g ≤ List.length a ∧ ∀ (j : Nat), j < g → List.getD a j tk0 = List.getD b j tk0) ∧ (0 : Int) = (↑g : Int) ∧ q0 = q0 ∧ a = a ∧ b = b ∧ True) ∧ ∀ (g : Nat), let q1 := (List.getD a g tk0); let q2 := (List.getD b g tk0); (g ≤ List.length a ∧ ∀ (j : Nat), j < g → List.getD a j tk0 = List.getD b j tk0) → splitB (decide ((↑g : Int) < q0)) (((0 : Int) ≤ (↑g : Int) ∧ (↑g : Int) < q0) ∧ ((0 : Int) ≤ (↑g : Int) ∧ (↑g : Int) < (↑(List.length b) : Int)) ∧ splitB (!eqT (Ty.pair Ty.str (Ty.pair (Ty.int IntKind.i64) (Ty.pair (Ty.int IntKind.i64) (Ty.int IntKind.i64)))) (q1.1, q1.2.1, q1.2.2.1, q1.2.2.2) (q2.1, q2.2.1, q2.2.2.1, q2.2.2.2)) (false = decide (a = b) ∧ True) (fits IntKind.i64 ((↑g : Int) + (1 : Int)) ∧ ∃ (g' : Nat), (g' ≤ List.length a ∧ ∀ (j : Nat), j < g' → List.getD a j tk0 = List.getD b j tk0) ∧ List.length a - g' < List.length a - g ∧ (↑g : Int) + (1 : Int) = (↑g' : Int) ∧ q0 = q0 ∧ a = a ∧ b = b ∧ True)) (true = decide (a = b) ∧ True))) := by
  kernel_rfl
theorem vc78 (R : List Rl) (A B : List Ed) : exF (env false [(152, sp152), (120, sp120), (155, sp155n), (124, sp124), (154, sp154)] [fb148, fb153]) h78 3 78 Proofs.Tryz.f78 [.one (.sl rlT R), .one (.sl edT A), .one (.sl edT B)] (.tup [.one (.frs snT (diffN R A B)), iV (bothE R A B)]) = (let q4 := (List.length A); let q5 := (List.length B); let q0 := (diffB (plTo A q4) (plTo B q5) (begN A q4) (begN B q5)); let q3 := (max (begN A q4) (begN B q5) - (0 : Int)); let q9 := (List.length R); let q14 := (Ty.pair Ty.str (Ty.pair (Ty.int IntKind.i64) (Ty.pair (Ty.int IntKind.i64) (Ty.int IntKind.i64)))); let q18 := (1000000000 : Nat); List.length R ≤ q18 ∧ (∀ (r : Rl), r ∈ R → List.length r.2.2 ≤ (1000000 : Nat)) ∧ List.length A ≤ q18 ∧ List.length B ≤ q18 ∧ splitB (first [chkEds R A, chkEds R B] != (0 : Int)) (diffN R A B = [] ∧ first [chkEds R A, chkEds R B] = bothE R A B ∧ True) (List.length R ≤ q18 ∧ EdsIn A ∧ List.length R ≤ q18 ∧ EdsIn B ∧ (∃ (g : Nat), Nat.le g (Int.toNat q3) ∧ (0 : Int) = (0 : Int) + (↑g : Int) ∧ (0 : Int) = (0 : Int) ∧ max (begN A q4) (begN B q5) = max (begN A q4) (begN B q5) ∧ spTo q0 (0 : Int) g = [] ∧ plTo B q5 = plTo B q5 ∧ begN B q5 = begN B q5 ∧ mapR R q9 = mapR R q9 ∧ plTo A q4 = plTo A q4 ∧ begN A q4 = begN A q4 ∧ mapR R q9 = mapR R q9 ∧ True) ∧ ∀ (g : Nat), let q7 := (min (begN A q4) (begN B q5) ≤ (0 : Int) + (↑g : Int)); let q6 := ((0 : Int) + (↑g : Int)); let q10 := (soundN (plTo A q4) q6); let q11 := (soundN (plTo B q5) q6); let q1 := (bif decide q7 then true else !eqT q14 (q10.1, q10.2.1, q10.2.2.1, q10.2.2.2) (q11.1, q11.2.1, q11.2.2.1, q11.2.2.2)); let q12 := (spTo q0 (0 : Int) g); let q2 := (↑(List.length q12) : Int); let q17 := (q2 - (1 : Int)); let q8 := (List.getD q12 (Int.toNat q17) ((0 : Int), (0 : Int))); let q13 := ((0 : Int) + (↑g : Int) + (1 : Int)); let q15 := (decide q7 = false → (0 : Int) ≤ (0 : Int) + (↑g : Int) ∧ (0 : Int) + (↑g : Int) ≤ (100000 : Int)); let q16 := (q1 = false → (0 : Int) ≤ (0 : Int) + (↑g : Int) ∧ (0 : Int) + (↑g : Int) ≤ (100000 : Int)); let q19 := ((0 : Int) ≤ q2 - (1 : Int) ∧ q2 - (1 : Int) < q2); Nat.le g (Int.toNat q3) → splitB (decide ((0 : Int) + (↑g : Int) < max (begN A q4) (begN B q5))) ((decide q7 = false → PlsOk (plTo A q4)) ∧ q15 ∧ (decide q7 = false → PlsOk (plTo B q5)) ∧ q15 ∧ (q1 = false → PlsOk (plTo A q4)) ∧ q16 ∧ (q1 = false → PlsOk (plTo B q5)) ∧ q16 ∧ (q1 = false → List.length (takesN (plTo A q4) q6) ≤ (1000000 : Nat)) ∧ splitB (!bif bif decide q7 then true else !eqT q14 (q10.1, q10.2.1, q10.2.2.1, q10.2.2.2) (q11.1, q11.2.1, q11.2.2.1, q11.2.2.2) then true else !decide (takesN (plTo A q4) q6 = takesN (plTo B q5) q6)) (fits IntKind.i64 q13 ∧ ∃ (g' : Nat), Nat.le g' (Int.toNat q3) ∧ Int.toNat q3 - g' < Int.toNat q3 - g ∧ (0 : Int) + (↑g : Int) + (1 : Int) = (0 : Int) + (↑g' : Int) ∧ (0 : Int) = (0 : Int) ∧ max (begN A q4) (begN B q5) = max (begN A q4) (begN B q5) ∧ spTo q0 (0 : Int) g = spTo q0 (0 : Int) g' ∧ plTo B q5 = plTo B q5 ∧ begN B q5 = begN B q5 ∧ mapR R q9 = mapR R q9 ∧ plTo A q4 = plTo A q4 ∧ begN A q4 = begN A q4 ∧ mapR R q9 = mapR R q9 ∧ True) ((decide ((0 : Int) < q2) = true → fits IntKind.i64 q17) ∧ (decide ((0 : Int) < q2) = true → (0 : Int) ≤ q2 - (1 : Int) ∧ q2 - (1 : Int) < q2) ∧ (decide ((0 : Int) < q2) = true → Int.toNat q17 < List.length q12) ∧ splitB (bif decide ((0 : Int) < q2) then q8.2 == (0 : Int) + (↑g : Int) else false) (fits IntKind.i64 q17 ∧ q19 ∧ Int.toNat q17 < List.length q12 ∧ fits IntKind.i64 (q8.2 + (1 : Int)) ∧ q19 ∧ Int.toNat q17 < List.length q12 ∧ fits IntKind.i64 q13 ∧ ∃ (g' : Nat), Nat.le g' (Int.toNat q3) ∧ Int.toNat q3 - g' < Int.toNat q3 - g ∧ (0 : Int) + (↑g : Int) + (1 : Int) = (0 : Int) + (↑g' : Int) ∧ (0 : Int) = (0 : Int) ∧ max (begN A q4) (begN B q5) = max (begN A q4) (begN B q5) ∧ List.set q12 (Int.toNat q17) (q8.1, q8.2 + (1 : Int)) = spTo q0 (0 : Int) g' ∧ plTo B q5 = plTo B q5 ∧ begN B q5 = begN B q5 ∧ mapR R q9 = mapR R q9 ∧ plTo A q4 = plTo A q4 ∧ begN A q4 = begN A q4 ∧ mapR R q9 = mapR R q9 ∧ True) (fits IntKind.i64 q13 ∧ room (List.length q12 + (1 : Nat)) (16 : Nat) ∧ fits IntKind.i64 q13 ∧ ∃ (g' : Nat), Nat.le g' (Int.toNat q3) ∧ Int.toNat q3 - g' < Int.toNat q3 - g ∧ (0 : Int) + (↑g : Int) + (1 : Int) = (0 : Int) + (↑g' : Int) ∧ (0 : Int) = (0 : Int) ∧ max (begN A q4) (begN B q5) = max (begN A q4) (begN B q5) ∧ spTo q0 (0 : Int) g ++ [((0 : Int) + (↑g : Int), (0 : Int) + (↑g : Int) + (1 : Int))] = spTo q0 (0 : Int) g' ∧ plTo B q5 = plTo B q5 ∧ begN B q5 = begN B q5 ∧ mapR R q9 = mapR R q9 ∧ plTo A q4 = plTo A q4 ∧ begN A q4 = begN A q4 ∧ mapR R q9 = mapR R q9 ∧ True))) (spTo q0 (0 : Int) g = diffN R A B ∧ (0 : Int) = bothE R A B ∧ True))) := by
  kernel_rfl
end Go.Sx

/- Contracts. -/
namespace Go.Sx
open U
theorem bothE_zero {R : List Rl} {A B : List Ed} : bothE R A B = 0 ↔ ListOk R A ∧ ListOk R B := by
  rw [← chkEds_zero, ← chkEds_zero]
  unfold bothE
  by_cases h : chkEds R A = 0 <;> by_cases h2 : chkEds R B = 0 <;> simp [first, h, h2]
theorem takes_len2 (p : List Pl) (fr : Int) : (takesN p fr).length ≤ 2 := by
  unfold takesN takesE
  split <;> simp
theorem sp_len (is : Int → Bool) (a : Int) : ∀ i, (spTo is a i).length ≤ i
  | 0 => Nat.le_refl _
  | i + 1 => by
    have ih := sp_len is a i
    have h : (addSp (spTo is a i) (a + (i : Int))).length ≤ (spTo is a i).length + 1 := by
      unfold addSp
      split
      · rw [List.length_set]; omega
      · simp
    simp only [spTo]
    split <;> omega
theorem eq_tk (x y : Tk) : eqT tkT x y = decide (x = y) := by
  rw [Bool.eq_iff_iff, decide_eq_true_eq]
  simp [eqT, Prod.ext_iff]
theorem bif_fl {a b : Bool} (h : (bif a then true else b) = false) : a = false := by
  cases a
  · rfl
  · cases h
theorem bnot_t {b : Bool} (h : (!b) = true) : b = false := by
  cases b
  · rfl
  · cases h
theorem bnot_f {b : Bool} (h : (!b) = false) : b = true := by
  cases b
  · cases h
  · rfl
theorem addSp_n {o : List (Int × Int)} {n : Int} (h : 0 < o.length → (o.getD (o.length - 1) sp0).2 ≠ n) : addSp o n = o ++ [(n, n + 1)] := by
  unfold addSp
  rw [if_neg (fun q => h q.1 q.2)]
theorem addSp_o {o : List (Int × Int)} {n : Int} (h0 : 0 < o.length) (h : (o.getD (o.length - 1) sp0).2 = n) : addSp o n = o.set (o.length - 1) ((o.getD (o.length - 1) sp0).1, n + 1) := by
  unfold addSp
  rw [if_pos ⟨h0, h⟩, h]
theorem spTo_h {is : Int → Bool} {a : Int} {j : Nat} (h : is (a + (j : Int)) = true) : spTo is a (j + 1) = addSp (spTo is a j) (a + (j : Int)) := by
  show (if _ then _ else _) = _
  rw [if_pos h]
theorem spTo_m {is : Int → Bool} {a : Int} {j : Nat} (h : is (a + (j : Int)) = false) : spTo is a (j + 1) = spTo is a j := by
  show (if _ then _ else _) = _
  rw [if_neg (by rw [h]; decide)]
theorem set_lastJ {α : Type} {d : α} (o : List α) (x y : α) : (o ++ [x]).set ((((o ++ [x]).length : Nat) : Int) - 1).toNat y = o ++ [y] ∧ (o ++ [x]).getD ((((o ++ [x]).length : Nat) : Int) - 1).toNat d = x := by
  have e : ((((o ++ [x]).length : Nat) : Int) - 1).toNat = o.length := by rw [List.length_append]; simp
  rw [e]
  constructor
  · rw [List.set_append_right _ _ (Nat.le_refl _), Nat.sub_self]; rfl
  · rw [List.getD_eq_getElem?_getD, List.getElem?_append_right (Nat.le_refl _), Nat.sub_self]; rfl
theorem fn154 (a b : List Tk) (hl : a.length ≤ 1000000) : Fn P1 gl1 154 [.one (.sl tkT a), .one (.sl tkT b)] (.val (bV (decide (a = b)))) true := by
  refine Fn.flat ?_ rfl
  refine fn_of false [] [] h154 0 Proofs.Tryz.f154 trivial trivial (by kernel_rfl) rfl (by kernel_rfl) rfl rfl rfl ?_
  rw [vc154]
  try simp only [splitB_iff, -eq_self]
  have heq : ∀ x y : Tk, eqT tkT x y = true ↔ x = y := fun x y => by simp [eqT, Prod.ext_iff]
  simp only [same_len]
  refine ⟨fun h => ⟨(decide_eq_false fun e => ?_).symm, trivial⟩, fun h => ?_⟩
  · rw [e] at h; simp at h
  · have h' : a.length = b.length := by simpa using h
    refine ⟨⟨0, ⟨Nat.zero_le _, fun j hj => absurd hj (Nat.not_lt_zero _)⟩, rfl, by trivial, by trivial, by trivial, trivial⟩, fun g hg => ⟨fun hlt => ?_, fun hge => ?_⟩⟩
    · have hlt' : g < a.length := by have := of_decide_eq_true hlt; omega
      refine ⟨by omega, by omega, fun hne => ⟨(decide_eq_false fun e => ?_).symm, trivial⟩, fun hq => ⟨by simp only [fits]; omega, g + 1, ⟨hlt', fun j hj => ?_⟩, by omega, by omega, by trivial, by trivial, by trivial, trivial⟩⟩
      · subst e
        have hne' : (!eqT tkT (a.getD g tk0) (a.getD g tk0)) = true := hne
        rw [(heq _ _).2 rfl] at hne'
        cases hne'
      · by_cases ej : j = g
        · subst ej
          have hq' : (!eqT tkT (a.getD j tk0) (b.getD j tk0)) = false := hq
          exact (heq _ _).1 (by simpa using hq')
        · exact hg.2 j (by omega)
    · exact ⟨(decide_eq_true (same_all tk0 h' fun j hj => hg.2 j (by have := of_decide_eq_false hge; omega))).symm, trivial⟩
theorem so154_ : SpecOk P1 gl1 154 sp154 := by
  intro vs ps r h hp
  simp only [sp154] at h
  split at h
  · cases h; exact fn154 _ _ (hp _ (.head _))
  · cases h
theorem so154 : Sp1 154 sp154 := ⟨so154_, Proofs.Tryz.f154, _, by kernel_rfl, rfl, by kernel_rfl⟩
theorem fn78 (R : List Rl) (A B : List Ed) (hl : R.length ≤ 1000000000) (hR : ∀ r ∈ R, r.2.2.length ≤ 1000000) (hA : A.length ≤ 1000000000) (hB : B.length ≤ 1000000000) : Fn P1 gl1 78 [.one (.sl rlT R), .one (.sl edT A), .one (.sl edT B)] (.tup [.one (.frs snT (diffN R A B)), iV (bothE R A B)]) true := by
  refine Fn.flat ?_ rfl
  refine fn_of false [(152, sp152), (120, sp120), (155, sp155n), (124, sp124), (154, sp154)] [fb148, fb153] h78 3 Proofs.Tryz.f78 ⟨so152, so120, so155n, so124, so154, trivial⟩ ⟨⟨by kernel_rfl, by kernel_rfl, _, rfl, by kernel_rfl⟩, ⟨by kernel_rfl, by kernel_rfl, _, rfl, by kernel_rfl⟩, trivial⟩ (by kernel_rfl) rfl (by kernel_rfl) rfl rfl rfl ?_
  rw [vc78]
  try simp only [splitB_iff, -eq_self]
  have hb : first [chkEds R A, chkEds R B] = bothE R A B := rfl
  have hN : ∀ L : List Ed, begN L L.length = lenL L := fun _ => rfl
  have hP : ∀ L : List Ed, plTo L L.length = ls L := fun _ => rfl
  simp only [eq_self, true_and, and_true, and_self, hb, hN, hP]
  refine ⟨hl, hR, hA, hB, fun h => ?_, fun h => ?_⟩
  · have h' : bothE R A B ≠ 0 := by simpa using h
    unfold diffN
    rw [if_neg h']
  have h' : bothE R A B = 0 := by simpa using h
  obtain ⟨hkA, hkB⟩ := bothE_zero.1 h'
  have hnA := lenL_nn hkA
  have hnB := lenL_nn hkB
  have hbA := hkA.big
  have hbB := hkB.big
  have hD : ∀ t, (bif bif decide (min (lenL A) (lenL B) ≤ t) then true else !eqT tkT (soundN (ls A) t) (soundN (ls B) t) then true else !decide (takesN (ls A) t = takesN (ls B) t)) = diffB (ls A) (ls B) (lenL A) (lenL B) t := fun t => by
    rw [bcond_l, bcond_l, Bool.or_assoc, eq_tk]; rfl
  refine ⟨hl, hkA.eds, hl, hkB.eds, ⟨0, Nat.zero_le _, rfl, rfl⟩, fun g hg => ⟨fun hlt => ?_, fun hge => ?_⟩⟩
  · have hlt' : (0 : Int) + (g : Int) < max (lenL A) (lenL B) := of_decide_eq_true hlt
    have p7 : decide (min (lenL A) (lenL B) ≤ 0 + (g : Int)) = false → (PlsOk (ls A) ∧ PlsOk (ls B)) ∧ (0 ≤ 0 + (g : Int) ∧ 0 + (g : Int) ≤ 100000) := fun h => by
      have h1 : ¬ min (lenL A) (lenL B) ≤ 0 + (g : Int) := of_decide_eq_false h
      exact ⟨⟨hkA.pls' (t := 0 + (g : Int)) (by omega) (by omega), hkB.pls' (t := 0 + (g : Int)) (by omega) (by omega)⟩, by omega, by omega⟩
    have ht := takes_len2 (ls A) (0 + (g : Int))
    have hg1 : g + 1 ≤ (max (lenL A) (lenL B) - 0).toNat := by omega
    refine ⟨fun h => (p7 h).1.1, fun h => (p7 h).2, fun h => (p7 h).1.2, fun h => (p7 h).2, fun h => (p7 (bif_fl h)).1.1, fun h => (p7 (bif_fl h)).2, fun h => (p7 (bif_fl h)).1.2, fun h => (p7 (bif_fl h)).2, fun _ => by omega, fun hno => ?_, fun hyes => ?_⟩
    · have hno' : diffB (ls A) (ls B) (lenL A) (lenL B) (0 + (g : Int)) = false := by rw [← hD]; exact bnot_t hno
      exact ⟨by simp only [fits]; omega, g + 1, hg1, by omega, by omega, (spTo_m hno').symm⟩
    · have hyes' : diffB (ls A) (ls B) (lenL A) (lenL B) (0 + (g : Int)) = true := by rw [← hD]; exact bnot_f hyes
      have hsl := sp_len (diffB (ls A) (ls B) (lenL A) (lenL B)) 0 g
      have hsucc := spTo_h hyes'
      generalize hM : (max (lenL A) (lenL B) - 0).toNat = M at *
      have hM2 : M ≤ 1024 := by omega
      clear hD p7 ht hyes hyes'
      generalize spTo (diffB (ls A) (ls B) (lenL A) (lenL B)) 0 g = o at *
      have hpos : ∀ h : decide ((0 : Int) < (o.length : Int)) = true, 0 < o.length := fun h => by have := of_decide_eq_true h; omega
      have hidx : 0 < o.length → ((o.length : Int) - 1).toNat = o.length - 1 := fun h => by omega
      refine ⟨fun h => by have := hpos h; simp only [fits]; omega, fun h => by have := hpos h; omega, fun h => by have := hpos h; omega, fun h => ?_, fun h => ?_⟩
      · cases h0 : decide ((0 : Int) < (o.length : Int)) with
        | false => rw [h0] at h; cases h
        | true =>
          rw [h0] at h
          have h1 := hpos h0
          rw [hidx h1] at h ⊢
          have h2 : (o.getD (o.length - 1) (0, 0)).2 = 0 + (g : Int) := by simpa using h
          refine ⟨by simp only [fits]; omega, by omega, by omega, by simp only [fits]; omega, by omega, by omega, by simp only [fits]; omega, g + 1, hg1, by omega, by omega, ?_⟩
          rw [hsucc, addSp_o h1 h2]
          exact congrArg (fun z => o.set (o.length - 1) ((o.getD (o.length - 1) sp0).1, z + 1)) h2
      · refine ⟨by simp only [fits]; omega, by simp only [room]; omega, by simp only [fits]; omega, g + 1, hg1, by omega, by omega, ?_⟩
        rw [hsucc, addSp_n]
        intro h1 h2
        have h0 : decide ((0 : Int) < (o.length : Int)) = true := decide_eq_true (by omega)
        rw [h0, hidx h1] at h
        have h2' : (o.getD (o.length - 1) (0, 0)).2 = 0 + (g : Int) := h2
        rw [h2'] at h
        simp at h
  · have hge' : ¬ (0 : Int) + (g : Int) < max (lenL A) (lenL B) := of_decide_eq_false hge
    have hgM : g = (max (lenL A) (lenL B)).toNat := by
      have h4 : g ≤ (max (lenL A) (lenL B) - 0).toNat := hg
      omega
    subst hgM
    rw [h']
    refine ⟨?_, rfl⟩
    unfold diffN diffTo
    rw [if_pos h']
theorem so78_ : SpecOk P1 gl1 78 sp78 := by
  intro vs ps r h hp
  simp only [sp78] at h
  split at h
  · cases h; exact fn78 _ _ _ (hp _ (.head _)) (hp _ (.tail _ (.head _))) (hp _ (.tail _ (.tail _ (.head _)))) (hp _ (.tail _ (.tail _ (.tail _ (.head _)))))
  · cases h
theorem so78 : Sp1 78 sp78 := ⟨so78_, Proofs.Tryz.f78, _, by kernel_rfl, rfl, by kernel_rfl⟩

end Go.Sx

/- The contract of slices.Grow at the nil slice, out of the kit's shelf, as the engine uses it. -/
namespace Go.Sx
open Go.Proofs Go.RowKit Go.Shelf Go.Lib

theorem grow_fn {P : Program} {ρ : Ren} (L : Lays8.n4 P ρ) {gl : Nat → Option ((t : Ty) × t.T)} {i : TypeInfo} {z : Value} {t : Ty} (hi : P.info? (ρ.t 25) = some i) (hz : i.zero = some z) (hs : 0 < i.size) (hzs : z.cells.size = t.sz)
    (n : Int) (h0 : 0 ≤ n) (hn : n ≤ 1000000000) (hb : n.toNat * i.bytes ≤ 140737488355328) : Fn P gl (ρ.f 4) [.one .nils, .one (.int .i64 n)] (.val (.one (.frs t []))) true := by
  intro w H vs hA hG hD
  obtain ⟨v, r, rfl, hv, v2, r2, rfl, hv2, hr⟩ := hD
  obtain rfl : r2 = [] := hr
  obtain rfl : v2 = .int .i64 n := hv2
  obtain rfl : v = .slice none 0 0 := hv
  obtain ⟨k, rfl⟩ : ∃ k : Nat, n = k := ⟨n.toNat, by omega⟩
  have hk : ((k : Int)).toNat = k := by omega
  rw [hk] at hb
  by_cases h : k = 0
  · subst h
    refine (Any8.slices_Grow_room L none 0 0 0 w (Nat.le_refl _) (by omega) (by omega) (by omega)).mono fun e w' ⟨he, hw⟩ => ?_
    subst hw
    exact ⟨_, fun _ => none, he, Below.refl _ _, fun _ _ h => (by cases h), fun _ _ => rfl, .inl ⟨rfl, rfl⟩⟩
  · refine (Any8.slices_Grow_grow L i z hi hz hs none 0 0 k [] w (Nat.le_refl _) (by omega) (by rw [Nat.zero_add]; exact hb) (by omega) (by simp) (fun _ => rfl) (fun _ h => by cases h)).mono fun e w' ⟨he, hw⟩ => ?_
    subst hw
    have hcap := grownCap_ge w (0 + k) 0 (ρ.t 25)
    have hcapm := grownCap_le_maxLen w (0 + k) 0 (ρ.t 25) (by simp only [maxLen]; omega)
    refine ⟨_, fun _ => none, he, ⟨rfl, rfl, rfl, ?_, fun j hj => ?_⟩, fun _ _ h => (by cases h), fun _ _ => rfl, .inr ⟨w.heap.size, grownCap w (0 + k) 0 (ρ.t 25), #[] ++ Builtin.zeroCells z.cells (0 + k - 0) ++ Builtin.zeroCells z.cells (grownCap w (0 + k) 0 (ρ.t 25) - (0 + k)), ρ.t 25, rfl, Nat.le_refl _, rfl, ⟨(0, 0), .inl rfl, ?_⟩, Nat.zero_le _, hcapm, ?_, fun i h => absurd h (Nat.not_lt_zero _)⟩⟩
    · show w.heap.size ≤ (w.heap.push _).size
      simp
    · show (w.heap.push _)[j]? = _
      rw [Array.getElem?_push, if_neg (by omega)]
    · show (w.heap.push _)[w.heap.size]? = _
      rw [Array.getElem?_push, if_pos rfl]
    · simp only [Array.size_append, List.size_toArray, List.length_nil, size_zeroCells, hzs]
      rw [Nat.zero_add, ← Nat.add_mul]; congr 1; omega
end Go.Sx

/- slices.Grow at this program, in plain words. -/
namespace Go.Proofs
open Go.Shelf
def Tryz.lays8_ren : Go.Shelf.Ren := ⟨fun | 4 => 196 | n => n, fun | 22 => 57 | 25 => 167 | n => n, fun | n => n⟩
theorem Tryz.lays8 : Go.Proofs.Lays8.n4 Tryz.prog Tryz.lays8_ren := {
  mixed := by kernel_rfl
  f4 := ⟨"slices.Grow[[]genlock/tape.Edit,genlock/tape.Edit]", by kernel_rfl, Tryz.func196.trans (congrArg some (by kernel_rfl))⟩
  t0 := Tryz.underlying0
  a0 := Tryz.isAgg0
  z0 := Tryz.sizeOf0
  v0 := Tryz.zeroValue0
  t3 := Tryz.underlying3
  a3 := Tryz.isAgg3
  z3 := Tryz.sizeOf3
  v3 := Tryz.zeroValue3
  t4 := Tryz.underlying4
  a4 := Tryz.isAgg4
  z4 := Tryz.sizeOf4
  v4 := Tryz.zeroValue4
  t9 := Tryz.underlying9
  a9 := Tryz.isAgg9
  z9 := Tryz.sizeOf9
  v9 := Tryz.zeroValue9
  t20 := Tryz.underlying20
  a20 := Tryz.isAgg20
  z20 := Tryz.sizeOf20
  v20 := Tryz.zeroValue20
  t22 := Tryz.underlying57
  a22 := Tryz.isAgg57
  z22 := Tryz.sizeOf57
  v22 := Tryz.zeroValue57
}
end Go.Proofs
namespace Go.Sx
theorem grow1 (n : Int) (h0 : 0 ≤ n) (hn : n ≤ 1000000) : Fn P1 gl1 196 [.one .nils, (.one (.int .i64 n))] (.val (.one (.frs (.pair .str (.pair (.int .i64) (.pair (.int .i64) (.pair (.int .i64) (.int .i64))))) []))) true := by
  obtain ⟨i, z, g1, g2, g3, g4, _, g6⟩ := (tt_ok tab1_ok 167 _ rfl).info
  have hz := g6 (.pair .str (.pair (.int .i64) (.pair (.int .i64) (.pair (.int .i64) (.int .i64))))) rfl (fun _ => none)
  have hzs : z.cells.size = Ty.sz (.pair .str (.pair (.int .i64) (.pair (.int .i64) (.pair (.int .i64) (.int .i64))))) := by simpa using Rd.len _ _ _ hz
  have g2' : i.size = 5 := g2
  have g3' : i.bytes = 48 := g3
  exact grow_fn (i := i) (z := z) (t := .pair .str (.pair (.int .i64) (.pair (.int .i64) (.pair (.int .i64) (.int .i64))))) Proofs.Tryz.lays8 g1 g4 (by omega) hzs n h0 (by omega) (by rw [g3']; omega)
end Go.Sx

/- Plain functions and hints. -/
namespace Go.Sx.U
def flatTo (ls : List (List Ed)) (i : Nat) : List Ed := (ls.take i).flatten
def joinC (R : List Rl) (A B : List Ed) : Int := first [bothE R A B, whenE (decide (16 < (A.length : Int) + (B.length : Int))) 5]
/-- The error of lists that are joined, and their list. -/
def joinE (R : List Rl) (A B : List Ed) : Int := if joinC R A B ≠ 0 then joinC R A B else chkEds R (A ++ B)
def joinL (R : List Rl) (A B : List Ed) : List Ed := if joinE R A B = 0 then A ++ B else []
end Go.Sx.U
namespace Go.Sx
open U
def sp196 : FSpec := ⟨fun vs => match vs with
  | [.one .nils, .one (.int .i64 n)] => some ([0 ≤ n, n ≤ 1000000], .val (.one (.frs edT [])))
  | _ => none, true⟩
def h157 : Hints := ⟨fun f k s => match f, k with
  | 157, 3 => match listAs s 9 (.sl edT) with
    | some ls => some ⟨Nat, fun i => s.at [0, 9, 10] [tI 11 i, tI 3 ((flatTo ls i).length : Int)], fun i => i ≤ List.length ls, fun i => List.length ls - i⟩
    | _ => none
  | 157, 11 => match listAs s 25 (.sl edT) with
    | some ls => some ⟨Nat, fun i => ⟨[tI 27 i, (6, .val (.one (.own s.nx)))] ++ keepT [25, 26] s.tm, (s.nx, some (.row edT (flatTo ls i))) :: lessO s [6], s.nx + 1, s.lr⟩, fun i => i ≤ List.length ls, fun i => List.length ls - i⟩
    | _ => none
  | _, _ => none, 0⟩
end Go.Sx
namespace Go.Sx
open U
def sp157 : FSpec := ⟨fun vs => match vs with
  | [.one (.sl (.sl (.pair .str (.pair (.int .i64) (.pair (.int .i64) (.pair (.int .i64) (.int .i64)))))) l)] => some ([List.length l ≤ 1000, List.length (List.flatten (show List (List Ed) from l)) ≤ 1000000], .val (.one (.frs edT (List.flatten (show List (List Ed) from l)))))
  | _ => none, true⟩
def sp83 : FSpec := ⟨fun vs => match vs with
  | [.one (.sl (.pair .str (.pair (.int .i64) (.sl (.int .i64)))) R), .one (.sl (.pair .str (.pair (.int .i64) (.pair (.int .i64) (.pair (.int .i64) (.int .i64))))) A), .one (.sl (.pair .str (.pair (.int .i64) (.pair (.int .i64) (.pair (.int .i64) (.int .i64))))) B)] => some ([List.length R ≤ 1000000000, ∀ r ∈ (show List Rl from R), List.length r.2.2 ≤ 1000000, List.length A ≤ 100000, List.length B ≤ 100000], .tup [.one (.frs edT (joinL R A B)), iV (joinE R A B)])
  | [.one (.sl (.pair .str (.pair (.int .i64) (.sl (.int .i64)))) R), .one (.sl (.pair .str (.pair (.int .i64) (.pair (.int .i64) (.pair (.int .i64) (.int .i64))))) A), .one .nils] => some ([List.length R ≤ 1000000000, ∀ r ∈ (show List Rl from R), List.length r.2.2 ≤ 1000000, List.length A ≤ 100000, List.length ([] : List Ed) ≤ 100000], .tup [.one (.frs edT (joinL R A ([] : List Ed))), iV (joinE R A ([] : List Ed))])
  | _ => none, true⟩
end Go.Sx

/- What the engine asks, written out (printed by a program). -/
namespace Go.Sx
open U
theorem vc157 (l : List (List Ed)) : exF (env false [(196, sp196)] []) h157 0 157 Proofs.Tryz.f157 [.one (.sl (.sl edT) l)] (.val (.one (.frs edT l.flatten))) = (let q2 := (List.length l); let q0 := (↑q2 : Int); (∃ (g : Nat), Nat.le g q2 ∧ (0 : Int) = (↑g : Int) ∧ (0 : Int) = (↑(List.length (flatTo l g)) : Int) ∧ q0 = q0 ∧ l = l ∧ l = l ∧ True) ∧ ∀ (g : Nat), let q1 := (↑(List.length (flatTo l g)) : Int); Nat.le g q2 → splitB (decide ((↑g : Int) < q0)) (((0 : Int) ≤ (↑g : Int) ∧ (↑g : Int) < q0) ∧ fits IntKind.i64 (q1 + (↑(List.length (List.getD l g [])) : Int)) ∧ fits IntKind.i64 ((↑g : Int) + (1 : Int)) ∧ ∃ (g' : Nat), Nat.le g' q2 ∧ List.length l - g' < List.length l - g ∧ (↑g : Int) + (1 : Int) = (↑g' : Int) ∧ q1 + (↑(List.length (List.getD l g [])) : Int) = (↑(List.length (flatTo l g')) : Int) ∧ q0 = q0 ∧ l = l ∧ l = l ∧ True) ((0 : Int) ≤ q1 ∧ q1 ≤ (1000000 : Int) ∧ (∃ (g : Nat), Nat.le g q2 ∧ (0 : Int) = (↑g : Int) ∧ q0 = q0 ∧ l = l ∧ [] = flatTo l g ∧ True) ∧ ∀ (g : Nat), Nat.le g q2 → splitB (decide ((↑g : Int) < q0)) (((0 : Int) ≤ (↑g : Int) ∧ (↑g : Int) < q0) ∧ room (List.length (flatTo l g) + List.length (List.getD l g [])) (48 : Nat) ∧ fits IntKind.i64 ((↑g : Int) + (1 : Int)) ∧ ∃ (g' : Nat), Nat.le g' q2 ∧ List.length l - g' < List.length l - g ∧ (↑g : Int) + (1 : Int) = (↑g' : Int) ∧ q0 = q0 ∧ l = l ∧ flatTo l g ++ List.getD l g [] = flatTo l g' ∧ True) (flatTo l g = List.flatten l ∧ True))) := by
  kernel_rfl
theorem vc83 (R : List Rl) (A B : List Ed) : exF (env false [(152, sp152), (107, sp107), (106, sp106), (157, sp157), (43, sp43)] [fb156]) h0 3 83 Proofs.Tryz.f83 [.one (.sl rlT R), .one (.sl edT A), .one (.sl edT B)] (.tup [.one (.frs edT (joinL R A B)), iV (joinE R A B)]) = (let q0 := (decide ((16 : Int) < (↑(List.length A) : Int) + (↑(List.length B) : Int))); let q1 := (1000000000 : Nat); let q2 := (List.flatten [A, B]); List.length R ≤ q1 ∧ (∀ (r : Rl), r ∈ R → List.length r.2.2 ≤ (1000000 : Nat)) ∧ List.length A ≤ q1 ∧ List.length B ≤ q1 ∧ fits IntKind.i64 ((↑(List.length A) : Int) + (↑(List.length B) : Int)) ∧ (2 : Nat) ≤ q1 ∧ splitB (first [first [chkEds R A, chkEds R B], whenE q0 (5 : Int)] != (0 : Int)) (joinL R A B = [] ∧ first [first [chkEds R A, chkEds R B], whenE q0 (5 : Int)] = joinE R A B ∧ True) ((2 : Nat) ≤ (1000 : Nat) ∧ List.length q2 ≤ (1000000 : Nat) ∧ List.length R ≤ q1 ∧ (∀ (r : Rl), r ∈ R → List.length r.2.2 ≤ (1000000 : Nat)) ∧ List.length q2 ≤ q1 ∧ splitB (chkEds R q2 != (0 : Int)) (joinL R A B = [] ∧ chkEds R q2 = joinE R A B ∧ True) (List.flatten [A, B] = joinL R A B ∧ (0 : Int) = joinE R A B ∧ True))) := by
  kernel_rfl
end Go.Sx

/- Contracts. -/
namespace Go.Sx
open U
theorem ed_fits {L : List Ed} (h : ∀ x ∈ L, -20000000 ≤ x.2.2.1 ∧ x.2.2.1 ≤ 20000000) : ∀ x ∈ L, fits .i64 x.2.2.1 := fun x hx => by
  have := h x hx
  simp only [fits]; omega
theorem eds_bd {L : List Ed} (h : EdsIn L) : ∀ x ∈ L, -20000000 ≤ x.2.2.1 ∧ x.2.2.1 ≤ 20000000 := fun x hx => by
  have := h.2 x hx
  omega
theorem so196 : Sp1 196 sp196 := by
  refine ⟨fun vs ps r h hp => ?_, Proofs.Tryz.f196, _, by kernel_rfl, rfl, by kernel_rfl⟩
  simp only [sp196] at h
  split at h
  · cases h; exact grow1 _ (hp _ (by simp)) (hp _ (by simp))
  · cases h
theorem flat_succ {l : List (List Ed)} {g : Nat} (h : g < l.length) : flatTo l (g + 1) = flatTo l g ++ l.getD g [] := by
  unfold flatTo
  rw [List.take_succ_eq_append_getElem h, List.flatten_append, getD_of h]
  simp
theorem flat_len (l : List (List Ed)) (i : Nat) : (flatTo l i).length ≤ l.flatten.length := by
  have h : l.flatten = flatTo l i ++ (l.drop i).flatten := by
    unfold flatTo
    rw [← List.flatten_append, List.take_append_drop]
  rw [h, List.length_append]
  omega
theorem fn157 (l : List (List Ed)) (hl : l.length ≤ 1000) (hf : l.flatten.length ≤ 1000000) : Fn P1 gl1 157 [.one (.sl (.sl edT) l)] (.val (.one (.frs edT l.flatten))) true := by
  refine Fn.flat ?_ rfl
  refine fn_of false [(196, sp196)] [] h157 0 Proofs.Tryz.f157 ⟨so196, trivial⟩ trivial (by kernel_rfl) rfl (by kernel_rfl) rfl rfl rfl ?_
  rw [vc157]
  try simp only [splitB_iff, -eq_self]
  have hle : ∀ i, (flatTo l i).length ≤ 1000000 := fun i => Nat.le_trans (flat_len l i) hf
  simp only [eq_self, true_and, and_true, and_self]
  refine ⟨⟨0, Nat.zero_le _, rfl, by simp [flatTo]⟩, fun g hg => ⟨fun hlt => ?_, fun hge => ?_⟩⟩
  · have hlt' : g < l.length := by have := of_decide_eq_true hlt; omega
    have h1 := hle (g + 1)
    have h2 := flat_succ hlt'
    have h3 : (flatTo l (g + 1)).length = (flatTo l g).length + (l.getD g []).length := by rw [h2, List.length_append]
    exact ⟨by omega, by simp only [fits]; omega, by simp only [fits]; omega, g + 1, hlt', by omega, by omega, by rw [h3]; omega⟩
  · have := hle g
    refine ⟨by omega, by omega, ⟨0, Nat.zero_le _, rfl, by simp [flatTo]⟩, fun j hj => ⟨fun hjl => ?_, fun hjg => ?_⟩⟩
    · have hlt' : j < l.length := by have := of_decide_eq_true hjl; omega
      have h1 := hle (j + 1)
      have h2 := flat_succ hlt'
      have h3 : (flatTo l (j + 1)).length = (flatTo l j).length + (l.getD j []).length := by rw [h2, List.length_append]
      exact ⟨by omega, by simp only [room]; omega, by simp only [fits]; omega, j + 1, hlt', by omega, by omega, h2.symm⟩
    · have hj' : j = l.length := by have := of_decide_eq_false hjg; have : j ≤ l.length := hj; omega
      rw [hj']
      unfold flatTo
      rw [List.take_length]
theorem so157_ : SpecOk P1 gl1 157 sp157 := by
  intro vs ps r h hp
  simp only [sp157] at h
  split at h
  · cases h; exact fn157 _ (hp _ (.head _)) (hp _ (.tail _ (.head _)))
  · cases h
theorem so157 : Sp1 157 sp157 := ⟨so157_, Proofs.Tryz.f157, _, by kernel_rfl, rfl, by kernel_rfl⟩
theorem fn83 (R : List Rl) (A B : List Ed) (hl : R.length ≤ 1000000000) (hR : ∀ r ∈ R, r.2.2.length ≤ 1000000) (hA : A.length ≤ 100000) (hB : B.length ≤ 100000) : Fn P1 gl1 83 [.one (.sl rlT R), .one (.sl edT A), .one (.sl edT B)] (.tup [.one (.frs edT (joinL R A B)), iV (joinE R A B)]) true := by
  refine Fn.flat ?_ rfl
  refine fn_of false [(152, sp152), (107, sp107), (106, sp106), (157, sp157), (43, sp43)] [fb156] h0 3 Proofs.Tryz.f83 ⟨so152, so107, so106, so157, so43, trivial⟩ ⟨⟨by kernel_rfl, by kernel_rfl, _, rfl, by kernel_rfl⟩, trivial⟩ (by kernel_rfl) rfl (by kernel_rfl) rfl rfl rfl ?_
  rw [vc83]
  try simp only [splitB_iff, -eq_self]
  have hc : first [first [chkEds R A, chkEds R B], whenE (decide (16 < (A.length : Int) + (B.length : Int))) 5] = joinC R A B := rfl
  have hfl : List.flatten [A, B] = A ++ B := by simp
  simp only [and_true, hc, hfl, List.length_append]
  refine ⟨hl, hR, by omega, by omega, by simp only [fits]; omega, by decide, fun h => ?_, fun h => ?_⟩
  · have h' : joinC R A B ≠ 0 := by simpa using h
    have e : joinE R A B = joinC R A B := by unfold joinE; rw [if_pos h']
    unfold joinL
    rw [e, if_neg h']
    exact ⟨rfl, rfl⟩
  · have h' : joinC R A B = 0 := by simpa using h
    have e : joinE R A B = chkEds R (A ++ B) := by unfold joinE; rw [if_neg (by rw [h']; decide)]
    unfold joinL
    rw [e]
    refine ⟨by decide, by omega, hl, hR, by omega, fun h2 => ?_, fun h2 => ?_⟩
    · have h2' : chkEds R (A ++ B) ≠ 0 := by simpa using h2
      rw [if_neg h2']
      exact ⟨rfl, rfl⟩
    · have h2' : chkEds R (A ++ B) = 0 := by simpa using h2
      rw [if_pos h2', h2']
      exact ⟨rfl, rfl⟩
theorem so83_ : SpecOk P1 gl1 83 sp83 := by
  intro vs ps r h hp
  simp only [sp83] at h
  split at h
  · cases h; exact fn83 _ _ _ (hp _ (.head _)) (hp _ (.tail _ (.head _))) (hp _ (.tail _ (.tail _ (.head _)))) (hp _ (.tail _ (.tail _ (.tail _ (.head _)))))
  · cases h; exact Fn.args (fn83 _ _ [] (hp _ (.head _)) (hp _ (.tail _ (.head _))) (hp _ (.tail _ (.tail _ (.head _)))) (hp _ (.tail _ (.tail _ (.tail _ (.head _)))))) fun H vs d => by
      obtain ⟨v0, r0, rfl, h0, v1, r1, rfl, h1, v2, r2, rfl, h2, hz⟩ := d
      exact ⟨_, _, rfl, h0, _, _, rfl, h1, _, _, rfl, nil_sl h2, hz⟩
  · cases h
theorem so83 : Sp1 83 sp83 := ⟨so83_, Proofs.Tryz.f83, _, by kernel_rfl, rfl, by kernel_rfl⟩

end Go.Sx

/- Plain functions and hints. -/
namespace Go.Sx
open U
end Go.Sx
namespace Go.Sx
open U
def sp46 : FSpec := ⟨fun vs => match vs with
  | [.one (.sl (.sl (.pair .str (.pair (.int .i64) (.pair (.int .i64) (.int .i64))))) B)] => some ([List.length B ≤ 1000000, ∀ x ∈ (show List (List Tk) from B), List.length x ≤ 1000000], .val (.one (.sl (.sl tkT) B)))
  | _ => none, false⟩
def sp45 : FSpec := ⟨fun vs => match vs with
  | [.one (.sl (.sl (.pair .str (.pair (.int .i64) (.pair (.int .i64) (.int .i64))))) a), .one (.sl (.sl (.pair .str (.pair (.int .i64) (.pair (.int .i64) (.int .i64))))) b)] => some ([List.length a ≤ 1000000, ∀ x ∈ (show List (List Tk) from a), List.length x ≤ 1000000], .val (bV (decide ((show List (List Tk) from a) = b))))
  | [.one (.sl (.sl (.pair .str (.pair (.int .i64) (.pair (.int .i64) (.int .i64))))) a), .one .nils] => some ([List.length a ≤ 1000000, ∀ x ∈ (show List (List Tk) from a), List.length x ≤ 1000000], .val (bV (decide ((show List (List Tk) from a) = []))))
  | _ => none, true⟩
end Go.Sx

/- What the engine asks, written out (printed by a program). -/
namespace Go.Sx
open U
theorem vc46 (B : List (List Tk)) : exF (env false [(48, sp48.frz)] []) (hCopy 46 (.sl tkT)) 0 46 Proofs.Tryz.f46 [.one (.sl (.sl tkT) B)] (.val (.one (.sl (.sl tkT) B))) = (let q0 := (↑(List.length B) : Int); (∃ (g : Nat), Nat.le g (List.length B) ∧ (0 : Int) = (↑g : Int) ∧ q0 = q0 ∧ B = B ∧ List.take g B = [] ∧ True) ∧ ∀ (g : Nat), Nat.le g (List.length B) → splitB (decide ((↑g : Int) < q0)) (((0 : Int) ≤ (↑g : Int) ∧ (↑g : Int) < q0) ∧ List.length (List.getD B g []) ≤ (1000000 : Nat) ∧ room (List.length (List.take g B) + (1 : Nat)) (24 : Nat) ∧ fits IntKind.i64 ((↑g : Int) + (1 : Int)) ∧ ∃ (g' : Nat), Nat.le g' (List.length B) ∧ List.length B - g' < List.length B - g ∧ (↑g : Int) + (1 : Int) = (↑g' : Int) ∧ q0 = q0 ∧ B = B ∧ List.take g B ++ [List.getD B g []] = List.take g' B ∧ True) (List.take g B = B ∧ True)) := by
  kernel_rfl
theorem vc45 (a b : List (List Tk)) : exF (env false [(47, sp47)] []) (hSame 45 (.sl tkT) []) 0 45 Proofs.Tryz.f45 [.one (.sl (.sl tkT) a), .one (.sl (.sl tkT) b)] (.val (bV (decide (a = b)))) = (splitB ((↑(List.length a) : Int) != (↑(List.length b) : Int)) (false = decide (a = b) ∧ True) ((∃ (g : Nat), (g ≤ List.length a ∧ ∀ (j : Nat), j < g → List.getD a j [] = List.getD b j []) ∧ (0 : Int) = (↑g : Int) ∧ a = a ∧ b = b ∧ True) ∧ ∀ (g : Nat), (g ≤ List.length a ∧ ∀ (j : Nat), j < g → List.getD a j [] = List.getD b j []) → splitB (decide ((↑g : Int) < (↑(List.length a) : Int))) (((0 : Int) ≤ (↑g : Int) ∧ (↑g : Int) < (↑(List.length a) : Int)) ∧ ((0 : Int) ≤ (↑g : Int) ∧ (↑g : Int) < (↑(List.length b) : Int)) ∧ List.length (List.getD a g []) ≤ (1000000 : Nat) ∧ splitB (!decide (List.getD a g [] = List.getD b g [])) (false = decide (a = b) ∧ True) (fits IntKind.i64 ((↑g : Int) + (1 : Int)) ∧ ∃ (g' : Nat), (g' ≤ List.length a ∧ ∀ (j : Nat), j < g' → List.getD a j [] = List.getD b j []) ∧ List.length a - g' < List.length a - g ∧ (↑g : Int) + (1 : Int) = (↑g' : Int) ∧ a = a ∧ b = b ∧ True)) (true = decide (a = b) ∧ True))) := by
  kernel_rfl
end Go.Sx
