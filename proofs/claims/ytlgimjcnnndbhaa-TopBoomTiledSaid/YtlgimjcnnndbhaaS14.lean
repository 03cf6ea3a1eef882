/- A verified symbolic run of functions, part 14: lemmas, no claim of their own. -/
import Derived.Test.YtlgimjcnnndbhaaS13
namespace Go.Sx
open U
theorem vc37 (a d : Int) : exF (env true [] []) h0 0 37 Proofs.Try.f37 [iV a, iV d] (.val (iV (a / d))) = ((d ≠ (0 : Int) ∧ fits IntKind.i64 (Int.tdiv a d)) ∧ splitB (decide (a < IntKind.wrap IntKind.i64 (Int.tdiv a d * d))) (IntKind.wrap IntKind.i64 (Int.tdiv a d - (1 : Int)) = a / d ∧ True) (Int.tdiv a d = a / d ∧ True)) := by
  kernel_rfl
theorem vc40h (nm : List UInt8) (w h : Int) (s : List Nat) (rows : List (List Nat)) : exFr (env false [] []) h42 0 40 Proofs.Try.f40 [picV nm w h s, .one (.sl rwT rows)] (.val (picV nm (List.length (List.getD rows 0 [])) (List.length rows) (List.flatten rows))) = (let q0 := (List.length (List.getD rows (0 : Nat) [])); let q1 := (List.length rows); let q4 := ((↑q0 : Int) * (↑q1 : Int)); ((0 : Int) ≤ (0 : Int) ∧ (0 : Int) < (↑q1 : Int)) ∧ fits IntKind.i64 q4 ∧ (0 : Int) ≤ (↑q0 : Int) * (↑q1 : Int) ∧ room (Int.toNat q4) (4 : Nat) ∧ (∃ (g : Nat), Nat.le g q1 ∧ (0 : Int) = (↑g : Int) ∧ (↑q1 : Int) = (↑q1 : Int) ∧ rows = rows ∧ List.replicate (Int.toNat q4) (0 : Nat) = madeTo rows q0 q1 g ∧ nm = nm ∧ (↑q0 : Int) = (↑q0 : Int) ∧ (↑q1 : Int) = (↑q1 : Int) ∧ nilB = [] ∧ (0 : Int) = (0 : Int) ∧ (0 : Int) = (0 : Int) ∧ nm = nm ∧ w = w ∧ h = h ∧ s = s ∧ True) ∧ ∀ (g : Nat), let q2 := (madeTo rows q0 q1 g); let q3 := ((↑g : Int) * (↑q0 : Int)); let q5 := (↑(List.length q2) : Int); Nat.le g q1 → splitB (decide ((↑g : Int) < (↑q1 : Int))) (((0 : Int) ≤ (↑g : Int) ∧ (↑g : Int) < (↑q1 : Int)) ∧ fits IntKind.i64 q3 ∧ ((0 : Int) ≤ (↑g : Int) * (↑q0 : Int) ∧ (↑g : Int) * (↑q0 : Int) ≤ q5 ∧ q5 ≤ q5) ∧ Int.toNat q3 + (List.length q2 - Int.toNat q3) ≤ List.length q2 ∧ fits IntKind.i64 ((↑g : Int) + (1 : Int)) ∧ ∃ (g' : Nat), Nat.le g' q1 ∧ List.length rows - g' < List.length rows - g ∧ (↑g : Int) + (1 : Int) = (↑g' : Int) ∧ (↑q1 : Int) = (↑q1 : Int) ∧ rows = rows ∧ copyL (Int.toNat q3) (List.length q2 - Int.toNat q3) q2 (List.getD rows g []) = madeTo rows q0 q1 g' ∧ nm = nm ∧ (↑q0 : Int) = (↑q0 : Int) ∧ (↑q1 : Int) = (↑q1 : Int) ∧ nilB = [] ∧ (0 : Int) = (0 : Int) ∧ (0 : Int) = (0 : Int) ∧ nm = nm ∧ w = w ∧ h = h ∧ s = s ∧ True) (nm = nm ∧ (↑q0 : Int) = (↑q0 : Int) ∧ (↑q1 : Int) = (↑q1 : Int) ∧ madeTo rows q0 q1 g = List.flatten rows ∧ True)) := by
  kernel_rfl
theorem vc8h (nm : List UInt8) (w h : Int) (s : List Nat) : exFr (env false [(34, sp34)] []) h0 0 8 Proofs.Try.f8 [picV nm w h s] (.val (picV nm w h s)) = (List.length s ≤ (1000000 : Nat) ∧ nm = nm ∧ w = w ∧ h = h ∧ s = s ∧ True) := by
  kernel_rfl
theorem vc7 (nm : List UInt8) (w h : Int) (s : List Nat) (nm2 : List UInt8) (s2 : List Nat) : exFr (env false [(29, sp29), (28, sp28), (30, sp30), (33, sp33), (73, sp73)] [fb31, fb32]) h7 3 7 Proofs.Try.f7 [picV nm w h s, picV nm2 w h s2] (.tup [picV nm w h (sumL s s2), iV 0]) = (let q2 := (↑(List.length s) : Int); List.length s ≤ (1000000 : Nat) ∧ List.length s2 ≤ (1000000 : Nat) ∧ (2 : Nat) ≤ (1000000000 : Nat) ∧ splitB (first [chkPic nm w h s, chkPic nm2 w h s2] != (0 : Int)) ([] = nm ∧ (0 : Int) = w ∧ (0 : Int) = h ∧ sumL s s2 = [] ∧ first [chkPic nm w h s, chkPic nm2 w h s2] = (0 : Int) ∧ True) (splitB (!eqT (Ty.pair (Ty.int IntKind.i64) (Ty.int IntKind.i64)) (w, h) (w, h)) ([] = nm ∧ (0 : Int) = w ∧ (0 : Int) = h ∧ sumL s s2 = [] ∧ (2 : Int) = (0 : Int) ∧ True) ((∃ (g : Nat), Nat.le g (List.length s) ∧ (0 : Int) = (↑g : Int) ∧ q2 = q2 ∧ s = s ∧ (0 : Int) = (0 : Int) ∧ nm = nm ∧ w = w ∧ h = h ∧ (tab g fun (j : Nat) => smp (six (List.getD s j (0 : Nat)) + six (List.getD s2 j (0 : Nat)))) = [] ∧ nilB = [] ∧ (0 : Int) = (0 : Int) ∧ (0 : Int) = (0 : Int) ∧ nm = nm ∧ w = w ∧ h = h ∧ s = s ∧ [chkPic nm w h s, chkPic nm2 w h s2] = [chkPic nm w h s, chkPic nm2 w h s2] ∧ nilB = [] ∧ (0 : Int) = (0 : Int) ∧ (0 : Int) = (0 : Int) ∧ nm2 = nm2 ∧ w = w ∧ h = h ∧ s2 = s2 ∧ nm = nm ∧ w = w ∧ h = h ∧ s = s ∧ True) ∧ ∀ (g : Nat), let q0 := (List.getD s2 g (0 : Nat)); let q1 := (List.getD s g (0 : Nat)); Nat.le g (List.length s) → splitB (decide ((↑g : Int) < q2)) (((0 : Int) ≤ (↑g : Int) ∧ (↑g : Int) < q2) ∧ chkS q1 = (0 : Int) ∧ ((0 : Int) ≤ (↑g : Int) ∧ (↑g : Int) < (↑(List.length s2) : Int)) ∧ chkS q0 = (0 : Int) ∧ fits IntKind.i64 (six q1 + six q0) ∧ splitB (bif decide (six q1 + six q0 < (-16384 : Int)) then true else decide ((16384 : Int) < six q1 + six q0)) ([] = nm ∧ (0 : Int) = w ∧ (0 : Int) = h ∧ sumL s s2 = [] ∧ (4 : Int) = (0 : Int) ∧ True) (((-8388608 : Int) ≤ six q1 + six q0 ∧ six q1 + six q0 ≤ (8388608 : Int)) ∧ room (List.length (tab g fun (j : Nat) => smp (six (List.getD s j (0 : Nat)) + six (List.getD s2 j (0 : Nat)))) + (1 : Nat)) (4 : Nat) ∧ fits IntKind.i64 ((↑g : Int) + (1 : Int)) ∧ ∃ (g' : Nat), Nat.le g' (List.length s) ∧ List.length s - g' < List.length s - g ∧ (↑g : Int) + (1 : Int) = (↑g' : Int) ∧ q2 = q2 ∧ s = s ∧ (0 : Int) = (0 : Int) ∧ nm = nm ∧ w = w ∧ h = h ∧ ((tab g fun (j : Nat) => smp (six (List.getD s j (0 : Nat)) + six (List.getD s2 j (0 : Nat)))) ++ [smp (six q1 + six q0)] = tab g' fun (j : Nat) => smp (six (List.getD s j (0 : Nat)) + six (List.getD s2 j (0 : Nat)))) ∧ nilB = [] ∧ (0 : Int) = (0 : Int) ∧ (0 : Int) = (0 : Int) ∧ nm = nm ∧ w = w ∧ h = h ∧ s = s ∧ [chkPic nm w h s, chkPic nm2 w h s2] = [chkPic nm w h s, chkPic nm2 w h s2] ∧ nilB = [] ∧ (0 : Int) = (0 : Int) ∧ (0 : Int) = (0 : Int) ∧ nm2 = nm2 ∧ w = w ∧ h = h ∧ s2 = s2 ∧ nm = nm ∧ w = w ∧ h = h ∧ s = s ∧ True)) (nm = nm ∧ w = w ∧ h = h ∧ (tab g fun (j : Nat) => smp (six (List.getD s j (0 : Nat)) + six (List.getD s2 j (0 : Nat)))) = sumL s s2 ∧ (0 : Int) = (0 : Int) ∧ True)))) := by
  kernel_rfl
theorem vc9 (nm : List UInt8) (w h : Int) (s : List Nat) : exFr (env false [(29, sp29), (35, sp35), (28, sp28), (37, sp37), (33, sp33), (73, sp73)] [fb31, fb36]) h9 3 9 Proofs.Try.f9 [picV nm w h s, iV (-1), iV 1] (.tup [picV nm w h (negL s), iV 0]) = (let q2 := (↑(List.length s) : Int); List.length s ≤ (1000000 : Nat) ∧ (3 : Nat) ≤ (1000000000 : Nat) ∧ splitB (first [chkPic nm w h s, within (-1 : Int) (-1000 : Int) (1000 : Int), within (1 : Int) (1 : Int) (1000 : Int)] != (0 : Int)) ([] = nm ∧ (0 : Int) = w ∧ (0 : Int) = h ∧ negL s = [] ∧ first [chkPic nm w h s, within (-1 : Int) (-1000 : Int) (1000 : Int), within (1 : Int) (1 : Int) (1000 : Int)] = (0 : Int) ∧ True) ((∃ (g : Nat), Nat.le g (List.length s) ∧ (0 : Int) = (↑g : Int) ∧ q2 = q2 ∧ s = s ∧ (0 : Int) = (0 : Int) ∧ nm = nm ∧ w = w ∧ h = h ∧ (tab g fun (j : Nat) => smp (-six (List.getD s j (0 : Nat)))) = [] ∧ nilB = [] ∧ (0 : Int) = (0 : Int) ∧ (0 : Int) = (0 : Int) ∧ nm = nm ∧ w = w ∧ h = h ∧ s = s ∧ [chkPic nm w h s, within (-1 : Int) (-1000 : Int) (1000 : Int), within (1 : Int) (1 : Int) (1000 : Int)] = [chkPic nm w h s, within (-1 : Int) (-1000 : Int) (1000 : Int), within (1 : Int) (1 : Int) (1000 : Int)] ∧ nilB = [] ∧ (0 : Int) = (0 : Int) ∧ (0 : Int) = (0 : Int) ∧ (1 : Int) = (1 : Int) ∧ (-1 : Int) = (-1 : Int) ∧ nm = nm ∧ w = w ∧ h = h ∧ s = s ∧ True) ∧ ∀ (g : Nat), let q1 := (List.getD s g (0 : Nat)); let q0 := ((2 : Int) * six q1 * (-1 : Int) + (1 : Int)); Nat.le g (List.length s) → splitB (decide ((↑g : Int) < q2)) (((0 : Int) ≤ (↑g : Int) ∧ (↑g : Int) < q2) ∧ chkS q1 = (0 : Int) ∧ fits IntKind.i64 ((2 : Int) * six q1) ∧ fits IntKind.i64 ((2 : Int) * six q1 * (-1 : Int)) ∧ fits IntKind.i64 q0 ∧ fits IntKind.i64 (2 : Int) ∧ ((-4000000000 : Int) ≤ (2 : Int) * six q1 * (-1 : Int) + (1 : Int) ∧ (2 : Int) * six q1 * (-1 : Int) + (1 : Int) ≤ (4000000000 : Int)) ∧ ((0 : Int) < (2 : Int) ∧ (2 : Int) ≤ (4000000000 : Int)) ∧ splitB (bif decide (q0 / (2 : Int) < (-16384 : Int)) then true else decide ((16384 : Int) < q0 / (2 : Int))) ([] = nm ∧ (0 : Int) = w ∧ (0 : Int) = h ∧ negL s = [] ∧ (4 : Int) = (0 : Int) ∧ True) (((-8388608 : Int) ≤ q0 / (2 : Int) ∧ q0 / (2 : Int) ≤ (8388608 : Int)) ∧ room (List.length (tab g fun (j : Nat) => smp (-six (List.getD s j (0 : Nat)))) + (1 : Nat)) (4 : Nat) ∧ fits IntKind.i64 ((↑g : Int) + (1 : Int)) ∧ ∃ (g' : Nat), Nat.le g' (List.length s) ∧ List.length s - g' < List.length s - g ∧ (↑g : Int) + (1 : Int) = (↑g' : Int) ∧ q2 = q2 ∧ s = s ∧ (0 : Int) = (0 : Int) ∧ nm = nm ∧ w = w ∧ h = h ∧ ((tab g fun (j : Nat) => smp (-six (List.getD s j (0 : Nat)))) ++ [smp (q0 / (2 : Int))] = tab g' fun (j : Nat) => smp (-six (List.getD s j (0 : Nat)))) ∧ nilB = [] ∧ (0 : Int) = (0 : Int) ∧ (0 : Int) = (0 : Int) ∧ nm = nm ∧ w = w ∧ h = h ∧ s = s ∧ [chkPic nm w h s, within (-1 : Int) (-1000 : Int) (1000 : Int), within (1 : Int) (1 : Int) (1000 : Int)] = [chkPic nm w h s, within (-1 : Int) (-1000 : Int) (1000 : Int), within (1 : Int) (1 : Int) (1000 : Int)] ∧ nilB = [] ∧ (0 : Int) = (0 : Int) ∧ (0 : Int) = (0 : Int) ∧ (1 : Int) = (1 : Int) ∧ (-1 : Int) = (-1 : Int) ∧ nm = nm ∧ w = w ∧ h = h ∧ s = s ∧ True)) (nm = nm ∧ w = w ∧ h = h ∧ (tab g fun (j : Nat) => smp (-six (List.getD s j (0 : Nat)))) = negL s ∧ (0 : Int) = (0 : Int) ∧ True))) := by
  kernel_rfl
theorem vc11 (nm : List UInt8) (w h : Int) (s : List Nat) (c0 c1 r0 r1 : Int) : exFr (env false [(29, sp29), (38, sp38), (28, sp28), (42, sp42.frz), (41, sp41.frz), (40, sp40)] []) h7 0 11 Proofs.Try.f11 [picV nm w h s, spV c0 c1, spV r0 r1] (.tup [picV nm (c1 - c0) (r1 - r0) (crpI w h s c0 c1 r0 r1), iV 0]) = (let q1 := (List.take (Int.toNat r1 - Int.toNat r0) (List.drop (Int.toNat r0) (rowsI w h s))); let q0 := (List.map (cutI c0 c1) q1); let q2 := (List.getD q0 (0 : Nat) []); List.length s ≤ (1000000 : Nat) ∧ (3 : Nat) ≤ (1000000000 : Nat) ∧ splitB (first [chkPic nm w h s, spanE c0 c1 w, spanE r0 r1 h] != (0 : Int)) ([] = nm ∧ (0 : Int) = c1 - c0 ∧ (0 : Int) = r1 - r0 ∧ crpI w h s c0 c1 r0 r1 = [] ∧ first [chkPic nm w h s, spanE c0 c1 w, spanE r0 r1 h] = (0 : Int) ∧ True) ((∃ (g : Nat), True ∧ (c0, c1) = (c0, c1) ∧ [chkPic nm w h s, spanE c0 c1 w, spanE r0 r1 h] = [chkPic nm w h s, spanE c0 c1 w, spanE r0 r1 h] ∧ nilB = [] ∧ (0 : Int) = (0 : Int) ∧ (0 : Int) = (0 : Int) ∧ r0 = r0 ∧ r1 = r1 ∧ nm = nm ∧ w = w ∧ h = h ∧ s = s ∧ True) ∧ ∀ (g : Nat), True → ((0 : Int) ≤ w ∧ w ≤ (1000 : Int)) ∧ ((0 : Int) ≤ h ∧ h ≤ (1000 : Int)) ∧ h * w ≤ (↑(List.length s) : Int) ∧ ((0 : Int) ≤ r0 ∧ r0 ≤ r1 ∧ r1 ≤ (↑(List.length (rowsI w h s)) : Int)) ∧ List.length q1 ≤ (1000 : Nat) ∧ ((0 : Int) ≤ c0 ∧ c0 ≤ c1) ∧ (∀ (r : List Nat), r ∈ List.take (Int.toNat r1 - Int.toNat r0) (List.drop (Int.toNat r0) (rowsI w h s)) → c1 ≤ (↑(List.length r) : Int)) ∧ ((0 : Nat) < List.length q0 ∧ List.length q0 ≤ (1000 : Nat)) ∧ RowsOk (List.length q2) q0 ∧ List.length q2 ≤ (1000 : Nat) ∧ nm = nm ∧ (↑(List.length q2) : Int) = c1 - c0 ∧ (↑(List.length q0) : Int) = r1 - r0 ∧ List.flatten q0 = crpI w h s c0 c1 r0 r1 ∧ (0 : Int) = (0 : Int) ∧ True)) := by
  kernel_rfl
theorem vc12 (nm : List UInt8) (w h : Int) (s : List Nat) (nm2 : List UInt8) (w2 : Int) (s2 : List Nat) : exFr (env false [(29, sp29), (43, sp43), (28, sp28), (45, sp45), (44, sp44.frz), (40, sp40)] []) h7 0 12 Proofs.Try.f12 [picV nm w h s, picV nm2 w2 h s2] (.tup [picV nm (w + w2) h (besI w w2 h s s2), iV 0]) = (let q0 := (decide ((64 : Int) < w + w2)); List.length s ≤ (1000000 : Nat) ∧ List.length s2 ≤ (1000000 : Nat) ∧ (2 : Nat) ≤ (1000000000 : Nat) ∧ splitB (first [chkPic nm w h s, chkPic nm2 w2 h s2] != (0 : Int)) ([] = nm ∧ (0 : Int) = w + w2 ∧ (0 : Int) = h ∧ besI w w2 h s s2 = [] ∧ first [chkPic nm w h s, chkPic nm2 w2 h s2] = (0 : Int) ∧ True) (fits IntKind.i64 (w + w2) ∧ (2 : Nat) ≤ (1000000000 : Nat) ∧ splitB (first [whenE (h != h) (2 : Int), whenE q0 (5 : Int)] != (0 : Int)) ([] = nm ∧ (0 : Int) = w + w2 ∧ (0 : Int) = h ∧ besI w w2 h s s2 = [] ∧ first [whenE (h != h) (2 : Int), whenE q0 (5 : Int)] = (0 : Int) ∧ True) ((∃ (g : Nat), Nat.le g (Int.toNat h) ∧ (0 : Int) = (↑g : Int) ∧ h = h ∧ (0 : Int) = (0 : Int) ∧ (tab g fun (y : Nat) => List.flatten [rowI w s (↑y : Int), rowI w2 s2 (↑y : Int)]) = [] ∧ [whenE (h != h) (2 : Int), whenE q0 (5 : Int)] = [whenE (h != h) (2 : Int), whenE q0 (5 : Int)] ∧ [chkPic nm w h s, chkPic nm2 w2 h s2] = [chkPic nm w h s, chkPic nm2 w2 h s2] ∧ nilB = [] ∧ (0 : Int) = (0 : Int) ∧ (0 : Int) = (0 : Int) ∧ nm2 = nm2 ∧ w2 = w2 ∧ h = h ∧ s2 = s2 ∧ nm = nm ∧ w = w ∧ h = h ∧ s = s ∧ True) ∧ ∀ (g : Nat), let q1 := ((0 : Int) ≤ (↑g : Int) ∧ (↑g : Int) ≤ (1000 : Int)); Nat.le g (Int.toNat h) → splitB (decide ((↑g : Int) < h)) (((0 : Int) ≤ w ∧ w ≤ (1000 : Int)) ∧ q1 ∧ ((↑g : Int) + (1 : Int)) * w ≤ (↑(List.length s) : Int) ∧ ((0 : Int) ≤ w2 ∧ w2 ≤ (1000 : Int)) ∧ q1 ∧ ((↑g : Int) + (1 : Int)) * w2 ≤ (↑(List.length s2) : Int) ∧ (2 : Nat) ≤ (1000 : Nat) ∧ List.length (List.flatten [rowI w s (↑g : Int), rowI w2 s2 (↑g : Int)]) ≤ (1000000 : Nat) ∧ room (List.length (tab g fun (y : Nat) => List.flatten [rowI w s (↑y : Int), rowI w2 s2 (↑y : Int)]) + (1 : Nat)) (24 : Nat) ∧ fits IntKind.i64 ((↑g : Int) + (1 : Int)) ∧ ∃ (g' : Nat), Nat.le g' (Int.toNat h) ∧ Int.toNat h - g' < Int.toNat h - g ∧ (↑g : Int) + (1 : Int) = (↑g' : Int) ∧ h = h ∧ (0 : Int) = (0 : Int) ∧ ((tab g fun (y : Nat) => List.flatten [rowI w s (↑y : Int), rowI w2 s2 (↑y : Int)]) ++ [List.flatten [rowI w s (↑g : Int), rowI w2 s2 (↑g : Int)]] = tab g' fun (y : Nat) => List.flatten [rowI w s (↑y : Int), rowI w2 s2 (↑y : Int)]) ∧ [whenE (h != h) (2 : Int), whenE q0 (5 : Int)] = [whenE (h != h) (2 : Int), whenE q0 (5 : Int)] ∧ [chkPic nm w h s, chkPic nm2 w2 h s2] = [chkPic nm w h s, chkPic nm2 w2 h s2] ∧ nilB = [] ∧ (0 : Int) = (0 : Int) ∧ (0 : Int) = (0 : Int) ∧ nm2 = nm2 ∧ w2 = w2 ∧ h = h ∧ s2 = s2 ∧ nm = nm ∧ w = w ∧ h = h ∧ s = s ∧ True) (((0 : Nat) < List.length (tab g fun (y : Nat) => List.flatten [rowI w s (↑y : Int), rowI w2 s2 (↑y : Int)]) ∧ List.length (tab g fun (y : Nat) => List.flatten [rowI w s (↑y : Int), rowI w2 s2 (↑y : Int)]) ≤ (1000 : Nat)) ∧ RowsOk (List.length (List.getD (tab g fun (y : Nat) => List.flatten [rowI w s (↑y : Int), rowI w2 s2 (↑y : Int)]) (0 : Nat) [])) (tab g fun (y : Nat) => List.flatten [rowI w s (↑y : Int), rowI w2 s2 (↑y : Int)]) ∧ List.length (List.getD (tab g fun (y : Nat) => List.flatten [rowI w s (↑y : Int), rowI w2 s2 (↑y : Int)]) (0 : Nat) []) ≤ (1000 : Nat) ∧ nm = nm ∧ (↑(List.length (List.getD (tab g fun (y : Nat) => List.flatten [rowI w s (↑y : Int), rowI w2 s2 (↑y : Int)]) (0 : Nat) [])) : Int) = w + w2 ∧ (↑(List.length (tab g fun (y : Nat) => List.flatten [rowI w s (↑y : Int), rowI w2 s2 (↑y : Int)])) : Int) = h ∧ List.flatten (tab g fun (y : Nat) => List.flatten [rowI w s (↑y : Int), rowI w2 s2 (↑y : Int)]) = besI w w2 h s s2 ∧ (0 : Int) = (0 : Int) ∧ True)))) := by
  kernel_rfl
theorem vc13 (nm : List UInt8) (w h : Int) (s : List Nat) (nm2 : List UInt8) (h2 : Int) (s2 : List Nat) : exFr (env false [(29, sp29), (43, sp43), (28, sp28), (42, sp42), (40, sp40)] []) h7 0 13 Proofs.Try.f13 [picV nm w h s, picV nm2 w h2 s2] (.tup [picV nm w (h + h2) (aboI w h h2 s s2), iV 0]) = (let q0 := (rowsI w h s ++ rowsI w h2 s2); let q1 := (List.getD q0 (0 : Nat) []); List.length s ≤ (1000000 : Nat) ∧ List.length s2 ≤ (1000000 : Nat) ∧ (2 : Nat) ≤ (1000000000 : Nat) ∧ splitB (first [chkPic nm w h s, chkPic nm2 w h2 s2] != (0 : Int)) ([] = nm ∧ (0 : Int) = w ∧ (0 : Int) = h + h2 ∧ aboI w h h2 s s2 = [] ∧ first [chkPic nm w h s, chkPic nm2 w h2 s2] = (0 : Int) ∧ True) (fits IntKind.i64 (h + h2) ∧ (2 : Nat) ≤ (1000000000 : Nat) ∧ splitB (first [whenE (w != w) (2 : Int), whenE (decide ((64 : Int) < h + h2)) (5 : Int)] != (0 : Int)) ([] = nm ∧ (0 : Int) = w ∧ (0 : Int) = h + h2 ∧ aboI w h h2 s s2 = [] ∧ first [whenE (w != w) (2 : Int), whenE (decide ((64 : Int) < h + h2)) (5 : Int)] = (0 : Int) ∧ True) (((0 : Int) ≤ w ∧ w ≤ (1000 : Int)) ∧ ((0 : Int) ≤ h ∧ h ≤ (1000 : Int)) ∧ h * w ≤ (↑(List.length s) : Int) ∧ ((0 : Int) ≤ w ∧ w ≤ (1000 : Int)) ∧ ((0 : Int) ≤ h2 ∧ h2 ≤ (1000 : Int)) ∧ h2 * w ≤ (↑(List.length s2) : Int) ∧ room (List.length (rowsI w h s) + List.length (rowsI w h2 s2)) (24 : Nat) ∧ ((0 : Nat) < List.length q0 ∧ List.length q0 ≤ (1000 : Nat)) ∧ RowsOk (List.length q1) q0 ∧ List.length q1 ≤ (1000 : Nat) ∧ nm = nm ∧ (↑(List.length q1) : Int) = w ∧ (↑(List.length q0) : Int) = h + h2 ∧ List.flatten q0 = aboI w h h2 s s2 ∧ (0 : Int) = (0 : Int) ∧ True))) := by
  kernel_rfl
theorem vc14 (nm : List UInt8) (w h : Int) (s : List Nat) : exF (env false [(29, sp29), (43, sp43), (28, sp28), (46, sp46), (40, sp40h)] []) h7 0 14 Proofs.Try.f14 [picV nm w h s] (.tup [.agg [.arr 2 pcT [fldP nm w h s 0, fldP nm w h s 1]], iV 0]) = (let q0 := (evI w h s (0 : Int)); let q1 := (evI w h s (1 : Int)); let q2 := (List.getD q0 (0 : Nat) []); let q3 := (List.getD q1 (0 : Nat) []); List.length s ≤ (1000000 : Nat) ∧ (2 : Nat) ≤ (1000000000 : Nat) ∧ splitB (first [chkPic nm w h s, whenE (h == (1 : Int)) (16 : Int)] != (0 : Int)) (List.replicate (2 : Nat) ([], (0 : Int), (0 : Int), []) = [fldP nm w h s (0 : Int), fldP nm w h s (1 : Int)] ∧ first [chkPic nm w h s, whenE (h == (1 : Int)) (16 : Int)] = (0 : Int) ∧ True) (((0 : Int) ≤ w ∧ w ≤ (1000 : Int)) ∧ ((0 : Int) ≤ h ∧ h ≤ (1000 : Int)) ∧ ((0 : Int) ≤ (0 : Int) ∧ (0 : Int) ≤ h) ∧ h * w ≤ (↑(List.length s) : Int) ∧ ((0 : Nat) < List.length q0 ∧ List.length q0 ≤ (1000 : Nat)) ∧ RowsOk (List.length q2) q0 ∧ List.length q2 ≤ (1000 : Nat) ∧ ((0 : Int) ≤ w ∧ w ≤ (1000 : Int)) ∧ ((0 : Int) ≤ h ∧ h ≤ (1000 : Int)) ∧ ((0 : Int) ≤ (1 : Int) ∧ (1 : Int) ≤ h) ∧ h * w ≤ (↑(List.length s) : Int) ∧ ((0 : Nat) < List.length q1 ∧ List.length q1 ≤ (1000 : Nat)) ∧ RowsOk (List.length q3) q1 ∧ List.length q3 ≤ (1000 : Nat) ∧ [(nm, (↑(List.length q2) : Int), (↑(List.length q0) : Int), List.flatten q0), (nm, (↑(List.length q3) : Int), (↑(List.length q1) : Int), List.flatten q1)] = [fldP nm w h s (0 : Int), fldP nm w h s (1 : Int)] ∧ (0 : Int) = (0 : Int) ∧ True)) := by
  kernel_rfl
theorem vc16 (nm : List UInt8) (w h : Int) (s : List Nat) (h2 : Int) (s2 : List Nat) : exFr (env false [(29, sp29), (28, sp28), (45, sp45), (40, sp40)] []) h7 0 16 Proofs.Try.f16 [picV nm w h s, picV nm w h2 s2] (.tup [picV nm w (h + h2) (wovI nm w h h2 s s2), iV 0]) = (let q2 := (nm, w, h2, s2); List.length s ≤ (1000000 : Nat) ∧ List.length s2 ≤ (1000000 : Nat) ∧ (2 : Nat) ≤ (1000000000 : Nat) ∧ splitB (first [chkPic nm w h s, chkPic nm w h2 s2] != (0 : Int)) ([] = nm ∧ (0 : Int) = w ∧ (0 : Int) = h + h2 ∧ wovI nm w h h2 s s2 = [] ∧ first [chkPic nm w h s, chkPic nm w h2 s2] = (0 : Int) ∧ True) (((bif w != w then true else decide (h < h2)) = false → fits IntKind.i64 (h2 + (1 : Int))) ∧ splitB (bif bif w != w then true else decide (h < h2) then true else decide (h2 + (1 : Int) < h)) ([] = nm ∧ (0 : Int) = w ∧ (0 : Int) = h + h2 ∧ wovI nm w h h2 s s2 = [] ∧ (2 : Int) = (0 : Int) ∧ True) (fits IntKind.i64 (h + h2) ∧ splitB (decide ((64 : Int) < h + h2)) ([] = nm ∧ (0 : Int) = w ∧ (0 : Int) = h + h2 ∧ wovI nm w h h2 s s2 = [] ∧ (5 : Int) = (0 : Int) ∧ True) (fits IntKind.i64 (h + h2) ∧ (∃ (g : Nat), Nat.le g (Int.toNat (h + h2)) ∧ (0 : Int) = (↑g : Int) ∧ h + h2 = h + h2 ∧ wovR (nm, w, h, s) q2 g = [] ∧ [(nm, w, h, s), q2] = [(nm, w, h, s), q2] ∧ [chkPic nm w h s, chkPic nm w h2 s2] = [chkPic nm w h s, chkPic nm w h2 s2] ∧ nilB = [] ∧ (0 : Int) = (0 : Int) ∧ (0 : Int) = (0 : Int) ∧ nm = nm ∧ w = w ∧ h2 = h2 ∧ s2 = s2 ∧ nm = nm ∧ w = w ∧ h = h ∧ s = s ∧ True) ∧ ∀ (g : Nat), let q0 := (List.getD [(nm, w, h, s), q2] (Int.toNat ((↑g : Int) % (2 : Int))) ([], (0 : Int), (0 : Int), [])); let q1 := (wovR (nm, w, h, s) q2 g); let q3 := (List.getD q1 (0 : Nat) []); Nat.le g (Int.toNat (h + h2)) → splitB (decide ((↑g : Int) < h + h2)) (((0 : Int) ≤ (↑g : Int) ∧ (0 : Int) < (2 : Int)) ∧ ((0 : Int) ≤ (↑g : Int) % (2 : Int) ∧ (↑g : Int) % (2 : Int) < (2 : Int)) ∧ Int.toNat ((↑g : Int) % (2 : Int)) < (2 : Nat) ∧ ((0 : Int) ≤ (↑g : Int) ∧ (0 : Int) < (2 : Int) ∧ fits IntKind.i64 ((↑g : Int) / (2 : Int))) ∧ ((0 : Int) ≤ q0.2.1 ∧ q0.2.1 ≤ (1000 : Int)) ∧ ((0 : Int) ≤ (↑g : Int) / (2 : Int) ∧ (↑g : Int) / (2 : Int) ≤ (1000 : Int)) ∧ ((↑g : Int) / (2 : Int) + (1 : Int)) * q0.2.1 ≤ (↑(List.length q0.2.2.2) : Int) ∧ room (List.length q1 + (1 : Nat)) (24 : Nat) ∧ fits IntKind.i64 ((↑g : Int) + (1 : Int)) ∧ ∃ (g' : Nat), Nat.le g' (Int.toNat (h + h2)) ∧ Int.toNat (h + h2) - g' < Int.toNat (h + h2) - g ∧ (↑g : Int) + (1 : Int) = (↑g' : Int) ∧ h + h2 = h + h2 ∧ wovR (nm, w, h, s) q2 g ++ [rowI q0.2.1 q0.2.2.2 ((↑g : Int) / (2 : Int))] = wovR (nm, w, h, s) q2 g' ∧ [(nm, w, h, s), q2] = [(nm, w, h, s), q2] ∧ [chkPic nm w h s, chkPic nm w h2 s2] = [chkPic nm w h s, chkPic nm w h2 s2] ∧ nilB = [] ∧ (0 : Int) = (0 : Int) ∧ (0 : Int) = (0 : Int) ∧ nm = nm ∧ w = w ∧ h2 = h2 ∧ s2 = s2 ∧ nm = nm ∧ w = w ∧ h = h ∧ s = s ∧ True) (((0 : Nat) < List.length q1 ∧ List.length q1 ≤ (1000 : Nat)) ∧ RowsOk (List.length q3) q1 ∧ List.length q3 ≤ (1000 : Nat) ∧ nm = nm ∧ (↑(List.length q3) : Int) = w ∧ (↑(List.length q1) : Int) = h + h2 ∧ List.flatten q1 = wovI nm w h h2 s s2 ∧ (0 : Int) = (0 : Int) ∧ True))))) := by
  kernel_rfl
end Go.Sx

namespace Go.Sx
open U
theorem fn37 (a d : Int) (ha : -4000000000 ≤ a ∧ a ≤ 4000000000) (hd : 0 < d ∧ d ≤ 4000000000) : Fn P1 gl1 37 [iV a, iV d] (.val (iV (a / d))) true := by
  refine Fn.flat ?_ rfl
  refine fn_of true [] [] h0 0 Proofs.Try.f37 trivial trivial (by kernel_rfl) rfl (by kernel_rfl) rfl rfl rfl ?_
  rw [vc37]
  try simp only [splitB_iff, -eq_self]
  obtain ⟨t1, t2, t3, t4⟩ := tdiv_le hd.1 ha
  obtain ⟨f1, f2⟩ := floor_tdiv (a := a) hd.1
  rw [fitw (n := a.tdiv d * d) (by omega), fitw (n := a.tdiv d - 1) (by omega)]
  refine ⟨⟨by omega, by simp only [fits]; omega⟩, fun h => ?_, fun h => ?_⟩
  · exact ⟨f1 (of_decide_eq_true h), trivial⟩
  · exact ⟨f2 (of_decide_eq_false h), trivial⟩
theorem so37_ : SpecOk P1 gl1 37 sp37 := by
  intro vs ps r h hp
  simp only [sp37] at h
  split at h
  · cases h; exact fn37 _ _ (hp _ (.head _)) (hp _ (.tail _ (.head _)))
  · cases h
theorem so37 : Sp1 37 sp37 := ⟨so37_, Proofs.Try.f37, _, by kernel_rfl, rfl, by kernel_rfl⟩
theorem fn40h (nm : List UInt8) (w h : Int) (s : List Nat) (rows : List (List Nat)) (hn : 0 < rows.length ∧ rows.length ≤ 1000) (hr : RowsOk (List.length (List.getD rows 0 [])) rows) (hw : (List.getD rows 0 []).length ≤ 1000) : Fn P1 gl1 40 [picV nm w h s, .one (.sl rwT rows)] (.val (picV nm (List.length (List.getD rows 0 [])) (List.length rows) (List.flatten rows))) true := by
  refine fn_ofr false [] [] h42 0 Proofs.Try.f40 trivial trivial (by kernel_rfl) rfl (by kernel_rfl) rfl rfl rfl ?_
  rw [vc40h]
  try simp only [splitB_iff, -eq_self]
  generalize hww : List.length (List.getD rows 0 []) = W at *
  have hm : W * rows.length ≤ 1000 * 1000 := Nat.mul_le_mul hw hn.2
  have em : (W : Int) * (rows.length : Int) = ((W * rows.length : Nat) : Int) := by rw [Int.natCast_mul]
  rw [em]
  refine ⟨by omega, by simp only [fits]; omega, by omega, by simp only [room]; omega, ⟨0, Nat.zero_le _, rfl, rfl, rfl, ?_, by (repeat' (first | exact trivial | exact rfl | apply And.intro))⟩, fun g hg => ⟨fun hlt => ?_, fun hge => ?_⟩⟩
  · rw [made_zero, Int.toNat_natCast, Nat.mul_comm]
  · have hlt : g < rows.length := by simpa using hlt
    have hml := made_len hr (i := g) rfl (by omega)
    have hgm : g * W + W ≤ rows.length * W := by rw [← Nat.succ_mul]; exact Nat.mul_le_mul_right _ hlt
    have eg : (g : Int) * (W : Int) = ((g * W : Nat) : Int) := by rw [Int.natCast_mul]
    have hm2 : rows.length * W = W * rows.length := Nat.mul_comm _ _
    rw [eg, Int.toNat_natCast]
    refine ⟨by omega, by simp only [fits]; omega, by omega, by omega, by simp only [fits]; omega, g + 1, hlt, by omega, by omega, rfl, rfl, copy_made hr rfl hlt, by (repeat' (first | exact trivial | exact rfl | apply And.intro))⟩
  · have hge : ¬ g < rows.length := by simpa using hge
    have hg : g ≤ rows.length := hg
    have e : g = rows.length := by omega
    subst e
    exact ⟨rfl, rfl, rfl, made_all _ _, trivial⟩
theorem so40h : Sp1 40 sp40h := by
  refine ⟨fun vs ps r h hp => ?_, so40.2⟩
  simp only [sp40h] at h
  split at h
  · cases h
    exact fn40h _ _ _ _ _ (hp _ (.head _)) (hp _ (.tail _ (.head _))) (hp _ (.tail _ (.tail _ (.head _))))
  · cases h
theorem fn8h (nm : List UInt8) (w h : Int) (s : List Nat) (hl : s.length ≤ 1000000) : Fn P1 gl1 8 [picV nm w h s] (.val (picV nm w h s)) true := by
  refine fn_ofr false [(34, sp34)] [] h0 0 Proofs.Try.f8 ⟨so34, trivial⟩ trivial (by kernel_rfl) rfl (by kernel_rfl) rfl rfl rfl ?_
  rw [vc8h]
  try simp only [splitB_iff, -eq_self]
  exact ⟨hl, rfl, rfl, rfl, rfl, trivial⟩
theorem so8h : Sp1 8 sp8h := by
  refine ⟨fun vs ps r h hp => ?_, so8.2⟩
  simp only [sp8h] at h
  split at h
  · cases h
    exact fn8h _ _ _ _ (hp _ (.head _))
  · cases h
theorem fst2 {a b : Int} (ha : a = 0) (hb : b = 0) : (first [a, b] != 0) = false := by subst ha; subst hb; rfl
theorem fst3 {a b c : Int} (ha : a = 0) (hb : b = 0) (hc : c = 0) : (first [a, b, c] != 0) = false := by subst ha; subst hb; subst hc; rfl
theorem no {b : Bool} (h : b = false) {p : Prop} : b = true → p := fun e => by rw [h] at e; cases e
theorem ok_at {s : List Nat} (h : OkS s) {i : Nat} (hi : i < s.length) : chkS (List.getD s i 0) = 0 := h _ (getD_mem' hi)
theorem evI_len (w h : Int) (s : List Nat) (f : Int) : (evI w h s f).length = ((h - f + 1) / 2).toNat := by unfold evI; rw [tab_len]
theorem rows_len (w h : Int) (s : List Nat) : (rowsI w h s).length = h.toNat := by unfold rowsI; rw [tab_len]
theorem rows_ok {w h : Int} {s : List Nat} (hw : 0 ≤ w) (hl : h * w ≤ (s.length : Int)) : RowsOk w.toNat (rowsI w h s) := rowsOk_tab fun i hi => rowI_len hw (by omega) (rowEnd (h := h) (by omega) hw hl)
theorem ev_ok {w h : Int} {s : List Nat} {f : Int} (hw : 0 ≤ w) (hf : 0 ≤ f) (hl : h * w ≤ (s.length : Int)) : RowsOk w.toNat (evI w h s f) := rowsOk_tab fun i hi => rowI_len hw (by omega) (rowEnd (h := h) (by omega) hw hl)
theorem row0 {W : Nat} {rows : List (List Nat)} (h : RowsOk W rows) (hn : 0 < rows.length) : (List.getD rows 0 []).length = W := h _ (getD_mem' hn)
theorem fn7 (nm : List UInt8) (w h : Int) (s : List Nat) (nm2 : List UInt8) (s2 : List Nat) (hl : s.length ≤ 1000000) (hl2 : s2.length ≤ 1000000) (hc : chkPic nm w h s = 0) (hc2 : chkPic nm2 w h s2 = 0) (hf : Fit2 s s2) : Fn P1 gl1 7 [picV nm w h s, picV nm2 w h s2] (.tup [picV nm w h (sumL s s2), iV 0]) true := by
  refine fn_ofr false [(29, sp29), (28, sp28), (30, sp30), (33, sp33), (73, sp73)] [fb31, fb32] h7 3 Proofs.Try.f7 ⟨so29, so28, so30, so33, so73, trivial⟩ ⟨⟨by kernel_rfl, by kernel_rfl, _, rfl, by kernel_rfl⟩, ⟨by kernel_rfl, by kernel_rfl, _, rfl, by kernel_rfl⟩, trivial⟩ (by kernel_rfl) rfl (by kernel_rfl) rfl rfl rfl ?_
  rw [vc7]
  try simp only [splitB_iff, -eq_self]
  obtain ⟨c1, c2, c3, c4, c5⟩ := chkPic_zero.1 hc
  obtain ⟨d1, d2, d3, d4, d5⟩ := chkPic_zero.1 hc2
  have hll : s2.length = s.length := by omega
  have hs : (!eqT (Ty.pair (Ty.int .i64) (Ty.int .i64)) (w, h) (w, h)) = false := by simp [eqT]
  refine ⟨hl, hl2, by omega, no (fst2 hc hc2), fun _ => ⟨no hs, fun _ => ⟨⟨0, Nat.zero_le _, by (repeat' (first | exact trivial | exact rfl | apply And.intro))⟩, fun g hg => ⟨fun hlt => ?_, fun hge => ?_⟩⟩⟩⟩
  · have hlt : g < s.length := by simpa using hlt
    have hb := hf g hlt
    refine ⟨by omega, ok_at c5 hlt, by omega, ok_at d5 (by omega), by simp only [fits]; omega, no ?_, fun _ => ⟨by omega, by simp only [room, tab_len]; omega, by simp only [fits]; omega, g + 1, hlt, by omega, by omega, rfl, rfl, rfl, rfl, rfl, rfl, (tab_succ _ _).symm, by (repeat' (first | exact trivial | exact rfl | apply And.intro))⟩⟩
    simp only [bcond_l, bcond_r, Bool.or_eq_true, Bool.or_eq_false_iff, Bool.and_eq_true, Bool.and_eq_false_iff, Bool.not_eq_true', Bool.not_eq_false', decide_eq_true_eq, decide_eq_false_iff_not, beq_iff_eq, beq_eq_false_iff_ne, bne_iff_ne, bne_eq_false_iff_eq]
    omega
  · have hge : ¬ g < s.length := by simpa using hge
    have hg : g ≤ s.length := hg
    have e : g = s.length := by omega
    subst e
    (repeat' (first | exact trivial | exact rfl | apply And.intro))
theorem fn9 (nm : List UInt8) (w h : Int) (s : List Nat) (hl : s.length ≤ 1000000) (hc : chkPic nm w h s = 0) : Fn P1 gl1 9 [picV nm w h s, iV (-1), iV 1] (.tup [picV nm w h (negL s), iV 0]) true := by
  refine fn_ofr false [(29, sp29), (35, sp35), (28, sp28), (37, sp37), (33, sp33), (73, sp73)] [fb31, fb36] h9 3 Proofs.Try.f9 ⟨so29, so35, so28, so37, so33, so73, trivial⟩ ⟨⟨by kernel_rfl, by kernel_rfl, _, rfl, by kernel_rfl⟩, ⟨by kernel_rfl, by kernel_rfl, _, rfl, by kernel_rfl⟩, trivial⟩ (by kernel_rfl) rfl (by kernel_rfl) rfl rfl rfl ?_
  rw [vc9]
  try simp only [splitB_iff, -eq_self]
  obtain ⟨c1, c2, c3, c4, c5⟩ := chkPic_zero.1 hc
  refine ⟨hl, by omega, no (fst3 hc rfl rfl), fun _ => ⟨⟨0, Nat.zero_le _, by (repeat' (first | exact trivial | exact rfl | apply And.intro))⟩, fun g hg => ⟨fun hlt => ?_, fun hge => ?_⟩⟩⟩
  · have hlt : g < s.length := by simpa using hlt
    have hb := chk_six (ok_at c5 hlt)
    have e : (2 * six (List.getD s g 0) * -1 + 1) / 2 = -(six (List.getD s g 0)) := by omega
    simp only [e, -eq_self]
    refine ⟨by omega, ok_at c5 hlt, by simp only [fits]; omega, by simp only [fits]; omega, by simp only [fits]; omega, by simp only [fits]; omega, by omega, by omega, no ?_, fun _ => ⟨by omega, by simp only [room, tab_len]; omega, by simp only [fits]; omega, g + 1, hlt, by omega, by omega, rfl, rfl, rfl, rfl, rfl, rfl, (tab_succ _ _).symm, by (repeat' (first | exact trivial | exact rfl | apply And.intro))⟩⟩
    simp only [bcond_l, bcond_r, Bool.or_eq_true, Bool.or_eq_false_iff, Bool.and_eq_true, Bool.and_eq_false_iff, Bool.not_eq_true', Bool.not_eq_false', decide_eq_true_eq, decide_eq_false_iff_not, beq_iff_eq, beq_eq_false_iff_ne, bne_iff_ne, bne_eq_false_iff_eq]
    omega
  · have hge : ¬ g < s.length := by simpa using hge
    have hg : g ≤ s.length := hg
    have e : g = s.length := by omega
    subst e
    (repeat' (first | exact trivial | exact rfl | apply And.intro))
theorem fn11 (nm : List UInt8) (w h : Int) (s : List Nat) (c0 c1 r0 r1 : Int) (hl : s.length ≤ 1000000) (hc : chkPic nm w h s = 0) (h1 : 0 ≤ c0 ∧ c0 < c1 ∧ c1 ≤ w) (h2 : 0 ≤ r0 ∧ r0 < r1 ∧ r1 ≤ h) : Fn P1 gl1 11 [picV nm w h s, spV c0 c1, spV r0 r1] (.tup [picV nm (c1 - c0) (r1 - r0) (crpI w h s c0 c1 r0 r1), iV 0]) true := by
  refine fn_ofr false [(29, sp29), (38, sp38), (28, sp28), (42, sp42.frz), (41, sp41.frz), (40, sp40)] [] h7 0 Proofs.Try.f11 ⟨so29, so38, so28, Sp1.frz so42, Sp1.frz so41, so40, trivial⟩ trivial (by kernel_rfl) rfl (by kernel_rfl) rfl rfl rfl ?_
  rw [vc11]
  try simp only [splitB_iff, -eq_self]
  obtain ⟨k1, k2, k3, k4, k5⟩ := chkPic_zero.1 hc
  have hm : h * w ≤ (s.length : Int) := by rw [k4, Int.mul_comm]; exact Int.le_refl _
  have hro := rows_ok (h := h) (s := s) (by omega : 0 ≤ w) hm
  have hrl := rows_len w h s
  have sp1 : spanE c0 c1 w = 0 := by unfold spanE; rw [if_neg (by omega)]
  have sp2 : spanE r0 r1 h = 0 := by unfold spanE; rw [if_neg (by omega)]
  have hRl : (crpR w h s c0 c1 r0 r1).length = (r1 - r0).toNat := by
    unfold crpR
    rw [List.length_map, List.length_take, List.length_drop, hrl]
    omega
  have hR : RowsOk (c1 - c0).toNat (crpR w h s c0 c1 r0 r1) := fun r hr => by
    obtain ⟨l, hl, rfl⟩ := List.mem_map.1 hr
    have := hro l (List.mem_of_mem_drop (List.mem_of_mem_take hl))
    unfold cutI
    rw [List.length_take, List.length_drop, this]
    omega
  have hR0 := row0 hR (by omega)
  refine ⟨hl, by omega, no (fst3 hc sp1 sp2), fun _ => ⟨⟨0, trivial, by (repeat' (first | exact trivial | exact rfl | apply And.intro))⟩, fun _ _ => ?_⟩⟩
  refine ⟨by omega, by omega, hm, by omega, by rw [List.length_take, List.length_drop]; omega, by omega, fun r hr => ?_, ?_⟩
  · have := hro r (List.mem_of_mem_drop (List.mem_of_mem_take hr))
    omega
  · change (0 < (crpR w h s c0 c1 r0 r1).length ∧ (crpR w h s c0 c1 r0 r1).length ≤ 1000) ∧ RowsOk (List.length (List.getD (crpR w h s c0 c1 r0 r1) 0 [])) (crpR w h s c0 c1 r0 r1) ∧ (List.getD (crpR w h s c0 c1 r0 r1) 0 []).length ≤ 1000 ∧ nm = nm ∧ ((List.getD (crpR w h s c0 c1 r0 r1) 0 []).length : Int) = c1 - c0 ∧ ((crpR w h s c0 c1 r0 r1).length : Int) = r1 - r0 ∧ _
    rw [hR0, hRl]
    exact ⟨by omega, hR, by omega, rfl, by omega, by omega, by (repeat' (first | exact trivial | exact rfl | apply And.intro))⟩
theorem fn12 (nm : List UInt8) (w h : Int) (s : List Nat) (nm2 : List UInt8) (w2 : Int) (s2 : List Nat) (hl : s.length ≤ 1000000) (hl2 : s2.length ≤ 1000000) (hc : chkPic nm w h s = 0) (hc2 : chkPic nm2 w2 h s2 = 0) (hw : w + w2 ≤ 64) : Fn P1 gl1 12 [picV nm w h s, picV nm2 w2 h s2] (.tup [picV nm (w + w2) h (besI w w2 h s s2), iV 0]) true := by
  refine fn_ofr false [(29, sp29), (43, sp43), (28, sp28), (45, sp45), (44, sp44.frz), (40, sp40)] [] h7 0 Proofs.Try.f12 ⟨so29, so43, so28, so45, Sp1.frz so44, so40, trivial⟩ trivial (by kernel_rfl) rfl (by kernel_rfl) rfl rfl rfl ?_
  rw [vc12]
  try simp only [splitB_iff, -eq_self]
  obtain ⟨k1, k2, k3, k4, k5⟩ := chkPic_zero.1 hc
  obtain ⟨d1, d2, d3, d4, d5⟩ := chkPic_zero.1 hc2
  have hm : h * w ≤ (s.length : Int) := by rw [k4, Int.mul_comm]; exact Int.le_refl _
  have hm2 : h * w2 ≤ (s2.length : Int) := by rw [d4, Int.mul_comm]; exact Int.le_refl _
  have e1 : whenE (h != h) 2 = 0 := by simp [whenE]
  have e2 : whenE (decide (64 < w + w2)) 5 = 0 := by rw [decide_eq_false (by omega)]; rfl
  have rl : ∀ g : Nat, (g : Int) < h → (rowI w s g).length = w.toNat ∧ (rowI w2 s2 g).length = w2.toNat := fun g hg =>
    ⟨rowI_len (by omega) (by omega) (rowEnd (h := h) (by omega) (by omega) hm), rowI_len (by omega) (by omega) (rowEnd (h := h) (by omega) (by omega) hm2)⟩
  have fl : ∀ g : Nat, (g : Int) < h → (List.flatten [rowI w s g, rowI w2 s2 g]).length = (w + w2).toNat := fun g hg => by
    have := rl g hg
    simp only [List.flatten_cons, List.flatten_nil, List.append_nil, List.length_append]
    omega
  refine ⟨hl, hl2, by omega, no (fst2 hc hc2), fun _ => ⟨by simp only [fits]; omega, by omega, no (fst2 e1 e2), fun _ => ⟨⟨0, Nat.zero_le _, by (repeat' (first | exact trivial | exact rfl | apply And.intro))⟩, fun g hg => ⟨fun hlt => ?_, fun hge => ?_⟩⟩⟩⟩
  · have hlt : (g : Int) < h := of_decide_eq_true hlt
    have hg : g ≤ h.toNat := hg
    have := fl g hlt
    exact ⟨by omega, by omega, rowEnd (h := h) (by omega) (by omega) hm, by omega, by omega, rowEnd (h := h) (by omega) (by omega) hm2, by omega, by omega, by simp only [room, tab_len]; omega, by simp only [fits]; omega, g + 1, by show g + 1 ≤ _; omega, by omega, by omega, rfl, rfl, (tab_succ _ _).symm, by (repeat' (first | exact trivial | exact rfl | apply And.intro))⟩
  · have hge : ¬ (g : Int) < h := of_decide_eq_false hge
    have hg : g ≤ h.toNat := hg
    have e : g = h.toNat := by omega
    subst e
    change (0 < (besR w w2 h s s2).length ∧ (besR w w2 h s s2).length ≤ 1000) ∧ RowsOk (List.length (List.getD (besR w w2 h s s2) 0 [])) (besR w w2 h s s2) ∧ (List.getD (besR w w2 h s s2) 0 []).length ≤ 1000 ∧ nm = nm ∧ ((List.getD (besR w w2 h s s2) 0 []).length : Int) = w + w2 ∧ ((besR w w2 h s s2).length : Int) = h ∧ _
    have hR : RowsOk (w + w2).toNat (besR w w2 h s s2) := rowsOk_tab fun i hi => fl i (by omega)
    have hRl : (besR w w2 h s s2).length = h.toNat := by unfold besR; rw [tab_len]
    rw [row0 hR (by omega), hRl]
    exact ⟨by omega, hR, by omega, rfl, by omega, by omega, by (repeat' (first | exact trivial | exact rfl | apply And.intro))⟩
theorem fn13 (nm : List UInt8) (w h : Int) (s : List Nat) (nm2 : List UInt8) (h2 : Int) (s2 : List Nat) (hl : s.length ≤ 1000000) (hl2 : s2.length ≤ 1000000) (hc : chkPic nm w h s = 0) (hc2 : chkPic nm2 w h2 s2 = 0) (hw : h + h2 ≤ 64) : Fn P1 gl1 13 [picV nm w h s, picV nm2 w h2 s2] (.tup [picV nm w (h + h2) (aboI w h h2 s s2), iV 0]) true := by
  refine fn_ofr false [(29, sp29), (43, sp43), (28, sp28), (42, sp42), (40, sp40)] [] h7 0 Proofs.Try.f13 ⟨so29, so43, so28, so42, so40, trivial⟩ trivial (by kernel_rfl) rfl (by kernel_rfl) rfl rfl rfl ?_
  rw [vc13]
  try simp only [splitB_iff, -eq_self]
  obtain ⟨k1, k2, k3, k4, k5⟩ := chkPic_zero.1 hc
  obtain ⟨d1, d2, d3, d4, d5⟩ := chkPic_zero.1 hc2
  have hm : h * w ≤ (s.length : Int) := by rw [k4, Int.mul_comm]; exact Int.le_refl _
  have hm2 : h2 * w ≤ (s2.length : Int) := by rw [d4, Int.mul_comm]; exact Int.le_refl _
  have e1 : whenE (w != w) 2 = 0 := by simp [whenE]
  have e2 : whenE (decide (64 < h + h2)) 5 = 0 := by rw [decide_eq_false (by omega)]; rfl
  have l1 := rows_len w h s
  have l2 := rows_len w h2 s2
  have hR : RowsOk w.toNat (rowsI w h s ++ rowsI w h2 s2) := fun r hr => by
    rcases List.mem_append.1 hr with hr | hr
    · exact rows_ok (h := h) (by omega) hm r hr
    · exact rows_ok (h := h2) (by omega) hm2 r hr
  have hRl : (rowsI w h s ++ rowsI w h2 s2).length = (h + h2).toNat := by rw [List.length_append]; omega
  have hR0 := row0 hR (by omega)
  rw [hR0]
  refine ⟨hl, hl2, by omega, no (fst2 hc hc2), fun _ => ⟨by simp only [fits]; omega, by omega, no (fst2 e1 e2), fun _ => ⟨by omega, by omega, hm, by omega, by omega, hm2, by simp only [room]; omega, by omega, hR, by omega, rfl, by omega, by omega, by (repeat' (first | exact trivial | exact rfl | apply And.intro))⟩⟩⟩
theorem fn14 (nm : List UInt8) (w h : Int) (s : List Nat) (hl : s.length ≤ 1000000) (hc : chkPic nm w h s = 0) (h2 : 2 ≤ h) : Fn P1 gl1 14 [picV nm w h s] (.tup [.agg [.arr 2 pcT [fldP nm w h s 0, fldP nm w h s 1]], iV 0]) false := by
  refine fn_of false [(29, sp29), (43, sp43), (28, sp28), (46, sp46), (40, sp40h)] [] h7 0 Proofs.Try.f14 ⟨so29, so43, so28, so46, so40h, trivial⟩ trivial (by kernel_rfl) rfl (by kernel_rfl) rfl rfl rfl ?_
  rw [vc14]
  try simp only [splitB_iff, -eq_self]
  obtain ⟨k1, k2, k3, k4, k5⟩ := chkPic_zero.1 hc
  have hm : h * w ≤ (s.length : Int) := by rw [k4, Int.mul_comm]; exact Int.le_refl _
  have e1 : whenE (h == 1) 16 = 0 := by
    have : (h == 1) = false := by simp; omega
    rw [this]; rfl
  have a0 := ev_ok (w := w) (h := h) (s := s) (f := 0) (by omega) (by omega) hm
  have a1 := ev_ok (w := w) (h := h) (s := s) (f := 1) (by omega) (by omega) hm
  have l0 := evI_len w h s 0
  have l1 := evI_len w h s 1
  have f0 : ((h - 0 + 1) / 2).toNat = ((h + 1) / 2).toNat := by rw [Int.sub_zero]
  have r0 := row0 a0 (by omega)
  have r1 := row0 a1 (by omega)
  rw [r0, r1]
  refine ⟨hl, by omega, no (fst2 hc e1), fun _ => ⟨by omega, by omega, by omega, hm, by omega, a0, by omega, by omega, by omega, by omega, hm, by omega, a1, by omega, ?_, rfl, trivial⟩⟩
  unfold fldP
  rw [l0, l1]
  have q1 : ((w.toNat : Nat) : Int) = w := Int.toNat_of_nonneg (by omega)
  have q2 : ((((h - 0 + 1) / 2).toNat : Nat) : Int) = (h - 0 + 1) / 2 := Int.toNat_of_nonneg (by omega)
  have q3 : ((((h - 1 + 1) / 2).toNat : Nat) : Int) = (h - 1 + 1) / 2 := Int.toNat_of_nonneg (by omega)
  rw [q1, q2, q3]
theorem wov_at (pa pb : Pic) (g : Nat) : List.getD [pa, pb] (g % 2) (([], 0, 0, []) : Pic) = if g % 2 = 0 then pa else pb := by
  rcases Nat.mod_two_eq_zero_or_one g with h | h <;> rw [h] <;> rfl
theorem fn16 (nm : List UInt8) (w h : Int) (s : List Nat) (h2 : Int) (s2 : List Nat) (hl : s.length ≤ 1000000) (hl2 : s2.length ≤ 1000000) (hc : chkPic nm w h s = 0) (hc2 : chkPic nm w h2 s2 = 0) (hh : h2 ≤ h ∧ h ≤ h2 + 1) (hw : h + h2 ≤ 64) : Fn P1 gl1 16 [picV nm w h s, picV nm w h2 s2] (.tup [picV nm w (h + h2) (wovI nm w h h2 s s2), iV 0]) true := by
  refine fn_ofr false [(29, sp29), (28, sp28), (45, sp45), (40, sp40)] [] h7 0 Proofs.Try.f16 ⟨so29, so28, so45, so40, trivial⟩ trivial (by kernel_rfl) rfl (by kernel_rfl) rfl rfl rfl ?_
  rw [vc16]
  try simp only [splitB_iff, -eq_self]
  obtain ⟨k1, k2, k3, k4, k5⟩ := chkPic_zero.1 hc
  obtain ⟨d1, d2, d3, d4, d5⟩ := chkPic_zero.1 hc2
  have hm : h * w ≤ (s.length : Int) := by rw [k4, Int.mul_comm]; exact Int.le_refl _
  have hm2 : h2 * w ≤ (s2.length : Int) := by rw [d4, Int.mul_comm]; exact Int.le_refl _
  have ew : (w != w) = false := by simp
  have at_ : ∀ g : Nat, (g : Int) < h + h2 → ∃ H S, (List.getD [(nm, w, h, s), (nm, w, h2, s2)] (g % 2) (([], 0, 0, []) : Pic)).2.1 = w ∧ (List.getD [(nm, w, h, s), (nm, w, h2, s2)] (g % 2) (([], 0, 0, []) : Pic)).2.2.2 = S ∧ (g : Int) / 2 + 1 ≤ H ∧ H * w ≤ (S.length : Int) := fun g hg => by
    rw [wov_at]
    by_cases h0 : g % 2 = 0
    · rw [if_pos h0]; exact ⟨h, s, rfl, rfl, by omega, hm⟩
    · rw [if_neg h0]; exact ⟨h2, s2, rfl, rfl, by omega, hm2⟩
  refine ⟨hl, hl2, by omega, no (fst2 hc hc2), fun _ => ⟨fun _ => by simp only [fits]; omega, no ?_, fun _ => ⟨by simp only [fits]; omega, no (decide_eq_false (by omega)), fun _ => ⟨by simp only [fits]; omega, ⟨0, Nat.zero_le _, by (repeat' (first | exact trivial | exact rfl | apply And.intro))⟩, fun g hg => ⟨fun hlt => ?_, fun hge => ?_⟩⟩⟩⟩⟩
  · rw [ew, decide_eq_false (p := h < h2) (by omega), decide_eq_false (p := h2 + 1 < h) (by omega)]; rfl
  · have hlt : (g : Int) < h + h2 := of_decide_eq_true hlt
    have hg : g ≤ (h + h2).toNat := hg
    obtain ⟨H, S, e1, e2, e3, e4⟩ := at_ g hlt
    have em : ((g : Int) % 2).toNat = g % 2 := by omega
    rw [em, e1, e2]
    refine ⟨by omega, by omega, by omega, ⟨by omega, by omega, by simp only [fits]; omega⟩, by omega, by omega, rowEnd (h := H) e3 (by omega) e4, by unfold wovR; simp only [room, tab_len]; omega, by simp only [fits]; omega, g + 1, by show g + 1 ≤ _; omega, by omega, by omega, rfl, ?_, by (repeat' (first | exact trivial | exact rfl | apply And.intro))⟩
    unfold wovR
    rw [tab_succ, e1, e2]
  · have hge : ¬ (g : Int) < h + h2 := of_decide_eq_false hge
    have hg : g ≤ (h + h2).toNat := hg
    have e : g = (h + h2).toNat := by omega
    subst e
    have hR : RowsOk w.toNat (wovR (nm, w, h, s) (nm, w, h2, s2) (h + h2).toNat) := rowsOk_tab fun i hi => by
      obtain ⟨H, S, e1, e2, e3, e4⟩ := at_ i (by omega)
      rw [e1, e2]
      exact rowI_len (by omega) (by omega) (rowEnd (h := H) e3 (by omega) e4)
    have hRl : (wovR (nm, w, h, s) (nm, w, h2, s2) (h + h2).toNat).length = (h + h2).toNat := by unfold wovR; rw [tab_len]
    rw [row0 hR (by omega), hRl]
    exact ⟨by omega, hR, by omega, rfl, by omega, by omega, by (repeat' (first | exact trivial | exact rfl | apply And.intro))⟩
theorem so14_ : SpecOk P1 gl1 14 sp14 := by
  intro vs ps r h hp
  simp only [sp14] at h
  split at h
  · cases h; exact fn14 _ _ _ _ (hp _ (.head _)) (hp _ (.tail _ (.head _))) (hp _ (.tail _ (.tail _ (.head _))))
  · cases h
theorem so14 : Sp1 14 sp14 := ⟨so14_, Proofs.Try.f14, _, by kernel_rfl, rfl, by kernel_rfl⟩
theorem so7 : Sp1 7 sp7 := by
  refine ⟨fun vs ps r h hp => ?_, Proofs.Try.f7, _, by kernel_rfl, rfl, by kernel_rfl⟩
  simp only [sp7] at h
  split at h
  · cases h
    have p0 := hp _ (.head _)
    have p1 := hp _ (.tail _ (.head _))
    have p2 := hp _ (.tail _ (.tail _ (.head _)))
    have p3 := hp _ (.tail _ (.tail _ (.tail _ (.head _))))
    have p4 := hp _ (.tail _ (.tail _ (.tail _ (.tail _ (.head _)))))
    obtain ⟨rfl, rfl⟩ := p0
    exact fn7 _ _ _ _ _ _ p1.1 p1.2 p2 p3 p4
  · cases h
theorem so9 : Sp1 9 sp9 := by
  refine ⟨fun vs ps r h hp => ?_, Proofs.Try.f9, _, by kernel_rfl, rfl, by kernel_rfl⟩
  simp only [sp9] at h
  split at h
  · cases h
    have p0 := hp _ (.head _)
    have p1 := hp _ (.tail _ (.head _))
    have p2 := hp _ (.tail _ (.tail _ (.head _)))
    obtain ⟨rfl, rfl⟩ := p0
    exact fn9 _ _ _ _ p1 p2
  · cases h
theorem so11 : Sp1 11 sp11 := by
  refine ⟨fun vs ps r h hp => ?_, Proofs.Try.f11, _, by kernel_rfl, rfl, by kernel_rfl⟩
  simp only [sp11] at h
  split at h
  · cases h
    have p0 := hp _ (.head _)
    have p1 := hp _ (.tail _ (.head _))
    have p2 := hp _ (.tail _ (.tail _ (.head _)))
    have p3 := hp _ (.tail _ (.tail _ (.tail _ (.head _))))
    exact fn11 _ _ _ _ _ _ _ _ p0 p1 p2 p3
  · cases h
theorem so12 : Sp1 12 sp12 := by
  refine ⟨fun vs ps r h hp => ?_, Proofs.Try.f12, _, by kernel_rfl, rfl, by kernel_rfl⟩
  simp only [sp12] at h
  split at h
  · cases h
    have p0 := hp _ (.head _)
    have p1 := hp _ (.tail _ (.head _))
    have p2 := hp _ (.tail _ (.tail _ (.head _)))
    have p3 := hp _ (.tail _ (.tail _ (.tail _ (.head _))))
    have p4 := hp _ (.tail _ (.tail _ (.tail _ (.tail _ (.head _)))))
    subst p0
    exact fn12 _ _ _ _ _ _ _ p1.1 p1.2 p2 p3 p4
  · cases h
theorem so13 : Sp1 13 sp13 := by
  refine ⟨fun vs ps r h hp => ?_, Proofs.Try.f13, _, by kernel_rfl, rfl, by kernel_rfl⟩
  simp only [sp13] at h
  split at h
  · cases h
    have p0 := hp _ (.head _)
    have p1 := hp _ (.tail _ (.head _))
    have p2 := hp _ (.tail _ (.tail _ (.head _)))
    have p3 := hp _ (.tail _ (.tail _ (.tail _ (.head _))))
    have p4 := hp _ (.tail _ (.tail _ (.tail _ (.tail _ (.head _)))))
    subst p0
    exact fn13 _ _ _ _ _ _ _ p1.1 p1.2 p2 p3 p4
  · cases h
theorem so16 : Sp1 16 sp16 := by
  refine ⟨fun vs ps r h hp => ?_, Proofs.Try.f16, _, by kernel_rfl, rfl, by kernel_rfl⟩
  simp only [sp16] at h
  split at h
  · cases h
    have p0 := hp _ (.head _)
    have p1 := hp _ (.tail _ (.head _))
    have p2 := hp _ (.tail _ (.tail _ (.head _)))
    have p3 := hp _ (.tail _ (.tail _ (.tail _ (.head _))))
    have p4 := hp _ (.tail _ (.tail _ (.tail _ (.tail _ (.head _)))))
    have p5 := hp _ (.tail _ (.tail _ (.tail _ (.tail _ (.tail _ (.head _))))))
    obtain ⟨rfl, rfl⟩ := p0
    exact fn16 _ _ _ _ _ _ p1.1 p1.2 p2 p3 p4 p5
  · cases h
end Go.Sx

namespace Go.Sx.U
def sum (f d : Int) (s : List Int) : Int := s.foldl (fun x b => (f * x + b) % d) 1
def word (n : Int) : List Int := [n / 256 % 256, n % 256]
def long (n : Int) : List Int := word (n / 65536) ++ word n
def nz (b : Nat) : Nat := if six b = 0 then 0 else b
def packH (nm : List UInt8) (w h : Int) : List Int := [80, 73, 67, 84] ++ [(nm.length : Int) % 256] ++ strNs nm ++ [w % 256, h % 256]
def packS (s : List Nat) : List Int := (s.map fun b => long (nz b : Int)).flatten
def packD (nm : List UInt8) (w h : Int) (s : List Nat) : List Int := packH nm w h ++ packS s
def packL (nm : List UInt8) (w h : Int) (s : List Nat) : List Int := packD nm w h s ++ long (sum 263 16777183 (packD nm w h s))
def crv0 : List (Int × Int) := [(0, 0), (64, 128)]
def roundI2 (a d : Int) : Int := (2 * a + d) / (2 * d)
def valC (n : Int) : Int := if n ≤ 0 then 0 else if n ≤ 64 then 0 + roundI2 (128 * n) 64 else 128
def appL (s : List Nat) : List Nat := s.map fun b => smp (valC (six b))
def Wd (s : List Nat) : Prop := ∀ b ∈ s, b < 4294967296
end Go.Sx.U
namespace Go.Sx
open U
abbrev ptT : Ty := .pair (.int .i64) (.int .i64)
def h76 : Hints := ⟨fun f k s => match f, k with
  | 76, 3 => match listOf s 10, lookT s.tm 1, lookT s.tm 2 with
    | some ⟨.int .u8, xs⟩, some (.val (.one (.int .i64 fa))), some (.val (.one (.int .i64 d))) => some ⟨Nat, fun i => s.at [10, 11, 1, 2] [tI 12 i, tI 7 (sum fa d (List.take i xs))], fun i => i ≤ List.length xs, fun i => List.length xs - i⟩
    | _, _, _ => none
  | 17, 8 => match lookO s.ob 0 with
    | some (.box [.one (.str nm), .one (.int .i64 w), .one (.int .i64 h), .one (.sl (.flt .f32) xs)]) => some ⟨Nat, fun i => ⟨[tI 38 i, (5, .val (.one (.own s.nx)))] ++ keepT [36, 37] s.tm, (s.nx, some (.row (.int .u8) (packH nm w h ++ packS (List.take i xs)))) :: lessO s [5], s.nx + 1, s.lr⟩, fun i => i ≤ List.length xs, fun i => List.length xs - i⟩
    | _ => none
  | _, _ => none, 0⟩
def h66 : Hints := ⟨fun f k s => match f, k with
  | 66, 2 => hFirst 5 6 7 s
  | _, _ => none, 0⟩
def h26 : Hints := ⟨fun f k s => match f, k with
  | 85, 3 => hMapG (.flt .f32) (.flt .f32) (fun b => smp (valC (six b))) 8 10 5 [1, 9] s
  | _, _ => none, 0⟩
def q0 : List Nat := [1065353216, 1073741824, 1077936128, 1082130432]
def h6 : Hints := ⟨fun f k s => match f, k with
  | 6, 1000002 => match lookT s.tm 1 with
    | some (.val (.one (.ptr b 0))) => some ⟨List Nat, fun q => ⟨keepT [1] s.tm, [(b, some (.box [.one (.str [112]), .one (.int .i64 2), .one (.int .i64 2), .one (.sl (.flt .f32) q)]))], s.nx, s.lr⟩, fun q => q = q0, fun _ => 0⟩
    | _ => none
  | _, _ => none, 0⟩
def sp67 : FSpec := ⟨fun vs => match vs with
  | [.one (.sl (.pair (.int .i64) (.int .i64)) c)] => if (show List (Int × Int) from c) = crv0 then some ([], .val (iV 0)) else none
  | _ => none, true⟩
def sp69 : FSpec := ⟨fun vs => match vs with
  | [.one (.sl (.pair (.int .i64) (.int .i64)) c), .one (.int .i64 n)] => if (show List (Int × Int) from c) = crv0 then some ([-20000 ≤ n ∧ n ≤ 20000], .val (iV (valC n))) else none
  | _ => none, true⟩
def sp26 : FSpec := ⟨fun vs => match vs with
  | [.one (.sl (.pair (.int .i64) (.int .i64)) c), .agg [.one (.str nm), .one (.int .i64 w), .one (.int .i64 h), .one (.sl (.flt .f32) s)]] => if (show List (Int × Int) from c) = crv0 then some ([List.length s ≤ 1000000, chkPic nm w h s = 0], .tup [picV nm w h (appL s), iV 0]) else none
  | _ => none, true⟩
@[reducible] noncomputable def fb47 : Nat × Func := (47, Proofs.Try.f47)
@[reducible] noncomputable def fb75 : Nat × Func := (75, Proofs.Try.f75)
@[reducible] noncomputable def fb49 : Nat × Func := (49, Proofs.Try.f49)
@[reducible] noncomputable def fb97 : Nat × Func := (97, Proofs.Try.f97)
@[reducible] noncomputable def fb96 : Nat × Func := (96, Proofs.Try.f96)
@[reducible] noncomputable def fb68 : Nat × Func := (68, Proofs.Try.f68)
@[reducible] noncomputable def fb86 : Nat × Func := (86, Proofs.Try.f86)
@[reducible] noncomputable def fb85 : Nat × Func := (85, Proofs.Try.f85)
end Go.Sx
namespace Go.Sx
open U
def sp76 : FSpec := ⟨fun vs => match vs with
  | [.one (.sl (.int .u8) xs), .one (.int .i64 f), .one (.int .i64 d)] => some ([List.length xs ≤ 1000000000, Bytes xs, 0 ≤ f ∧ f ≤ 1000, 1 < d ∧ d ≤ 1000000000], .val (iV (sum f d xs)))
  | _ => none, true⟩
def sp17 : FSpec := ⟨fun vs => match vs with
  | [.agg [.one (.str nm), .one (.int .i64 w), .one (.int .i64 h), .one (.sl (.flt .f32) s)]] => some ([List.length s ≤ 1000000, chkPic nm w h s = 0, Wd s], .tup [.one (.frs (.int .u8) (packL nm w h s)), iV 0])
  | _ => none, true⟩
def sp83 : FSpec := ⟨fun vs => match vs with
  | [.one (.bool b), .one (.int .i64 e)] => some ([], .val (iV (whenE b e)))
  | _ => none, true⟩
def sp66 : FSpec := ⟨fun vs => match vs with
  | [.one (.sl (.int .i64) xs)] => some ([List.length xs ≤ 1000000000], .val (iV (first xs)))
  | _ => none, true⟩
def sp84 : FSpec := ⟨fun vs => match vs with
  | [.one (.int .i64 n)] => some ([], .val (iV (within n (-16384) 16384)))
  | _ => none, true⟩
def sp89 : FSpec := ⟨fun vs => match vs with
  | [.one (.int .i64 a), .one (.int .i64 d)] => some ([-1000000000 ≤ a ∧ a ≤ 1000000000, 0 < d ∧ d ≤ 1000000000], .val (iV (roundI2 a d)))
  | _ => none, true⟩
def sp88 : FSpec := ⟨fun vs => match vs with
  | [.one (.flt .f32 b)] => some ([chkS b = 0], .val (iV (six b)))
  | _ => none, true⟩
def sp87 : FSpec := ⟨fun vs => match vs with
  | [.one (.int .i64 n)] => some ([-8388608 ≤ n ∧ n ≤ 8388608], .val (fV (smp n)))
  | _ => none, true⟩
def sp6 : FSpec := ⟨fun vs => match vs with
  | [] => some ([], .val (bV true))
  | _ => none, true⟩
end Go.Sx

namespace Go.Sx
open U
theorem vc76 (xs : List Int) (f d : Int) : exF (env false [] []) h76 0 76 Proofs.Try.f76 [.one (.sl (.int .u8) xs), iV f, iV d] (.val (iV (sum f d xs))) = (let q0 := (↑(List.length xs) : Int); (∃ (g : Nat), Nat.le g (List.length xs) ∧ (0 : Int) = (↑g : Int) ∧ (1 : Int) = sum f d (List.take g xs) ∧ q0 = q0 ∧ xs = xs ∧ f = f ∧ d = d ∧ True) ∧ ∀ (g : Nat), let q1 := (f * sum f d (List.take g xs) + List.getD xs g (0 : Int)); Nat.le g (List.length xs) → splitB (decide ((↑g : Int) < q0)) (((0 : Int) ≤ (↑g : Int) ∧ (↑g : Int) < q0) ∧ fits IntKind.i64 (f * sum f d (List.take g xs)) ∧ fits IntKind.i64 (List.getD xs g (0 : Int)) ∧ fits IntKind.i64 q1 ∧ ((0 : Int) ≤ f * sum f d (List.take g xs) + List.getD xs g (0 : Int) ∧ (0 : Int) < d) ∧ fits IntKind.i64 ((↑g : Int) + (1 : Int)) ∧ ∃ (g' : Nat), Nat.le g' (List.length xs) ∧ List.length xs - g' < List.length xs - g ∧ (↑g : Int) + (1 : Int) = (↑g' : Int) ∧ q1 % d = sum f d (List.take g' xs) ∧ q0 = q0 ∧ xs = xs ∧ f = f ∧ d = d ∧ True) (sum f d (List.take g xs) = sum f d xs ∧ True)) := by
  kernel_rfl
theorem vc17 (nm : List UInt8) (w h : Int) (s : List Nat) : exF (env false [(29, sp29), (76, sp76)] [fb47, fb75, fb49]) h76 3 17 Proofs.Try.f17 [picV nm w h s] (.tup [.one (.frs (.int .u8) (packL nm w h s)), iV 0]) = (let q1 := ((0 : Int) ≤ (8 : Int) ∧ (8 : Nat) ≤ IntKind.bits IntKind.i64); let q3 := (↑(List.length nm) : Int); let q9 := (List.length s); let q4 := (↑q9 : Int); let q5 := ((0 : Int) ≤ (16 : Int) ∧ (16 : Nat) ≤ IntKind.bits IntKind.i64); let q6 := (16777183 : Int); List.length s ≤ (1000000 : Nat) ∧ splitB (chkPic nm w h s != (0 : Int)) (packL nm w h s = [] ∧ chkPic nm w h s = (0 : Int) ∧ True) ((0 : Nat) < (4 : Nat) ∧ room (5 : Nat) (1 : Nat) ∧ room (List.length ([(80 : Int), (73 : Int), (67 : Int), (84 : Int)] ++ [q3 % (256 : Int)]) + List.length nm) (1 : Nat) ∧ room (List.length ([(80 : Int), (73 : Int), (67 : Int), (84 : Int)] ++ [q3 % (256 : Int)] ++ strNs nm) + (2 : Nat)) (1 : Nat) ∧ (∃ (g : Nat), Nat.le g q9 ∧ (0 : Int) = (↑g : Int) ∧ q4 = q4 ∧ s = s ∧ [(80 : Int), (73 : Int), (67 : Int), (84 : Int)] ++ [q3 % (256 : Int)] ++ strNs nm ++ [w % (256 : Int), h % (256 : Int)] = packH nm w h ++ packS (List.take g s) ∧ [w % (256 : Int), h % (256 : Int)] = [w % (256 : Int), h % (256 : Int)] ∧ [q3 % (256 : Int)] = [q3 % (256 : Int)] ∧ nm = nm ∧ w = w ∧ h = h ∧ s = s ∧ True) ∧ ∀ (g : Nat), let q7 := (List.take g s); let q0 := (packH nm w h ++ packS q7); let q2 := (↑(List.getD s g (0 : Nat)) : Int); let q8 := (List.length q0 + (2 : Nat)); Nat.le g q9 → splitB (decide ((↑g : Int) < q4)) (((0 : Int) ≤ (↑g : Int) ∧ (↑g : Int) < q4) ∧ splitB (Ieee.Format.order (FloatKind.format FloatKind.f32) (List.getD s g (0 : Nat)) (0 : Nat) == some Ordering.eq) (fits IntKind.i64 (0 : Int) ∧ q5 ∧ q1 ∧ room q8 (1 : Nat) ∧ q1 ∧ room (List.length (packH nm w h ++ packS q7 ++ [(0 / 65536 : Int) / (256 : Int) % (256 : Int), (0 / 65536 : Int) % (256 : Int)]) + (2 : Nat)) (1 : Nat) ∧ fits IntKind.i64 ((↑g : Int) + (1 : Int)) ∧ ∃ (g' : Nat), Nat.le g' q9 ∧ List.length s - g' < List.length s - g ∧ (↑g : Int) + (1 : Int) = (↑g' : Int) ∧ q4 = q4 ∧ s = s ∧ packH nm w h ++ packS q7 ++ [(0 / 65536 : Int) / (256 : Int) % (256 : Int), (0 / 65536 : Int) % (256 : Int)] ++ [(0 / 256 : Int) % (256 : Int), (0 : Int) % (256 : Int)] = packH nm w h ++ packS (List.take g' s) ∧ [w % (256 : Int), h % (256 : Int)] = [w % (256 : Int), h % (256 : Int)] ∧ [q3 % (256 : Int)] = [q3 % (256 : Int)] ∧ nm = nm ∧ w = w ∧ h = h ∧ s = s ∧ True) (fits IntKind.i64 q2 ∧ q5 ∧ q1 ∧ room q8 (1 : Nat) ∧ q1 ∧ room (List.length (packH nm w h ++ packS q7 ++ [q2 / (65536 : Int) / (256 : Int) % (256 : Int), q2 / (65536 : Int) % (256 : Int)]) + (2 : Nat)) (1 : Nat) ∧ fits IntKind.i64 ((↑g : Int) + (1 : Int)) ∧ ∃ (g' : Nat), Nat.le g' q9 ∧ List.length s - g' < List.length s - g ∧ (↑g : Int) + (1 : Int) = (↑g' : Int) ∧ q4 = q4 ∧ s = s ∧ packH nm w h ++ packS q7 ++ [q2 / (65536 : Int) / (256 : Int) % (256 : Int), q2 / (65536 : Int) % (256 : Int)] ++ [q2 / (256 : Int) % (256 : Int), q2 % (256 : Int)] = packH nm w h ++ packS (List.take g' s) ∧ [w % (256 : Int), h % (256 : Int)] = [w % (256 : Int), h % (256 : Int)] ∧ [q3 % (256 : Int)] = [q3 % (256 : Int)] ∧ nm = nm ∧ w = w ∧ h = h ∧ s = s ∧ True)) (List.length q0 ≤ (1000000000 : Nat) ∧ Bytes q0 ∧ ((0 : Int) ≤ (263 : Int) ∧ (263 : Int) ≤ (1000 : Int)) ∧ ((1 : Int) < q6 ∧ q6 ≤ (1000000000 : Int)) ∧ q5 ∧ q1 ∧ room q8 (1 : Nat) ∧ q1 ∧ room (List.length (packH nm w h ++ packS q7 ++ [sum (263 : Int) q6 q0 / (65536 : Int) / (256 : Int) % (256 : Int), sum (263 : Int) q6 q0 / (65536 : Int) % (256 : Int)]) + (2 : Nat)) (1 : Nat) ∧ packH nm w h ++ packS q7 ++ [sum (263 : Int) q6 q0 / (65536 : Int) / (256 : Int) % (256 : Int), sum (263 : Int) q6 q0 / (65536 : Int) % (256 : Int)] ++ [sum (263 : Int) q6 q0 / (256 : Int) % (256 : Int), sum (263 : Int) q6 q0 % (256 : Int)] = packL nm w h s ∧ (0 : Int) = (0 : Int) ∧ True))) := by
  kernel_rfl
theorem vc83 (b : Bool) (e : Int) : exF (env false [] []) h0 0 83 Proofs.Try.f83 [bV b, iV e] (.val (iV (whenE b e))) = (splitB b (e = whenE b e ∧ True) ((0 : Int) = whenE b e ∧ True)) := by
  kernel_rfl
theorem vc66 (xs : List Int) : exF (env false [] []) h66 0 66 Proofs.Try.f66 [.one (.sl (.int .i64) xs)] (.val (iV (first xs))) = (let q0 := (↑(List.length xs) : Int); (∃ (g : Nat), (g ≤ List.length xs ∧ first xs = first (List.drop g xs)) ∧ (0 : Int) = (↑g : Int) ∧ q0 = q0 ∧ xs = xs ∧ True) ∧ ∀ (g : Nat), g ≤ List.length xs ∧ first xs = first (List.drop g xs) → splitB (decide ((↑g : Int) < q0)) (((0 : Int) ≤ (↑g : Int) ∧ (↑g : Int) < q0) ∧ splitB (List.getD xs g (0 : Int) != (0 : Int)) (List.getD xs g (0 : Int) = first xs ∧ True) (fits IntKind.i64 ((↑g : Int) + (1 : Int)) ∧ ∃ (g' : Nat), (g' ≤ List.length xs ∧ first xs = first (List.drop g' xs)) ∧ List.length xs - g' < List.length xs - g ∧ (↑g : Int) + (1 : Int) = (↑g' : Int) ∧ q0 = q0 ∧ xs = xs ∧ True)) ((0 : Int) = first xs ∧ True)) := by
  kernel_rfl
theorem vc84 (n : Int) : exF (env false [(83, sp83)] [fb96]) h0 3 84 Proofs.Try.f84 [iV n] (.val (iV (within n (-16384) 16384))) = (whenE (bif decide (n < (-16384 : Int)) then true else decide ((16384 : Int) < n)) (3 : Int) = within n (-16384 : Int) (16384 : Int) ∧ True) := by
  kernel_rfl
theorem vc67 (_u : Unit) : exF (env false [(83, sp83), (66, sp66), (84, sp84)] []) (hu 4) 0 67 Proofs.Try.f67 [.one (.sl ptT [(0, 0), (64, 128)])] (.val (iV 0)) = ((2 : Nat) ≤ (1000000000 : Nat) ∧ ((0 : Int) ≤ (0 : Int) ∧ (0 : Int) < (2 : Int)) ∧ fits IntKind.i64 (-1 : Int) ∧ ((0 : Int) ≤ max (0 : Int) (-1 : Int) ∧ max (0 : Int) (-1 : Int) < (2 : Int)) ∧ (3 : Nat) ≤ (1000000000 : Nat) ∧ fits IntKind.i64 (1 : Int) ∧ ((0 : Int) ≤ (1 : Int) ∧ (1 : Int) < (2 : Int)) ∧ fits IntKind.i64 (0 : Int) ∧ ((0 : Int) ≤ max (0 : Int) (0 : Int) ∧ max (0 : Int) (0 : Int) < (2 : Int)) ∧ (3 : Nat) ≤ (1000000000 : Nat) ∧ fits IntKind.i64 (2 : Int) ∧ (0 : Int) = (0 : Int) ∧ True) := by
  kernel_rfl
theorem vc89 (a d : Int) : exF (env true [] [fb97]) h0 3 89 Proofs.Try.f89 [iV a, iV d] (.val (iV (roundI2 a d))) = (let q2 := (IntKind.wrap IntKind.i64 ((2 : Int) * a) + d); let q0 := (IntKind.wrap IntKind.i64 q2); let q1 := (IntKind.wrap IntKind.i64 ((2 : Int) * d)); (IntKind.wrap IntKind.i64 ((2 : Int) * d) ≠ (0 : Int) ∧ fits IntKind.i64 (Int.tdiv q0 q1)) ∧ splitB (decide (IntKind.wrap IntKind.i64 q2 < IntKind.wrap IntKind.i64 (Int.tdiv q0 q1 * IntKind.wrap IntKind.i64 ((2 : Int) * d)))) (IntKind.wrap IntKind.i64 (Int.tdiv q0 q1 - (1 : Int)) = roundI2 a d ∧ True) (Int.tdiv q0 q1 = roundI2 a d ∧ True)) := by
  kernel_rfl
theorem vc88 (b : Nat) : exF (env false [] []) h0 0 88 Proofs.Try.f88 [fV b] (.val (iV (six b))) = (Option.isSome (Ieee.Format.mul (FloatKind.format FloatKind.f32) (1098907648 : Nat) b) = true ∧ (Option.isSome (Ieee.Datum.toInt Ieee.Toward.zero (FloatKind.decode FloatKind.f32 (Option.getD (Ieee.Format.mul (FloatKind.format FloatKind.f32) (1098907648 : Nat) b) (0 : Nat)))) = true ∧ IntKind.min IntKind.i64 ≤ Option.getD (Ieee.Datum.toInt Ieee.Toward.zero (FloatKind.decode FloatKind.f32 (Option.getD (Ieee.Format.mul (FloatKind.format FloatKind.f32) (1098907648 : Nat) b) (0 : Nat)))) (0 : Int) ∧ Option.getD (Ieee.Datum.toInt Ieee.Toward.zero (FloatKind.decode FloatKind.f32 (Option.getD (Ieee.Format.mul (FloatKind.format FloatKind.f32) (1098907648 : Nat) b) (0 : Nat)))) (0 : Int) ≤ IntKind.max IntKind.i64) ∧ Option.getD (Ieee.Datum.toInt Ieee.Toward.zero (FloatKind.decode FloatKind.f32 (Option.getD (Ieee.Format.mul (FloatKind.format FloatKind.f32) (1098907648 : Nat) b) (0 : Nat)))) (0 : Int) = six b ∧ True) := by
  kernel_rfl
theorem vc87 (n : Int) : exF (env false [] []) h0 0 87 Proofs.Try.f87 [iV n] (.val (fV (smp n))) = (Option.isSome (Ieee.Format.div (FloatKind.format FloatKind.f32) (FloatKind.nearest FloatKind.f32 n) (1098907648 : Nat)) = true ∧ Option.getD (Ieee.Format.div (FloatKind.format FloatKind.f32) (FloatKind.nearest FloatKind.f32 n) (1098907648 : Nat)) (0 : Nat) = smp n ∧ True) := by
  kernel_rfl
theorem vc69 (n : Int) : exF (env false [(89, sp89)] []) (hu 4) 0 69 Proofs.Try.f69 [.one (.sl ptT [(0, 0), (64, 128)]), iV n] (.val (iV (valC n))) = (let q0 := (List.getD [((0 : Int), (0 : Int)), ((64 : Int), (128 : Int))] (Int.toNat (-1 : Int)) ((0 : Int), (0 : Int))); let q1 := ((0 : Int) ≤ (0 : Int) ∧ (0 : Int) < (2 : Int)); let q2 := ((0 : Int) - q0.2); let q3 := (n - (0 : Int)); let q4 := ((0 : Int) ≤ (1 : Int) ∧ (1 : Int) < (2 : Int)); let q5 := (1000000000 : Int); q1 ∧ splitB (decide (n ≤ (0 : Int))) (q1 ∧ (0 : Int) = valC n ∧ True) (q1 ∧ splitB (decide (n ≤ (0 : Int))) (fits IntKind.i64 (-1 : Int) ∧ ((0 : Int) ≤ (-1 : Int) ∧ (-1 : Int) < (2 : Int)) ∧ fits IntKind.i64 q2 ∧ fits IntKind.i64 (n - q0.1) ∧ fits IntKind.i64 (q2 * (n - q0.1)) ∧ fits IntKind.i64 ((0 : Int) - q0.1) ∧ ((-1000000000 : Int) ≤ q2 * (n - q0.1) ∧ q2 * (n - q0.1) ≤ q5) ∧ ((0 : Int) < (0 : Int) - q0.1 ∧ (0 : Int) - q0.1 ≤ q5) ∧ fits IntKind.i64 (q0.2 + roundI2 (q2 * (n - q0.1)) ((0 : Int) - q0.1)) ∧ q0.2 + roundI2 (q2 * (n - q0.1)) ((0 : Int) - q0.1) = valC n ∧ True) (fits IntKind.i64 (1 : Int) ∧ q4 ∧ splitB (decide (n ≤ (64 : Int))) (fits IntKind.i64 (0 : Int) ∧ q1 ∧ fits IntKind.i64 (128 : Int) ∧ fits IntKind.i64 q3 ∧ fits IntKind.i64 ((128 : Int) * q3) ∧ fits IntKind.i64 (64 : Int) ∧ ((-1000000000 : Int) ≤ (128 : Int) * q3 ∧ (128 : Int) * q3 ≤ q5) ∧ ((0 : Int) < (64 : Int) ∧ (64 : Int) ≤ q5) ∧ fits IntKind.i64 ((0 : Int) + roundI2 ((128 : Int) * q3) (64 : Int)) ∧ (0 : Int) + roundI2 ((128 : Int) * q3) (64 : Int) = valC n ∧ True) (fits IntKind.i64 (2 : Int) ∧ fits IntKind.i64 (1 : Int) ∧ q4 ∧ (128 : Int) = valC n ∧ True)))) := by
  kernel_rfl
theorem vc26 (nm : List UInt8) (w h : Int) (s : List Nat) : exFr (env false [(67, sp67), (29, sp29), (66, sp66), (88, sp88), (87, sp87), (69, sp69)] [fb68, fb86, fb85]) h26 3 26 Proofs.Try.f26 [.one (.sl ptT [(0, 0), (64, 128)]), picV nm w h s] (.tup [picV nm w h (appL s), iV 0]) = (let q1 := (↑(List.length s) : Int); let q2 := ((64 : Int), (128 : Int)); let q3 := ((0 : Int), (0 : Int)); List.length s ≤ (1000000 : Nat) ∧ (2 : Nat) ≤ (1000000000 : Nat) ∧ splitB (first [(0 : Int), chkPic nm w h s] != (0 : Int)) ([] = nm ∧ (0 : Int) = w ∧ (0 : Int) = h ∧ appL s = [] ∧ first [(0 : Int), chkPic nm w h s] = (0 : Int) ∧ True) ((∃ (g : Nat), Nat.le g (List.length s) ∧ (0 : Int) = (↑g : Int) ∧ q1 = q1 ∧ s = s ∧ List.map (fun (b : Nat) => smp (valC (six b))) (List.take g s) = [] ∧ nilB = [] ∧ (0 : Int) = (0 : Int) ∧ (0 : Int) = (0 : Int) ∧ [q3, q2] = [q3, q2] ∧ nm = nm ∧ w = w ∧ h = h ∧ s = s ∧ [(0 : Int), chkPic nm w h s] = [(0 : Int), chkPic nm w h s] ∧ nilB = [] ∧ (0 : Int) = (0 : Int) ∧ (0 : Int) = (0 : Int) ∧ nm = nm ∧ w = w ∧ h = h ∧ s = s ∧ True) ∧ ∀ (g : Nat), let q0 := (List.getD s g (0 : Nat)); Nat.le g (List.length s) → splitB (decide ((↑g : Int) < q1)) (((0 : Int) ≤ (↑g : Int) ∧ (↑g : Int) < q1) ∧ chkS q0 = (0 : Int) ∧ ((-20000 : Int) ≤ six q0 ∧ six q0 ≤ (20000 : Int)) ∧ ((-8388608 : Int) ≤ valC (six q0) ∧ valC (six q0) ≤ (8388608 : Int)) ∧ room (List.length (List.map (fun (b : Nat) => smp (valC (six b))) (List.take g s)) + (1 : Nat)) (4 : Nat) ∧ fits IntKind.i64 ((↑g : Int) + (1 : Int)) ∧ ∃ (g' : Nat), Nat.le g' (List.length s) ∧ List.length s - g' < List.length s - g ∧ (↑g : Int) + (1 : Int) = (↑g' : Int) ∧ q1 = q1 ∧ s = s ∧ List.map (fun (b : Nat) => smp (valC (six b))) (List.take g s) ++ [smp (valC (six q0))] = List.map (fun (b : Nat) => smp (valC (six b))) (List.take g' s) ∧ nilB = [] ∧ (0 : Int) = (0 : Int) ∧ (0 : Int) = (0 : Int) ∧ [q3, q2] = [q3, q2] ∧ nm = nm ∧ w = w ∧ h = h ∧ s = s ∧ [(0 : Int), chkPic nm w h s] = [(0 : Int), chkPic nm w h s] ∧ nilB = [] ∧ (0 : Int) = (0 : Int) ∧ (0 : Int) = (0 : Int) ∧ nm = nm ∧ w = w ∧ h = h ∧ s = s ∧ True) (nm = nm ∧ w = w ∧ h = h ∧ List.map (fun (b : Nat) => smp (valC (six b))) (List.take g s) = appL s ∧ (0 : Int) = (0 : Int) ∧ True))) := by
  kernel_rfl
theorem vc6 (_u : Unit) : exF (env false [(14, sp14), (17, sp17), (26, sp26), (27, sp27)] []) h6 0 6 Proofs.Try.f6 [] (.val (bV true)) = ((∃ (g : List Nat), g = [(1065353216 : Nat), (1073741824 : Nat), (1077936128 : Nat), (1082130432 : Nat)] ∧ Array.toList (ByteArray.data { data := #[(112 : UInt8)] }) = [(112 : UInt8)] ∧ (2 : Int) = (2 : Int) ∧ (2 : Int) = (2 : Int) ∧ [(1065353216 : Nat), (1073741824 : Nat), (1077936128 : Nat), (1082130432 : Nat)] = g ∧ True) ∧ ∀ (g : List Nat), g = [(1065353216 : Nat), (1073741824 : Nat), (1077936128 : Nat), (1082130432 : Nat)] → List.length g ≤ (1000000 : Nat) ∧ chkPic [(112 : UInt8)] (2 : Int) (2 : Int) g = (0 : Int) ∧ (2 : Int) ≤ (2 : Int) ∧ List.length g ≤ (1000000 : Nat) ∧ chkPic [(112 : UInt8)] (2 : Int) (2 : Int) g = (0 : Int) ∧ Wd g ∧ List.length g ≤ (1000000 : Nat) ∧ chkPic [(112 : UInt8)] (2 : Int) (2 : Int) g = (0 : Int) ∧ ((bif bif (0 : Int) == (0 : Int) then (0 : Int) == (0 : Int) else false then (0 : Int) == (0 : Int) else false) = true → (0 : Int) ≤ (1 : Int) ∧ (1 : Int) < (2 : Int)) ∧ ((bif bif (0 : Int) == (0 : Int) then (0 : Int) == (0 : Int) else false then (0 : Int) == (0 : Int) else false) = true → (1 : Nat) < (2 : Nat)) ∧ ((bif bif (0 : Int) == (0 : Int) then (0 : Int) == (0 : Int) else false then (0 : Int) == (0 : Int) else false) = true → List.length (Prod.snd (Prod.snd (Prod.snd (fldP [(112 : UInt8)] (2 : Int) (2 : Int) g (1 : Int))))) ≤ (1000000000 : Nat)) ∧ ((bif bif bif bif (0 : Int) == (0 : Int) then (0 : Int) == (0 : Int) else false then (0 : Int) == (0 : Int) else false then sameS (Prod.snd (Prod.snd (Prod.snd (fldP [(112 : UInt8)] (2 : Int) (2 : Int) g (1 : Int))))) [(1077936128 : Nat), (1082130432 : Nat)] else false then (↑(List.length (packL [(112 : UInt8)] (2 : Int) (2 : Int) g)) : Int) == (28 : Int) else false) = true → List.length (appL g) ≤ (1000000000 : Nat)) ∧ (bif bif bif bif bif (0 : Int) == (0 : Int) then (0 : Int) == (0 : Int) else false then (0 : Int) == (0 : Int) else false then sameS (Prod.snd (Prod.snd (Prod.snd (fldP [(112 : UInt8)] (2 : Int) (2 : Int) g (1 : Int))))) [(1077936128 : Nat), (1082130432 : Nat)] else false then (↑(List.length (packL [(112 : UInt8)] (2 : Int) (2 : Int) g)) : Int) == (28 : Int) else false then sameS (appL g) [(1073741824 : Nat), (1082130432 : Nat), (1086324736 : Nat), (1090519040 : Nat)] else false) = true ∧ True) := by
  kernel_rfl
end Go.Sx

namespace Go.Sx
open U
theorem sum_bd {f d : Int} (hd : 1 < d) : ∀ (s : List Int), 0 ≤ sum f d s ∧ sum f d s < d := by
  intro s
  have key : ∀ (s : List Int) (x : Int), 0 ≤ x ∧ x < d → 0 ≤ s.foldl (fun x b => (f * x + b) % d) x ∧ s.foldl (fun x b => (f * x + b) % d) x < d := by
    intro s
    induction s with
    | nil => intro x h; exact h
    | cons b s ih => intro x h; exact ih _ ⟨Int.emod_nonneg _ (by omega), Int.emod_lt_of_pos _ (by omega)⟩
  exact key s 1 ⟨by omega, hd⟩
theorem sum_snoc (f d : Int) (xs : List Int) (g : Nat) (h : g < xs.length) : sum f d (xs.take (g + 1)) = (f * sum f d (xs.take g) + xs[g]) % d := by
  unfold sum
  rw [List.take_succ_eq_append_getElem h, List.foldl_append]
  rfl
theorem fn76 (xs : List Int) (f d : Int) (hl : xs.length ≤ 1000000000) (hb : Bytes xs) (hf : 0 ≤ f ∧ f ≤ 1000) (hd : 1 < d ∧ d ≤ 1000000000) : Fn P1 gl1 76 [.one (.sl (.int .u8) xs), iV f, iV d] (.val (iV (sum f d xs))) true := by
  refine Fn.flat ?_ rfl
  refine fn_of false [] [] h76 0 Proofs.Try.f76 trivial trivial (by kernel_rfl) rfl (by kernel_rfl) rfl rfl rfl ?_
  rw [vc76]
  try simp only [splitB_iff, -eq_self]
  refine ⟨⟨0, Nat.zero_le _, by simp [sum]⟩, fun g hg => ⟨fun hlt => ?_, fun hge => ?_⟩⟩
  · have hlt' : g < xs.length := by simpa using hlt
    have hg' : g ≤ xs.length := hg
    rw [getD_of hlt']
    have h1 := sum_bd (f := f) hd.1 (xs.take g)
    have h2 := hb xs[g] (List.getElem_mem hlt')
    have h3 : 0 ≤ f * sum f d (xs.take g) := Int.mul_nonneg hf.1 h1.1
    have h4 : f * sum f d (xs.take g) ≤ 1000 * 1000000000 := Int.mul_le_mul hf.2 (by omega) h1.1 (by omega)
    refine ⟨by omega, by simp only [fits]; omega, by simp only [fits]; omega, by simp only [fits]; omega, by omega, by simp only [fits]; omega, g + 1, hlt', by omega, by simp, ?_, by simp⟩
    rw [sum_snoc f d xs g hlt']
  · have hge' : ¬ g < xs.length := by simpa using hge
    rw [List.take_of_length_le (by omega)]
    simp
theorem so76_ : SpecOk P1 gl1 76 sp76 := by
  intro vs ps r h hp
  simp only [sp76] at h
  split at h
  · cases h; exact fn76 _ _ _ (hp _ (.head _)) (hp _ (.tail _ (.head _))) (hp _ (.tail _ (.tail _ (.head _)))) (hp _ (.tail _ (.tail _ (.tail _ (.head _)))))
  · cases h
theorem so76 : Sp1 76 sp76 := ⟨so76_, Proofs.Try.f76, _, by kernel_rfl, rfl, by kernel_rfl⟩
theorem byApp {a b : List Int} (h : Bytes a) (k : Bytes b) : Bytes (a ++ b) := by
  intro x hx
  rcases List.mem_append.1 hx with hx | hx
  · exact h x hx
  · exact k x hx
theorem mod_byte (n : Int) : 0 ≤ n % 256 ∧ n % 256 ≤ 255 := ⟨Int.emod_nonneg _ (by decide), by have := Int.emod_lt_of_pos n (show 0 < 256 by decide); omega⟩
theorem word_bytes (n : Int) : Bytes (word n) := fun x hx => by
  simp only [word, List.mem_cons, List.not_mem_nil, or_false] at hx
  rcases hx with rfl | rfl
  · exact mod_byte _
  · exact mod_byte _
theorem long_bytes (n : Int) : Bytes (long n) := byApp (word_bytes _) (word_bytes _)
theorem long_len (n : Int) : (long n).length = 4 := rfl
theorem strNs_bytes (l : List UInt8) : Bytes (strNs l) := fun x hx => by
  obtain ⟨c, _, rfl⟩ := List.mem_map.1 hx
  have := c.toNat_lt
  omega
theorem strNs_len (l : List UInt8) : (strNs l).length = l.length := by simp [strNs]
theorem packH_bytes (nm : List UInt8) (w h : Int) : Bytes (packH nm w h) := by
  refine byApp (byApp (byApp ?_ ?_) (strNs_bytes nm)) ?_
  · intro x hx; simp only [List.mem_cons, List.not_mem_nil, or_false] at hx; rcases hx with rfl | rfl | rfl | rfl <;> decide
  · intro x hx; rw [List.mem_singleton.1 hx]; exact mod_byte _
  · intro x hx
    simp only [List.mem_cons, List.not_mem_nil, or_false] at hx
    rcases hx with rfl | rfl
    · exact mod_byte _
    · exact mod_byte _
theorem packH_len (nm : List UInt8) (w h : Int) : (packH nm w h).length = nm.length + 7 := by
  simp only [packH, List.length_append, List.length_cons, List.length_nil, strNs_len]
  omega
theorem packS_app (a b : List Nat) : packS (a ++ b) = packS a ++ packS b := by simp [packS]
theorem packS_len : ∀ (s : List Nat), (packS s).length = 4 * s.length
  | [] => rfl
  | b :: s => by
    show (long (nz b : Int) ++ packS s).length = _
    rw [List.length_append, long_len, packS_len s, List.length_cons]; omega
theorem packS_bytes (s : List Nat) : Bytes (packS s) := fun x hx => by
  obtain ⟨l, hl, hx⟩ := List.mem_flatten.1 hx
  obtain ⟨b, _, rfl⟩ := List.mem_map.1 hl
  exact long_bytes _ x hx
theorem packS_succ {s : List Nat} {g : Nat} (h : g < s.length) : packS (List.take (g + 1) s) = packS (List.take g s) ++ long (nz (List.getD s g 0) : Int) := by
  rw [List.take_succ_eq_append_getElem h, packS_app, getD_of h]
  simp [packS]
theorem packD_bytes (nm : List UInt8) (w h : Int) (s : List Nat) : Bytes (packD nm w h s) := byApp (packH_bytes _ _ _) (packS_bytes _)
theorem zero_test {b : Nat} (h : chkS b = 0) : (Ieee.Format.order (FloatKind.format .f32) b 0 == some Ordering.eq) = decide (six b = 0) := by
  have h0 : chkS 0 = 0 := by decide +kernel
  have := eq_s (isS_chk h) (isS_chk h0)
  rw [six_zero] at this
  exact this
theorem name_len {l : List UInt8} (h : isName l = true) : 1 ≤ l.length ∧ l.length ≤ 24 := by
  unfold isName at h
  simp only [Bool.and_eq_true, decide_eq_true_eq] at h
  refine ⟨?_, h.2.2⟩
  cases l with
  | nil => exact absurd rfl h.2.1
  | cons a r => simp
theorem fn17 (nm : List UInt8) (w h : Int) (s : List Nat) (hl : s.length ≤ 1000000) (hc : chkPic nm w h s = 0) (hd : Wd s) : Fn P1 gl1 17 [picV nm w h s] (.tup [.one (.frs (.int .u8) (packL nm w h s)), iV 0]) true := by
  refine Fn.flat ?_ rfl
  refine fn_of false [(29, sp29), (76, sp76)] [fb47, fb75, fb49] h76 3 Proofs.Try.f17 ⟨so29, so76, trivial⟩ ⟨⟨by kernel_rfl, by kernel_rfl, _, rfl, by kernel_rfl⟩, ⟨by kernel_rfl, by kernel_rfl, _, rfl, by kernel_rfl⟩, ⟨by kernel_rfl, by kernel_rfl, _, rfl, by kernel_rfl⟩, trivial⟩ (by kernel_rfl) rfl (by kernel_rfl) rfl rfl rfl ?_
  rw [vc17]
  try simp only [splitB_iff, -eq_self]
  obtain ⟨c1, c2, c3, c4, c5⟩ := chkPic_zero.1 hc
  have hn := name_len c1
  have hm := mul_fits c2 c3
  have H : ∀ n : Int, [n / 65536 / 256 % 256, n / 65536 % 256] ++ [n / 256 % 256, n % 256] = long n := fun _ => rfl
  have l1 := packH_len nm w h
  refine ⟨hl, fun e => ?_, fun _ => ⟨by omega, by simp only [room]; omega, by simp only [room, List.length_append, List.length_cons, List.length_nil]; omega, by simp only [room, List.length_append, List.length_cons, List.length_nil, strNs_len]; omega, ⟨0, Nat.zero_le _, rfl, rfl, rfl, ?_, by (repeat' (first | exact trivial | exact rfl | apply And.intro))⟩, fun g hg => ⟨fun hlt => ⟨?_, fun e => ?_, fun e => ?_⟩, fun hge => ?_⟩⟩⟩
  · rw [hc] at e; cases e
  · simp [packS, packH]
  · have hlt : g < s.length := by simpa using hlt
    omega
  · have hlt : g < s.length := by simpa using hlt
    have hl2 : (packS (List.take g s)).length ≤ 4 * 4096 := by rw [packS_len, List.length_take]; omega
    rw [zero_test (ok_at c5 hlt)] at e
    have e : six (List.getD s g 0) = 0 := of_decide_eq_true e
    refine ⟨by simp only [fits]; omega, ⟨by omega, by decide⟩, ⟨by omega, by decide⟩, by simp only [room, List.length_append]; omega, ⟨by omega, by decide⟩, by simp only [room, List.length_append, List.length_cons, List.length_nil]; omega, by simp only [fits]; omega, g + 1, hlt, by omega, by omega, rfl, rfl, ?_, by (repeat' (first | exact trivial | exact rfl | apply And.intro))⟩
    rw [packS_succ hlt, show nz (List.getD s g 0) = 0 by unfold nz; rw [if_pos e], List.append_assoc, H, List.append_assoc]
    rfl
  · have hlt : g < s.length := by simpa using hlt
    have hl2 : (packS (List.take g s)).length ≤ 4 * 4096 := by rw [packS_len, List.length_take]; omega
    rw [zero_test (ok_at c5 hlt)] at e
    have e : ¬ six (List.getD s g 0) = 0 := of_decide_eq_false e
    have hb := hd _ (getD_mem' (d := 0) hlt)
    refine ⟨by simp only [fits]; omega, ⟨by omega, by decide⟩, ⟨by omega, by decide⟩, by simp only [room, List.length_append]; omega, ⟨by omega, by decide⟩, by simp only [room, List.length_append, List.length_cons, List.length_nil]; omega, by simp only [fits]; omega, g + 1, hlt, by omega, by omega, rfl, rfl, ?_, by (repeat' (first | exact trivial | exact rfl | apply And.intro))⟩
    rw [packS_succ hlt, show nz (List.getD s g 0) = List.getD s g 0 by unfold nz; rw [if_neg e], List.append_assoc, H, List.append_assoc]
  · have hge : ¬ g < s.length := by simpa using hge
    rw [List.take_of_length_le (by omega)]
    have hl2 : (packS s).length ≤ 4 * 4096 := by rw [packS_len]; omega
    refine ⟨by rw [List.length_append]; omega, packD_bytes nm w h s, by omega, by omega, ⟨by omega, by decide⟩, ⟨by omega, by decide⟩, by simp only [room, List.length_append]; omega, ⟨by omega, by decide⟩, by simp only [room, List.length_append, List.length_cons, List.length_nil]; omega, ?_, rfl, trivial⟩
    rw [List.append_assoc, H]
    rfl
theorem so17_ : SpecOk P1 gl1 17 sp17 := by
  intro vs ps r h hp
  simp only [sp17] at h
  split at h
  · cases h; exact fn17 _ _ _ _ (hp _ (.head _)) (hp _ (.tail _ (.head _))) (hp _ (.tail _ (.tail _ (.head _))))
  · cases h
theorem so17 : Sp1 17 sp17 := ⟨so17_, Proofs.Try.f17, _, by kernel_rfl, rfl, by kernel_rfl⟩
theorem fn83 (b : Bool) (e : Int)  : Fn P1 gl1 83 [bV b, iV e] (.val (iV (whenE b e))) true := by
  refine Fn.flat ?_ rfl
  refine fn_of false [] [] h0 0 Proofs.Try.f83 trivial trivial (by kernel_rfl) rfl (by kernel_rfl) rfl rfl rfl ?_
  rw [vc83]
  try simp only [splitB_iff, -eq_self]
  cases b <;> simp [whenE]
theorem so83_ : SpecOk P1 gl1 83 sp83 := by
  intro vs ps r h _
  simp only [sp83] at h
  split at h
  · cases h; exact fn83 _ _ 
  · cases h
theorem so83 : Sp1 83 sp83 := ⟨so83_, Proofs.Try.f83, _, by kernel_rfl, rfl, by kernel_rfl⟩
theorem fn66 (xs : List Int) (hl : xs.length ≤ 1000000000) : Fn P1 gl1 66 [.one (.sl (.int .i64) xs)] (.val (iV (first xs))) true := by
  refine Fn.flat ?_ rfl
  refine fn_of false [] [] h66 0 Proofs.Try.f66 trivial trivial (by kernel_rfl) rfl (by kernel_rfl) rfl rfl rfl ?_
  rw [vc66]
  try simp only [splitB_iff, -eq_self]
  refine ⟨⟨0, by simp, by simp⟩, fun g hg => ⟨fun hlt => ?_, fun hge => ?_⟩⟩
  · have hlt' : g < xs.length := by simpa using hlt
    rw [getD_of hlt', hg.2, first_drop xs g hlt']
    refine ⟨by omega, fun h => ⟨?_, trivial⟩, fun h => ⟨by simp only [fits]; omega, g + 1, ⟨by omega, ?_⟩, by omega, by simp⟩⟩
    · rw [if_neg (by simpa using h)]
    · rw [if_pos (by simpa using h)]
  · have hge' : ¬ g < xs.length := by simpa using hge
    rw [hg.2, List.drop_of_length_le (by omega)]
    simp [first]
theorem so66_ : SpecOk P1 gl1 66 sp66 := by
  intro vs ps r h hp
  simp only [sp66] at h
  split at h
  · cases h; exact fn66 _ (hp _ (.head _))
  · cases h
theorem so66 : Sp1 66 sp66 := ⟨so66_, Proofs.Try.f66, _, by kernel_rfl, rfl, by kernel_rfl⟩
theorem fn84 (n : Int)  : Fn P1 gl1 84 [iV n] (.val (iV (within n (-16384) 16384))) true := by
  refine Fn.flat ?_ rfl
  refine fn_of false [(83, sp83)] [fb96] h0 3 Proofs.Try.f84 ⟨so83, trivial⟩ ⟨⟨by kernel_rfl, by kernel_rfl, _, rfl, by kernel_rfl⟩, trivial⟩ (by kernel_rfl) rfl (by kernel_rfl) rfl rfl rfl ?_
  rw [vc84]
  try simp only [splitB_iff, -eq_self]
  unfold within
  by_cases h1 : n < -16384 <;> by_cases h2 : 16384 < n <;> simp [h1, h2, whenE]
theorem so84_ : SpecOk P1 gl1 84 sp84 := by
  intro vs ps r h _
  simp only [sp84] at h
  split at h
  · cases h; exact fn84 _ 
  · cases h
theorem so84 : Sp1 84 sp84 := ⟨so84_, Proofs.Try.f84, _, by kernel_rfl, rfl, by kernel_rfl⟩
theorem fn67   : Fn P1 gl1 67 [.one (.sl ptT [(0, 0), (64, 128)])] (.val (iV 0)) true := by
  refine Fn.flat ?_ rfl
  refine fn_of false [(83, sp83), (66, sp66), (84, sp84)] [] (hu 4) 0 Proofs.Try.f67 ⟨so83, so66, so84, trivial⟩ trivial (by kernel_rfl) rfl (by kernel_rfl) rfl rfl rfl ?_
  rw [vc67 ()]
  try simp only [splitB_iff, -eq_self]
  simp only [fits]
  decide
theorem fn89 (a d : Int) (ha : -1000000000 ≤ a ∧ a ≤ 1000000000) (hd : 0 < d ∧ d ≤ 1000000000) : Fn P1 gl1 89 [iV a, iV d] (.val (iV (roundI2 a d))) true := by
  refine Fn.flat ?_ rfl
  refine fn_of true [] [fb97] h0 3 Proofs.Try.f89 trivial ⟨⟨by kernel_rfl, by kernel_rfl, _, rfl, by kernel_rfl⟩, trivial⟩ (by kernel_rfl) rfl (by kernel_rfl) rfl rfl rfl ?_
  rw [vc89]
  try simp only [splitB_iff, -eq_self]
  have hd2 : 0 < 2 * d := by omega
  obtain ⟨t1, t2, t3, t4⟩ := tdiv_le (a := 2 * a + d) (B := 4000000000) hd2 (by omega)
  obtain ⟨f1, f2⟩ := floor_tdiv (a := 2 * a + d) hd2
  simp only [fitw (n := 2 * a) (by omega), fitw (n := 2 * d) (by omega), fitw (n := 2 * a + d) (by omega), fitw (n := (2 * a + d).tdiv (2 * d) * (2 * d)) (by omega), fitw (n := (2 * a + d).tdiv (2 * d) - 1) (by omega)]
  refine ⟨⟨by omega, by simp only [fits]; omega⟩, fun h => ?_, fun h => ?_⟩
  · exact ⟨f1 (of_decide_eq_true h), trivial⟩
  · exact ⟨f2 (of_decide_eq_false h), trivial⟩
theorem so89_ : SpecOk P1 gl1 89 sp89 := by
  intro vs ps r h hp
  simp only [sp89] at h
  split at h
  · cases h; exact fn89 _ _ (hp _ (.head _)) (hp _ (.tail _ (.head _)))
  · cases h
theorem so89 : Sp1 89 sp89 := ⟨so89_, Proofs.Try.f89, _, by kernel_rfl, rfl, by kernel_rfl⟩
theorem fn88 (b : Nat) (hb : chkS b = 0) : Fn P1 gl1 88 [fV b] (.val (iV (six b))) true := by
  refine Fn.flat ?_ rfl
  refine fn_of false [] [] h0 0 Proofs.Try.f88 trivial trivial (by kernel_rfl) rfl (by kernel_rfl) rfl rfl rfl ?_
  rw [vc88]
  try simp only [splitB_iff, -eq_self]
  obtain ⟨y, e1, e2, e3⟩ := six_step hb
  have e2' : Ieee.Datum.toInt .zero (FloatKind.decode .f32 y) = some (six b) := e2
  simp only [fmt32, e1, e2', Option.isSome_some, Option.getD_some]
  refine ⟨trivial, ⟨trivial, ?_, ?_⟩, trivial, trivial⟩
  · show (-9223372036854775808 : Int) ≤ _; omega
  · show _ ≤ (9223372036854775807 : Int); omega
theorem so88_ : SpecOk P1 gl1 88 sp88 := by
  intro vs ps r h hp
  simp only [sp88] at h
  split at h
  · cases h; exact fn88 _ (hp _ (.head _))
  · cases h
theorem so88 : Sp1 88 sp88 := ⟨so88_, Proofs.Try.f88, _, by kernel_rfl, rfl, by kernel_rfl⟩
theorem fn87 (n : Int) (hb : -8388608 ≤ n ∧ n ≤ 8388608) : Fn P1 gl1 87 [iV n] (.val (fV (smp n))) true := by
  refine Fn.flat ?_ rfl
  refine fn_of false [] [] h0 0 Proofs.Try.f87 trivial trivial (by kernel_rfl) rfl (by kernel_rfl) rfl rfl rfl ?_
  rw [vc87]
  try simp only [splitB_iff, -eq_self]
  obtain ⟨e1, e2, e3⟩ := smp_num (n := n) (by omega)
  have e1' : Ieee.Format.div Ieee.single (FloatKind.nearest .f32 n) 1098907648 = some (smp n) := e1
  simp only [fmt32, e1', Option.isSome_some, Option.getD_some]
  exact ⟨trivial, trivial, trivial⟩
theorem so87_ : SpecOk P1 gl1 87 sp87 := by
  intro vs ps r h hp
  simp only [sp87] at h
  split at h
  · cases h; exact fn87 _ (hp _ (.head _))
  · cases h
theorem so87 : Sp1 87 sp87 := ⟨so87_, Proofs.Try.f87, _, by kernel_rfl, rfl, by kernel_rfl⟩
theorem valC_bd (n : Int) : 0 ≤ valC n ∧ valC n ≤ 200 := by
  unfold valC roundI2
  split
  · omega
  · split <;> omega
theorem fn69 (n : Int) (hn : -20000 ≤ n ∧ n ≤ 20000) : Fn P1 gl1 69 [.one (.sl ptT [(0, 0), (64, 128)]), iV n] (.val (iV (valC n))) true := by
  refine Fn.flat ?_ rfl
  refine fn_of false [(89, sp89)] [] (hu 4) 0 Proofs.Try.f69 ⟨so89, trivial⟩ trivial (by kernel_rfl) rfl (by kernel_rfl) rfl rfl rfl ?_
  rw [vc69]
  try simp only [splitB_iff, -eq_self]
  refine ⟨by omega, fun e => ⟨by omega, ?_, trivial⟩, fun e => ⟨by omega, fun e2 => ?_, fun e2 => ⟨by simp only [fits]; omega, by omega, fun e3 => ⟨by simp only [fits]; omega, by omega, by simp only [fits]; omega, by simp only [fits]; omega, by simp only [fits]; omega, by simp only [fits]; omega, by omega, by omega, ?_, ?_, trivial⟩, fun e3 => ⟨by simp only [fits]; omega, by simp only [fits]; omega, by omega, ?_, trivial⟩⟩⟩⟩
  · unfold valC
    rw [if_pos (of_decide_eq_true e)]
  · rw [e] at e2; cases e2
  · have h1 := of_decide_eq_true e3
    have h2 := of_decide_eq_false e
    simp only [fits, roundI2]
    omega
  · have h1 := of_decide_eq_true e3
    have h2 := of_decide_eq_false e
    unfold valC
    rw [if_neg h2, if_pos h1, Int.sub_zero]
  · have h1 := of_decide_eq_false e3
    have h2 := of_decide_eq_false e
    unfold valC
    rw [if_neg h2, if_neg h1]
theorem so67 : Sp1 67 sp67 := by
  refine ⟨fun vs ps r h hp => ?_, Proofs.Try.f67, _, by kernel_rfl, rfl, by kernel_rfl⟩
  simp only [sp67] at h
  split at h
  · split at h
    · rename_i e; cases h
      have e : _ = crv0 := e
      subst e
      exact fn67
    · cases h
  · cases h
theorem so69 : Sp1 69 sp69 := by
  refine ⟨fun vs ps r h hp => ?_, Proofs.Try.f69, _, by kernel_rfl, rfl, by kernel_rfl⟩
  simp only [sp69] at h
  split at h
  · split at h
    · rename_i e; cases h
      have e : _ = crv0 := e
      subst e
      exact fn69 _ (hp _ (.head _))
    · cases h
  · cases h
theorem fn26 (nm : List UInt8) (w h : Int) (s : List Nat) (hl : s.length ≤ 1000000) (hc : chkPic nm w h s = 0) : Fn P1 gl1 26 [.one (.sl ptT [(0, 0), (64, 128)]), picV nm w h s] (.tup [picV nm w h (appL s), iV 0]) true := by
  refine fn_ofr false [(67, sp67), (29, sp29), (66, sp66), (88, sp88), (87, sp87), (69, sp69)] [fb68, fb86, fb85] h26 3 Proofs.Try.f26 ⟨so67, so29, so66, so88, so87, so69, trivial⟩ ⟨⟨by kernel_rfl, by kernel_rfl, _, rfl, by kernel_rfl⟩, ⟨by kernel_rfl, by kernel_rfl, _, rfl, by kernel_rfl⟩, ⟨by kernel_rfl, by kernel_rfl, _, rfl, by kernel_rfl⟩, trivial⟩ (by kernel_rfl) rfl (by kernel_rfl) rfl rfl rfl ?_
  rw [vc26]
  try simp only [splitB_iff, -eq_self]
  obtain ⟨c1, c2, c3, c4, c5⟩ := chkPic_zero.1 hc
  refine ⟨hl, by omega, no (fst2 rfl hc), fun _ => ⟨⟨0, Nat.zero_le _, by (repeat' (first | exact trivial | exact rfl | apply And.intro))⟩, fun g hg => ⟨fun hlt => ?_, fun hge => ?_⟩⟩⟩
  · have hlt : g < s.length := by simpa using hlt
    have hb := chk_six (ok_at c5 hlt)
    have hv := valC_bd (six (List.getD s g 0))
    refine ⟨by omega, ok_at c5 hlt, by omega, by omega, by simp only [room, List.length_map, List.length_take]; omega, by simp only [fits]; omega, g + 1, hlt, by omega, by omega, rfl, rfl, ?_, by (repeat' (first | exact trivial | exact rfl | apply And.intro))⟩
    rw [List.take_succ_eq_append_getElem hlt, List.map_append, getD_of hlt]
    rfl
  · have hge : ¬ g < s.length := by simpa using hge
    rw [List.take_of_length_le (by omega)]
    (repeat' (first | exact trivial | exact rfl | apply And.intro))
theorem so26 : Sp1 26 sp26 := by
  refine ⟨fun vs ps r h hp => ?_, Proofs.Try.f26, _, by kernel_rfl, rfl, by kernel_rfl⟩
  simp only [sp26] at h
  split at h
  · split at h
    · rename_i e; cases h
      have e : _ = crv0 := e
      subst e
      exact fn26 _ _ _ _ (hp _ (.head _)) (hp _ (.tail _ (.head _)))
    · cases h
  · cases h
theorem fn6   : Fn P1 gl1 6 [] (.val (bV true)) true := by
  refine Fn.flat ?_ rfl
  refine fn_of false [(14, sp14), (17, sp17), (26, sp26), (27, sp27)] [] h6 0 Proofs.Try.f6 ⟨so14, so17, so26, so27, trivial⟩ trivial (by kernel_rfl) rfl (by kernel_rfl) rfl rfl rfl ?_
  rw [vc6 ()]
  try simp only [splitB_iff, -eq_self]
  refine ⟨⟨q0, rfl, by (repeat' (first | exact trivial | exact rfl | apply And.intro))⟩, fun g hg => ?_⟩
  have hg : g = q0 := hg
  subst hg
  have e1 : chkPic [(112 : UInt8)] 2 2 q0 = 0 := by decide +kernel
  have e2 : Wd q0 := by unfold Wd; decide
  refine ⟨by decide, e1, by omega, by decide, e1, e2, by decide, e1, fun _ => by decide, fun _ => by decide, fun _ => by decide +kernel, fun _ => by decide +kernel, by decide +kernel, trivial⟩
theorem so6_ : SpecOk P1 gl1 6 sp6 := by
  intro vs ps r h _
  simp only [sp6] at h
  split at h
  · cases h; exact fn6  
  · cases h
theorem so6 : Sp1 6 sp6 := ⟨so6_, Proofs.Try.f6, _, by kernel_rfl, rfl, by kernel_rfl⟩
end Go.Sx

namespace Go.Sx.U
def B500 (s : List Nat) (i : Nat) : Prop := -8000 ≤ six (List.getD s i 0) ∧ six (List.getD s i 0) ≤ 8000
end Go.Sx.U
namespace Go.Sx
open U
def h3 : Hints := ⟨fun f k s => match f, k with
  | 3, 4 => match picAt s 0, picAt s 4 with
    | some (_, _, xs), some (_, _, ys) => some ⟨Nat, fun i => ⟨tI 83 i :: keepT [3, 4, 5, 82] s.tm, liveO [] s.ob, s.nx, s.lr⟩, fun i => i ≤ List.length xs ∧ ∀ j, j < i → B500 xs j ∧ B500 ys j, fun i => List.length xs - i⟩
    | _, _ => none
  | _, _ => none, 5⟩
end Go.Sx
