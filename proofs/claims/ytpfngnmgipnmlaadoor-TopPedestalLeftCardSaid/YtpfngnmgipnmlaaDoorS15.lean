/- A verified symbolic run of functions, part 15: lemmas, no claim of their own. -/
import Derived.Test.YtpfngnmgipnmlaaDoorS14
/- What the engine asks, written out (printed by a program). -/
namespace Go.Sx
open U
theorem vc109 (n : Int) : exF (env false [] [fb143]) (hu 4) 3 109 Proofs.Tryd.f109 [.one (.sl (.int .i64) [24, 25, 30]), iV n] (.val (bV (decide (n = 24 ∨ n = 25 ∨ n = 30)))) = (let q0 := (n = (24 : Int) ∨ n = (25 : Int) ∨ n = (30 : Int)); ((0 : Int) ≤ (0 : Int) ∧ (0 : Int) < (3 : Int)) ∧ splitB (n == (24 : Int)) (decide ((0 : Int) ≤ (0 : Int)) = decide q0 ∧ True) (fits IntKind.i64 (1 : Int) ∧ ((0 : Int) ≤ (1 : Int) ∧ (1 : Int) < (3 : Int)) ∧ splitB (n == (25 : Int)) (decide ((0 : Int) ≤ (1 : Int)) = decide q0 ∧ True) (fits IntKind.i64 (2 : Int) ∧ ((0 : Int) ≤ (2 : Int) ∧ (2 : Int) < (3 : Int)) ∧ splitB (n == (30 : Int)) (decide ((0 : Int) ≤ (2 : Int)) = decide q0 ∧ True) (fits IntKind.i64 (3 : Int) ∧ decide ((0 : Int) ≤ (-1 : Int)) = decide q0 ∧ True)))) := by
  kernel_rfl
theorem vc68 (b : Bool) (e : Int) : exF (env false [] []) h0 0 68 Proofs.Tryd.f68 [bV b, iV e] (.val (iV (whenE b e))) = (splitB b (e = whenE b e ∧ True) ((0 : Int) = whenE b e ∧ True)) := by
  kernel_rfl
theorem vc53 (n lo hi : Int) : exF (env false [(68, sp68)] []) h0 0 53 Proofs.Tryd.f53 [iV n, iV lo, iV hi] (.val (iV (within n lo hi))) = (whenE (bif decide (n < lo) then true else decide (hi < n)) (3 : Int) = within n lo hi ∧ True) := by
  kernel_rfl
theorem vc52 (xs : List Int) : exF (env false [] []) h52 0 52 Proofs.Tryd.f52 [.one (.sl (.int .i64) xs)] (.val (iV (first xs))) = (let q0 := (↑(List.length xs) : Int); (∃ (g : Nat), (g ≤ List.length xs ∧ first xs = first (List.drop g xs)) ∧ (0 : Int) = (↑g : Int) ∧ q0 = q0 ∧ xs = xs ∧ True) ∧ ∀ (g : Nat), g ≤ List.length xs ∧ first xs = first (List.drop g xs) → splitB (decide ((↑g : Int) < q0)) (((0 : Int) ≤ (↑g : Int) ∧ (↑g : Int) < q0) ∧ splitB (List.getD xs g (0 : Int) != (0 : Int)) (List.getD xs g (0 : Int) = first xs ∧ True) (fits IntKind.i64 ((↑g : Int) + (1 : Int)) ∧ ∃ (g' : Nat), (g' ≤ List.length xs ∧ first xs = first (List.drop g' xs)) ∧ List.length xs - g' < List.length xs - g ∧ (↑g : Int) + (1 : Int) = (↑g' : Int) ∧ q0 = q0 ∧ xs = xs ∧ True)) ((0 : Int) = first xs ∧ True)) := by
  kernel_rfl
theorem vc107 (F : Int) (D : Bool) : exF (env false [] []) h0 0 107 Proofs.Tryd.f107 [rtV F D] (.val (iV (chkRate F D))) = (splitB (bif bif F != (24 : Int) then F != (25 : Int) else false then F != (30 : Int) else false) ((13 : Int) = chkRate F D ∧ True) (splitB (bif D then F != (30 : Int) else false) ((24 : Int) = chkRate F D ∧ True) ((0 : Int) = chkRate F D ∧ True))) := by
  kernel_rfl
theorem vc108 (F : Int) (D : Bool) (h m s f : Int) : exF (env false [] []) h0 0 108 Proofs.Tryd.f108 [rtV F D, lbV h m s f] (.val (bV (dropB D m s f))) = ((D = true → (0 : Int) ≤ m ∧ (0 : Int) < (10 : Int)) ∧ (bif bif bif D then m % (10 : Int) != (0 : Int) else false then s == (0 : Int) else false then decide (f < (2 : Int)) else false) = dropB D m s f ∧ True) := by
  kernel_rfl
theorem vc45 (F : Int) (D : Bool) (h m s f : Int) : exF (env false [(107, sp107), (46, sp46), (44, sp44), (108, sp108)] []) h0 0 45 Proofs.Tryd.f45 [rtV F D, lbV h m s f] (.val (iV (chkLab F D h m s f))) = (splitB (chkRate F D != (0 : Int)) (chkRate F D = chkLab F D h m s f ∧ True) (fits IntKind.i64 (F - (1 : Int)) ∧ (4 : Nat) ≤ (1000000000 : Nat) ∧ splitB (first [within h (0 : Int) (23 : Int), within m (0 : Int) (59 : Int), within s (0 : Int) (59 : Int), within f (0 : Int) (F - (1 : Int))] != (0 : Int)) (first [within h (0 : Int) (23 : Int), within m (0 : Int) (59 : Int), within s (0 : Int) (59 : Int), within f (0 : Int) (F - (1 : Int))] = chkLab F D h m s f ∧ True) ((0 : Int) ≤ m ∧ splitB (dropB D m s f) ((7 : Int) = chkLab F D h m s f ∧ True) ((0 : Int) = chkLab F D h m s f ∧ True)))) := by
  kernel_rfl
theorem vc8 (F : Int) (D : Bool) (h m s f u : Int) : exF (env false [(45, sp45), (46, sp46), (44, sp44)] []) h0 0 8 Proofs.Tryd.f8 [stV F D h m s f u] (.val (iV (chkStamp F D h m s f u))) = ((2 : Nat) ≤ (1000000000 : Nat) ∧ first [chkLab F D h m s f, within u (0 : Int) (65535 : Int)] = chkStamp F D h m s f u ∧ True) := by
  kernel_rfl
theorem vc48 (F : Int) (D : Bool) : exF (env false [(68, sp68), (52, sp52), (109, sp109)] []) h0 0 48 Proofs.Tryd.f48 [rtV F D] (.val (iV (chkRate F D))) = (((0 : Int) ≤ (0 : Int) ∧ (0 : Int) ≤ (3 : Int) ∧ (3 : Int) ≤ (3 : Int)) ∧ [(24 : Int), (25 : Int), (30 : Int)] = [(24 : Int), (25 : Int), (30 : Int)] ∧ (2 : Nat) ≤ (1000000000 : Nat) ∧ first [whenE (!decide (F = (24 : Int) ∨ F = (25 : Int) ∨ F = (30 : Int))) (13 : Int), whenE (bif D then F != (30 : Int) else false) (24 : Int)] = chkRate F D ∧ True) := by
  kernel_rfl
theorem vc49 (F : Int) (D : Bool) : exF (env false [] []) h0 0 49 Proofs.Tryd.f49 [rtV F D] (.val (iV (dayN F D))) = (fits IntKind.i64 ((86400 : Int) * F) ∧ splitB D (fits IntKind.i64 ((86400 : Int) * F - (2592 : Int)) ∧ (86400 : Int) * F - (2592 : Int) = dayN F D ∧ True) ((86400 : Int) * F = dayN F D ∧ True)) := by
  kernel_rfl
theorem vc110 (F : Int) (D : Bool) (h m s f : Int) : exF (env false [] []) h0 0 110 Proofs.Tryd.f110 [lbV h m s f, rtV F D] (.val (bV (dropB D m s f))) = ((D = true → (0 : Int) ≤ m ∧ (0 : Int) < (10 : Int)) ∧ (bif bif bif D then m % (10 : Int) != (0 : Int) else false then s == (0 : Int) else false then decide (f < (2 : Int)) else false) = dropB D m s f ∧ True) := by
  kernel_rfl
theorem vc50 (F : Int) (D : Bool) (h m s f : Int) : exF (env false [(48, sp48), (53, sp53), (68, sp68), (52, sp52), (110, sp110)] []) h0 0 50 Proofs.Tryd.f50 [rtV F D, lbV h m s f] (.val (iV (chkLab F D h m s f))) = (fits IntKind.i64 (F - (1 : Int)) ∧ (0 : Int) ≤ m ∧ (6 : Nat) ≤ (1000000000 : Nat) ∧ first [chkRate F D, within h (0 : Int) (23 : Int), within m (0 : Int) (59 : Int), within s (0 : Int) (59 : Int), within f (0 : Int) (F - (1 : Int)), whenE (dropB D m s f) (7 : Int)] = chkLab F D h m s f ∧ True) := by
  kernel_rfl
theorem vc55 (F : Int) (D : Bool) (h m s f u : Int) : exF (env false [(50, sp50), (53, sp53), (52, sp52)] []) h0 0 55 Proofs.Tryd.f55 [stV F D h m s f u] (.val (iV (chkStamp F D h m s f u))) = ((0 : Int) ≤ m ∧ ((0 : Int) ≤ F ∧ F ≤ (1000 : Int)) ∧ (2 : Nat) ≤ (1000000000 : Nat) ∧ first [chkLab F D h m s f, within u (0 : Int) (65535 : Int)] = chkStamp F D h m s f u ∧ True) := by
  kernel_rfl
theorem vc51 (F : Int) (D : Bool) (h m s f : Int) : exF (env false [] []) h0 0 51 Proofs.Tryd.f51 [lbV h m s f, rtV F D] (.val (iV (frameN F D h m s f))) = (let q0 := ((60 : Int) * h + m); let q1 := ((60 : Int) * h + m - q0 / (10 : Int)); let q2 := ((60 : Int) * q0 + s); fits IntKind.i64 ((60 : Int) * h) ∧ fits IntKind.i64 q0 ∧ fits IntKind.i64 ((60 : Int) * q0) ∧ fits IntKind.i64 q2 ∧ fits IntKind.i64 (q2 * F) ∧ fits IntKind.i64 (q2 * F + f) ∧ splitB D (((0 : Int) ≤ (60 : Int) * h + m ∧ (0 : Int) < (10 : Int) ∧ fits IntKind.i64 (q0 / (10 : Int))) ∧ fits IntKind.i64 q1 ∧ fits IntKind.i64 ((2 : Int) * q1) ∧ fits IntKind.i64 (q2 * F + f - (2 : Int) * q1) ∧ q2 * F + f - (2 : Int) * q1 = frameN F D h m s f ∧ True) (q2 * F + f = frameN F D h m s f ∧ True)) := by
  kernel_rfl
theorem vc10 (F : Int) (D : Bool) : exF (env false [(48, sp48), (49, sp49)] []) h0 0 10 Proofs.Tryd.f10 [rtV F D] (.tup [iV (dayN F D), iV 0]) = (splitB (chkRate F D != (0 : Int)) ((0 : Int) = dayN F D ∧ chkRate F D = (0 : Int) ∧ True) (((0 : Int) ≤ F ∧ F ≤ (1000 : Int)) ∧ dayN F D = dayN F D ∧ (0 : Int) = (0 : Int) ∧ True)) := by
  kernel_rfl
theorem vc11 (F : Int) (D : Bool) (h m s f : Int) : exF (env false [(50, sp50), (51, sp51)] []) h0 0 11 Proofs.Tryd.f11 [rtV F D, lbV h m s f] (.tup [iV (frameN F D h m s f), iV 0]) = ((0 : Int) ≤ m ∧ ((0 : Int) ≤ F ∧ F ≤ (1000 : Int)) ∧ splitB (chkLab F D h m s f != (0 : Int)) ((0 : Int) = frameN F D h m s f ∧ chkLab F D h m s f = (0 : Int) ∧ True) (RateOk F D ∧ LabOk F D h m s f ∧ frameN F D h m s f = frameN F D h m s f ∧ (0 : Int) = (0 : Int) ∧ True)) := by
  kernel_rfl
theorem vc111 (F : Int) (D : Bool) (n : Int) : exF (env false [] []) h0 0 111 Proofs.Tryd.f111 [rtV F D, iV n] (.val (lbW (lab F D n))) = (let q4 := (n % (17982 : Int) - (1800 : Int)); let q2 := ((1 : Int) + q4 / (1798 : Int)); let q3 := (n / (17982 : Int)); let q0 := (n + (18 : Int) * q3 + (2 : Int) * q2); let q1 := (n + (18 : Int) * q3); splitB D (((0 : Int) ≤ n ∧ (0 : Int) < (17982 : Int) ∧ fits IntKind.i64 q3) ∧ ((0 : Int) ≤ n ∧ (0 : Int) < (17982 : Int)) ∧ fits IntKind.i64 ((18 : Int) * q3) ∧ fits IntKind.i64 q1 ∧ splitB (decide ((1800 : Int) ≤ n % (17982 : Int))) (fits IntKind.i64 q4 ∧ ((0 : Int) ≤ n % (17982 : Int) - (1800 : Int) ∧ (0 : Int) < (1798 : Int) ∧ fits IntKind.i64 (q4 / (1798 : Int))) ∧ fits IntKind.i64 q2 ∧ fits IntKind.i64 ((2 : Int) * q2) ∧ fits IntKind.i64 q0 ∧ ((0 : Int) ≤ n + (18 : Int) * q3 + (2 : Int) * q2 ∧ (0 : Int) < F ∧ fits IntKind.i64 (q0 / F)) ∧ ((0 : Int) ≤ q0 / F ∧ (0 : Int) < (3600 : Int) ∧ fits IntKind.i64 (q0 / F / (3600 : Int))) ∧ ((0 : Int) ≤ q0 / F ∧ (0 : Int) < (60 : Int) ∧ fits IntKind.i64 (q0 / F / (60 : Int))) ∧ ((0 : Int) ≤ q0 / F / (60 : Int) ∧ (0 : Int) < (60 : Int)) ∧ ((0 : Int) ≤ q0 / F ∧ (0 : Int) < (60 : Int)) ∧ ((0 : Int) ≤ n + (18 : Int) * q3 + (2 : Int) * q2 ∧ (0 : Int) < F) ∧ q0 / F / (3600 : Int) = (lab F D n).1 ∧ q0 / F / (60 : Int) % (60 : Int) = (lab F D n).2.1 ∧ q0 / F % (60 : Int) = (lab F D n).2.2.1 ∧ q0 % F = (lab F D n).2.2.2 ∧ True) (((0 : Int) ≤ n + (18 : Int) * q3 ∧ (0 : Int) < F ∧ fits IntKind.i64 (q1 / F)) ∧ ((0 : Int) ≤ q1 / F ∧ (0 : Int) < (3600 : Int) ∧ fits IntKind.i64 (q1 / F / (3600 : Int))) ∧ ((0 : Int) ≤ q1 / F ∧ (0 : Int) < (60 : Int) ∧ fits IntKind.i64 (q1 / F / (60 : Int))) ∧ ((0 : Int) ≤ q1 / F / (60 : Int) ∧ (0 : Int) < (60 : Int)) ∧ ((0 : Int) ≤ q1 / F ∧ (0 : Int) < (60 : Int)) ∧ ((0 : Int) ≤ n + (18 : Int) * q3 ∧ (0 : Int) < F) ∧ q1 / F / (3600 : Int) = (lab F D n).1 ∧ q1 / F / (60 : Int) % (60 : Int) = (lab F D n).2.1 ∧ q1 / F % (60 : Int) = (lab F D n).2.2.1 ∧ q1 % F = (lab F D n).2.2.2 ∧ True)) (((0 : Int) ≤ n ∧ (0 : Int) < F ∧ fits IntKind.i64 (n / F)) ∧ ((0 : Int) ≤ n / F ∧ (0 : Int) < (3600 : Int) ∧ fits IntKind.i64 (n / F / (3600 : Int))) ∧ ((0 : Int) ≤ n / F ∧ (0 : Int) < (60 : Int) ∧ fits IntKind.i64 (n / F / (60 : Int))) ∧ ((0 : Int) ≤ n / F / (60 : Int) ∧ (0 : Int) < (60 : Int)) ∧ ((0 : Int) ≤ n / F ∧ (0 : Int) < (60 : Int)) ∧ ((0 : Int) ≤ n ∧ (0 : Int) < F) ∧ n / F / (3600 : Int) = (lab F D n).1 ∧ n / F / (60 : Int) % (60 : Int) = (lab F D n).2.1 ∧ n / F % (60 : Int) = (lab F D n).2.2.1 ∧ n % F = (lab F D n).2.2.2 ∧ True)) := by
  kernel_rfl
theorem vc54 (F : Int) (D : Bool) (h m s f n : Int) : exF (env false [(51, sp51), (49, sp49), (111, sp111)] []) h0 0 54 Proofs.Tryd.f54 [lbV h m s f, rtV F D, iV n] (.val (lbW (lab F D (addN F D h m s f n)))) = (let q0 := ((frameN F D h m s f + n) % dayN F D + dayN F D); let q1 := (lab F D (addN F D h m s f n)); let q2 := (lab F D (q0 % dayN F D)); let q3 := ((0 : Int) ≤ F ∧ F ≤ (1000 : Int)); RateOk F D ∧ LabOk F D h m s f ∧ fits IntKind.i64 (frameN F D h m s f + n) ∧ q3 ∧ ((0 : Int) ≤ frameN F D h m s f + n ∧ (0 : Int) < dayN F D) ∧ q3 ∧ fits IntKind.i64 q0 ∧ q3 ∧ ((0 : Int) ≤ (frameN F D h m s f + n) % dayN F D + dayN F D ∧ (0 : Int) < dayN F D) ∧ RateOk F D ∧ ((0 : Int) ≤ q0 % dayN F D ∧ q0 % dayN F D < dayN F D) ∧ q2.1 = q1.1 ∧ q2.2.1 = q1.2.1 ∧ q2.2.2.1 = q1.2.2.1 ∧ q2.2.2.2 = q1.2.2.2 ∧ True) := by
  kernel_rfl
theorem vc12 (F : Int) (D : Bool) (h m s f n : Int) : exF (env false [(50, sp50), (53, sp53), (52, sp52), (54, sp54)] []) h0 0 12 Proofs.Tryd.f12 [rtV F D, lbV h m s f, iV n] (.tup [lbW (lab F D (addN F D h m s f n)), iV 0]) = (let q0 := (lab F D (addN F D h m s f n)); (0 : Int) ≤ m ∧ ((0 : Int) ≤ F ∧ F ≤ (1000 : Int)) ∧ (2 : Nat) ≤ (1000000000 : Nat) ∧ splitB (first [chkLab F D h m s f, within n (-10000000 : Int) (10000000 : Int)] != (0 : Int)) ((0 : Int) = q0.1 ∧ (0 : Int) = q0.2.1 ∧ (0 : Int) = q0.2.2.1 ∧ (0 : Int) = q0.2.2.2 ∧ first [chkLab F D h m s f, within n (-10000000 : Int) (10000000 : Int)] = (0 : Int) ∧ True) (RateOk F D ∧ LabOk F D h m s f ∧ ((0 : Int) ≤ n ∧ n ≤ (10000000 : Int)) ∧ q0.1 = q0.1 ∧ q0.2.1 = q0.2.1 ∧ q0.2.2.1 = q0.2.2.1 ∧ q0.2.2.2 = q0.2.2.2 ∧ (0 : Int) = (0 : Int) ∧ True)) := by
  kernel_rfl
theorem vc66 (xs : List Int) : exF (env false [] []) h66 0 66 Proofs.Tryd.f66 [.one (.sl (.int .u8) xs)] (.val (uV (par xs))) = (let q0 := (↑(List.length xs) : Int); (∃ (g : Nat), Nat.le g (List.length xs) ∧ (0 : Int) = (↑g : Int) ∧ (0 : Int) = par (List.take g xs) ∧ q0 = q0 ∧ xs = xs ∧ True) ∧ ∀ (g : Nat), Nat.le g (List.length xs) → splitB (decide ((↑g : Int) < q0)) (((0 : Int) ≤ (↑g : Int) ∧ (↑g : Int) < q0) ∧ fits IntKind.i64 ((↑g : Int) + (1 : Int)) ∧ ∃ (g' : Nat), Nat.le g' (List.length xs) ∧ List.length xs - g' < List.length xs - g ∧ (↑g : Int) + (1 : Int) = (↑g' : Int) ∧ bits BinOp.xor IntKind.u8 (par (List.take g xs)) (List.getD xs g (0 : Int)) = par (List.take g' xs) ∧ q0 = q0 ∧ xs = xs ∧ True) (par (List.take g xs) = par xs ∧ True)) := by
  kernel_rfl
theorem vc56 (F : Int) (D : Bool) (h m s f u : Int) : exF (env false [(66, sp66)] [fb67]) (hu 5) 3 56 Proofs.Tryd.f56 [stV F D h m s f u] (.val (aV 10 (wordS F D h m s f u))) = (let q0 := (f / (10 : Int) * (16 : Int) + f % (10 : Int)); let q1 := (s / (10 : Int) * (16 : Int) + s % (10 : Int)); let q2 := (m / (10 : Int) * (16 : Int) + m % (10 : Int)); let q3 := (h / (10 : Int) * (16 : Int) + h % (10 : Int)); let q4 := ((0 : Int) ≤ (4 : Int) ∧ (4 : Int) < (10 : Int)); let q5 := ((0 : Int) ≤ (0 : Int) ∧ (0 : Int) ≤ (7 : Int) ∧ (7 : Int) ≤ (10 : Int)); let q6 := ((0 : Int) ≤ (8 : Int) ∧ (8 : Nat) ≤ IntKind.bits IntKind.i64); let q7 := ((0 : Int) ≤ (5 : Int) ∧ (5 : Int) < (10 : Int)); let q8 := ((0 : Int) ≤ (6 : Int) ∧ (6 : Int) < (10 : Int)); let q9 := ((0 : Int) ≤ (7 : Int) ∧ (7 : Int) < (10 : Int)); let q10 := ((0 : Int) ≤ (8 : Int) ∧ (8 : Int) < (10 : Int)); let q11 := ((0 : Int) ≤ (9 : Int) ∧ (9 : Int) < (10 : Int)); ((0 : Int) ≤ (0 : Int) ∧ (0 : Int) < (4 : Int)) ∧ ((0 : Int) ≤ f ∧ (0 : Int) < (10 : Int) ∧ fits IntKind.i64 (f / (10 : Int))) ∧ fits IntKind.i64 (f / (10 : Int) * (16 : Int)) ∧ ((0 : Int) ≤ f ∧ (0 : Int) < (10 : Int)) ∧ fits IntKind.i64 q0 ∧ ((0 : Int) ≤ (0 : Int) ∧ (0 : Int) < (10 : Int)) ∧ (0 : Nat) < (10 : Nat) ∧ fits IntKind.i64 (1 : Int) ∧ ((0 : Int) ≤ (1 : Int) ∧ (1 : Int) < (4 : Int)) ∧ ((0 : Int) ≤ s ∧ (0 : Int) < (10 : Int) ∧ fits IntKind.i64 (s / (10 : Int))) ∧ fits IntKind.i64 (s / (10 : Int) * (16 : Int)) ∧ ((0 : Int) ≤ s ∧ (0 : Int) < (10 : Int)) ∧ fits IntKind.i64 q1 ∧ ((0 : Int) ≤ (1 : Int) ∧ (1 : Int) < (10 : Int)) ∧ (1 : Nat) < (10 : Nat) ∧ fits IntKind.i64 (2 : Int) ∧ ((0 : Int) ≤ (2 : Int) ∧ (2 : Int) < (4 : Int)) ∧ ((0 : Int) ≤ m ∧ (0 : Int) < (10 : Int) ∧ fits IntKind.i64 (m / (10 : Int))) ∧ fits IntKind.i64 (m / (10 : Int) * (16 : Int)) ∧ ((0 : Int) ≤ m ∧ (0 : Int) < (10 : Int)) ∧ fits IntKind.i64 q2 ∧ ((0 : Int) ≤ (2 : Int) ∧ (2 : Int) < (10 : Int)) ∧ (2 : Nat) < (10 : Nat) ∧ fits IntKind.i64 (3 : Int) ∧ ((0 : Int) ≤ (3 : Int) ∧ (3 : Int) < (4 : Int)) ∧ ((0 : Int) ≤ h ∧ (0 : Int) < (10 : Int) ∧ fits IntKind.i64 (h / (10 : Int))) ∧ fits IntKind.i64 (h / (10 : Int) * (16 : Int)) ∧ ((0 : Int) ≤ h ∧ (0 : Int) < (10 : Int)) ∧ fits IntKind.i64 q3 ∧ ((0 : Int) ≤ (3 : Int) ∧ (3 : Int) < (10 : Int)) ∧ (3 : Nat) < (10 : Nat) ∧ fits IntKind.i64 (4 : Int) ∧ q4 ∧ (4 : Nat) < (10 : Nat) ∧ splitB D (q4 ∧ (4 : Nat) < (10 : Nat) ∧ fits IntKind.u8 (F % (256 : Int) + (128 : Int)) ∧ q4 ∧ (4 : Nat) < (10 : Nat) ∧ q6 ∧ q7 ∧ (5 : Nat) < (10 : Nat) ∧ q8 ∧ (6 : Nat) < (10 : Nat) ∧ q5 ∧ (7 : Nat) = (7 : Nat) ∧ (7 : Nat) ≤ (1000000000 : Nat) ∧ Bytes [q0 % (256 : Int), q1 % (256 : Int), q2 % (256 : Int), q3 % (256 : Int), F % (256 : Int) + (128 : Int), u / (256 : Int) % (256 : Int), u % (256 : Int)] ∧ q9 ∧ (7 : Nat) < (10 : Nat) ∧ q10 ∧ (8 : Nat) < (10 : Nat) ∧ q11 ∧ (9 : Nat) < (10 : Nat) ∧ [q0 % (256 : Int), q1 % (256 : Int), q2 % (256 : Int), q3 % (256 : Int), F % (256 : Int) + (128 : Int), u / (256 : Int) % (256 : Int), u % (256 : Int), par [q0 % (256 : Int), q1 % (256 : Int), q2 % (256 : Int), q3 % (256 : Int), F % (256 : Int) + (128 : Int), u / (256 : Int) % (256 : Int), u % (256 : Int)], (63 : Int), (253 : Int)] = wordS F D h m s f u ∧ True) (q6 ∧ q7 ∧ (5 : Nat) < (10 : Nat) ∧ q8 ∧ (6 : Nat) < (10 : Nat) ∧ q5 ∧ (7 : Nat) = (7 : Nat) ∧ (7 : Nat) ≤ (1000000000 : Nat) ∧ Bytes [q0 % (256 : Int), q1 % (256 : Int), q2 % (256 : Int), q3 % (256 : Int), F % (256 : Int), u / (256 : Int) % (256 : Int), u % (256 : Int)] ∧ q9 ∧ (7 : Nat) < (10 : Nat) ∧ q10 ∧ (8 : Nat) < (10 : Nat) ∧ q11 ∧ (9 : Nat) < (10 : Nat) ∧ [q0 % (256 : Int), q1 % (256 : Int), q2 % (256 : Int), q3 % (256 : Int), F % (256 : Int), u / (256 : Int) % (256 : Int), u % (256 : Int), par [q0 % (256 : Int), q1 % (256 : Int), q2 % (256 : Int), q3 % (256 : Int), F % (256 : Int), u / (256 : Int) % (256 : Int), u % (256 : Int)], (63 : Int), (253 : Int)] = wordS F D h m s f u ∧ True)) := by
  kernel_rfl
theorem vc13 (F : Int) (D : Bool) (h m s f u : Int) : exF (env false [(55, sp55), (56, sp56)] []) h0 0 13 Proofs.Tryd.f13 [stV F D h m s f u] (.tup [aV 10 (wordS F D h m s f u), iV 0]) = ((0 : Int) ≤ m ∧ ((0 : Int) ≤ F ∧ F ≤ (1000 : Int)) ∧ splitB (chkStamp F D h m s f u != (0 : Int)) (List.replicate (10 : Nat) (0 : Int) = wordS F D h m s f u ∧ chkStamp F D h m s f u = (0 : Int) ∧ True) (RateOk F D ∧ LabOk F D h m s f ∧ ((0 : Int) ≤ u ∧ u ≤ (65535 : Int)) ∧ wordS F D h m s f u = wordS F D h m s f u ∧ (0 : Int) = (0 : Int) ∧ True)) := by
  kernel_rfl
theorem vc18 (d : List Int) : exF (env false [(66, sp66), (48, sp48), (55, sp55)] [fb67]) (hu 5) 3 18 Proofs.Tryd.f18 [aV 10 d] (.tup [stW (stOf d), iV 0]) = (let q0 := ((0 : Int) = (stOf d).1.1 ∧ false = (stOf d).1.2 ∧ (0 : Int) = (stOf d).2.1.1 ∧ (0 : Int) = (stOf d).2.1.2.1 ∧ (0 : Int) = (stOf d).2.1.2.2.1 ∧ (0 : Int) = (stOf d).2.1.2.2.2 ∧ (0 : Int) = (stOf d).2.2 ∧ (1 : Int) = (0 : Int) ∧ True); let q1 := ((0 : Int) ≤ (4 : Int) ∧ (4 : Nat) ≤ IntKind.bits IntKind.u8); let q2 := (List.getD d (4 : Nat) (0 : Int)); let q19 := (List.getD d (0 : Nat) (0 : Int)); let q3 := (List.getD d (0 : Nat) (0 : Int) / (16 : Int) * (10 : Int) + bits BinOp.and IntKind.u8 q19 (15 : Int)); let q20 := (List.getD d (1 : Nat) (0 : Int)); let q4 := (List.getD d (1 : Nat) (0 : Int) / (16 : Int) * (10 : Int) + bits BinOp.and IntKind.u8 q20 (15 : Int)); let q10 := (List.getD d (2 : Nat) (0 : Int)); let q5 := (List.getD d (2 : Nat) (0 : Int) / (16 : Int) * (10 : Int) + bits BinOp.and IntKind.u8 q10 (15 : Int)); let q21 := (List.getD d (3 : Nat) (0 : Int)); let q6 := (List.getD d (3 : Nat) (0 : Int) / (16 : Int) * (10 : Int) + bits BinOp.and IntKind.u8 q21 (15 : Int)); let q7 := (List.getD d (5 : Nat) (0 : Int) * (256 : Int) + List.getD d (6 : Nat) (0 : Int)); let q8 := ((0 : Int) < bits BinOp.and IntKind.u8 q2 (128 : Int)); let q9 := (bits BinOp.andNot IntKind.u8 q2 (128 : Int)); let q11 := ((9 : Int) < List.getD d (0 : Nat) (0 : Int) / (16 : Int)); let q12 := ((9 : Int) < List.getD d (1 : Nat) (0 : Int) / (16 : Int)); let q13 := ((9 : Int) < List.getD d (2 : Nat) (0 : Int) / (16 : Int)); let q14 := ((9 : Int) < List.getD d (3 : Nat) (0 : Int) / (16 : Int)); let q15 := ((0 : Int) ≤ (0 : Int) ∧ (0 : Int) < (10 : Int)); let q16 := ((0 : Int) ≤ (1 : Int) ∧ (1 : Int) < (10 : Int)); let q17 := ((0 : Int) ≤ (2 : Int) ∧ (2 : Int) < (10 : Int)); let q18 := ((0 : Int) ≤ (3 : Int) ∧ (3 : Int) < (10 : Int)); let q22 := (List.take (7 : Nat) d); let q23 := ((0 : Int) ≤ (4 : Int) ∧ (4 : Int) < (10 : Int)); ((0 : Int) ≤ (8 : Int) ∧ (8 : Int) ≤ (10 : Int) ∧ (10 : Int) ≤ (10 : Int)) ∧ (2 : Nat) ≤ (2 : Nat) ∧ List.length (List.take (2 : Nat) (List.drop (8 : Nat) d)) = (2 : Nat) ∧ splitB (!eqT (Ty.arr (2 : Nat) (Ty.int IntKind.u8)) (List.take (2 : Nat) (List.drop (8 : Nat) d)) [(63 : Int), (253 : Int)]) q0 (((0 : Int) ≤ (0 : Int) ∧ (0 : Int) ≤ (7 : Int) ∧ (7 : Int) ≤ (10 : Int)) ∧ List.length q22 = (7 : Nat) ∧ List.length q22 ≤ (1000000000 : Nat) ∧ Bytes q22 ∧ ((0 : Int) ≤ (7 : Int) ∧ (7 : Int) < (10 : Int)) ∧ (7 : Nat) < List.length d ∧ splitB (par q22 != List.getD d (7 : Nat) (0 : Int)) ((0 : Int) = (stOf d).1.1 ∧ false = (stOf d).1.2 ∧ (0 : Int) = (stOf d).2.1.1 ∧ (0 : Int) = (stOf d).2.1.2.1 ∧ (0 : Int) = (stOf d).2.1.2.2.1 ∧ (0 : Int) = (stOf d).2.1.2.2.2 ∧ (0 : Int) = (stOf d).2.2 ∧ (27 : Int) = (0 : Int) ∧ True) (((0 : Int) ≤ (0 : Int) ∧ (0 : Int) < (4 : Int)) ∧ q15 ∧ (0 : Nat) < List.length d ∧ q1 ∧ (decide q11 = false → (0 : Int) ≤ (0 : Int) ∧ (0 : Int) < (10 : Int)) ∧ (decide q11 = false → (0 : Nat) < List.length d) ∧ splitB (bif decide q11 then true else decide ((9 : Int) < bits BinOp.and IntKind.u8 q19 (15 : Int))) q0 (q15 ∧ (0 : Nat) < List.length d ∧ q1 ∧ fits IntKind.i64 (List.getD d (0 : Nat) (0 : Int) / (16 : Int)) ∧ fits IntKind.i64 (List.getD d (0 : Nat) (0 : Int) / (16 : Int) * (10 : Int)) ∧ q15 ∧ (0 : Nat) < List.length d ∧ fits IntKind.i64 (bits BinOp.and IntKind.u8 q19 (15 : Int)) ∧ fits IntKind.i64 q3 ∧ fits IntKind.i64 (1 : Int) ∧ ((0 : Int) ≤ (1 : Int) ∧ (1 : Int) < (4 : Int)) ∧ q16 ∧ (1 : Nat) < List.length d ∧ q1 ∧ (decide q12 = false → (0 : Int) ≤ (1 : Int) ∧ (1 : Int) < (10 : Int)) ∧ (decide q12 = false → (1 : Nat) < List.length d) ∧ splitB (bif decide q12 then true else decide ((9 : Int) < bits BinOp.and IntKind.u8 q20 (15 : Int))) q0 (q16 ∧ (1 : Nat) < List.length d ∧ q1 ∧ fits IntKind.i64 (List.getD d (1 : Nat) (0 : Int) / (16 : Int)) ∧ fits IntKind.i64 (List.getD d (1 : Nat) (0 : Int) / (16 : Int) * (10 : Int)) ∧ q16 ∧ (1 : Nat) < List.length d ∧ fits IntKind.i64 (bits BinOp.and IntKind.u8 q20 (15 : Int)) ∧ fits IntKind.i64 q4 ∧ fits IntKind.i64 (2 : Int) ∧ ((0 : Int) ≤ (2 : Int) ∧ (2 : Int) < (4 : Int)) ∧ q17 ∧ (2 : Nat) < List.length d ∧ q1 ∧ (decide q13 = false → (0 : Int) ≤ (2 : Int) ∧ (2 : Int) < (10 : Int)) ∧ (decide q13 = false → (2 : Nat) < List.length d) ∧ splitB (bif decide q13 then true else decide ((9 : Int) < bits BinOp.and IntKind.u8 q10 (15 : Int))) q0 (q17 ∧ (2 : Nat) < List.length d ∧ q1 ∧ fits IntKind.i64 (List.getD d (2 : Nat) (0 : Int) / (16 : Int)) ∧ fits IntKind.i64 (List.getD d (2 : Nat) (0 : Int) / (16 : Int) * (10 : Int)) ∧ q17 ∧ (2 : Nat) < List.length d ∧ fits IntKind.i64 (bits BinOp.and IntKind.u8 q10 (15 : Int)) ∧ fits IntKind.i64 q5 ∧ fits IntKind.i64 (3 : Int) ∧ ((0 : Int) ≤ (3 : Int) ∧ (3 : Int) < (4 : Int)) ∧ q18 ∧ (3 : Nat) < List.length d ∧ q1 ∧ (decide q14 = false → (0 : Int) ≤ (3 : Int) ∧ (3 : Int) < (10 : Int)) ∧ (decide q14 = false → (3 : Nat) < List.length d) ∧ splitB (bif decide q14 then true else decide ((9 : Int) < bits BinOp.and IntKind.u8 q21 (15 : Int))) q0 (q18 ∧ (3 : Nat) < List.length d ∧ q1 ∧ fits IntKind.i64 (List.getD d (3 : Nat) (0 : Int) / (16 : Int)) ∧ fits IntKind.i64 (List.getD d (3 : Nat) (0 : Int) / (16 : Int) * (10 : Int)) ∧ q18 ∧ (3 : Nat) < List.length d ∧ fits IntKind.i64 (bits BinOp.and IntKind.u8 q21 (15 : Int)) ∧ fits IntKind.i64 q6 ∧ fits IntKind.i64 (4 : Int) ∧ q23 ∧ (4 : Nat) < List.length d ∧ fits IntKind.i64 q9 ∧ q23 ∧ (4 : Nat) < List.length d ∧ ((0 : Int) ≤ (5 : Int) ∧ (5 : Int) < (10 : Int)) ∧ (5 : Nat) < List.length d ∧ fits IntKind.i64 (List.getD d (5 : Nat) (0 : Int)) ∧ ((0 : Int) ≤ (8 : Int) ∧ (8 : Nat) ≤ IntKind.bits IntKind.i64 ∧ fits IntKind.i64 (List.getD d (5 : Nat) (0 : Int) * (256 : Int))) ∧ ((0 : Int) ≤ (6 : Int) ∧ (6 : Int) < (10 : Int)) ∧ (6 : Nat) < List.length d ∧ fits IntKind.i64 (List.getD d (6 : Nat) (0 : Int)) ∧ fits IntKind.i64 q7 ∧ splitB (chkRate q9 (decide q8) != (0 : Int)) q0 ((0 : Int) ≤ List.getD d (2 : Nat) (0 : Int) / (16 : Int) * (10 : Int) + bits BinOp.and IntKind.u8 q10 (15 : Int) ∧ ((0 : Int) ≤ bits BinOp.andNot IntKind.u8 q2 (128 : Int) ∧ bits BinOp.andNot IntKind.u8 q2 (128 : Int) ≤ (1000 : Int)) ∧ splitB (chkStamp q9 (decide q8) q6 q5 q4 q3 q7 != (0 : Int)) ((0 : Int) = (stOf d).1.1 ∧ false = (stOf d).1.2 ∧ (0 : Int) = (stOf d).2.1.1 ∧ (0 : Int) = (stOf d).2.1.2.1 ∧ (0 : Int) = (stOf d).2.1.2.2.1 ∧ (0 : Int) = (stOf d).2.1.2.2.2 ∧ (0 : Int) = (stOf d).2.2 ∧ chkStamp q9 (decide q8) q6 q5 q4 q3 q7 = (0 : Int) ∧ True) (bits BinOp.andNot IntKind.u8 q2 (128 : Int) = (stOf d).1.1 ∧ decide q8 = (stOf d).1.2 ∧ List.getD d (3 : Nat) (0 : Int) / (16 : Int) * (10 : Int) + bits BinOp.and IntKind.u8 q21 (15 : Int) = (stOf d).2.1.1 ∧ List.getD d (2 : Nat) (0 : Int) / (16 : Int) * (10 : Int) + bits BinOp.and IntKind.u8 q10 (15 : Int) = (stOf d).2.1.2.1 ∧ List.getD d (1 : Nat) (0 : Int) / (16 : Int) * (10 : Int) + bits BinOp.and IntKind.u8 q20 (15 : Int) = (stOf d).2.1.2.2.1 ∧ List.getD d (0 : Nat) (0 : Int) / (16 : Int) * (10 : Int) + bits BinOp.and IntKind.u8 q19 (15 : Int) = (stOf d).2.1.2.2.2 ∧ List.getD d (5 : Nat) (0 : Int) * (256 : Int) + List.getD d (6 : Nat) (0 : Int) = (stOf d).2.2 ∧ (0 : Int) = (0 : Int) ∧ True))))))))) := by
  kernel_rfl
theorem vc69 (l : List St7) : exF (env false [(55, sp55)] []) h69 0 69 Proofs.Tryd.f69 [.one (.sl stT l), .one (.fn 55 [] [])] (.val (.one (.frs (.int .i64) (List.map chkSt l)))) = (let q1 := (↑(List.length l) : Int); (∃ (g : Nat), Nat.le g (List.length l) ∧ (0 : Int) = (↑g : Int) ∧ q1 = q1 ∧ l = l ∧ List.map chkSt (List.take g l) = [] ∧ True) ∧ ∀ (g : Nat), let q0 := (List.getD l g (((0 : Int), false), ((0 : Int), (0 : Int), (0 : Int), (0 : Int)), (0 : Int))); Nat.le g (List.length l) → splitB (decide ((↑g : Int) < q1)) (((0 : Int) ≤ (↑g : Int) ∧ (↑g : Int) < q1) ∧ (0 : Int) ≤ q0.2.1.2.1 ∧ ((0 : Int) ≤ q0.1.1 ∧ q0.1.1 ≤ (1000 : Int)) ∧ room (List.length (List.map chkSt (List.take g l)) + (1 : Nat)) (8 : Nat) ∧ fits IntKind.i64 ((↑g : Int) + (1 : Int)) ∧ ∃ (g' : Nat), Nat.le g' (List.length l) ∧ List.length l - g' < List.length l - g ∧ (↑g : Int) + (1 : Int) = (↑g' : Int) ∧ q1 = q1 ∧ l = l ∧ List.map chkSt (List.take g l) ++ [chkStamp q0.1.1 q0.1.2 q0.2.1.1 q0.2.1.2.1 q0.2.1.2.2.1 q0.2.1.2.2.2 q0.2.2] = List.map chkSt (List.take g' l) ∧ True) (List.map chkSt (List.take g l) = List.map chkSt l ∧ True)) := by
  kernel_rfl
theorem vc70 (x o : St7) (a b : Int) : exF (env false [(54, sp54)] []) h0 0 70 Proofs.Tryd.f70 [.agg [.one (.int .i64 x.1.1), .one (.bool x.1.2), .one (.int .i64 x.2.1.1), .one (.int .i64 x.2.1.2.1), .one (.int .i64 x.2.1.2.2.1), .one (.int .i64 x.2.1.2.2.2), .one (.int .i64 x.2.2), .one (.int .i64 a)], .agg [.one (.int .i64 o.1.1), .one (.bool o.1.2), .one (.int .i64 o.2.1.1), .one (.int .i64 o.2.1.2.1), .one (.int .i64 o.2.1.2.2.1), .one (.int .i64 o.2.1.2.2.2), .one (.int .i64 o.2.2), .one (.int .i64 b)]] (.val (bV (follows x o))) = (let q0 := (lab o.1.1 o.1.2 (addN o.1.1 o.1.2 o.2.1.1 o.2.1.2.1 o.2.1.2.2.1 o.2.1.2.2.2 (1 : Int))); let q1 := (Ty.int IntKind.i64); let q2 := (Ty.pair q1 Ty.bool); (eqT q2 (x.1.1, x.1.2) (o.1.1, o.1.2) = true → RateOk o.1.1 o.1.2) ∧ (eqT q2 (x.1.1, x.1.2) (o.1.1, o.1.2) = true → LabOk o.1.1 o.1.2 o.2.1.1 o.2.1.2.1 o.2.1.2.2.1 o.2.1.2.2.2) ∧ (eqT q2 (x.1.1, x.1.2) (o.1.1, o.1.2) = true → (0 : Int) ≤ (1 : Int) ∧ (1 : Int) ≤ (10000000 : Int)) ∧ (bif eqT q2 (x.1.1, x.1.2) (o.1.1, o.1.2) then eqT (Ty.pair q1 (Ty.pair q1 (Ty.pair q1 q1))) (x.2.1.1, x.2.1.2.1, x.2.1.2.2.1, x.2.1.2.2.2) (q0.1, q0.2.1, q0.2.2.1, q0.2.2.2) else false) = follows x o ∧ True) := by
  kernel_rfl
theorem vc19 (l : List St7) : exF (env false [(68, sp68), (52, sp52), (69, sp69), (70, sp70)] []) h19 0 19 Proofs.Tryd.f19 [.one (.sl stT l)] (.tup [.one (.frs (.int .i64) (jumpsTo l l.length)), iV 0]) = (let q4 := (List.length l); let q2 := (↑q4 : Int); let q6 := (((0 : Int), false), ((0 : Int), (0 : Int), (0 : Int), (0 : Int)), (0 : Int)); splitB (whenE (decide ((256 : Int) < q2)) (5 : Int) != (0 : Int)) (jumpsTo l q4 = [] ∧ whenE (decide ((256 : Int) < q2)) (5 : Int) = (0 : Int) ∧ True) (List.length l ≤ (1000000 : Nat) ∧ (∀ (x : St7), x ∈ l → StOk x) ∧ List.length (List.map chkSt l) ≤ (1000000000 : Nat) ∧ splitB (first (List.map chkSt l) != (0 : Int)) (jumpsTo l q4 = [] ∧ first (List.map chkSt l) = (0 : Int) ∧ True) ((∃ (g : Nat), Nat.le g q4 ∧ (0 : Int) = (↑g : Int) ∧ q2 = q2 ∧ l = l ∧ l = l ∧ jumpsTo l g = [] ∧ List.map chkSt l = List.map chkSt l ∧ True) ∧ ∀ (g : Nat), let q0 := (List.getD l (Int.toNat ((↑g : Int) - (1 : Int))) q6); let q1 := (List.getD l g q6); let q3 := ((0 : Int) < (↑g : Int)); let q5 := ((q0.1.1, q0.1.2), (q0.2.1.1, q0.2.1.2.1, q0.2.1.2.2.1, q0.2.1.2.2.2), q0.2.2); let q7 := (decide q3 = true → fits IntKind.i64 ((↑g : Int) - (1 : Int))); Nat.le g q4 → splitB (decide ((↑g : Int) < q2)) ((decide q3 = true → (0 : Int) ≤ (↑g : Int) ∧ (↑g : Int) < q2) ∧ q7 ∧ (decide q3 = true → (0 : Int) ≤ (↑g : Int) - (1 : Int) ∧ (↑g : Int) - (1 : Int) < q2) ∧ q7 ∧ (decide q3 = true → StOk q5) ∧ splitB (bif decide q3 then !follows ((q1.1.1, q1.1.2), (q1.2.1.1, q1.2.1.2.1, q1.2.1.2.2.1, q1.2.1.2.2.2), q1.2.2) q5 else false) (room (List.length (jumpsTo l g) + (1 : Nat)) (8 : Nat) ∧ fits IntKind.i64 ((↑g : Int) + (1 : Int)) ∧ ∃ (g' : Nat), Nat.le g' q4 ∧ List.length l - g' < List.length l - g ∧ (↑g : Int) + (1 : Int) = (↑g' : Int) ∧ q2 = q2 ∧ l = l ∧ l = l ∧ jumpsTo l g ++ [(↑g : Int)] = jumpsTo l g' ∧ List.map chkSt l = List.map chkSt l ∧ True) (fits IntKind.i64 ((↑g : Int) + (1 : Int)) ∧ ∃ (g' : Nat), Nat.le g' q4 ∧ List.length l - g' < List.length l - g ∧ (↑g : Int) + (1 : Int) = (↑g' : Int) ∧ q2 = q2 ∧ l = l ∧ l = l ∧ jumpsTo l g = jumpsTo l g' ∧ List.map chkSt l = List.map chkSt l ∧ True)) (jumpsTo l g = jumpsTo l q4 ∧ (0 : Int) = (0 : Int) ∧ True)))) := by
  kernel_rfl
end Go.Sx

/- Contracts. -/
namespace Go.Sx
open U
theorem frame_range {F : Int} {D : Bool} {h m s f : Int} (hr : RateOk F D) (hl : LabOk F D h m s f) : 0 ≤ frameN F D h m s f ∧ frameN F D h m s f < dayN F D := by
  obtain ⟨h1, h2, h3, h4, h5⟩ := hl
  obtain ⟨hF, hD⟩ := hr
  unfold frameN dayN
  cases D with
  | true =>
    have := hD rfl
    subst this
    simp only [if_true]
    simp only [true_and] at h5
    by_cases hm : m % 10 = 0
    · omega
    · by_cases hs : s = 0
      · have : ¬ f < 2 := fun x => h5 ⟨hm, hs, x⟩
        omega
      · omega
  | false =>
    simp only [Bool.false_eq_true, if_false]
    rcases hF with rfl | rfl | rfl <;> omega

theorem lab_ok {F : Int} {D : Bool} {n : Int} (hr : RateOk F D) (h0 : 0 ≤ n) (h1 : n < dayN F D) : LabOk F D (labH F D n) (labM F D n) (labS F D n) (labF F D n) ∧ frameN F D (labH F D n) (labM F D n) (labS F D n) (labF F D n) = n := by
  obtain ⟨hF, hD⟩ := hr
  cases D with
  | true =>
    have := hD rfl
    subst this
    simp only [dayN, if_true] at h1
    have hsk : ∃ t r, n = 17982 * t + r ∧ 0 ≤ r ∧ r < 17982 ∧ 0 ≤ t ∧ t ≤ 143 ∧ ((r < 1800 ∧ skipN true n = 18000 * t + r) ∨ ∃ q u, r = 1800 + 1798 * q + u ∧ 0 ≤ q ∧ q ≤ 8 ∧ 0 ≤ u ∧ u < 1798 ∧ skipN true n = 18000 * t + 1800 * (q + 1) + 2 + u) := by
      refine ⟨n / 17982, n % 17982, by omega, by omega, by omega, by omega, by omega, ?_⟩
      unfold skipN
      simp only [if_true]
      split
      · exact .inr ⟨(n % 17982 - 1800) / 1798, (n % 17982 - 1800) % 1798, by omega, by omega, by omega, by omega, by omega, by omega⟩
      · exact .inl ⟨by omega, by omega⟩
    -- the parts of a number of frames
    have parts : ∀ N h m s f : Int, N = (60 * (60 * h + m) + s) * 30 + f → 0 ≤ h → 0 ≤ m → m ≤ 59 → 0 ≤ s → s ≤ 59 → 0 ≤ f → f ≤ 29 → N / 30 / 3600 = h ∧ N / 30 / 60 % 60 = m ∧ N / 30 % 60 = s ∧ N % 30 = f := by
      intro N h m s f e _ _ _ _ _ _ _
      have e1 : N / 30 = 60 * (60 * h + m) + s := by omega
      rw [e1]
      refine ⟨by omega, by omega, by omega, by omega⟩
    obtain ⟨t, r, e1, r0, r1, t0, t1, hc⟩ := hsk
    obtain ⟨h, k, hk, k0, k1⟩ : ∃ h k, t = 6 * h + k ∧ 0 ≤ k ∧ k ≤ 5 := ⟨t / 6, t % 6, by omega, by omega, by omega⟩
    rcases hc with ⟨c1, c2⟩ | ⟨q, u, c1, q0, q1, u0, u1, c2⟩
    · obtain ⟨s, f, hs, s0, s1, f0, f1⟩ : ∃ s f, r = 30 * s + f ∧ 0 ≤ s ∧ s ≤ 59 ∧ 0 ≤ f ∧ f ≤ 29 := ⟨r / 30, r % 30, by omega, by omega, by omega, by omega, by omega⟩
      obtain ⟨p1, p2, p3, p4⟩ := parts (skipN true n) h (10 * k) s f (by omega) (by omega) (by omega) (by omega) s0 s1 f0 f1
      unfold LabOk labH labM labS labF frameN
      rw [p1, p2, p3, p4]
      simp only [if_true, true_and]
      refine ⟨⟨by omega, by omega, by omega, by omega, by omega⟩, ?_⟩
      have : (60 * h + 10 * k) / 10 = t := by omega
      rw [this]; omega
    · obtain ⟨s, f, hs, s0, s1, f0, f1⟩ : ∃ s f, 2 + u = 30 * s + f ∧ 0 ≤ s ∧ s ≤ 59 ∧ 0 ≤ f ∧ f ≤ 29 := ⟨(2 + u) / 30, (2 + u) % 30, by omega, by omega, by omega, by omega, by omega⟩
      obtain ⟨p1, p2, p3, p4⟩ := parts (skipN true n) h (10 * k + (q + 1)) s f (by omega) (by omega) (by omega) (by omega) s0 s1 f0 f1
      unfold LabOk labH labM labS labF frameN
      rw [p1, p2, p3, p4]
      simp only [if_true, true_and]
      refine ⟨⟨by omega, by omega, by omega, by omega, by omega⟩, ?_⟩
      have : (60 * h + (10 * k + (q + 1))) / 10 = t := by omega
      rw [this]; omega
  | false =>
    simp only [dayN, Bool.false_eq_true, if_false] at h1
    unfold LabOk labH labM labS labF frameN skipN
    simp only [Bool.false_eq_true, if_false, false_and, not_false_iff, and_true]
    rcases hF with rfl | rfl | rfl <;> exact ⟨⟨by omega, by omega, by omega, by omega⟩, by omega⟩
theorem firstZ : ∀ (l : List Int), first l = 0 ↔ ∀ x ∈ l, x = 0
  | [] => by simp [first]
  | x :: r => by
    have := firstZ r
    by_cases h : x = 0 <;> simp [first, h, this]
theorem withinZ {n lo hi : Int} : within n lo hi = 0 ↔ lo ≤ n ∧ n ≤ hi := by
  unfold within
  split <;> constructor <;> intro h <;> first | omega | rfl
theorem whenZ {b : Bool} {e : Int} (he : e ≠ 0) : whenE b e = 0 ↔ b = false := by
  cases b <;> simp [whenE, he]
theorem chkRateZ {F : Int} {D : Bool} : chkRate F D = 0 ↔ RateOk F D := by
  unfold chkRate RateOk
  split
  · split
    · rename_i h; constructor
      · intro h; omega
      · intro h'; exact absurd (h'.2 h.1) h.2
    · rename_i h1 h2
      refine ⟨fun _ => ⟨h1, fun hd => Classical.byContradiction fun hn => h2 ⟨hd, hn⟩⟩, fun _ => rfl⟩
  · rename_i h; constructor
    · intro h; omega
    · intro h'; exact absurd h'.1 h
theorem chkLabZ {F : Int} {D : Bool} {h m s f : Int} : chkLab F D h m s f = 0 ↔ RateOk F D ∧ LabOk F D h m s f := by
  unfold chkLab
  rw [firstZ]
  simp only [List.mem_cons, List.not_mem_nil, or_false, forall_eq_or_imp, forall_eq, chkRateZ, withinZ, whenZ (show (7 : Int) ≠ 0 by decide)]
  unfold LabOk dropB
  refine ⟨fun ⟨h1, h2, h3, h4, h5, h6⟩ => ⟨h1, h2, h3, h4, h5, ?_⟩, fun ⟨h1, h2, h3, h4, h5, h6⟩ => ⟨h1, h2, h3, h4, h5, ?_⟩⟩
  · rintro ⟨hd, hm, hs, hf⟩
    simp [hd, hm, hs, hf] at h6
  · rw [Bool.eq_false_iff]
    intro hb
    simp only [Bool.and_eq_true, bne_iff_ne, beq_iff_eq, decide_eq_true_eq] at hb
    exact h6 ⟨hb.1.1.1, hb.1.1.2, hb.1.2, hb.2⟩
theorem chkStZ {x : St7} : chkSt x = 0 ↔ StOk x := by
  unfold chkSt chkStamp StOk
  rw [firstZ]
  simp only [List.mem_cons, List.not_mem_nil, or_false, forall_eq_or_imp, forall_eq, chkLabZ, withinZ]
  exact ⟨fun ⟨⟨a, b⟩, c, d⟩ => ⟨a, b, c, d⟩, fun ⟨a, b, c, d⟩ => ⟨⟨a, b⟩, c, d⟩⟩
theorem dayN_bd {F : Int} {D : Bool} (hr : RateOk F D) : 2073600 ≤ dayN F D ∧ dayN F D ≤ 2592000 := by
  obtain ⟨hF, hD⟩ := hr
  unfold dayN
  cases D with
  | true => have := hD rfl; subst this; simp
  | false => simp only [Bool.false_eq_true, if_false]; omega
theorem rate_bd {F : Int} {D : Bool} (hr : RateOk F D) : 0 ≤ F ∧ F ≤ 1000 := by
  obtain ⟨hF, _⟩ := hr; omega
theorem jumps_succ (l : List St7) (i : Nat) : jumpsTo l (i + 1) = if 0 < i ∧ follows (l.getD i st0) (l.getD (i - 1) st0) = false then jumpsTo l i ++ [(i : Int)] else jumpsTo l i := rfl
theorem first_app : ∀ (a b : List Int), first (a ++ b) = if first a = 0 then first b else first a
  | [], b => by simp [first]
  | x :: a, b => by
    have := first_app a b
    by_cases h : x = 0
    · simp [first, h, this]
    · simp [first, h]
theorem lo4_eq : ∀ n : Nat, n < 256 → bits .and .u8 (n : Int) 15 = (n : Int) % 16 := by decide +kernel
theorem hi1_eq : ∀ n : Nat, n < 256 → bits .and .u8 (n : Int) 128 = (n : Int) / 128 * 128 := by decide +kernel
theorem lo7_eq : ∀ n : Nat, n < 256 → bits .andNot .u8 (n : Int) 128 = (n : Int) % 128 := by decide +kernel
theorem lo4_int {x : Int} (h : 0 ≤ x ∧ x ≤ 255) : bits .and .u8 x 15 = x % 16 := by
  obtain ⟨n, rfl⟩ := Int.eq_ofNat_of_zero_le h.1
  exact lo4_eq n (by omega)
theorem hi1_int {x : Int} (h : 0 ≤ x ∧ x ≤ 255) : bits .and .u8 x 128 = x / 128 * 128 := by
  obtain ⟨n, rfl⟩ := Int.eq_ofNat_of_zero_le h.1
  exact hi1_eq n (by omega)
theorem lo7_int {x : Int} (h : 0 ≤ x ∧ x ≤ 255) : bits .andNot .u8 x 128 = x % 128 := by
  obtain ⟨n, rfl⟩ := Int.eq_ofNat_of_zero_le h.1
  exact lo7_eq n (by omega)
theorem par_app (xs : List Int) (g : Nat) (h : g < xs.length) : par (xs.take (g + 1)) = bxor (par (xs.take g)) (List.getD xs g 0) := by
  rw [par_snoc xs g h, getD_of h]
theorem fn109 (n : Int)  : Fn P1 gl1 109 [.one (.sl (.int .i64) [24, 25, 30]), iV n] (.val (bV (decide (n = 24 ∨ n = 25 ∨ n = 30)))) true := by
  refine Fn.flat ?_ rfl
  refine fn_of false [] [fb143] (hu 4) 3 Proofs.Tryd.f109 trivial ⟨⟨by kernel_rfl, by kernel_rfl, _, rfl, by kernel_rfl⟩, trivial⟩ (by kernel_rfl) rfl (by kernel_rfl) rfl rfl rfl ?_
  rw [vc109]
  try simp only [splitB_iff, -eq_self]
  by_cases h1 : n = 24 <;> by_cases h2 : n = 25 <;> by_cases h3 : n = 30 <;> simp [h1, h2, h3, fits]
theorem so109 : Sp1 109 sp109 := by
  refine ⟨?_, Proofs.Tryd.f109, _, by kernel_rfl, rfl, by kernel_rfl⟩
  intro vs ps r h hp
  simp only [sp109] at h
  split at h
  · cases h
    have := hp _ (.head _)
    rw [this]
    exact fn109 _
  · cases h
theorem fn68 (b : Bool) (e : Int)  : Fn P1 gl1 68 [bV b, iV e] (.val (iV (whenE b e))) true := by
  refine Fn.flat ?_ rfl
  refine fn_of false [] [] h0 0 Proofs.Tryd.f68 trivial trivial (by kernel_rfl) rfl (by kernel_rfl) rfl rfl rfl ?_
  rw [vc68]
  try simp only [splitB_iff, -eq_self]
  cases b <;> simp [whenE]
theorem so68_ : SpecOk P1 gl1 68 sp68 := by
  intro vs ps r h _
  simp only [sp68] at h
  split at h
  · cases h; exact fn68 _ _ 
  · cases h
theorem so68 : Sp1 68 sp68 := ⟨so68_, Proofs.Tryd.f68, _, by kernel_rfl, rfl, by kernel_rfl⟩

theorem fn53 (n lo hi : Int)  : Fn P1 gl1 53 [iV n, iV lo, iV hi] (.val (iV (within n lo hi))) true := by
  refine Fn.flat ?_ rfl
  refine fn_of false [(68, sp68)] [] h0 0 Proofs.Tryd.f53 ⟨so68, trivial⟩ trivial (by kernel_rfl) rfl (by kernel_rfl) rfl rfl rfl ?_
  rw [vc53]
  try simp only [splitB_iff, -eq_self]
  unfold within
  by_cases h1 : n < lo <;> by_cases h2 : hi < n <;> simp [h1, h2, whenE]
theorem so53_ : SpecOk P1 gl1 53 sp53 := by
  intro vs ps r h _
  simp only [sp53] at h
  split at h
  · cases h; exact fn53 _ _ _ 
  · cases h
theorem so53 : Sp1 53 sp53 := ⟨so53_, Proofs.Tryd.f53, _, by kernel_rfl, rfl, by kernel_rfl⟩

theorem fn52 (xs : List Int) (hl : xs.length ≤ 1000000000) : Fn P1 gl1 52 [.one (.sl (.int .i64) xs)] (.val (iV (first xs))) true := by
  refine Fn.flat ?_ rfl
  refine fn_of false [] [] h52 0 Proofs.Tryd.f52 trivial trivial (by kernel_rfl) rfl (by kernel_rfl) rfl rfl rfl ?_
  rw [vc52]
  try simp only [splitB_iff, -eq_self]
  refine ⟨⟨0, by simp, by simp⟩, fun g hg => ⟨fun hlt => ?_, fun hge => ?_⟩⟩
  · have hlt' : g < xs.length := by simpa using hlt
    rw [getD_of hlt', hg.2, first_drop xs g hlt']
    refine ⟨by omega, fun h => ?_, fun h => ⟨by simp only [fits]; omega, g + 1, ⟨by omega, ?_⟩, by omega, by simp⟩⟩
    · rw [if_neg (by simpa using h)]; simp
    · rw [if_pos (by simpa using h)]
  · have hge' : ¬ g < xs.length := by simpa using hge
    rw [hg.2, List.drop_of_length_le (by omega)]
    simp [first]
theorem so52_ : SpecOk P1 gl1 52 sp52 := by
  intro vs ps r h hp
  simp only [sp52] at h
  split at h
  · cases h; exact fn52 _ (hp _ (.head _))
  · cases h
theorem so52 : Sp1 52 sp52 := ⟨so52_, Proofs.Tryd.f52, _, by kernel_rfl, rfl, by kernel_rfl⟩

theorem fn107 (F : Int) (D : Bool)  : Fn P1 gl1 107 [rtV F D] (.val (iV (chkRate F D))) true := by
  refine Fn.flat ?_ rfl
  refine fn_of false [] [] h0 0 Proofs.Tryd.f107 trivial trivial (by kernel_rfl) rfl (by kernel_rfl) rfl rfl rfl ?_
  rw [vc107]
  try simp only [splitB_iff, -eq_self]
  unfold chkRate
  by_cases h1 : F = 24 <;> by_cases h2 : F = 25 <;> by_cases h3 : F = 30 <;> cases D <;> simp [h1, h2, h3]
theorem so107_ : SpecOk P1 gl1 107 sp107 := by
  intro vs ps r h _
  simp only [sp107] at h
  split at h
  · cases h; exact fn107 _ _ 
  · cases h
theorem so107 : Sp1 107 sp107 := ⟨so107_, Proofs.Tryd.f107, _, by kernel_rfl, rfl, by kernel_rfl⟩

theorem fn108 (F : Int) (D : Bool) (h m s f : Int) (hm : 0 ≤ m) : Fn P1 gl1 108 [rtV F D, lbV h m s f] (.val (bV (dropB D m s f))) true := by
  refine Fn.flat ?_ rfl
  refine fn_of false [] [] h0 0 Proofs.Tryd.f108 trivial trivial (by kernel_rfl) rfl (by kernel_rfl) rfl rfl rfl ?_
  rw [vc108]
  try simp only [splitB_iff, -eq_self]
  refine ⟨fun _ => ⟨hm, by omega⟩, ?_, trivial⟩
  simp only [bcond_r, dropB]
theorem so108_ : SpecOk P1 gl1 108 sp108 := by
  intro vs ps r h hp
  simp only [sp108] at h
  split at h
  · cases h; exact fn108 _ _ _ _ _ _ (hp _ (.head _))
  · cases h
theorem so108 : Sp1 108 sp108 := ⟨so108_, Proofs.Tryd.f108, _, by kernel_rfl, rfl, by kernel_rfl⟩

theorem fn45 (F : Int) (D : Bool) (h m s f : Int)  : Fn P1 gl1 45 [rtV F D, lbV h m s f] (.val (iV (chkLab F D h m s f))) true := by
  refine Fn.flat ?_ rfl
  refine fn_of false [(107, sp107), (46, sp46), (44, sp44), (108, sp108)] [] h0 0 Proofs.Tryd.f45 ⟨so107, so46, so44, so108, trivial⟩ trivial (by kernel_rfl) rfl (by kernel_rfl) rfl rfl rfl ?_
  rw [vc45]
  try simp only [splitB_iff, -eq_self]
  simp only [bneZ, bneF]
  refine ⟨fun h1 => ⟨by simp [chkLab, first, h1], trivial⟩, fun h1 => ⟨?_, by omega, fun h2 => ⟨?_, trivial⟩, fun h2 => ⟨?_, fun h3 => ⟨?_, trivial⟩, fun h3 => ⟨?_, trivial⟩⟩⟩⟩
  · have := rate_bd (chkRateZ.1 h1); simp only [fits]; omega
  · have e : chkLab F D h m s f = first ([chkRate F D] ++ ([within h 0 23, within m 0 59, within s 0 59, within f 0 (F - 1)] ++ [whenE (dropB D m s f) 7])) := rfl
    rw [e, first_app, first_app, if_pos (by simp [first, h1]), if_neg h2]
  · have := (firstZ _).1 h2 (within m 0 59) (by simp)
    exact (withinZ.1 this).1
  · have := (firstZ _).1 h2
    simp only [List.mem_cons, List.not_mem_nil, or_false, forall_eq_or_imp, forall_eq] at this
    simp [chkLab, first, h1, this, whenE, h3]
  · have := (firstZ _).1 h2
    simp only [List.mem_cons, List.not_mem_nil, or_false, forall_eq_or_imp, forall_eq] at this
    simp [chkLab, first, h1, this, whenE, h3]
theorem so45_ : SpecOk P1 gl1 45 sp45 := by
  intro vs ps r h _
  simp only [sp45] at h
  split at h
  · cases h; exact fn45 _ _ _ _ _ _ 
  · cases h
theorem so45 : Sp1 45 sp45 := ⟨so45_, Proofs.Tryd.f45, _, by kernel_rfl, rfl, by kernel_rfl⟩

theorem fn8 (F : Int) (D : Bool) (h m s f u : Int)  : Fn P1 gl1 8 [stV F D h m s f u] (.val (iV (chkStamp F D h m s f u))) true := by
  refine Fn.flat ?_ rfl
  refine fn_of false [(45, sp45), (46, sp46), (44, sp44)] [] h0 0 Proofs.Tryd.f8 ⟨so45, so46, so44, trivial⟩ trivial (by kernel_rfl) rfl (by kernel_rfl) rfl rfl rfl ?_
  rw [vc8]
  try simp only [splitB_iff, -eq_self]
  exact ⟨by omega, rfl, trivial⟩
theorem so8_ : SpecOk P1 gl1 8 sp8 := by
  intro vs ps r h _
  simp only [sp8] at h
  split at h
  · cases h; exact fn8 _ _ _ _ _ _ _ 
  · cases h
theorem so8 : Sp1 8 sp8 := ⟨so8_, Proofs.Tryd.f8, _, by kernel_rfl, rfl, by kernel_rfl⟩

theorem fn48 (F : Int) (D : Bool)  : Fn P1 gl1 48 [rtV F D] (.val (iV (chkRate F D))) true := by
  refine Fn.flat ?_ rfl
  refine fn_of false [(68, sp68), (52, sp52), (109, sp109)] [] h0 0 Proofs.Tryd.f48 ⟨so68, so52, so109, trivial⟩ trivial (by kernel_rfl) rfl (by kernel_rfl) rfl rfl rfl ?_
  rw [vc48]
  try simp only [splitB_iff, -eq_self]
  refine ⟨by omega, rfl, by omega, ?_, trivial⟩
  unfold chkRate
  by_cases h1 : F = 24 <;> by_cases h2 : F = 25 <;> by_cases h3 : F = 30 <;> cases D <;> simp [h1, h2, h3, first, whenE]
theorem so48_ : SpecOk P1 gl1 48 sp48 := by
  intro vs ps r h _
  simp only [sp48] at h
  split at h
  · cases h; exact fn48 _ _ 
  · cases h
theorem so48 : Sp1 48 sp48 := ⟨so48_, Proofs.Tryd.f48, _, by kernel_rfl, rfl, by kernel_rfl⟩

theorem fn49 (F : Int) (D : Bool) (hF : 0 ≤ F ∧ F ≤ 1000) : Fn P1 gl1 49 [rtV F D] (.val (iV (dayN F D))) true := by
  refine Fn.flat ?_ rfl
  refine fn_of false [] [] h0 0 Proofs.Tryd.f49 trivial trivial (by kernel_rfl) rfl (by kernel_rfl) rfl rfl rfl ?_
  rw [vc49]
  try simp only [splitB_iff, -eq_self]
  simp only [fits, dayN]
  cases D <;> simp <;> omega
theorem so49_ : SpecOk P1 gl1 49 sp49 := by
  intro vs ps r h hp
  simp only [sp49] at h
  split at h
  · cases h; exact fn49 _ _ (hp _ (.head _))
  · cases h
theorem so49 : Sp1 49 sp49 := ⟨so49_, Proofs.Tryd.f49, _, by kernel_rfl, rfl, by kernel_rfl⟩

theorem fn110 (F : Int) (D : Bool) (h m s f : Int) (hm : 0 ≤ m) : Fn P1 gl1 110 [lbV h m s f, rtV F D] (.val (bV (dropB D m s f))) true := by
  refine Fn.flat ?_ rfl
  refine fn_of false [] [] h0 0 Proofs.Tryd.f110 trivial trivial (by kernel_rfl) rfl (by kernel_rfl) rfl rfl rfl ?_
  rw [vc110]
  try simp only [splitB_iff, -eq_self]
  refine ⟨fun _ => ⟨hm, by omega⟩, ?_, trivial⟩
  simp only [bcond_r, dropB]
theorem so110_ : SpecOk P1 gl1 110 sp110 := by
  intro vs ps r h hp
  simp only [sp110] at h
  split at h
  · cases h; exact fn110 _ _ _ _ _ _ (hp _ (.head _))
  · cases h
theorem so110 : Sp1 110 sp110 := ⟨so110_, Proofs.Tryd.f110, _, by kernel_rfl, rfl, by kernel_rfl⟩

theorem fn50 (F : Int) (D : Bool) (h m s f : Int) (hm : 0 ≤ m) (hF : 0 ≤ F ∧ F ≤ 1000) : Fn P1 gl1 50 [rtV F D, lbV h m s f] (.val (iV (chkLab F D h m s f))) true := by
  refine Fn.flat ?_ rfl
  refine fn_of false [(48, sp48), (53, sp53), (68, sp68), (52, sp52), (110, sp110)] [] h0 0 Proofs.Tryd.f50 ⟨so48, so53, so68, so52, so110, trivial⟩ trivial (by kernel_rfl) rfl (by kernel_rfl) rfl rfl rfl ?_
  rw [vc50]
  try simp only [splitB_iff, -eq_self]
  exact ⟨by simp only [fits]; omega, hm, by omega, rfl, trivial⟩
theorem so50_ : SpecOk P1 gl1 50 sp50 := by
  intro vs ps r h hp
  simp only [sp50] at h
  split at h
  · cases h; exact fn50 _ _ _ _ _ _ (hp _ (.head _)) (hp _ (.tail _ (.head _)))
  · cases h
theorem so50 : Sp1 50 sp50 := ⟨so50_, Proofs.Tryd.f50, _, by kernel_rfl, rfl, by kernel_rfl⟩

theorem fn55 (F : Int) (D : Bool) (h m s f u : Int) (hm : 0 ≤ m) (hF : 0 ≤ F ∧ F ≤ 1000) : Fn P1 gl1 55 [stV F D h m s f u] (.val (iV (chkStamp F D h m s f u))) true := by
  refine Fn.flat ?_ rfl
  refine fn_of false [(50, sp50), (53, sp53), (52, sp52)] [] h0 0 Proofs.Tryd.f55 ⟨so50, so53, so52, trivial⟩ trivial (by kernel_rfl) rfl (by kernel_rfl) rfl rfl rfl ?_
  rw [vc55]
  try simp only [splitB_iff, -eq_self]
  exact ⟨hm, hF, by omega, rfl, trivial⟩
theorem so55_ : SpecOk P1 gl1 55 sp55 := by
  intro vs ps r h hp
  simp only [sp55] at h
  split at h
  · cases h; exact fn55 _ _ _ _ _ _ _ (hp _ (.head _)) (hp _ (.tail _ (.head _)))
  · cases h
theorem so55 : Sp1 55 sp55 := ⟨so55_, Proofs.Tryd.f55, _, by kernel_rfl, rfl, by kernel_rfl⟩

theorem fn51 (F : Int) (D : Bool) (h m s f : Int) (hr : RateOk F D) (hl : LabOk F D h m s f) : Fn P1 gl1 51 [lbV h m s f, rtV F D] (.val (iV (frameN F D h m s f))) true := by
  refine Fn.flat ?_ rfl
  refine fn_of false [] [] h0 0 Proofs.Tryd.f51 trivial trivial (by kernel_rfl) rfl (by kernel_rfl) rfl rfl rfl ?_
  rw [vc51]
  try simp only [splitB_iff, -eq_self]
  obtain ⟨⟨_, _⟩, ⟨_, _⟩, ⟨_, _⟩, ⟨_, _⟩, _⟩ := hl
  obtain ⟨hF, _⟩ := hr
  simp only [fits, frameN]
  rcases hF with rfl | rfl | rfl <;> cases D <;> simp <;> omega
theorem so51_ : SpecOk P1 gl1 51 sp51 := by
  intro vs ps r h hp
  simp only [sp51] at h
  split at h
  · cases h; exact fn51 _ _ _ _ _ _ (hp _ (.head _)) (hp _ (.tail _ (.head _)))
  · cases h
theorem so51 : Sp1 51 sp51 := ⟨so51_, Proofs.Tryd.f51, _, by kernel_rfl, rfl, by kernel_rfl⟩

theorem fn10 (F : Int) (D : Bool) (hr : RateOk F D) : Fn P1 gl1 10 [rtV F D] (.tup [iV (dayN F D), iV 0]) true := by
  refine Fn.flat ?_ rfl
  refine fn_of false [(48, sp48), (49, sp49)] [] h0 0 Proofs.Tryd.f10 ⟨so48, so49, trivial⟩ trivial (by kernel_rfl) rfl (by kernel_rfl) rfl rfl rfl ?_
  rw [vc10]
  try simp only [splitB_iff, -eq_self]
  have h := chkRateZ.2 hr
  rw [h]
  refine ⟨fun h => (by simp at h), fun _ => ⟨rate_bd hr, rfl, rfl, trivial⟩⟩
theorem so10_ : SpecOk P1 gl1 10 sp10 := by
  intro vs ps r h hp
  simp only [sp10] at h
  split at h
  · cases h; exact fn10 _ _ (hp _ (.head _))
  · cases h
theorem so10 : Sp1 10 sp10 := ⟨so10_, Proofs.Tryd.f10, _, by kernel_rfl, rfl, by kernel_rfl⟩

theorem fn11 (F : Int) (D : Bool) (h m s f : Int) (hr : RateOk F D) (hl : LabOk F D h m s f) : Fn P1 gl1 11 [rtV F D, lbV h m s f] (.tup [iV (frameN F D h m s f), iV 0]) true := by
  refine Fn.flat ?_ rfl
  refine fn_of false [(50, sp50), (51, sp51)] [] h0 0 Proofs.Tryd.f11 ⟨so50, so51, trivial⟩ trivial (by kernel_rfl) rfl (by kernel_rfl) rfl rfl rfl ?_
  rw [vc11]
  try simp only [splitB_iff, -eq_self]
  have h' := chkLabZ.2 ⟨hr, hl⟩
  rw [h']
  exact ⟨hl.2.1.1, rate_bd hr, fun h => (by simp at h), fun _ => ⟨hr, hl, rfl, rfl, trivial⟩⟩
theorem so11_ : SpecOk P1 gl1 11 sp11 := by
  intro vs ps r h hp
  simp only [sp11] at h
  split at h
  · cases h; exact fn11 _ _ _ _ _ _ (hp _ (.head _)) (hp _ (.tail _ (.head _)))
  · cases h
theorem so11 : Sp1 11 sp11 := ⟨so11_, Proofs.Tryd.f11, _, by kernel_rfl, rfl, by kernel_rfl⟩

theorem fn111 (F : Int) (D : Bool) (n : Int) (hr : RateOk F D) (hn : 0 ≤ n ∧ n < dayN F D) : Fn P1 gl1 111 [rtV F D, iV n] (.val (lbW (lab F D n))) true := by
  refine Fn.flat ?_ rfl
  refine fn_of false [] [] h0 0 Proofs.Tryd.f111 trivial trivial (by kernel_rfl) rfl (by kernel_rfl) rfl rfl rfl ?_
  rw [vc111]
  try simp only [splitB_iff, -eq_self]
  have hday := dayN_bd hr
  obtain ⟨hF, hD⟩ := hr
  cases D with
  | false =>
    have hs : skipN false n = n := rfl
    simp only [lab, labH, labM, labS, labF, hs, fits]
    refine ⟨fun h => (by cases h), fun _ => ?_⟩
    rcases hF with rfl | rfl | rfl <;> refine ⟨by omega, by omega, by omega, by omega, by omega, by omega, trivial, trivial, trivial, trivial, trivial⟩
  | true =>
    have := hD rfl
    subst this
    refine ⟨fun _ => ⟨by simp only [fits]; omega, by omega, by simp only [fits]; omega, by simp only [fits]; omega, fun h => ?_, fun h => ?_⟩, fun h => (by cases h)⟩
    · have h1 : 1800 ≤ n % 17982 := by simpa using h
      have hs : skipN true n = n + 18 * (n / 17982) + 2 * (1 + (n % 17982 - 1800) / 1798) := by simp only [skipN, if_true, if_pos h1]
      simp only [lab, labH, labM, labS, labF, hs, fits]
      refine ⟨by omega, by omega, by omega, by omega, by omega, by omega, by omega, by omega, by omega, by omega, by omega, trivial, trivial, trivial, trivial, trivial⟩
    · have h1 : ¬ 1800 ≤ n % 17982 := by simpa using h
      have hs : skipN true n = n + 18 * (n / 17982) := by simp only [skipN, if_true, if_neg h1]
      simp only [lab, labH, labM, labS, labF, hs, fits]
      refine ⟨by omega, by omega, by omega, by omega, by omega, by omega, trivial, trivial, trivial, trivial, trivial⟩
theorem so111_ : SpecOk P1 gl1 111 sp111 := by
  intro vs ps r h hp
  simp only [sp111] at h
  split at h
  · cases h; exact fn111 _ _ _ (hp _ (.head _)) (hp _ (.tail _ (.head _)))
  · cases h
theorem so111 : Sp1 111 sp111 := ⟨so111_, Proofs.Tryd.f111, _, by kernel_rfl, rfl, by kernel_rfl⟩

theorem fn54 (F : Int) (D : Bool) (h m s f n : Int) (hr : RateOk F D) (hl : LabOk F D h m s f) (hn : 0 ≤ n ∧ n ≤ 10000000) : Fn P1 gl1 54 [lbV h m s f, rtV F D, iV n] (.val (lbW (lab F D (addN F D h m s f n)))) true := by
  refine Fn.flat ?_ rfl
  refine fn_of false [(51, sp51), (49, sp49), (111, sp111)] [] h0 0 Proofs.Tryd.f54 ⟨so51, so49, so111, trivial⟩ trivial (by kernel_rfl) rfl (by kernel_rfl) rfl rfl rfl ?_
  rw [vc54]
  try simp only [-eq_self]
  have hday := dayN_bd hr
  have hfr := frame_range hr hl
  have hb := rate_bd hr
  have hm0 := Int.emod_nonneg (frameN F D h m s f + n) (show dayN F D ≠ 0 by omega)
  have hm1 := Int.emod_lt_of_pos (frameN F D h m s f + n) (show 0 < dayN F D by omega)
  have e : ((frameN F D h m s f + n) % dayN F D + dayN F D) % dayN F D = addN F D h m s f n := by
    rw [Int.add_emod_right, Int.emod_emod_of_dvd _ (Int.dvd_refl _)]; rfl
  rw [e]
  have e2 : addN F D h m s f n = (frameN F D h m s f + n) % dayN F D := rfl
  exact ⟨hr, hl, by simp only [fits]; omega, hb, by omega, hb, by simp only [fits]; omega, hb, by omega, hr, by rw [e2]; exact ⟨hm0, hm1⟩, rfl, rfl, rfl, rfl, trivial⟩
theorem so54_ : SpecOk P1 gl1 54 sp54 := by
  intro vs ps r h hp
  simp only [sp54] at h
  split at h
  · cases h; exact fn54 _ _ _ _ _ _ _ (hp _ (.head _)) (hp _ (.tail _ (.head _))) (hp _ (.tail _ (.tail _ (.head _))))
  · cases h
theorem so54 : Sp1 54 sp54 := ⟨so54_, Proofs.Tryd.f54, _, by kernel_rfl, rfl, by kernel_rfl⟩

theorem fn12 (F : Int) (D : Bool) (h m s f n : Int) (hr : RateOk F D) (hl : LabOk F D h m s f) (hn : 0 ≤ n ∧ n ≤ 10000000) : Fn P1 gl1 12 [rtV F D, lbV h m s f, iV n] (.tup [lbW (lab F D (addN F D h m s f n)), iV 0]) true := by
  refine Fn.flat ?_ rfl
  refine fn_of false [(50, sp50), (53, sp53), (52, sp52), (54, sp54)] [] h0 0 Proofs.Tryd.f12 ⟨so50, so53, so52, so54, trivial⟩ trivial (by kernel_rfl) rfl (by kernel_rfl) rfl rfl rfl ?_
  rw [vc12]
  try simp only [splitB_iff, -eq_self]
  have h1 := chkLabZ.2 ⟨hr, hl⟩
  have h2 : within n (-10000000) 10000000 = 0 := withinZ.2 (by omega)
  rw [h1, h2]
  exact ⟨hl.2.1.1, rate_bd hr, by omega, fun h => (by simp [first] at h), fun _ => ⟨hr, hl, hn, rfl, rfl, rfl, rfl, rfl, trivial⟩⟩
theorem so12_ : SpecOk P1 gl1 12 sp12 := by
  intro vs ps r h hp
  simp only [sp12] at h
  split at h
  · cases h; exact fn12 _ _ _ _ _ _ _ (hp _ (.head _)) (hp _ (.tail _ (.head _))) (hp _ (.tail _ (.tail _ (.head _))))
  · cases h
theorem so12 : Sp1 12 sp12 := ⟨so12_, Proofs.Tryd.f12, _, by kernel_rfl, rfl, by kernel_rfl⟩

theorem fn66 (xs : List Int) (hl : xs.length ≤ 1000000000) (_hb : Bytes xs) : Fn P1 gl1 66 [.one (.sl (.int .u8) xs)] (.val (uV (par xs))) true := by
  refine Fn.flat ?_ rfl
  refine fn_of false [] [] h66 0 Proofs.Tryd.f66 trivial trivial (by kernel_rfl) rfl (by kernel_rfl) rfl rfl rfl ?_
  rw [vc66]
  try simp only [splitB_iff, -eq_self]
  refine ⟨⟨0, Nat.zero_le _, by simp [par]⟩, fun g hg => ⟨fun hlt => ?_, fun hge => ?_⟩⟩
  · have hlt' : g < xs.length := by simpa using hlt
    refine ⟨by omega, by simp only [fits]; omega, g + 1, hlt', by omega, by simp, ?_, by simp⟩
    rw [par_app xs g hlt']; rfl
  · have hge' : ¬ g < xs.length := by simpa using hge
    rw [List.take_of_length_le (by omega)]
    simp
theorem so66_ : SpecOk P1 gl1 66 sp66 := by
  intro vs ps r h hp
  simp only [sp66] at h
  split at h
  · cases h; exact fn66 _ (hp _ (.head _)) (hp _ (.tail _ (.head _)))
  · cases h
theorem so66 : Sp1 66 sp66 := ⟨so66_, Proofs.Tryd.f66, _, by kernel_rfl, rfl, by kernel_rfl⟩

theorem fn56 (F : Int) (D : Bool) (h m s f u : Int) (hr : RateOk F D) (hl : LabOk F D h m s f) (_hus : 0 ≤ u ∧ u ≤ 65535) : Fn P1 gl1 56 [stV F D h m s f u] (.val (aV 10 (wordS F D h m s f u))) true := by
  refine Fn.flat ?_ rfl
  refine fn_of false [(66, sp66)] [fb67] (hu 5) 3 Proofs.Tryd.f56 ⟨so66, trivial⟩ ⟨⟨by kernel_rfl, by kernel_rfl, _, rfl, by kernel_rfl⟩, trivial⟩ (by kernel_rfl) rfl (by kernel_rfl) rfl rfl rfl ?_
  rw [vc56]
  try simp only [splitB_iff, -eq_self]
  obtain ⟨⟨_, _⟩, ⟨_, _⟩, ⟨_, _⟩, ⟨_, _⟩, _⟩ := hl
  obtain ⟨hF, _⟩ := hr
  have hb : ∀ x : Int, 0 ≤ x → x ≤ 255 → Bytes [(f / 10 * 16 + f % 10) % 256, (s / 10 * 16 + s % 10) % 256, (m / 10 * 16 + m % 10) % 256, (h / 10 * 16 + h % 10) % 256, x, u / 256 % 256, u % 256] := by
    intro x hx0 hx1 y hy
    simp only [List.mem_cons, List.not_mem_nil, or_false] at hy
    rcases hy with rfl | rfl | rfl | rfl | rfl | rfl | rfl <;> omega
  have hB1 := hb (F % 256 + 128) (by omega) (by omega)
  have hB2 := hb (F % 256) (by omega) (by omega)
  have hbit : IntKind.bits IntKind.i64 = 64 := rfl
  simp only [fits, hbit]
  refine ⟨by omega, by omega, by omega, by omega, by omega, by omega, by omega, by omega, by omega, by omega, by omega, by omega, by omega, by omega, by omega, by omega, by omega, by omega, by omega, by omega, by omega, by omega, by omega, by omega, by omega, by omega, by omega, by omega, by omega, by omega, by omega, by omega, by omega, by omega, fun hD => ?_, fun hD => ?_⟩
  · subst hD
    (repeat' apply And.intro) <;> first | trivial | omega | exact hB1 | simp [wordS, word0, bcd]
  · subst hD
    (repeat' apply And.intro) <;> first | trivial | omega | exact hB2 | simp [wordS, word0, bcd]
theorem so56_ : SpecOk P1 gl1 56 sp56 := by
  intro vs ps r h hp
  simp only [sp56] at h
  split at h
  · cases h; exact fn56 _ _ _ _ _ _ _ (hp _ (.head _)) (hp _ (.tail _ (.head _))) (hp _ (.tail _ (.tail _ (.head _))))
  · cases h
theorem so56 : Sp1 56 sp56 := ⟨so56_, Proofs.Tryd.f56, _, by kernel_rfl, rfl, by kernel_rfl⟩

theorem fn13 (F : Int) (D : Bool) (h m s f u : Int) (hr : RateOk F D) (hl : LabOk F D h m s f) (hus : 0 ≤ u ∧ u ≤ 65535) : Fn P1 gl1 13 [stV F D h m s f u] (.tup [aV 10 (wordS F D h m s f u), iV 0]) true := by
  refine Fn.flat ?_ rfl
  refine fn_of false [(55, sp55), (56, sp56)] [] h0 0 Proofs.Tryd.f13 ⟨so55, so56, trivial⟩ trivial (by kernel_rfl) rfl (by kernel_rfl) rfl rfl rfl ?_
  rw [vc13]
  try simp only [splitB_iff, -eq_self]
  have h' : chkStamp F D h m s f u = 0 := chkStZ (x := ((F, D), (h, m, s, f), u)) |>.2 ⟨hr, hl, hus⟩
  rw [h']
  exact ⟨hl.2.1.1, rate_bd hr, fun h => (by simp at h), fun _ => ⟨hr, hl, hus, rfl, rfl, trivial⟩⟩
theorem so13_ : SpecOk P1 gl1 13 sp13 := by
  intro vs ps r h hp
  simp only [sp13] at h
  split at h
  · cases h; exact fn13 _ _ _ _ _ _ _ (hp _ (.head _)) (hp _ (.tail _ (.head _))) (hp _ (.tail _ (.tail _ (.head _))))
  · cases h
theorem so13 : Sp1 13 sp13 := ⟨so13_, Proofs.Tryd.f13, _, by kernel_rfl, rfl, by kernel_rfl⟩

theorem fn18 (d : List Int) (hd : d.length = 10) (hb : Bytes d) (hk : okW d) : Fn P1 gl1 18 [aV 10 d] (.tup [stW (stOf d), iV 0]) true := by
  refine Fn.flat ?_ rfl
  refine fn_of false [(66, sp66), (48, sp48), (55, sp55)] [fb67] (hu 5) 3 Proofs.Tryd.f18 ⟨so66, so48, so55, trivial⟩ ⟨⟨by kernel_rfl, by kernel_rfl, _, rfl, by kernel_rfl⟩, trivial⟩ (by kernel_rfl) rfl (by kernel_rfl) rfl rfl rfl ?_
  rw [vc18]
  try simp only [splitB_iff, -eq_self]
  obtain ⟨k8, k9, kp, ⟨k0, k1, k2, k3⟩, kst⟩ := hk
  have hst := chkStZ.1 kst
  have kst' : chkStamp (bits .andNot .u8 (d.getD 4 0) 128) (decide (0 < bits .and .u8 (d.getD 4 0) 128)) (d.getD 3 0 / 16 * 10 + bits .and .u8 (d.getD 3 0) 15) (d.getD 2 0 / 16 * 10 + bits .and .u8 (d.getD 2 0) 15) (d.getD 1 0 / 16 * 10 + bits .and .u8 (d.getD 1 0) 15) (d.getD 0 0 / 16 * 10 + bits .and .u8 (d.getD 0 0) 15) (d.getD 5 0 * 256 + d.getD 6 0) = 0 := kst
  have krt : chkRate (bits .andNot .u8 (d.getD 4 0) 128) (decide (0 < bits .and .u8 (d.getD 4 0) 128)) = 0 := chkRateZ.2 hst.1
  have kF : 0 ≤ bits .andNot .u8 (d.getD 4 0) 128 ∧ bits .andNot .u8 (d.getD 4 0) 128 ≤ 1000 := rate_bd hst.1
  have bd : ∀ i, i < 10 → 0 ≤ d.getD i 0 ∧ d.getD i 0 ≤ 255 := fun i hi => byAt hb (by omega)
  have b0 := bd 0 (by omega)
  have b1 := bd 1 (by omega)
  have b2 := bd 2 (by omega)
  have b3 := bd 3 (by omega)
  have b5 := bd 5 (by omega)
  have b6 := bd 6 (by omega)
  have l0 := lo4_int b0
  have l1 := lo4_int b1
  have l2 := lo4_int b2
  have l3 := lo4_int b3
  have dg : ∀ x : Int, digOk x → (bif decide (9 < x / 16) then true else decide (9 < bits .and .u8 x 15)) = false := by
    intro x hx
    have h1 : decide (9 < x / 16) = false := by simp; exact hx.1
    have h2 : decide (9 < bits .and .u8 x 15) = false := by simp; exact hx.2
    rw [h1, h2]; rfl
  have he : eqT (.arr 2 (.int .u8)) (List.take 2 (List.drop 8 d)) [63, 253] = true := by
    rw [eqT_int .u8 2 _ _ (by simp; omega) rfl, decide_eq_true_eq]
    apply List.ext_getElem
    · simp; omega
    · intro i h1 h2
      have hi : i < 2 := by simpa using h2
      rw [List.getElem_take, List.getElem_drop]
      have h3 : d[8 + i]'(by omega) = d.getD (8 + i) 0 := (getD_of _).symm
      rw [h3]
      have h01 : i = 0 ∨ i = 1 := by omega
      rcases h01 with rfl | rfl
      · exact k8
      · exact k9
  have hbit : IntKind.bits IntKind.i64 = 64 := rfl
  have hbit8 : IntKind.bits IntKind.u8 = 8 := rfl
  have ht7 : (List.take 7 d).length = 7 := by simp; omega
  have ht2 : (List.take 2 (List.drop 8 d)).length = 2 := by simp; omega
  have hby : Bytes (List.take 7 d) := byTake hb 7
  have e0 : ∀ p : Prop, ((0 : Int) != 0) = true → p := fun p h => by simp at h
  have en : ∀ p : Prop, (par (List.take 7 d) != d.getD 7 0) = true → p := fun p h => by rw [kp] at h; simp at h
  have ed : ∀ (x : Int) (p : Prop), digOk x → (bif decide (9 < x / 16) then true else decide (9 < bits .and .u8 x 15)) = true → p := fun x p hx h => by rw [dg x hx] at h; cases h
  rw [he, krt, kst']
  simp only [fits, hbit, hbit8]
  refine ⟨by omega, by omega, ht2, fun h => (by cases h), fun _ => ⟨by omega, ht7, by omega, hby, by omega, by omega, en _, fun _ => ⟨by omega, by omega, by omega, by omega, fun _ => by omega, fun _ => by omega, ed _ _ k0, fun _ =>
    ⟨by omega, by omega, by omega, by omega, by omega, by omega, by omega, by omega, by omega, by omega, by omega, by omega, by omega, by omega, fun _ => by omega, fun _ => by omega, ed _ _ k1, fun _ =>
    ⟨by omega, by omega, by omega, by omega, by omega, by omega, by omega, by omega, by omega, by omega, by omega, by omega, by omega, by omega, fun _ => by omega, fun _ => by omega, ed _ _ k2, fun _ =>
    ⟨by omega, by omega, by omega, by omega, by omega, by omega, by omega, by omega, by omega, by omega, by omega, by omega, by omega, by omega, fun _ => by omega, fun _ => by omega, ed _ _ k3, fun _ =>
    ⟨by omega, by omega, by omega, by omega, by omega, by omega, by omega, by omega, by omega, by omega, by omega, by omega, by omega, by omega, by omega, by omega, by omega, by omega, by omega, by omega, by omega, by omega, by omega, e0 _, fun _ =>
    ⟨by omega, kF, e0 _, fun _ => ⟨rfl, rfl, rfl, rfl, rfl, rfl, rfl, trivial, trivial⟩⟩⟩⟩⟩⟩⟩⟩⟩
theorem so18_ : SpecOk P1 gl1 18 sp18 := by
  intro vs ps r h hp
  simp only [sp18] at h
  split at h
  · cases h; exact fn18 _ (hp _ (.head _)) (hp _ (.tail _ (.head _))) (hp _ (.tail _ (.tail _ (.head _))))
  · cases h
theorem so18 : Sp1 18 sp18 := ⟨so18_, Proofs.Tryd.f18, _, by kernel_rfl, rfl, by kernel_rfl⟩

theorem fn69 (l : List St7) (hl : l.length ≤ 1000000) (hs : ∀ x ∈ l, StOk x) : Fn P1 gl1 69 [.one (.sl stT l), .one (.fn 55 [] [])] (.val (.one (.frs (.int .i64) (List.map chkSt l)))) true := by
  refine Fn.flat ?_ rfl
  refine fn_of false [(55, sp55)] [] h69 0 Proofs.Tryd.f69 ⟨so55, trivial⟩ trivial (by kernel_rfl) rfl (by kernel_rfl) rfl rfl rfl ?_
  rw [vc69]
  try simp only [splitB_iff, -eq_self]
  refine ⟨⟨0, Nat.zero_le _, by simp⟩, fun g hg => ⟨fun hlt => ?_, fun hge => ?_⟩⟩
  · have hlt' : g < l.length := by simpa using hlt
    have hx := hs l[g] (List.getElem_mem hlt')
    rw [getD_of hlt']
    refine ⟨by omega, hx.2.1.2.1.1, rate_bd hx.1, by simp only [room, List.length_map, List.length_take]; omega, by simp only [fits]; omega, g + 1, hlt', by omega, by simp, rfl, rfl, ?_, trivial⟩
    rw [List.take_succ_eq_append_getElem hlt', List.map_append]
    rfl
  · have hge' : ¬ g < l.length := by simpa using hge
    rw [List.take_of_length_le (by omega)]
    exact ⟨rfl, trivial⟩
theorem so69_ : SpecOk P1 gl1 69 sp69 := by
  intro vs ps r h hp
  simp only [sp69] at h
  split at h
  · cases h; exact fn69 _ (hp _ (.head _)) (hp _ (.tail _ (.head _)))
  · cases h
theorem so69 : Sp1 69 sp69 := ⟨so69_, Proofs.Tryd.f69, _, by kernel_rfl, rfl, by kernel_rfl⟩

theorem fn70 (x o : St7) (a b : Int) (ho : StOk o) : Fn P1 gl1 70 [.agg [.one (.int .i64 x.1.1), .one (.bool x.1.2), .one (.int .i64 x.2.1.1), .one (.int .i64 x.2.1.2.1), .one (.int .i64 x.2.1.2.2.1), .one (.int .i64 x.2.1.2.2.2), .one (.int .i64 x.2.2), .one (.int .i64 a)], .agg [.one (.int .i64 o.1.1), .one (.bool o.1.2), .one (.int .i64 o.2.1.1), .one (.int .i64 o.2.1.2.1), .one (.int .i64 o.2.1.2.2.1), .one (.int .i64 o.2.1.2.2.2), .one (.int .i64 o.2.2), .one (.int .i64 b)]] (.val (bV (follows x o))) true := by
  refine Fn.flat ?_ rfl
  refine fn_of false [(54, sp54)] [] h0 0 Proofs.Tryd.f70 ⟨so54, trivial⟩ trivial (by kernel_rfl) rfl (by kernel_rfl) rfl rfl rfl ?_
  rw [vc70]
  try simp only [-eq_self]
  refine ⟨fun _ => ho.1, fun _ => ho.2.1, fun _ => by omega, ?_, trivial⟩
  rw [bcond_r]
  unfold follows
  congr 1
  · rw [Bool.eq_iff_iff, eqT_key rfl, decide_eq_true_eq]
  · rw [Bool.eq_iff_iff, eqT_key rfl, decide_eq_true_eq]
theorem so70_ : SpecOk P1 gl1 70 sp70 := by
  intro vs ps r h hp
  simp only [sp70] at h
  split at h
  · cases h; exact fn70 ((_, _), (_, _, _, _), _) ((_, _), (_, _, _, _), _) _ _ (hp _ (.head _))
  · cases h
theorem so70 : Sp1 70 sp70 := ⟨so70_, Proofs.Tryd.f70, _, by kernel_rfl, rfl, by kernel_rfl⟩

theorem fn19 (l : List St7) (hl : l.length ≤ 256) (hs : ∀ x ∈ l, StOk x) : Fn P1 gl1 19 [.one (.sl stT l)] (.tup [.one (.frs (.int .i64) (jumpsTo l l.length)), iV 0]) true := by
  refine Fn.flat ?_ rfl
  refine fn_of false [(68, sp68), (52, sp52), (69, sp69), (70, sp70)] [] h19 0 Proofs.Tryd.f19 ⟨so68, so52, so69, so70, trivial⟩ trivial (by kernel_rfl) rfl (by kernel_rfl) rfl rfl rfl ?_
  rw [vc19]
  try simp only [splitB_iff, -eq_self]
  have hz : first (List.map chkSt l) = 0 := by
    rw [firstZ]
    intro x hx
    obtain ⟨y, hy, rfl⟩ := List.mem_map.1 hx
    exact chkStZ.2 (hs y hy)
  have hw : whenE (decide ((256 : Int) < (l.length : Int))) 5 = 0 := by
    have : decide ((256 : Int) < (l.length : Int)) = false := by simp; omega
    rw [this]; rfl
  rw [hz, hw]
  have jl : ∀ i, (jumpsTo l i).length ≤ i := by
    intro i
    induction i with
    | zero => simp [jumpsTo]
    | succ i ih =>
      unfold jumpsTo
      split
      · simp; omega
      · omega
  refine ⟨fun h => (by simp at h), fun _ => ⟨by omega, hs, by simp; omega, fun h => (by simp at h), fun _ => ⟨⟨0, Nat.zero_le _, rfl, rfl, rfl, rfl, rfl, rfl, trivial⟩, fun g hg => ⟨fun hlt => ?_, fun hge => ?_⟩⟩⟩⟩
  · have hlt' : g < l.length := by simpa using hlt
    have hjl := jl g
    have hg1 : Int.toNat ((g : Int) - 1) = g - 1 := by omega
    have hst : decide ((0 : Int) < (g : Int)) = true → StOk (List.getD l (g - 1) st0) := by
      intro h
      have hp : (0 : Int) < (g : Int) := by simpa using h
      rw [getD_of (show g - 1 < l.length by omega)]
      exact hs _ (List.getElem_mem _)
    rw [hg1]
    have hp : decide ((0 : Int) < (g : Int)) = true → 0 < g := by
      intro h
      have : (0 : Int) < (g : Int) := by simpa using h
      omega
    refine ⟨fun _ => by omega, fun _ => by simp only [fits]; omega, fun h => (by have := hp h; omega), fun _ => by simp only [fits]; omega, hst, ?_, ?_⟩
    · intro h
      refine ⟨by simp only [room]; omega, by simp only [fits]; omega, g + 1, hlt', by omega, by simp, rfl, rfl, rfl, ?_, rfl, trivial⟩
      have : 0 < g ∧ follows (List.getD l g st0) (List.getD l (g - 1) st0) = false := by
        have h2 := h
        rw [bcond_r, Bool.and_eq_true, decide_eq_true_eq, Bool.not_eq_true'] at h2
        exact ⟨by omega, h2.2⟩
      rw [jumps_succ, if_pos this]
    · intro h
      refine ⟨by simp only [fits]; omega, g + 1, hlt', by omega, by simp, rfl, rfl, rfl, ?_, rfl, trivial⟩
      have : ¬ (0 < g ∧ follows (List.getD l g st0) (List.getD l (g - 1) st0) = false) := by
        rintro ⟨h1, h2⟩
        rw [bcond_r] at h
        have h2' : (!follows (List.getD l g st0) (List.getD l (g - 1) st0)) = true := by rw [h2]; rfl
        have h1' : decide ((0 : Int) < (g : Int)) = true := by simp; omega
        rw [h1'] at h
        exact absurd (h2'.symm.trans h) (by decide)
      rw [jumps_succ, if_neg this]
  · have hge' : ¬ g < l.length := by simpa using hge
    have : g = l.length := by have : g ≤ l.length := hg; omega
    subst this
    exact ⟨rfl, rfl, trivial⟩
theorem so19_ : SpecOk P1 gl1 19 sp19 := by
  intro vs ps r h hp
  simp only [sp19] at h
  split at h
  · cases h; exact fn19 _ (hp _ (.head _)) (hp _ (.tail _ (.head _)))
  · cases h
theorem so19 : Sp1 19 sp19 := ⟨so19_, Proofs.Tryd.f19, _, by kernel_rfl, rfl, by kernel_rfl⟩

end Go.Sx

/- Plain functions and hints. -/
namespace Go.Sx.U
/-- The error of a cadence. -/
def chkCad (l : List Int) : Int := if first [whenE (decide (l.length = 0)) 12, whenE (decide (8 < l.length)) 5] ≠ 0 then first [whenE (decide (l.length = 0)) 12, whenE (decide (8 < l.length)) 5] else first (l.map fun n => within n 1 4)
/-- The fields of some frames. -/
def fldTo (l : List Int) : Nat → List Int
  | 0 => []
  | i + 1 => fldTo l i ++ List.replicate (l.getD (i % l.length) 0).toNat (i : Int)
def prsTo (fs : List Int) : Nat → List (List Int)
  | 0 => []
  | k + 1 => prsTo fs k ++ [[fs.getD (2 * k) 0, fs.getD (2 * k + 1) 0]]
def pullN (l : List Int) (n : Nat) : List (List Int) := prsTo (fldTo l n) ((fldTo l n).length / 2)
def pullE (l : List Int) (n : Int) : Int := first [chkCad l, within n 0 256]
def pullL (l : List Int) (n : Int) : List (List Int) := if pullE l n = 0 then pullN l n.toNat else []
def convE (R : List Rl) (L : List Ed) (l : List Int) : Int := if first [chkEds R L, chkCad l] ≠ 0 then first [chkEds R L, chkCad l] else if 256 < lenL L then 5 else 0
def convL (R : List Rl) (L : List Ed) (l : List Int) : List (List Int) := if convE R L l = 0 then pullN l (lenL L).toNat else []
def labsN (x : St7) (p : List Pl) : List Lb := p.map fun q => lab x.1.1 x.1.2 (addN x.1.1 x.1.2 x.2.1.1 x.2.1.2.1 x.2.1.2.2.1 x.2.1.2.2.2 q.2)
/-- The least number of frames that pulls down to these pairs. -/
def undN (l : List Int) (ps : List (List Int)) : Nat := ((List.range 257).find? fun m => decide (pullN l m = ps)).getD 0
end Go.Sx.U
namespace Go.Sx
open U
abbrev p2T : Ty := .arr 2 (.int .i64)
def h130 : Hints := ⟨fun f k s => match f, k with
  | 130, 3 => hMapI (.int .i64) (fun n => within n 1 4) 8 9 10 5 [1] s
  | _, _ => none, 0⟩
def h94 : Hints := ⟨fun f k s => match f, k with
  | 94, 3 => match listAs s 0 (.int .i64), intOfT s 9 with
    | some l, some n => some ⟨Nat, fun i => ⟨[tI 10 i, (5, .val (.one (.own s.nx)))] ++ keepT [0, 9] s.tm, (s.nx, some (.row (.int .i64) (fldTo l i))) :: lessO s [5], s.nx + 1, s.lr⟩, fun i => i ≤ n.toNat, fun i => n.toNat - i⟩
    | _, _ => none
  | 94, 6 => match listAs s 5 (.int .i64), intOfT s 6, intOfT s 19 with
    | some o, some i, some c => some ⟨Nat, fun j => ⟨[tI 20 j, (5, .val (.one (.own s.nx)))] ++ keepT [0, 6, 9, 10, 19] s.tm, (s.nx, some (.row (.int .i64) (o ++ List.replicate j i))) :: lessO s [5], s.nx + 1, s.lr⟩, fun j => j ≤ c.toNat, fun j => c.toNat - j⟩
    | _, _, _ => none
  | 94, 12 => match listAs s 5 (.int .i64) with
    | some fs => some ⟨Nat, fun k => ⟨[tI 8 ((2 * k : Nat) : Int), (7, .val (.one (.own s.nx)))] ++ keepT [5] s.tm, (s.nx, some (.row p2T (prsTo fs k))) :: lessO s [7], s.nx + 1, s.lr⟩, fun k => k ≤ List.length fs / 2, fun k => List.length fs / 2 - k⟩
    | _ => none
  | _, _ => none, 0⟩
def h26 : Hints := ⟨fun f k s => match f, k with
  | 26, 6 => match listAs s 0 (.int .i64) with
    | some l => hCt s [0] 3 (List.length l) fun i => upTo (fun j => within (List.getD l j 0) 1 4) i = 0
    | _ => none
  | _, _ => none, 0⟩
def h87 : Hints := ⟨fun f k s => match f, k with
  | 87, 4 => match listAs s 0 p2T, listAs s 1 p2T with
    | some a, some b => hCt s [0, 1] 5 (List.length a) fun i => ∀ j, j < i → eqT (.arr 2 (.int .i64)) (List.getD a j [0, 0]) (List.getD b j [0, 0]) = true
    | _, _ => none
  | _, _ => none, 0⟩
def h93 : Hints := ⟨fun f k s => match f, k with
  | 93, 4 => match listAs s 0 p2T, listAs s 1 p2T with
    | some a, some b => hCt s [0, 1, 11, 12] 13 (List.length a) fun i => ∀ j, j < i → eqT (.arr 2 (.int .i64)) (List.getD a j [0, 0]) (List.getD b j [0, 0]) = true
    | _, _ => none
  | _, _ => none, 0⟩
def h32 : Hints := ⟨fun f k s => match f, k with
  | 32, 6 => match listAs s 0 (.int .i64), listAs s 1 p2T with
    | some l, some ps => hCt s [0, 1, 7, 8] 21 257 fun i => ∀ m, m < i → pullN l m ≠ ps
    | _, _ => none
  | _, _ => none, 0⟩
def h34 : Hints := ⟨fun f k s => match f, k with
  | 34, 6 => match listAs s 27 plT, ptrId s 5 with
    | some p, some b => match lookO s.ob b with
      | some (.box [.one (.int .i64 F), .one (.bool D), .one (.int .i64 h), .one (.int .i64 m), .one (.int .i64 c), .one (.int .i64 f), .one (.int .i64 u)]) => some ⟨Nat, fun i => ⟨[tI 29 i, (9, .val (.one (.own s.nx)))] ++ keepT [5, 27, 28] s.tm, (s.nx, some (.row lbT (labsN ((F, D), (h, m, c, f), u) (List.take i p)))) :: lessO s [9], s.nx + 1, s.lr⟩, fun i => i ≤ List.length p, fun i => List.length p - i⟩
      | _ => none
    | _, _ => none
  | _, _ => none, 0⟩
@[reducible] noncomputable def fb131 : Nat × Func := (131, Proofs.Tryd.f131)
end Go.Sx
namespace Go.Sx
open U
def sp130 : FSpec := ⟨fun vs => match vs with
  | [.one (.sl (.int .i64) l), .one (.fn 131 [] [])] => some ([List.length l ≤ 1000000], .val (.one (.frs (.int .i64) (List.map (fun n => within n 1 4) l))))
  | _ => none, true⟩
def sp91 : FSpec := ⟨fun vs => match vs with
  | [.one (.sl (.int .i64) l)] => some ([], .val (iV (chkCad l)))
  | _ => none, true⟩
def sp26 : FSpec := ⟨fun vs => match vs with
  | [.one (.sl (.int .i64) l)] => some ([], .val (iV (chkCad l)))
  | _ => none, true⟩
def sp94 : FSpec := ⟨fun vs => match vs with
  | [.one (.sl (.int .i64) l), .one (.int .i64 n)] => some ([chkCad l = 0, 0 ≤ n ∧ n ≤ 256], .val (.one (.frs p2T (pullN l (Int.toNat n)))))
  | _ => none, true⟩
def sp92 : FSpec := ⟨fun vs => match vs with
  | [.one (.sl (.int .i64) l), .one (.int .i64 n)] => some ([], .tup [.one (.frs p2T (pullL l n)), iV (pullE l n)])
  | _ => none, true⟩
def sp31 : FSpec := ⟨fun vs => match vs with
  | [.one (.sl (.pair .str (.pair (.int .i64) (.sl (.int .i64)))) R), .one (.sl (.pair .str (.pair (.int .i64) (.pair (.int .i64) (.pair (.int .i64) (.int .i64))))) L), .one (.sl (.int .i64) l)] => some ([List.length R ≤ 1000000000, ∀ r ∈ (show List Rl from R), List.length r.2.2 ≤ 1000000, List.length L ≤ 1000000000], .tup [.one (.frs p2T (convL R L l)), iV (convE R L l)])
  | _ => none, true⟩
def sp34 : FSpec := ⟨fun vs => match vs with
  | [.one (.sl (.pair .str (.pair (.int .i64) (.sl (.int .i64)))) R), .one (.sl (.pair .str (.pair (.int .i64) (.pair (.int .i64) (.pair (.int .i64) (.int .i64))))) L), .agg [.one (.int .i64 F), .one (.bool D), .one (.int .i64 h), .one (.int .i64 m), .one (.int .i64 s), .one (.int .i64 f), .one (.int .i64 u)]] => some ([List.length R ≤ 1000000000, ∀ r ∈ (show List Rl from R), List.length r.2.2 ≤ 1000000, List.length L ≤ 1000000000, StOk ((F, D), (h, m, s, f), u)], .tup [.one (.frs lbT (if chkEds R L = 0 then labsN ((F, D), (h, m, s, f), u) (ls L) else [])), iV (chkEds R L)])
  | _ => none, true⟩
def sp87 : FSpec := ⟨fun vs => match vs with
  | [.one (.sl (.arr 2 (.int .i64)) a), .one (.sl (.arr 2 (.int .i64)) b)] => some ([List.length a ≤ 1000000, ∀ x ∈ (show List (List Int) from a), List.length x = 2, ∀ x ∈ (show List (List Int) from b), List.length x = 2], .val (bV (decide (a = b))))
  | _ => none, true⟩
def sp93 : FSpec := ⟨fun vs => match vs with
  | [.one (.sl (.arr 2 (.int .i64)) a), .one (.sl (.arr 2 (.int .i64)) b)] => some ([List.length a ≤ 1000000, ∀ x ∈ (show List (List Int) from a), List.length x = 2, ∀ x ∈ (show List (List Int) from b), List.length x = 2], .val (bV (decide (a = b))))
  | _ => none, true⟩
def sp32 : FSpec := ⟨fun vs => match vs with
  | [.one (.sl (.int .i64) l), .one (.sl (.arr 2 (.int .i64)) ps)] => some ([chkCad l = 0, List.length ps ≤ 512, ∀ x ∈ (show List (List Int) from ps), List.length x = 2, ∃ n, n ≤ 256 ∧ pullN l n = ps], .tup [iV (undN l ps : Int), iV 0])
  | _ => none, true⟩
end Go.Sx
