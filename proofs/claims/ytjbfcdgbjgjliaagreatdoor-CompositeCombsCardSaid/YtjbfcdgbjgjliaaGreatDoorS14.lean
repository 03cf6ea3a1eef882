/- A verified symbolic run of functions, part 14: lemmas, no claim of their own. -/
import Derived.Test.YtjbfcdgbjgjliaaGreatDoorS13
/- What the engine asks, written out (printed by a program). -/
namespace Go.Sx
open U
theorem vc38 (l : Fld) : exF (env false [(41, sp41), (104, sp104), (95, sp95)] []) h38 0 38 Proofs.Tryz.f38 [fldV l] (.val (iV (chkFld l))) = (let q0 := (↑(List.length l) : Int); splitB (decide ((32 : Int) < q0)) ((5 : Int) = chkFld l ∧ True) ((∃ (g : Nat), (g ≤ List.length l ∧ upTo (chkLn l) g = (0 : Int)) ∧ (0 : Int) = (↑g : Int) ∧ q0 = q0 ∧ l = l ∧ l = l ∧ True) ∧ ∀ (g : Nat), let q1 := ((↑(List.length (List.getD l g [])) : Int) != (↑(List.length (List.getD l (0 : Nat) [])) : Int)); g ≤ List.length l ∧ upTo (chkLn l) g = (0 : Int) → splitB (decide ((↑g : Int) < q0)) (((0 : Int) ≤ (↑g : Int) ∧ (↑g : Int) < q0) ∧ ((0 : Int) ≤ (0 : Int) ∧ (0 : Int) < q0) ∧ (2 : Nat) ≤ (1000000000 : Nat) ∧ splitB (first [chkSig (List.getD l g []), whenE q1 (2 : Int)] != (0 : Int)) (first [chkSig (List.getD l g []), whenE q1 (2 : Int)] = chkFld l ∧ True) (fits IntKind.i64 ((↑g : Int) + (1 : Int)) ∧ ∃ (g' : Nat), (g' ≤ List.length l ∧ upTo (chkLn l) g' = (0 : Int)) ∧ List.length l - g' < List.length l - g ∧ (↑g : Int) + (1 : Int) = (↑g' : Int) ∧ q0 = q0 ∧ l = l ∧ l = l ∧ True)) ((0 : Int) = chkFld l ∧ True))) := by
  kernel_rfl
theorem vc40 (l : Fld) : exF (env false [(36, sp36)] []) h38 0 40 Proofs.Tryz.f40 [fldV l] (.val (iV (chkFld l))) = (let q0 := (↑(List.length l) : Int); splitB (decide ((32 : Int) < q0)) ((5 : Int) = chkFld l ∧ True) ((∃ (g : Nat), (g ≤ List.length l ∧ upTo (chkLn l) g = (0 : Int)) ∧ (0 : Int) = (↑g : Int) ∧ l = l ∧ True) ∧ ∀ (g : Nat), g ≤ List.length l ∧ upTo (chkLn l) g = (0 : Int) → splitB (decide ((↑g : Int) < q0)) (((0 : Int) ≤ (↑g : Int) ∧ (↑g : Int) < q0) ∧ splitB (chkSig (List.getD l g []) != (0 : Int)) (chkSig (List.getD l g []) = chkFld l ∧ True) (((0 : Int) ≤ (↑g : Int) ∧ (↑g : Int) < q0) ∧ ((0 : Int) ≤ (0 : Int) ∧ (0 : Int) < q0) ∧ splitB ((↑(List.length (List.getD l g [])) : Int) != (↑(List.length (List.getD l (0 : Nat) [])) : Int)) ((2 : Int) = chkFld l ∧ True) (fits IntKind.i64 ((↑g : Int) + (1 : Int)) ∧ ∃ (g' : Nat), (g' ≤ List.length l ∧ upTo (chkLn l) g' = (0 : Int)) ∧ List.length l - g' < List.length l - g ∧ (↑g : Int) + (1 : Int) = (↑g' : Int) ∧ l = l ∧ True))) ((0 : Int) = chkFld l ∧ True))) := by
  kernel_rfl
theorem vc115 (l : Fld) (line : Int) : exF (env false [(38, sp38), (104, sp104), (95, sp95)] []) h0 0 115 Proofs.Tryz.f115 [fldV l, iV line] (.val (iV (chkLine l line))) = ((2 : Nat) ≤ (1000000000 : Nat) ∧ first [chkFld l, whenE (bif decide (line < (0 : Int)) then true else decide ((↑(List.length l) : Int) ≤ line)) (10 : Int)] = chkLine l line ∧ True) := by
  kernel_rfl
theorem vc123 (l : Fld) : exF (env false [(108, sp108)] []) h38 0 123 Proofs.Tryz.f123 [fldV l, .one (.fn 108 [] [])] (.val (.one (.sl (.sl (.int .i64)) (l.map sixs)))) = (let q0 := (↑(List.length l) : Int); (∃ (g : Nat), Nat.le g (List.length l) ∧ (0 : Int) = (↑g : Int) ∧ q0 = q0 ∧ l = l ∧ List.map sixs (List.take g l) = [] ∧ True) ∧ ∀ (g : Nat), Nat.le g (List.length l) → splitB (decide ((↑g : Int) < q0)) (((0 : Int) ≤ (↑g : Int) ∧ (↑g : Int) < q0) ∧ List.length (List.getD l g []) ≤ (1000000 : Nat) ∧ OkS (List.getD l g []) ∧ room (List.length (List.map sixs (List.take g l)) + (1 : Nat)) (24 : Nat) ∧ fits IntKind.i64 ((↑g : Int) + (1 : Int)) ∧ ∃ (g' : Nat), Nat.le g' (List.length l) ∧ List.length l - g' < List.length l - g ∧ (↑g : Int) + (1 : Int) = (↑g' : Int) ∧ q0 = q0 ∧ l = l ∧ List.map sixs (List.take g l) ++ [sixs (List.getD l g [])] = List.map sixs (List.take g' l) ∧ True) (List.map sixs (List.take g l) = List.map sixs l ∧ True)) := by
  kernel_rfl
theorem vc121 (n line : Int) : exF (env false [] []) h0 0 121 Proofs.Tryz.f121 [iV n, iV line] (.val (bV (decide (0 < line) && decide (line < n - 1)))) = ((decide ((0 : Int) < line) = true → fits IntKind.i64 (n - (1 : Int))) ∧ (bif decide ((0 : Int) < line) then decide (line < n - (1 : Int)) else false) = (decide ((0 : Int) < line) && decide (line < n - (1 : Int))) ∧ True) := by
  kernel_rfl
theorem vc47 (l : Fld) (line : Int) : exFr (env false [(115, sp115), (104, sp104), (95, sp95), (108, sp108), (117, sp117), (118, sp118), (119, sp119), (116, sp116), (138, sp138)] [fb112]) h0 3 47 Proofs.Tryz.f47 [fldV l, iV line] (.tup [pV (errP (twoE l line) (twoI l line)), iV (errE (twoE l line) (twoI l line))]) = (let q9 := (List.getD l (Int.toNat line) []); let q0 := (sixs q9); let q12 := (List.getD l (Int.toNat (line - (1 : Int))) []); let q1 := (sixs q12); let q13 := (List.getD l (Int.toNat (line + (1 : Int))) []); let q2 := (sixs q13); let q3 := (errP (twoE l line) (twoI l line)); let q15 := (combI minusI q0 q1); let q4 := (diffN (0 : Nat) q15 line (4 : Int)); let q5 := (diffN (1 : Nat) q15 line (4 : Int)); let q16 := (combI minusI q0 q2); let q6 := (diffN (0 : Nat) q16 line (4 : Int)); let q7 := (diffN (1 : Nat) q16 line (4 : Int)); let q8 := (↑(List.length l) : Int); let q10 := (1000000 : Nat); let q11 := (1000000 : Int); let q14 := (100000 : Nat); let q17 := ((0 : Int) < (4 : Int) ∧ (4 : Int) ≤ (1000 : Int)); let q18 := (combI midI q0 q1); let q19 := (combI midI q0 q2); (2 : Nat) ≤ (1000000000 : Nat) ∧ splitB (first [chkLine l line, whenE (q8 == (1 : Int)) (16 : Int)] != (0 : Int)) (q3.1 = [] ∧ q3.2.1 = [] ∧ q3.2.2 = [] ∧ first [chkLine l line, whenE (q8 == (1 : Int)) (16 : Int)] = errE (twoE l line) (twoI l line) ∧ True) (fits IntKind.i64 (line + (1 : Int)) ∧ splitB (line + (1 : Int) == q8) (fits IntKind.i64 (line - (1 : Int)) ∧ ((0 : Int) ≤ line ∧ line < q8) ∧ List.length q9 ≤ q10 ∧ OkS q9 ∧ ((0 : Int) ≤ line - (1 : Int) ∧ line - (1 : Int) < q8) ∧ List.length q12 ≤ q10 ∧ OkS q12 ∧ List.length q0 ≤ q14 ∧ List.length q1 = List.length q0 ∧ Bd q11 q0 ∧ Bd q11 q1 ∧ List.length q15 ≤ q14 ∧ Bd q11 q15 ∧ (0 : Int) ≤ line ∧ q17 ∧ List.length q0 ≤ q14 ∧ List.length q1 = List.length q0 ∧ Bd q11 q0 ∧ Bd q11 q1 ∧ List.length q18 ≤ q10 ∧ List.length q4 ≤ q10 ∧ List.length q5 ≤ q10 ∧ (3 : Nat) ≤ (1000000000 : Nat) ∧ splitB (first [lgE q18, lgE q4, lgE q5] != (0 : Int)) (q3.1 = [] ∧ q3.2.1 = [] ∧ q3.2.2 = [] ∧ first [lgE q18, lgE q4, lgE q5] = errE (twoE l line) (twoI l line) ∧ True) (smpsN q18 = q3.1 ∧ smpsN q4 = q3.2.1 ∧ smpsN q5 = q3.2.2 ∧ (0 : Int) = errE (twoE l line) (twoI l line) ∧ True)) (((0 : Int) ≤ line ∧ line < q8) ∧ List.length q9 ≤ q10 ∧ OkS q9 ∧ ((0 : Int) ≤ line + (1 : Int) ∧ line + (1 : Int) < q8) ∧ List.length q13 ≤ q10 ∧ OkS q13 ∧ List.length q0 ≤ q14 ∧ List.length q2 = List.length q0 ∧ Bd q11 q0 ∧ Bd q11 q2 ∧ List.length q16 ≤ q14 ∧ Bd q11 q16 ∧ (0 : Int) ≤ line ∧ q17 ∧ List.length q0 ≤ q14 ∧ List.length q2 = List.length q0 ∧ Bd q11 q0 ∧ Bd q11 q2 ∧ List.length q19 ≤ q10 ∧ List.length q6 ≤ q10 ∧ List.length q7 ≤ q10 ∧ (3 : Nat) ≤ (1000000000 : Nat) ∧ splitB (first [lgE q19, lgE q6, lgE q7] != (0 : Int)) (q3.1 = [] ∧ q3.2.1 = [] ∧ q3.2.2 = [] ∧ first [lgE q19, lgE q6, lgE q7] = errE (twoE l line) (twoI l line) ∧ True) (smpsN q19 = q3.1 ∧ smpsN q6 = q3.2.1 ∧ smpsN q7 = q3.2.2 ∧ (0 : Int) = errE (twoE l line) (twoI l line) ∧ True)))) := by
  kernel_rfl
theorem vc48 (l : Fld) (line : Int) : exFr (env false [(115, sp115), (95, sp95), (121, sp121), (123, sp123), (108, sp108), (117, sp117), (118, sp118), (164, sp164), (171, sp171), (116, sp116), (163, sp163), (138, sp138)] [fb112, fb122, fb168]) h0 3 48 Proofs.Tryz.f48 [fldV l, iV line] (.tup [pV (errP (threeE l line) (threeL l line)), iV (errE (threeE l line) (threeL l line))]) = (let q7 := (List.getD (List.map sixs l) (Int.toNat (line + (1 : Int))) []); let q3 := (List.getD (List.map sixs l) (Int.toNat line) []); let q4 := (List.getD (List.map sixs l) (Int.toNat (line - (1 : Int))) []); let q0 := (combI lessI q3 (combI plusI q4 q7)); let q5 := (diffN (0 : Nat) q0 line (8 : Int)); let q6 := (diffN (1 : Nat) q0 line (8 : Int)); let q12 := (carI q5 q6 (signI line)); let q1 := (combI minusI q3 q12); let q10 := (threeE l line); let q11 := (threeL l line); let q2 := (errP q10 q11); let q8 := (↑(List.length (List.map sixs l)) : Int); let q9 := (1000000 : Int); splitB (chkLine l line != (0 : Int)) (q2.1 = [] ∧ q2.2.1 = [] ∧ q2.2.2 = [] ∧ chkLine l line = errE q10 q11 ∧ True) (((0 : Int) ≤ (↑(List.length l) : Int) ∧ (↑(List.length l) : Int) ≤ (1000000000 : Int)) ∧ splitB (!(decide ((0 : Int) < line) && decide (line < (↑(List.length l) : Int) - (1 : Int)))) (q2.1 = [] ∧ q2.2.1 = [] ∧ q2.2.2 = [] ∧ (14 : Int) = errE q10 q11 ∧ True) (chkFld l = (0 : Int) ∧ fits IntKind.i64 (line - (1 : Int)) ∧ ((0 : Int) ≤ line - (1 : Int) ∧ line - (1 : Int) < q8) ∧ fits IntKind.i64 (line + (1 : Int)) ∧ ((0 : Int) ≤ line + (1 : Int) ∧ line + (1 : Int) < q8) ∧ List.length q4 ≤ (100000 : Nat) ∧ List.length q7 = List.length q4 ∧ Bd q9 q4 ∧ Bd q9 q7 ∧ ((0 : Int) ≤ line ∧ line < q8) ∧ ((0 : Int) ≤ line ∧ line < q8) ∧ List.length q3 ≤ (100000 : Nat) ∧ List.length (combI plusI q4 q7) = List.length q3 ∧ Bd q9 q3 ∧ Bd q9 (combI plusI q4 q7) ∧ List.length q0 ≤ (100000 : Nat) ∧ Bd q9 q0 ∧ (0 : Int) ≤ line ∧ ((0 : Int) < (8 : Int) ∧ (8 : Int) ≤ (1000 : Int)) ∧ List.length q5 ≤ (100000 : Nat) ∧ List.length q6 = List.length q5 ∧ Bd q9 q5 ∧ Bd q9 q6 ∧ (0 : Int) ≤ line ∧ List.length q3 ≤ (100000 : Nat) ∧ List.length q12 = List.length q3 ∧ Bd q9 q3 ∧ Bd q9 q12 ∧ List.length q1 ≤ (1000000 : Nat) ∧ List.length q5 ≤ (1000000 : Nat) ∧ List.length q6 ≤ (1000000 : Nat) ∧ (3 : Nat) ≤ (1000000000 : Nat) ∧ splitB (first [lgE q1, lgE q5, lgE q6] != (0 : Int)) (q2.1 = [] ∧ q2.2.1 = [] ∧ q2.2.2 = [] ∧ first [lgE q1, lgE q5, lgE q6] = errE q10 q11 ∧ True) (smpsN q1 = q2.1 ∧ smpsN q5 = q2.2.1 ∧ smpsN q6 = q2.2.2 ∧ (0 : Int) = errE q10 q11 ∧ True)))) := by
  kernel_rfl
theorem vc50 (l : Fld) (line : Int) : exFr (env false [(100, sp100), (87, sp87), (125, sp125), (102, sp102), (22, sp22)] [fb114]) h50 3 50 Proofs.Tryz.f50 [fldV l, iV line] (.tup [pV (errP (twoE l line) (twoI l line)), iV (errE (twoE l line) (twoI l line))]) = (let q3 := (List.getD l (Int.toNat line) []); let q0 := (sixs q3); let q1 := (List.getD l (Int.toNat (line - (1 : Int))) []); let q2 := (List.getD l (Int.toNat (line + (1 : Int))) []); let q4 := (errP (twoE l line) (twoI l line)); let q9 := (List.length q0); let q5 := (↑q9 : Int); let q6 := (List.length q0 / (4 : Nat)); let q7 := (↑(List.length l) : Int); let q8 := (1000000 : Nat); let q10 := ((0 : Int) ≤ q5 ∧ (0 : Int) < (4 : Int) ∧ fits IntKind.i64 (q5 / (4 : Int))); let q15 := ((0 : Int) < (2 : Int) ∧ (2 : Int) ≤ (1000000000 : Int)); let q16 := ((0 : Int) < (4 : Int) ∧ (4 : Int) ≤ (1000 : Int)); splitB (decide (q7 < (2 : Int))) (q4.1 = [] ∧ q4.2.1 = [] ∧ q4.2.2 = [] ∧ (16 : Int) = errE (twoE l line) (twoI l line) ∧ True) (fits IntKind.i64 (line + (1 : Int)) ∧ splitB (line + (1 : Int) == q7) (fits IntKind.i64 (line - (1 : Int)) ∧ ((0 : Int) ≤ line ∧ line < q7) ∧ List.length q3 ≤ q8 ∧ OkS q3 ∧ ((0 : Int) ≤ line - (1 : Int) ∧ line - (1 : Int) < q7) ∧ List.length q1 ≤ q8 ∧ OkS q1 ∧ (∃ (g : Nat), Nat.le g q9 ∧ (0 : Int) = (↑g : Int) ∧ line = line ∧ (tab g fun (n : Nat) => midI (List.getD q0 n (0 : Int)) (List.getD (sixs q1) n (0 : Int))) = [] ∧ (tab g fun (n : Nat) => minusI (List.getD q0 n (0 : Int)) (List.getD (sixs q1) n (0 : Int))) = [] ∧ sixs q1 = sixs q1 ∧ sixs q3 = sixs q3 ∧ True) ∧ ∀ (g : Nat), let q11 := ((0 : Int) ≤ (↑g : Int) ∧ (↑g : Int) < (↑(List.length (sixs q1)) : Int)); let q13 := (List.getD q0 g (0 : Int) + List.getD (sixs q1) g (0 : Int)); Nat.le g q9 → splitB (decide ((↑g : Int) < q5)) (((0 : Int) ≤ (↑g : Int) ∧ (↑g : Int) < q5) ∧ g < List.length q0 ∧ q11 ∧ g < List.length (sixs q1) ∧ fits IntKind.i64 q13 ∧ ((-1000000000 : Int) ≤ List.getD q0 g (0 : Int) + List.getD (sixs q1) g (0 : Int) ∧ List.getD q0 g (0 : Int) + List.getD (sixs q1) g (0 : Int) ≤ (1000000000 : Int)) ∧ q15 ∧ room (List.length (tab g fun (n : Nat) => midI (List.getD q0 n (0 : Int)) (List.getD (sixs q1) n (0 : Int))) + (1 : Nat)) (8 : Nat) ∧ ((0 : Int) ≤ (↑g : Int) ∧ (↑g : Int) < q5) ∧ g < List.length q0 ∧ q11 ∧ g < List.length (sixs q1) ∧ fits IntKind.i64 (List.getD q0 g (0 : Int) - List.getD (sixs q1) g (0 : Int)) ∧ room (List.length (tab g fun (n : Nat) => minusI (List.getD q0 n (0 : Int)) (List.getD (sixs q1) n (0 : Int))) + (1 : Nat)) (8 : Nat) ∧ fits IntKind.i64 ((↑g : Int) + (1 : Int)) ∧ ∃ (g' : Nat), Nat.le g' q9 ∧ List.length q0 - g' < List.length q0 - g ∧ (↑g : Int) + (1 : Int) = (↑g' : Int) ∧ line = line ∧ ((tab g fun (n : Nat) => midI (List.getD q0 n (0 : Int)) (List.getD (sixs q1) n (0 : Int))) ++ [roundI q13 (2 : Int)] = tab g' fun (n : Nat) => midI (List.getD q0 n (0 : Int)) (List.getD (sixs q1) n (0 : Int))) ∧ ((tab g fun (n : Nat) => minusI (List.getD q0 n (0 : Int)) (List.getD (sixs q1) n (0 : Int))) ++ [List.getD q0 g (0 : Int) - List.getD (sixs q1) g (0 : Int)] = tab g' fun (n : Nat) => minusI (List.getD q0 n (0 : Int)) (List.getD (sixs q1) n (0 : Int))) ∧ sixs q1 = sixs q1 ∧ sixs q3 = sixs q3 ∧ True) ((∃ (g_1 : Nat), Nat.le g_1 q6 ∧ (0 : Int) = (↑g_1 : Int) ∧ line = line ∧ (tab g_1 fun (c : Nat) => diffAt (0 : Nat) (tab g fun (n : Nat) => minusI (List.getD q0 n (0 : Int)) (List.getD (sixs q1) n (0 : Int))) c line (4 : Int)) = [] ∧ (tab g_1 fun (c : Nat) => diffAt (1 : Nat) (tab g fun (n : Nat) => minusI (List.getD q0 n (0 : Int)) (List.getD (sixs q1) n (0 : Int))) c line (4 : Int)) = [] ∧ ((tab g fun (n : Nat) => midI (List.getD q0 n (0 : Int)) (List.getD (sixs q1) n (0 : Int))) = tab g fun (n : Nat) => midI (List.getD q0 n (0 : Int)) (List.getD (sixs q1) n (0 : Int))) ∧ ((tab g fun (n : Nat) => minusI (List.getD q0 n (0 : Int)) (List.getD (sixs q1) n (0 : Int))) = tab g fun (n : Nat) => minusI (List.getD q0 n (0 : Int)) (List.getD (sixs q1) n (0 : Int))) ∧ sixs q1 = sixs q1 ∧ sixs q3 = sixs q3 ∧ True) ∧ ∀ (g_1 : Nat), Nat.le g_1 q6 → q10 ∧ splitB (decide ((↑g_1 : Int) < q5 / (4 : Int))) (Bd (1000000 : Int) (tab g fun (n : Nat) => minusI (List.getD q0 n (0 : Int)) (List.getD (sixs q1) n (0 : Int))) ∧ ((0 : Int) ≤ (↑g_1 : Int) ∧ (4 : Int) * (↑g_1 : Int) + (4 : Int) ≤ (↑(List.length (tab g fun (n : Nat) => minusI (List.getD q0 n (0 : Int)) (List.getD (sixs q1) n (0 : Int)))) : Int)) ∧ List.length (tab g fun (n : Nat) => minusI (List.getD q0 n (0 : Int)) (List.getD (sixs q1) n (0 : Int))) ≤ (100000 : Nat) ∧ (0 : Int) ≤ line ∧ q16 ∧ room (List.length (tab g_1 fun (c : Nat) => diffAt (0 : Nat) (tab g fun (n : Nat) => minusI (List.getD q0 n (0 : Int)) (List.getD (sixs q1) n (0 : Int))) c line (4 : Int)) + (1 : Nat)) (8 : Nat) ∧ room (List.length (tab g_1 fun (c : Nat) => diffAt (1 : Nat) (tab g fun (n : Nat) => minusI (List.getD q0 n (0 : Int)) (List.getD (sixs q1) n (0 : Int))) c line (4 : Int)) + (1 : Nat)) (8 : Nat) ∧ fits IntKind.i64 ((↑g_1 : Int) + (1 : Int)) ∧ ∃ (g' : Nat), Nat.le g' q6 ∧ List.length q0 / (4 : Nat) - g' < List.length q0 / (4 : Nat) - g_1 ∧ (↑g_1 : Int) + (1 : Int) = (↑g' : Int) ∧ line = line ∧ ((tab g_1 fun (c : Nat) => diffAt (0 : Nat) (tab g fun (n : Nat) => minusI (List.getD q0 n (0 : Int)) (List.getD (sixs q1) n (0 : Int))) c line (4 : Int)) ++ [diffAt (0 : Nat) (tab g fun (n : Nat) => minusI (List.getD q0 n (0 : Int)) (List.getD (sixs q1) n (0 : Int))) g_1 line (4 : Int)] = tab g' fun (c : Nat) => diffAt (0 : Nat) (tab g fun (n : Nat) => minusI (List.getD q0 n (0 : Int)) (List.getD (sixs q1) n (0 : Int))) c line (4 : Int)) ∧ ((tab g_1 fun (c : Nat) => diffAt (1 : Nat) (tab g fun (n : Nat) => minusI (List.getD q0 n (0 : Int)) (List.getD (sixs q1) n (0 : Int))) c line (4 : Int)) ++ [diffAt (1 : Nat) (tab g fun (n : Nat) => minusI (List.getD q0 n (0 : Int)) (List.getD (sixs q1) n (0 : Int))) g_1 line (4 : Int)] = tab g' fun (c : Nat) => diffAt (1 : Nat) (tab g fun (n : Nat) => minusI (List.getD q0 n (0 : Int)) (List.getD (sixs q1) n (0 : Int))) c line (4 : Int)) ∧ ((tab g fun (n : Nat) => midI (List.getD q0 n (0 : Int)) (List.getD (sixs q1) n (0 : Int))) = tab g fun (n : Nat) => midI (List.getD q0 n (0 : Int)) (List.getD (sixs q1) n (0 : Int))) ∧ ((tab g fun (n : Nat) => minusI (List.getD q0 n (0 : Int)) (List.getD (sixs q1) n (0 : Int))) = tab g fun (n : Nat) => minusI (List.getD q0 n (0 : Int)) (List.getD (sixs q1) n (0 : Int))) ∧ sixs q1 = sixs q1 ∧ sixs q3 = sixs q3 ∧ True) (List.length (tab g fun (n : Nat) => midI (List.getD q0 n (0 : Int)) (List.getD (sixs q1) n (0 : Int))) ≤ q8 ∧ List.length (tab g_1 fun (c : Nat) => diffAt (0 : Nat) (tab g fun (n : Nat) => minusI (List.getD q0 n (0 : Int)) (List.getD (sixs q1) n (0 : Int))) c line (4 : Int)) ≤ q8 ∧ List.length (tab g_1 fun (c : Nat) => diffAt (1 : Nat) (tab g fun (n : Nat) => minusI (List.getD q0 n (0 : Int)) (List.getD (sixs q1) n (0 : Int))) c line (4 : Int)) ≤ q8 ∧ (3 : Nat) ≤ (1000000000 : Nat) ∧ splitB (first [lgE (tab g fun (n : Nat) => midI (List.getD q0 n (0 : Int)) (List.getD (sixs q1) n (0 : Int))), lgE (tab g_1 fun (c : Nat) => diffAt (0 : Nat) (tab g fun (n : Nat) => minusI (List.getD q0 n (0 : Int)) (List.getD (sixs q1) n (0 : Int))) c line (4 : Int)), lgE (tab g_1 fun (c : Nat) => diffAt (1 : Nat) (tab g fun (n : Nat) => minusI (List.getD q0 n (0 : Int)) (List.getD (sixs q1) n (0 : Int))) c line (4 : Int))] != (0 : Int)) (q4.1 = [] ∧ q4.2.1 = [] ∧ q4.2.2 = [] ∧ first [lgE (tab g fun (n : Nat) => midI (List.getD q0 n (0 : Int)) (List.getD (sixs q1) n (0 : Int))), lgE (tab g_1 fun (c : Nat) => diffAt (0 : Nat) (tab g fun (n : Nat) => minusI (List.getD q0 n (0 : Int)) (List.getD (sixs q1) n (0 : Int))) c line (4 : Int)), lgE (tab g_1 fun (c : Nat) => diffAt (1 : Nat) (tab g fun (n : Nat) => minusI (List.getD q0 n (0 : Int)) (List.getD (sixs q1) n (0 : Int))) c line (4 : Int))] = errE (twoE l line) (twoI l line) ∧ True) (smpsN (tab g fun (n : Nat) => midI (List.getD q0 n (0 : Int)) (List.getD (sixs q1) n (0 : Int))) = q4.1 ∧ smpsN (tab g_1 fun (c : Nat) => diffAt (0 : Nat) (tab g fun (n : Nat) => minusI (List.getD q0 n (0 : Int)) (List.getD (sixs q1) n (0 : Int))) c line (4 : Int)) = q4.2.1 ∧ smpsN (tab g_1 fun (c : Nat) => diffAt (1 : Nat) (tab g fun (n : Nat) => minusI (List.getD q0 n (0 : Int)) (List.getD (sixs q1) n (0 : Int))) c line (4 : Int)) = q4.2.2 ∧ (0 : Int) = errE (twoE l line) (twoI l line) ∧ True)))) (((0 : Int) ≤ line ∧ line < q7) ∧ List.length q3 ≤ q8 ∧ OkS q3 ∧ ((0 : Int) ≤ line + (1 : Int) ∧ line + (1 : Int) < q7) ∧ List.length q2 ≤ q8 ∧ OkS q2 ∧ (∃ (g : Nat), Nat.le g q9 ∧ (0 : Int) = (↑g : Int) ∧ line = line ∧ (tab g fun (n : Nat) => midI (List.getD q0 n (0 : Int)) (List.getD (sixs q2) n (0 : Int))) = [] ∧ (tab g fun (n : Nat) => minusI (List.getD q0 n (0 : Int)) (List.getD (sixs q2) n (0 : Int))) = [] ∧ sixs q2 = sixs q2 ∧ sixs q3 = sixs q3 ∧ True) ∧ ∀ (g : Nat), let q12 := ((0 : Int) ≤ (↑g : Int) ∧ (↑g : Int) < (↑(List.length (sixs q2)) : Int)); let q14 := (List.getD q0 g (0 : Int) + List.getD (sixs q2) g (0 : Int)); Nat.le g q9 → splitB (decide ((↑g : Int) < q5)) (((0 : Int) ≤ (↑g : Int) ∧ (↑g : Int) < q5) ∧ g < List.length q0 ∧ q12 ∧ g < List.length (sixs q2) ∧ fits IntKind.i64 q14 ∧ ((-1000000000 : Int) ≤ List.getD q0 g (0 : Int) + List.getD (sixs q2) g (0 : Int) ∧ List.getD q0 g (0 : Int) + List.getD (sixs q2) g (0 : Int) ≤ (1000000000 : Int)) ∧ q15 ∧ room (List.length (tab g fun (n : Nat) => midI (List.getD q0 n (0 : Int)) (List.getD (sixs q2) n (0 : Int))) + (1 : Nat)) (8 : Nat) ∧ ((0 : Int) ≤ (↑g : Int) ∧ (↑g : Int) < q5) ∧ g < List.length q0 ∧ q12 ∧ g < List.length (sixs q2) ∧ fits IntKind.i64 (List.getD q0 g (0 : Int) - List.getD (sixs q2) g (0 : Int)) ∧ room (List.length (tab g fun (n : Nat) => minusI (List.getD q0 n (0 : Int)) (List.getD (sixs q2) n (0 : Int))) + (1 : Nat)) (8 : Nat) ∧ fits IntKind.i64 ((↑g : Int) + (1 : Int)) ∧ ∃ (g' : Nat), Nat.le g' q9 ∧ List.length q0 - g' < List.length q0 - g ∧ (↑g : Int) + (1 : Int) = (↑g' : Int) ∧ line = line ∧ ((tab g fun (n : Nat) => midI (List.getD q0 n (0 : Int)) (List.getD (sixs q2) n (0 : Int))) ++ [roundI q14 (2 : Int)] = tab g' fun (n : Nat) => midI (List.getD q0 n (0 : Int)) (List.getD (sixs q2) n (0 : Int))) ∧ ((tab g fun (n : Nat) => minusI (List.getD q0 n (0 : Int)) (List.getD (sixs q2) n (0 : Int))) ++ [List.getD q0 g (0 : Int) - List.getD (sixs q2) g (0 : Int)] = tab g' fun (n : Nat) => minusI (List.getD q0 n (0 : Int)) (List.getD (sixs q2) n (0 : Int))) ∧ sixs q2 = sixs q2 ∧ sixs q3 = sixs q3 ∧ True) ((∃ (g_1 : Nat), Nat.le g_1 q6 ∧ (0 : Int) = (↑g_1 : Int) ∧ line = line ∧ (tab g_1 fun (c : Nat) => diffAt (0 : Nat) (tab g fun (n : Nat) => minusI (List.getD q0 n (0 : Int)) (List.getD (sixs q2) n (0 : Int))) c line (4 : Int)) = [] ∧ (tab g_1 fun (c : Nat) => diffAt (1 : Nat) (tab g fun (n : Nat) => minusI (List.getD q0 n (0 : Int)) (List.getD (sixs q2) n (0 : Int))) c line (4 : Int)) = [] ∧ ((tab g fun (n : Nat) => midI (List.getD q0 n (0 : Int)) (List.getD (sixs q2) n (0 : Int))) = tab g fun (n : Nat) => midI (List.getD q0 n (0 : Int)) (List.getD (sixs q2) n (0 : Int))) ∧ ((tab g fun (n : Nat) => minusI (List.getD q0 n (0 : Int)) (List.getD (sixs q2) n (0 : Int))) = tab g fun (n : Nat) => minusI (List.getD q0 n (0 : Int)) (List.getD (sixs q2) n (0 : Int))) ∧ sixs q2 = sixs q2 ∧ sixs q3 = sixs q3 ∧ True) ∧ ∀ (g_1 : Nat), Nat.le g_1 q6 → q10 ∧ splitB (decide ((↑g_1 : Int) < q5 / (4 : Int))) (Bd (1000000 : Int) (tab g fun (n : Nat) => minusI (List.getD q0 n (0 : Int)) (List.getD (sixs q2) n (0 : Int))) ∧ ((0 : Int) ≤ (↑g_1 : Int) ∧ (4 : Int) * (↑g_1 : Int) + (4 : Int) ≤ (↑(List.length (tab g fun (n : Nat) => minusI (List.getD q0 n (0 : Int)) (List.getD (sixs q2) n (0 : Int)))) : Int)) ∧ List.length (tab g fun (n : Nat) => minusI (List.getD q0 n (0 : Int)) (List.getD (sixs q2) n (0 : Int))) ≤ (100000 : Nat) ∧ (0 : Int) ≤ line ∧ q16 ∧ room (List.length (tab g_1 fun (c : Nat) => diffAt (0 : Nat) (tab g fun (n : Nat) => minusI (List.getD q0 n (0 : Int)) (List.getD (sixs q2) n (0 : Int))) c line (4 : Int)) + (1 : Nat)) (8 : Nat) ∧ room (List.length (tab g_1 fun (c : Nat) => diffAt (1 : Nat) (tab g fun (n : Nat) => minusI (List.getD q0 n (0 : Int)) (List.getD (sixs q2) n (0 : Int))) c line (4 : Int)) + (1 : Nat)) (8 : Nat) ∧ fits IntKind.i64 ((↑g_1 : Int) + (1 : Int)) ∧ ∃ (g' : Nat), Nat.le g' q6 ∧ List.length q0 / (4 : Nat) - g' < List.length q0 / (4 : Nat) - g_1 ∧ (↑g_1 : Int) + (1 : Int) = (↑g' : Int) ∧ line = line ∧ ((tab g_1 fun (c : Nat) => diffAt (0 : Nat) (tab g fun (n : Nat) => minusI (List.getD q0 n (0 : Int)) (List.getD (sixs q2) n (0 : Int))) c line (4 : Int)) ++ [diffAt (0 : Nat) (tab g fun (n : Nat) => minusI (List.getD q0 n (0 : Int)) (List.getD (sixs q2) n (0 : Int))) g_1 line (4 : Int)] = tab g' fun (c : Nat) => diffAt (0 : Nat) (tab g fun (n : Nat) => minusI (List.getD q0 n (0 : Int)) (List.getD (sixs q2) n (0 : Int))) c line (4 : Int)) ∧ ((tab g_1 fun (c : Nat) => diffAt (1 : Nat) (tab g fun (n : Nat) => minusI (List.getD q0 n (0 : Int)) (List.getD (sixs q2) n (0 : Int))) c line (4 : Int)) ++ [diffAt (1 : Nat) (tab g fun (n : Nat) => minusI (List.getD q0 n (0 : Int)) (List.getD (sixs q2) n (0 : Int))) g_1 line (4 : Int)] = tab g' fun (c : Nat) => diffAt (1 : Nat) (tab g fun (n : Nat) => minusI (List.getD q0 n (0 : Int)) (List.getD (sixs q2) n (0 : Int))) c line (4 : Int)) ∧ ((tab g fun (n : Nat) => midI (List.getD q0 n (0 : Int)) (List.getD (sixs q2) n (0 : Int))) = tab g fun (n : Nat) => midI (List.getD q0 n (0 : Int)) (List.getD (sixs q2) n (0 : Int))) ∧ ((tab g fun (n : Nat) => minusI (List.getD q0 n (0 : Int)) (List.getD (sixs q2) n (0 : Int))) = tab g fun (n : Nat) => minusI (List.getD q0 n (0 : Int)) (List.getD (sixs q2) n (0 : Int))) ∧ sixs q2 = sixs q2 ∧ sixs q3 = sixs q3 ∧ True) (List.length (tab g fun (n : Nat) => midI (List.getD q0 n (0 : Int)) (List.getD (sixs q2) n (0 : Int))) ≤ q8 ∧ List.length (tab g_1 fun (c : Nat) => diffAt (0 : Nat) (tab g fun (n : Nat) => minusI (List.getD q0 n (0 : Int)) (List.getD (sixs q2) n (0 : Int))) c line (4 : Int)) ≤ q8 ∧ List.length (tab g_1 fun (c : Nat) => diffAt (1 : Nat) (tab g fun (n : Nat) => minusI (List.getD q0 n (0 : Int)) (List.getD (sixs q2) n (0 : Int))) c line (4 : Int)) ≤ q8 ∧ (3 : Nat) ≤ (1000000000 : Nat) ∧ splitB (first [lgE (tab g fun (n : Nat) => midI (List.getD q0 n (0 : Int)) (List.getD (sixs q2) n (0 : Int))), lgE (tab g_1 fun (c : Nat) => diffAt (0 : Nat) (tab g fun (n : Nat) => minusI (List.getD q0 n (0 : Int)) (List.getD (sixs q2) n (0 : Int))) c line (4 : Int)), lgE (tab g_1 fun (c : Nat) => diffAt (1 : Nat) (tab g fun (n : Nat) => minusI (List.getD q0 n (0 : Int)) (List.getD (sixs q2) n (0 : Int))) c line (4 : Int))] != (0 : Int)) (q4.1 = [] ∧ q4.2.1 = [] ∧ q4.2.2 = [] ∧ first [lgE (tab g fun (n : Nat) => midI (List.getD q0 n (0 : Int)) (List.getD (sixs q2) n (0 : Int))), lgE (tab g_1 fun (c : Nat) => diffAt (0 : Nat) (tab g fun (n : Nat) => minusI (List.getD q0 n (0 : Int)) (List.getD (sixs q2) n (0 : Int))) c line (4 : Int)), lgE (tab g_1 fun (c : Nat) => diffAt (1 : Nat) (tab g fun (n : Nat) => minusI (List.getD q0 n (0 : Int)) (List.getD (sixs q2) n (0 : Int))) c line (4 : Int))] = errE (twoE l line) (twoI l line) ∧ True) (smpsN (tab g fun (n : Nat) => midI (List.getD q0 n (0 : Int)) (List.getD (sixs q2) n (0 : Int))) = q4.1 ∧ smpsN (tab g_1 fun (c : Nat) => diffAt (0 : Nat) (tab g fun (n : Nat) => minusI (List.getD q0 n (0 : Int)) (List.getD (sixs q2) n (0 : Int))) c line (4 : Int)) = q4.2.1 ∧ smpsN (tab g_1 fun (c : Nat) => diffAt (1 : Nat) (tab g fun (n : Nat) => minusI (List.getD q0 n (0 : Int)) (List.getD (sixs q2) n (0 : Int))) c line (4 : Int)) = q4.2.2 ∧ (0 : Int) = errE (twoE l line) (twoI l line) ∧ True)))))) := by
  kernel_rfl
theorem vc126 (b s a : List Int) (c line : Int) : exF (env false [(125, sp125), (169, sp169)] []) h50 0 126 Proofs.Tryz.f126 [.one (.sl (.int .i64) b), .one (.sl (.int .i64) s), .one (.sl (.int .i64) a), iV c, iV line] (.tup [.one (.frs (.int .i64) (withN s c.toNat (diffAt 0 (thrD b s a) c.toNat line 8) (diffAt 1 (thrD b s a) c.toNat line 8) line)), iV (diffAt 0 (thrD b s a) c.toNat line 8), iV (diffAt 1 (thrD b s a) c.toNat line 8)]) = (let q0 := (List.length s); (∃ (g : Nat), Nat.le g q0 ∧ (0 : Int) = (↑g : Int) ∧ b = b ∧ s = s ∧ a = a ∧ c = c ∧ line = line ∧ (tab g fun (n : Nat) => (2 : Int) * List.getD s n (0 : Int) - List.getD b n (0 : Int) - List.getD a n (0 : Int)) = [] ∧ True) ∧ ∀ (g : Nat), Nat.le g q0 → splitB (decide ((↑g : Int) < (↑q0 : Int))) (((0 : Int) ≤ (↑g : Int) ∧ (↑g : Int) < (↑q0 : Int)) ∧ fits IntKind.i64 ((2 : Int) * List.getD s g (0 : Int)) ∧ ((0 : Int) ≤ (↑g : Int) ∧ (↑g : Int) < (↑(List.length b) : Int)) ∧ fits IntKind.i64 ((2 : Int) * List.getD s g (0 : Int) - List.getD b g (0 : Int)) ∧ ((0 : Int) ≤ (↑g : Int) ∧ (↑g : Int) < (↑(List.length a) : Int)) ∧ fits IntKind.i64 ((2 : Int) * List.getD s g (0 : Int) - List.getD b g (0 : Int) - List.getD a g (0 : Int)) ∧ room (List.length (tab g fun (n : Nat) => (2 : Int) * List.getD s n (0 : Int) - List.getD b n (0 : Int) - List.getD a n (0 : Int)) + (1 : Nat)) (8 : Nat) ∧ fits IntKind.i64 ((↑g : Int) + (1 : Int)) ∧ ∃ (g' : Nat), Nat.le g' q0 ∧ List.length s - g' < List.length s - g ∧ (↑g : Int) + (1 : Int) = (↑g' : Int) ∧ b = b ∧ s = s ∧ a = a ∧ c = c ∧ line = line ∧ ((tab g fun (n : Nat) => (2 : Int) * List.getD s n (0 : Int) - List.getD b n (0 : Int) - List.getD a n (0 : Int)) ++ [(2 : Int) * List.getD s g (0 : Int) - List.getD b g (0 : Int) - List.getD a g (0 : Int)] = tab g' fun (n : Nat) => (2 : Int) * List.getD s n (0 : Int) - List.getD b n (0 : Int) - List.getD a n (0 : Int)) ∧ True) (Bd (1000000 : Int) (tab g fun (n : Nat) => (2 : Int) * List.getD s n (0 : Int) - List.getD b n (0 : Int) - List.getD a n (0 : Int)) ∧ ((0 : Int) ≤ c ∧ (4 : Int) * c + (4 : Int) ≤ (↑(List.length (tab g fun (n : Nat) => (2 : Int) * List.getD s n (0 : Int) - List.getD b n (0 : Int) - List.getD a n (0 : Int))) : Int)) ∧ List.length (tab g fun (n : Nat) => (2 : Int) * List.getD s n (0 : Int) - List.getD b n (0 : Int) - List.getD a n (0 : Int)) ≤ (100000 : Nat) ∧ (0 : Int) ≤ line ∧ ((0 : Int) < (8 : Int) ∧ (8 : Int) ≤ (1000 : Int)) ∧ Bd (1000000 : Int) s ∧ ((0 : Int) ≤ c ∧ (4 : Int) * c + (4 : Int) ≤ (↑q0 : Int)) ∧ List.length s ≤ (100000 : Nat) ∧ ((-1000000 : Int) ≤ diffAt (0 : Nat) (tab g fun (n : Nat) => (2 : Int) * List.getD s n (0 : Int) - List.getD b n (0 : Int) - List.getD a n (0 : Int)) (Int.toNat c) line (8 : Int) ∧ diffAt (0 : Nat) (tab g fun (n : Nat) => (2 : Int) * List.getD s n (0 : Int) - List.getD b n (0 : Int) - List.getD a n (0 : Int)) (Int.toNat c) line (8 : Int) ≤ (1000000 : Int)) ∧ ((-1000000 : Int) ≤ diffAt (1 : Nat) (tab g fun (n : Nat) => (2 : Int) * List.getD s n (0 : Int) - List.getD b n (0 : Int) - List.getD a n (0 : Int)) (Int.toNat c) line (8 : Int) ∧ diffAt (1 : Nat) (tab g fun (n : Nat) => (2 : Int) * List.getD s n (0 : Int) - List.getD b n (0 : Int) - List.getD a n (0 : Int)) (Int.toNat c) line (8 : Int) ≤ (1000000 : Int)) ∧ (0 : Int) ≤ line ∧ withN s (Int.toNat c) (diffAt (0 : Nat) (tab g fun (n : Nat) => (2 : Int) * List.getD s n (0 : Int) - List.getD b n (0 : Int) - List.getD a n (0 : Int)) (Int.toNat c) line (8 : Int)) (diffAt (1 : Nat) (tab g fun (n : Nat) => (2 : Int) * List.getD s n (0 : Int) - List.getD b n (0 : Int) - List.getD a n (0 : Int)) (Int.toNat c) line (8 : Int)) line = withN s (Int.toNat c) (diffAt (0 : Nat) (thrD b s a) (Int.toNat c) line (8 : Int)) (diffAt (1 : Nat) (thrD b s a) (Int.toNat c) line (8 : Int)) line ∧ diffAt (0 : Nat) (tab g fun (n : Nat) => (2 : Int) * List.getD s n (0 : Int) - List.getD b n (0 : Int) - List.getD a n (0 : Int)) (Int.toNat c) line (8 : Int) = diffAt (0 : Nat) (thrD b s a) (Int.toNat c) line (8 : Int) ∧ diffAt (1 : Nat) (tab g fun (n : Nat) => (2 : Int) * List.getD s n (0 : Int) - List.getD b n (0 : Int) - List.getD a n (0 : Int)) (Int.toNat c) line (8 : Int) = diffAt (1 : Nat) (thrD b s a) (Int.toNat c) line (8 : Int) ∧ True)) := by
  kernel_rfl
theorem vc51 (l : Fld) (line : Int) : exFr (env false [(100, sp100), (126, sp126), (102, sp102), (22, sp22)] [fb114]) h50 3 51 Proofs.Tryz.f51 [fldV l, iV line] (.tup [pV (errP (threeE l line) (threeL l line)), iV (errE (threeE l line) (threeL l line))]) = (let q5 := (List.getD l (Int.toNat line) []); let q1 := (sixs q5); let q0 := (thrD (lnI l (line - (1 : Int))) q1 (lnI l (line + (1 : Int)))); let q7 := (List.getD l (Int.toNat (line + (1 : Int))) []); let q6 := (List.getD l (Int.toNat (line - (1 : Int))) []); let q2 := (thrD (sixs q6) q1 (sixs q7)); let q3 := (errP (threeE l line) (threeL l line)); let q8 := (↑(List.length l) : Int); let q9 := (apAt q1 q0 line (8 : Int)); let q10 := (↑(List.length q1) : Int); let q11 := (1000000 : Nat); let q12 := (List.length q1 / (4 : Nat)); ((line == (0 : Int)) = false → fits IntKind.i64 (q8 - (1 : Int))) ∧ splitB (bif line == (0 : Int) then true else line == q8 - (1 : Int)) (q3.1 = [] ∧ q3.2.1 = [] ∧ q3.2.2 = [] ∧ (14 : Int) = errE (threeE l line) (threeL l line) ∧ True) (((0 : Int) ≤ line ∧ line < q8) ∧ List.length q5 ≤ q11 ∧ OkS q5 ∧ (∃ (g : Nat), Nat.le g q12 ∧ (0 : Int) = (↑g : Int) ∧ l = l ∧ line = line ∧ tab ((4 : Nat) * g) q9 = [] ∧ (tab g fun (c : Nat) => diffAt (0 : Nat) q0 c line (8 : Int)) = [] ∧ (tab g fun (c : Nat) => diffAt (1 : Nat) q0 c line (8 : Int)) = [] ∧ sixs q5 = sixs q5 ∧ True) ∧ ∀ (g : Nat), let q4 := (tab ((4 : Nat) * g) q9); Nat.le g q12 → ((0 : Int) ≤ q10 ∧ (0 : Int) < (4 : Int) ∧ fits IntKind.i64 (q10 / (4 : Int))) ∧ splitB (decide ((↑g : Int) < q10 / (4 : Int))) (fits IntKind.i64 (line - (1 : Int)) ∧ ((0 : Int) ≤ line - (1 : Int) ∧ line - (1 : Int) < q8) ∧ List.length q6 ≤ q11 ∧ OkS q6 ∧ fits IntKind.i64 (line + (1 : Int)) ∧ ((0 : Int) ≤ line + (1 : Int) ∧ line + (1 : Int) < q8) ∧ List.length q7 ≤ q11 ∧ OkS q7 ∧ Bd (16384 : Int) (sixs q6) ∧ Bd (16384 : Int) q1 ∧ Bd (16384 : Int) (sixs q7) ∧ List.length (sixs q6) = List.length q1 ∧ List.length (sixs q7) = List.length q1 ∧ ((0 : Int) ≤ (↑g : Int) ∧ (4 : Int) * (↑g : Int) + (4 : Int) ≤ q10) ∧ List.length q1 ≤ (100000 : Nat) ∧ (0 : Int) ≤ line ∧ room (List.length q4 + List.length (withN q1 g (diffAt (0 : Nat) q2 g line (8 : Int)) (diffAt (1 : Nat) q2 g line (8 : Int)) line)) (8 : Nat) ∧ room (List.length (tab g fun (c : Nat) => diffAt (0 : Nat) q0 c line (8 : Int)) + (1 : Nat)) (8 : Nat) ∧ room (List.length (tab g fun (c : Nat) => diffAt (1 : Nat) q0 c line (8 : Int)) + (1 : Nat)) (8 : Nat) ∧ fits IntKind.i64 ((↑g : Int) + (1 : Int)) ∧ ∃ (g' : Nat), Nat.le g' q12 ∧ List.length q1 / (4 : Nat) - g' < List.length q1 / (4 : Nat) - g ∧ (↑g : Int) + (1 : Int) = (↑g' : Int) ∧ l = l ∧ line = line ∧ tab ((4 : Nat) * g) q9 ++ withN q1 g (diffAt (0 : Nat) q2 g line (8 : Int)) (diffAt (1 : Nat) q2 g line (8 : Int)) line = tab ((4 : Nat) * g') q9 ∧ ((tab g fun (c : Nat) => diffAt (0 : Nat) q0 c line (8 : Int)) ++ [diffAt (0 : Nat) q2 g line (8 : Int)] = tab g' fun (c : Nat) => diffAt (0 : Nat) q0 c line (8 : Int)) ∧ ((tab g fun (c : Nat) => diffAt (1 : Nat) q0 c line (8 : Int)) ++ [diffAt (1 : Nat) q2 g line (8 : Int)] = tab g' fun (c : Nat) => diffAt (1 : Nat) q0 c line (8 : Int)) ∧ sixs q5 = sixs q5 ∧ True) (List.length q4 ≤ q11 ∧ List.length (tab g fun (c : Nat) => diffAt (0 : Nat) q0 c line (8 : Int)) ≤ q11 ∧ List.length (tab g fun (c : Nat) => diffAt (1 : Nat) q0 c line (8 : Int)) ≤ q11 ∧ (3 : Nat) ≤ (1000000000 : Nat) ∧ splitB (first [lgE q4, lgE (tab g fun (c : Nat) => diffAt (0 : Nat) q0 c line (8 : Int)), lgE (tab g fun (c : Nat) => diffAt (1 : Nat) q0 c line (8 : Int))] != (0 : Int)) (q3.1 = [] ∧ q3.2.1 = [] ∧ q3.2.2 = [] ∧ first [lgE q4, lgE (tab g fun (c : Nat) => diffAt (0 : Nat) q0 c line (8 : Int)), lgE (tab g fun (c : Nat) => diffAt (1 : Nat) q0 c line (8 : Int))] = errE (threeE l line) (threeL l line) ∧ True) (smpsN q4 = q3.1 ∧ smpsN (tab g fun (c : Nat) => diffAt (0 : Nat) q0 c line (8 : Int)) = q3.2.1 ∧ smpsN (tab g fun (c : Nat) => diffAt (1 : Nat) q0 c line (8 : Int)) = q3.2.2 ∧ (0 : Int) = errE (threeE l line) (threeL l line) ∧ True)))) := by
  kernel_rfl
end Go.Sx

/- Contracts. -/
namespace Go.Sx
open U
theorem fn38 (l : Fld)  : Fn P1 gl1 38 [fldV l] (.val (iV (chkFld l))) true := by
  refine Fn.flat ?_ rfl
  refine fn_of false [(41, sp41), (104, sp104), (95, sp95)] [] h38 0 Proofs.Tryz.f38 ⟨so41, so104, so95, trivial⟩ trivial (by kernel_rfl) rfl (by kernel_rfl) rfl rfl rfl ?_
  rw [vc38]
  try simp only [splitB_iff, -eq_self]
  simp only [ln_first, -eq_self]
  refine ⟨fun h => ?_, fun h => ⟨⟨0, ⟨by omega, rfl⟩, rfl, rfl, rfl, rfl, trivial⟩, fun g hg => ⟨fun hlt => ?_, fun hge => ?_⟩⟩⟩
  · have h : (32 : Int) < (l.length : Int) := of_decide_eq_true h
    unfold chkFld
    rw [if_pos (by omega)]
    exact ⟨rfl, trivial⟩
  · have h : ¬ (32 : Int) < (l.length : Int) := of_decide_eq_false h
    have hlt : g < l.length := by simpa using hlt
    refine ⟨by omega, by omega, by decide, fun k => ?_, fun k => ⟨by simp only [fits]; omega, g + 1, ⟨by omega, upTo_next hg.2 (bneF.1 k)⟩, by omega, by simp, rfl, rfl, rfl, trivial⟩⟩
    unfold chkFld
    rw [if_neg (by omega), upTo_stop hg.2 (bneZ.1 k) hlt]
    exact ⟨rfl, trivial⟩
  · have h : ¬ (32 : Int) < (l.length : Int) := of_decide_eq_false h
    have hge : ¬ g < l.length := by simpa using hge
    have e : g = l.length := by omega
    subst e
    unfold chkFld
    rw [if_neg (by omega), hg.2]
    exact ⟨rfl, trivial⟩
theorem so38_ : SpecOk P1 gl1 38 sp38 := by
  intro vs ps r h _
  simp only [sp38] at h
  split at h
  · cases h; exact fn38 _ 
  · cases h
theorem so38 : Sp1 38 sp38 := ⟨so38_, Proofs.Tryz.f38, _, by kernel_rfl, rfl, by kernel_rfl⟩
theorem fn40 (l : Fld)  : Fn P1 gl1 40 [fldV l] (.val (iV (chkFld l))) true := by
  refine Fn.flat ?_ rfl
  refine fn_of false [(36, sp36)] [] h38 0 Proofs.Tryz.f40 ⟨so36, trivial⟩ trivial (by kernel_rfl) rfl (by kernel_rfl) rfl rfl rfl ?_
  rw [vc40]
  try simp only [splitB_iff, -eq_self]
  refine ⟨fun h => ?_, fun h => ⟨⟨0, ⟨by omega, rfl⟩, rfl, rfl, trivial⟩, fun g hg => ⟨fun hlt => ?_, fun hge => ?_⟩⟩⟩
  · have h : (32 : Int) < (l.length : Int) := of_decide_eq_true h
    unfold chkFld
    rw [if_pos (by omega)]
    exact ⟨rfl, trivial⟩
  · have h : ¬ (32 : Int) < (l.length : Int) := of_decide_eq_false h
    have hlt : g < l.length := by simpa using hlt
    refine ⟨by omega, fun k => ?_, fun k => ⟨by omega, by omega, fun k2 => ?_, fun k2 => ⟨by simp only [fits]; omega, g + 1, ⟨by omega, ?_⟩, by omega, by simp, rfl, trivial⟩⟩⟩
    · have k := bneZ.1 k
      have e : chkLn l g = chkSig (List.getD l g []) := by unfold chkLn; rw [if_neg k]
      unfold chkFld
      rw [if_neg (by omega), upTo_stop hg.2 (by rw [e]; exact k) hlt, e]
      exact ⟨rfl, trivial⟩
    · have k := bneF.1 k
      have k2 : ¬ ((List.getD l g []).length : Int) = ((List.getD l 0 []).length : Int) := bne_iff_ne.1 k2
      have e : chkLn l g = 2 := by unfold chkLn; rw [if_pos k, if_neg (by omega)]
      unfold chkFld
      rw [if_neg (by omega), upTo_stop hg.2 (by rw [e]; decide) hlt, e]
      exact ⟨rfl, trivial⟩
    · have k := bneF.1 k
      have k2 : ((List.getD l g []).length : Int) = ((List.getD l 0 []).length : Int) := bne_eq_false_iff_eq.1 k2
      exact upTo_next hg.2 (chkLn_zero.2 ⟨k, by omega⟩)
  · have h : ¬ (32 : Int) < (l.length : Int) := of_decide_eq_false h
    have hge : ¬ g < l.length := by simpa using hge
    have e : g = l.length := by omega
    subst e
    unfold chkFld
    rw [if_neg (by omega), hg.2]
    exact ⟨rfl, trivial⟩
theorem so40_ : SpecOk P1 gl1 40 sp40 := by
  intro vs ps r h _
  simp only [sp40] at h
  split at h
  · cases h; exact fn40 _ 
  · cases h
theorem so40 : Sp1 40 sp40 := ⟨so40_, Proofs.Tryz.f40, _, by kernel_rfl, rfl, by kernel_rfl⟩
theorem fn115 (l : Fld) (line : Int)  : Fn P1 gl1 115 [fldV l, iV line] (.val (iV (chkLine l line))) true := by
  refine Fn.flat ?_ rfl
  refine fn_of false [(38, sp38), (104, sp104), (95, sp95)] [] h0 0 Proofs.Tryz.f115 ⟨so38, so104, so95, trivial⟩ trivial (by kernel_rfl) rfl (by kernel_rfl) rfl rfl rfl ?_
  rw [vc115]
  try simp only [splitB_iff, -eq_self]
  exact ⟨by decide, line_first l line, trivial⟩
theorem so115_ : SpecOk P1 gl1 115 sp115 := by
  intro vs ps r h _
  simp only [sp115] at h
  split at h
  · cases h; exact fn115 _ _ 
  · cases h
theorem so115 : Sp1 115 sp115 := ⟨so115_, Proofs.Tryz.f115, _, by kernel_rfl, rfl, by kernel_rfl⟩
theorem fn123 (l : Fld) (hf : chkFld l = 0) : Fn P1 gl1 123 [fldV l, .one (.fn 108 [] [])] (.val (.one (.sl (.sl (.int .i64)) (l.map sixs)))) false := by
  refine fn_of false [(108, sp108)] [] h38 0 Proofs.Tryz.f123 ⟨so108, trivial⟩ trivial (by kernel_rfl) rfl (by kernel_rfl) rfl rfl rfl ?_
  rw [vc123]
  try simp only [splitB_iff, -eq_self]
  have hq := chkFld_zero.1 hf
  refine ⟨⟨0, Nat.zero_le _, rfl, rfl, rfl, by simp⟩, fun g hg => ⟨fun hlt => ?_, fun hge => ?_⟩⟩
  · have hlt' : g < l.length := by simpa using hlt
    obtain ⟨a1, a2, _⟩ := fld_line hf hlt'
    refine ⟨by omega, by omega, a1, by simp only [room, List.length_map, List.length_take]; omega, by simp only [fits]; omega, g + 1, hlt', by omega, by simp, rfl, rfl, ?_, trivial⟩
    rw [getD_of hlt', List.take_succ_eq_append_getElem hlt', List.map_append]
    rfl
  · have hge' : ¬ g < l.length := by simpa using hge
    rw [List.take_of_length_le (by omega)]
    exact ⟨rfl, trivial⟩
theorem so123_ : SpecOk P1 gl1 123 sp123 := by
  intro vs ps r h hp
  simp only [sp123] at h
  split at h
  · cases h; exact fn123 _ (hp _ (.head _))
  · cases h
theorem so123 : Sp1 123 sp123 := ⟨so123_, Proofs.Tryz.f123, _, by kernel_rfl, rfl, by kernel_rfl⟩
theorem fn121 (n line : Int) (hn : 0 ≤ n ∧ n ≤ 1000000000) : Fn P1 gl1 121 [iV n, iV line] (.val (bV (decide (0 < line) && decide (line < n - 1)))) true := by
  refine Fn.flat ?_ rfl
  refine fn_of false [] [] h0 0 Proofs.Tryz.f121 trivial trivial (by kernel_rfl) rfl (by kernel_rfl) rfl rfl rfl ?_
  rw [vc121]
  try simp only [splitB_iff, -eq_self]
  rw [bcond_r]
  exact ⟨fun _ => by simp only [fits]; omega, rfl, trivial⟩
theorem so121_ : SpecOk P1 gl1 121 sp121 := by
  intro vs ps r h hp
  simp only [sp121] at h
  split at h
  · cases h; exact fn121 _ _ (hp _ (.head _))
  · cases h
theorem so121 : Sp1 121 sp121 := ⟨so121_, Proofs.Tryz.f121, _, by kernel_rfl, rfl, by kernel_rfl⟩
theorem fn47 (l : Fld) (line : Int)  : Fn P1 gl1 47 [fldV l, iV line] (.tup [pV (errP (twoE l line) (twoI l line)), iV (errE (twoE l line) (twoI l line))]) true := by
  refine fn_ofr false [(115, sp115), (104, sp104), (95, sp95), (108, sp108), (117, sp117), (118, sp118), (119, sp119), (116, sp116), (138, sp138)] [fb112] h0 3 Proofs.Tryz.f47 ⟨so115, so104, so95, so108, so117, so118, so119, so116, so138, trivial⟩ ⟨⟨by kernel_rfl, by kernel_rfl, _, rfl, by kernel_rfl⟩, trivial⟩ (by kernel_rfl) rfl (by kernel_rfl) rfl rfl rfl ?_
  rw [vc47]
  try simp only [splitB_iff, -eq_self]
  rw [two_first]
  refine ⟨by decide, fun h => ?_, fun h => ?_⟩
  · have h := bneZ.1 h
    unfold errP errE
    rw [if_neg h, if_neg h]
    exact ⟨rfl, rfl, rfl, rfl, trivial⟩
  · have h := bneF.1 h
    obtain ⟨c1, c2, c3, c4⟩ := twoE_zero.1 h
    have c0 := (chkFld_zero.1 c1).1
    unfold errP errE
    rw [if_pos h, if_pos h]
    unfold twoI lnI nextL
    obtain ⟨a1, a2, a3, a4⟩ := fld_line c1 (i := line.toNat) (by omega)
    refine ⟨by simp only [fits]; omega, fun k => ?_, fun k => ?_⟩
    · have k : line + 1 = (l.length : Int) := by simpa using k
      obtain ⟨b1, b2, b3, b4⟩ := fld_line c1 (i := (line - 1).toNat) (by omega)
      have hb : 0 ≤ line - 1 ∧ line - 1 < (l.length : Int) := by omega
      rw [if_pos k]
      generalize List.getD l (line - 1).toNat [] = o at *
      generalize List.getD l line.toNat [] = s at *
      have z1 := bd_sixs a1
      have z2 := bd_sixs b1
      have z3 : Bd 32768 (combI minusI (sixs s) (sixs o)) := bd_comb (A := 16384) (B := 16384) z1 z2 (by omega) (by omega) fun x y hx hy => by unfold minusI; omega
      simp only [sixs_len, combI_len, diffN_len, -eq_self]
      refine ⟨by simp only [fits]; omega, by omega, by omega, a1, by omega, by omega, b1, by omega, by omega, bd_le z1 (by omega), bd_le z2 (by omega), by omega, bd_le z3 (by omega), c2, by omega, by omega, by omega, bd_le z1 (by omega), bd_le z2 (by omega), by omega, by omega, by omega, by decide, fun h => ?_, fun h => ?_⟩
      · have h : ¬ partsE (combI midI (sixs s) (sixs o), diffN 0 (combI minusI (sixs s) (sixs o)) line 4, diffN 1 (combI minusI (sixs s) (sixs o)) line 4) = 0 := bneZ.1 h
        unfold partsP
        rw [if_neg h]
        exact ⟨rfl, rfl, rfl, rfl, trivial⟩
      · have h : partsE (combI midI (sixs s) (sixs o), diffN 0 (combI minusI (sixs s) (sixs o)) line 4, diffN 1 (combI minusI (sixs s) (sixs o)) line 4) = 0 := bneF.1 h
        unfold partsP
        rw [if_pos h]
        exact ⟨rfl, rfl, rfl, h.symm, trivial⟩
    · have k : ¬ line + 1 = (l.length : Int) := by simpa using k
      obtain ⟨b1, b2, b3, b4⟩ := fld_line c1 (i := (line + 1).toNat) (by omega)
      have hb : 0 ≤ line + 1 ∧ line + 1 < (l.length : Int) := by omega
      rw [if_neg k]
      generalize List.getD l (line + 1).toNat [] = o at *
      generalize List.getD l line.toNat [] = s at *
      have z1 := bd_sixs a1
      have z2 := bd_sixs b1
      have z3 : Bd 32768 (combI minusI (sixs s) (sixs o)) := bd_comb (A := 16384) (B := 16384) z1 z2 (by omega) (by omega) fun x y hx hy => by unfold minusI; omega
      simp only [sixs_len, combI_len, diffN_len, -eq_self]
      refine ⟨by omega, by omega, a1, by omega, by omega, b1, by omega, by omega, bd_le z1 (by omega), bd_le z2 (by omega), by omega, bd_le z3 (by omega), c2, by omega, by omega, by omega, bd_le z1 (by omega), bd_le z2 (by omega), by omega, by omega, by omega, by decide, fun h => ?_, fun h => ?_⟩
      · have h : ¬ partsE (combI midI (sixs s) (sixs o), diffN 0 (combI minusI (sixs s) (sixs o)) line 4, diffN 1 (combI minusI (sixs s) (sixs o)) line 4) = 0 := bneZ.1 h
        unfold partsP
        rw [if_neg h]
        exact ⟨rfl, rfl, rfl, rfl, trivial⟩
      · have h : partsE (combI midI (sixs s) (sixs o), diffN 0 (combI minusI (sixs s) (sixs o)) line 4, diffN 1 (combI minusI (sixs s) (sixs o)) line 4) = 0 := bneF.1 h
        unfold partsP
        rw [if_pos h]
        exact ⟨rfl, rfl, rfl, h.symm, trivial⟩
theorem so47_ : SpecOk P1 gl1 47 sp47 := by
  intro vs ps r h _
  simp only [sp47] at h
  split at h
  · cases h; exact fn47 _ _ 
  · cases h
theorem so47 : Sp1 47 sp47 := ⟨so47_, Proofs.Tryz.f47, _, by kernel_rfl, rfl, by kernel_rfl⟩
theorem fn48 (l : Fld) (line : Int)  : Fn P1 gl1 48 [fldV l, iV line] (.tup [pV (errP (threeE l line) (threeL l line)), iV (errE (threeE l line) (threeL l line))]) true := by
  refine fn_ofr false [(115, sp115), (95, sp95), (121, sp121), (123, sp123), (108, sp108), (117, sp117), (118, sp118), (164, sp164), (171, sp171), (116, sp116), (163, sp163), (138, sp138)] [fb112, fb122, fb168] h0 3 Proofs.Tryz.f48 ⟨so115, so95, so121, so123, so108, so117, so118, so164, so171, so116, so163, so138, trivial⟩ ⟨⟨by kernel_rfl, by kernel_rfl, _, rfl, by kernel_rfl⟩, ⟨by kernel_rfl, by kernel_rfl, _, rfl, by kernel_rfl⟩, ⟨by kernel_rfl, by kernel_rfl, _, rfl, by kernel_rfl⟩, trivial⟩ (by kernel_rfl) rfl (by kernel_rfl) rfl rfl rfl ?_
  rw [vc48]
  try simp only [splitB_iff, -eq_self]
  simp only [map_get, List.length_map, -eq_self]
  refine ⟨fun h => ?_, fun h => ⟨⟨by omega, by have := (chkFld_zero.1 (chkLine_zero.1 (bneF.1 h)).1).1; omega⟩, fun h2 => ?_, fun h2 => ?_⟩⟩
  · have h := bneZ.1 h
    have e : threeE l line = chkLine l line := by unfold threeE; rw [if_neg h]
    unfold errP errE
    rw [e, if_neg h, if_neg h]
    exact ⟨rfl, rfl, rfl, rfl, trivial⟩
  · have h := bneF.1 h
    have e : threeE l line = 14 := by
      unfold threeE
      rw [if_pos h, if_neg (by simp at h2; omega)]
    rw [e]
    exact ⟨rfl, rfl, rfl, rfl, trivial⟩
  · have h := bneF.1 h
    have h2 : 0 < line ∧ line < (l.length : Int) - 1 := by simpa using h2
    obtain ⟨c1, c2, c3⟩ := chkLine_zero.1 h
    have c0 := (chkFld_zero.1 c1).1
    have e : threeE l line = 0 := threeE_zero.2 ⟨c1, h2⟩
    unfold errP errE threeL threeI apartI lnI
    rw [if_pos e, if_pos e]
    obtain ⟨a1, a2, a3, a4⟩ := fld_line c1 (i := line.toNat) (by omega)
    obtain ⟨b1, b2, b3, b4⟩ := fld_line c1 (i := (line - 1).toNat) (by omega)
    obtain ⟨d1, d2, d3, d4⟩ := fld_line c1 (i := (line + 1).toNat) (by omega)
    generalize List.getD l (line - 1).toNat [] = o at *
    generalize List.getD l (line + 1).toNat [] = p at *
    generalize List.getD l line.toNat [] = s at *
    have z0 : Bd 1000000 (combI plusI (sixs o) (sixs p)) := bd_comb (A := 16384) (B := 16384) (bd_sixs b1) (bd_sixs d1) (by omega) (by omega) fun x y hx hy => by unfold plusI; omega
    have z1 : Bd 65536 (thrD (sixs o) (sixs s) (sixs p)) := bd_thrD (bd_sixs b1) (bd_sixs a1) (bd_sixs d1)
    have z2 : Bd 1000000 (diffN 0 (thrD (sixs o) (sixs s) (sixs p)) line 8) := bd_le (bd_diff (by omega) (by omega) z1) (by omega)
    have z3 : Bd 1000000 (diffN 1 (thrD (sixs o) (sixs s) (sixs p)) line 8) := bd_le (bd_diff (by omega) (by omega) z1) (by omega)
    have eD : combI lessI (sixs s) (combI plusI (sixs o) (sixs p)) = thrD (sixs o) (sixs s) (sixs p) := rfl
    rw [eD]
    have eL : (thrD (sixs o) (sixs s) (sixs p)).length = s.length := by rw [thrD_len, sixs_len]
    generalize thrD (sixs o) (sixs s) (sixs p) = T at *
    simp only [sixs_len, combI_len, diffN_len, carI_len, eL, fits, -eq_self]
    refine ⟨c1, by omega, by omega, by omega, by omega, by omega, by omega, bd_le (bd_sixs b1) (by omega), bd_le (bd_sixs d1) (by omega), by omega, by omega, by omega, by omega, bd_le (bd_sixs a1) (by omega), z0, by omega, bd_le z1 (by omega), c2, by omega, by omega, by omega, z2, z3, c2, by omega, by omega, bd_le (bd_sixs a1) (by omega), bd_car (signI_cases _) (by omega) z2 z3, by omega, by omega, by omega, by decide, fun h => ?_, fun h => ?_⟩
    · have h : ¬ partsE (combI minusI (sixs s) (carI (diffN 0 T line 8) (diffN 1 T line 8) (signI line)), diffN 0 T line 8, diffN 1 T line 8) = 0 := bneZ.1 h
      unfold partsP
      rw [if_neg h]
      exact ⟨rfl, rfl, rfl, rfl, trivial⟩
    · have h : partsE (combI minusI (sixs s) (carI (diffN 0 T line 8) (diffN 1 T line 8) (signI line)), diffN 0 T line 8, diffN 1 T line 8) = 0 := bneF.1 h
      unfold partsP
      rw [if_pos h]
      exact ⟨rfl, rfl, rfl, h.symm, trivial⟩
theorem so48_ : SpecOk P1 gl1 48 sp48 := by
  intro vs ps r h _
  simp only [sp48] at h
  split at h
  · cases h; exact fn48 _ _ 
  · cases h
theorem so48 : Sp1 48 sp48 := ⟨so48_, Proofs.Tryz.f48, _, by kernel_rfl, rfl, by kernel_rfl⟩
theorem fn50 (l : Fld) (line : Int) (h : chkLine l line = 0) : Fn P1 gl1 50 [fldV l, iV line] (.tup [pV (errP (twoE l line) (twoI l line)), iV (errE (twoE l line) (twoI l line))]) true := by
  refine fn_ofr false [(100, sp100), (87, sp87), (125, sp125), (102, sp102), (22, sp22)] [fb114] h50 3 Proofs.Tryz.f50 ⟨so100, so87, so125, so102, so22, trivial⟩ ⟨⟨by kernel_rfl, by kernel_rfl, _, rfl, by kernel_rfl⟩, trivial⟩ (by kernel_rfl) rfl (by kernel_rfl) rfl rfl rfl ?_
  rw [vc50]
  try simp only [splitB_iff, -eq_self]
  obtain ⟨c1, c2, c3⟩ := chkLine_zero.1 h
  have c0 := (chkFld_zero.1 c1).1
  have hE : twoE l line = if l.length = 1 then 16 else 0 := by unfold twoE; rw [if_pos h]
  refine ⟨fun h => ?_, fun h => ?_⟩
  · have h : (l.length : Int) < 2 := of_decide_eq_true h
    rw [hE, if_pos (by omega)]
    exact ⟨rfl, rfl, rfl, rfl, trivial⟩
  · have h : ¬ (l.length : Int) < 2 := of_decide_eq_false h
    have h : twoE l line = 0 := by rw [hE, if_neg (by omega)]
    unfold errP errE
    rw [if_pos h, if_pos h]
    unfold twoI lnI nextL
    obtain ⟨a1, a2, a3, a4⟩ := fld_line c1 (i := line.toNat) (by omega)
    refine ⟨by simp only [fits]; omega, fun k => ?_, fun k => ?_⟩
    · have k : line + 1 = (l.length : Int) := by simpa using k
      obtain ⟨b1, b2, b3, b4⟩ := fld_line c1 (i := (line - 1).toNat) (by omega)
      have hb : 0 ≤ line - 1 ∧ line - 1 < (l.length : Int) := by omega
      rw [if_pos k]
      generalize List.getD l (line - 1).toNat [] = o at *
      generalize List.getD l line.toNat [] = s at *
      have z1 := bd_sixs a1
      have z2 := bd_sixs b1
      have z3 : Bd 32768 (combI minusI (sixs s) (sixs o)) := bd_comb (A := 16384) (B := 16384) z1 z2 (by omega) (by omega) fun x y hx hy => by unfold minusI; omega
      unfold combI
      simp only [sixs_len, tab_len, room, fits, -eq_self]
      refine ⟨by omega, by omega, by omega, a1, by omega, by omega, b1, ⟨0, Nat.zero_le _, rfl, rfl, rfl, rfl, rfl, rfl, trivial⟩, fun g hg => ⟨fun hlt => ?_, fun hge => ?_⟩⟩
      · have hlt : g < s.length := by simpa using hlt
        have k1 := bd_get z1 (i := g) (by omega)
        have k2 := bd_get z2 (i := g) (by omega)
        exact ⟨by omega, by omega, by omega, by omega, by omega, by omega, by omega, by omega, by omega, by omega, by omega, by omega, by omega, by omega, by omega, g + 1, hlt, by omega, by simp, rfl, (tab_succ _ _).symm, (tab_succ _ _).symm, rfl, rfl, trivial⟩
      · have hg : g ≤ s.length := hg
        have hge : ¬ g < s.length := by simpa using hge
        have e : g = s.length := by omega
        subst e
        have z4 : Bd 1000000 (tab s.length fun n => minusI (List.getD (sixs s) n 0) (List.getD (sixs o) n 0)) := bd_tab fun i _ => by
          have k1 := bd_get z1 (i := i) (by omega)
          have k2 := bd_get z2 (i := i) (by omega)
          unfold minusI; omega
        refine ⟨⟨0, Nat.zero_le _, rfl, rfl, rfl, rfl, rfl, rfl, rfl, rfl, trivial⟩, fun g hg => ⟨by omega, fun hlt => ?_, fun hge => ?_⟩⟩
        · have hlt : (g : Int) < (s.length : Int) / 4 := by simpa using hlt
          exact ⟨z4, by omega, by omega, c2, by omega, by omega, by omega, by omega, g + 1, show g + 1 ≤ _ by omega, by omega, by simp, rfl, (tab_succ _ _).symm, (tab_succ _ _).symm, rfl, rfl, rfl, rfl, trivial⟩
        · have hg : g ≤ s.length / 4 := hg
          have hge : ¬ (g : Int) < (s.length : Int) / 4 := by simpa using hge
          have e : g = s.length / 4 := by omega
          subst e
          unfold diffN
          rw [tab_len]
          refine ⟨by omega, by omega, by omega, by decide, fun h => ?_, fun h => ?_⟩
          · have h : ¬ partsE (tab s.length (fun n => midI (List.getD (sixs s) n 0) (List.getD (sixs o) n 0)), tab (s.length / 4) (fun c => diffAt 0 (tab s.length fun n => minusI (List.getD (sixs s) n 0) (List.getD (sixs o) n 0)) c line 4), tab (s.length / 4) fun c => diffAt 1 (tab s.length fun n => minusI (List.getD (sixs s) n 0) (List.getD (sixs o) n 0)) c line 4) = 0 := bneZ.1 h
            unfold partsP
            rw [if_neg h]
            exact ⟨rfl, rfl, rfl, rfl, trivial⟩
          · have h : partsE (tab s.length (fun n => midI (List.getD (sixs s) n 0) (List.getD (sixs o) n 0)), tab (s.length / 4) (fun c => diffAt 0 (tab s.length fun n => minusI (List.getD (sixs s) n 0) (List.getD (sixs o) n 0)) c line 4), tab (s.length / 4) fun c => diffAt 1 (tab s.length fun n => minusI (List.getD (sixs s) n 0) (List.getD (sixs o) n 0)) c line 4) = 0 := bneF.1 h
            unfold partsP
            rw [if_pos h]
            exact ⟨rfl, rfl, rfl, h.symm, trivial⟩
    · have k : ¬ line + 1 = (l.length : Int) := by simpa using k
      obtain ⟨b1, b2, b3, b4⟩ := fld_line c1 (i := (line + 1).toNat) (by omega)
      have hb : 0 ≤ line + 1 ∧ line + 1 < (l.length : Int) := by omega
      rw [if_neg k]
      generalize List.getD l (line + 1).toNat [] = o at *
      generalize List.getD l line.toNat [] = s at *
      have z1 := bd_sixs a1
      have z2 := bd_sixs b1
      have z3 : Bd 32768 (combI minusI (sixs s) (sixs o)) := bd_comb (A := 16384) (B := 16384) z1 z2 (by omega) (by omega) fun x y hx hy => by unfold minusI; omega
      unfold combI
      simp only [sixs_len, tab_len, room, fits, -eq_self]
      refine ⟨by omega, by omega, a1, by omega, by omega, b1, ⟨0, Nat.zero_le _, rfl, rfl, rfl, rfl, rfl, rfl, trivial⟩, fun g hg => ⟨fun hlt => ?_, fun hge => ?_⟩⟩
      · have hlt : g < s.length := by simpa using hlt
        have k1 := bd_get z1 (i := g) (by omega)
        have k2 := bd_get z2 (i := g) (by omega)
        exact ⟨by omega, by omega, by omega, by omega, by omega, by omega, by omega, by omega, by omega, by omega, by omega, by omega, by omega, by omega, by omega, g + 1, hlt, by omega, by simp, rfl, (tab_succ _ _).symm, (tab_succ _ _).symm, rfl, rfl, trivial⟩
      · have hg : g ≤ s.length := hg
        have hge : ¬ g < s.length := by simpa using hge
        have e : g = s.length := by omega
        subst e
        have z4 : Bd 1000000 (tab s.length fun n => minusI (List.getD (sixs s) n 0) (List.getD (sixs o) n 0)) := bd_tab fun i _ => by
          have k1 := bd_get z1 (i := i) (by omega)
          have k2 := bd_get z2 (i := i) (by omega)
          unfold minusI; omega
        refine ⟨⟨0, Nat.zero_le _, rfl, rfl, rfl, rfl, rfl, rfl, rfl, rfl, trivial⟩, fun g hg => ⟨by omega, fun hlt => ?_, fun hge => ?_⟩⟩
        · have hlt : (g : Int) < (s.length : Int) / 4 := by simpa using hlt
          exact ⟨z4, by omega, by omega, c2, by omega, by omega, by omega, by omega, g + 1, show g + 1 ≤ _ by omega, by omega, by simp, rfl, (tab_succ _ _).symm, (tab_succ _ _).symm, rfl, rfl, rfl, rfl, trivial⟩
        · have hg : g ≤ s.length / 4 := hg
          have hge : ¬ (g : Int) < (s.length : Int) / 4 := by simpa using hge
          have e : g = s.length / 4 := by omega
          subst e
          unfold diffN
          rw [tab_len]
          refine ⟨by omega, by omega, by omega, by decide, fun h => ?_, fun h => ?_⟩
          · have h : ¬ partsE (tab s.length (fun n => midI (List.getD (sixs s) n 0) (List.getD (sixs o) n 0)), tab (s.length / 4) (fun c => diffAt 0 (tab s.length fun n => minusI (List.getD (sixs s) n 0) (List.getD (sixs o) n 0)) c line 4), tab (s.length / 4) fun c => diffAt 1 (tab s.length fun n => minusI (List.getD (sixs s) n 0) (List.getD (sixs o) n 0)) c line 4) = 0 := bneZ.1 h
            unfold partsP
            rw [if_neg h]
            exact ⟨rfl, rfl, rfl, rfl, trivial⟩
          · have h : partsE (tab s.length (fun n => midI (List.getD (sixs s) n 0) (List.getD (sixs o) n 0)), tab (s.length / 4) (fun c => diffAt 0 (tab s.length fun n => minusI (List.getD (sixs s) n 0) (List.getD (sixs o) n 0)) c line 4), tab (s.length / 4) fun c => diffAt 1 (tab s.length fun n => minusI (List.getD (sixs s) n 0) (List.getD (sixs o) n 0)) c line 4) = 0 := bneF.1 h
            unfold partsP
            rw [if_pos h]
            exact ⟨rfl, rfl, rfl, h.symm, trivial⟩
theorem so50_ : SpecOk P1 gl1 50 sp50 := by
  intro vs ps r h hp
  simp only [sp50] at h
  split at h
  · cases h; exact fn50 _ _ (hp _ (.head _))
  · cases h
theorem so50 : Sp1 50 sp50 := ⟨so50_, Proofs.Tryz.f50, _, by kernel_rfl, rfl, by kernel_rfl⟩
theorem fn126 (b s a : List Int) (c line : Int) (h1 : Bd 16384 b) (h2 : Bd 16384 s) (h3 : Bd 16384 a) (hb : b.length = s.length) (ha : a.length = s.length) (hc : 0 ≤ c ∧ 4 * c + 4 ≤ (s.length : Int)) (hl : s.length ≤ 100000) (hn : 0 ≤ line) : Fn P1 gl1 126 [.one (.sl (.int .i64) b), .one (.sl (.int .i64) s), .one (.sl (.int .i64) a), iV c, iV line] (.tup [.one (.frs (.int .i64) (withN s c.toNat (diffAt 0 (thrD b s a) c.toNat line 8) (diffAt 1 (thrD b s a) c.toNat line 8) line)), iV (diffAt 0 (thrD b s a) c.toNat line 8), iV (diffAt 1 (thrD b s a) c.toNat line 8)]) true := by
  refine Fn.flat ?_ rfl
  refine fn_of false [(125, sp125), (169, sp169)] [] h50 0 Proofs.Tryz.f126 ⟨so125, so169, trivial⟩ trivial (by kernel_rfl) rfl (by kernel_rfl) rfl rfl rfl ?_
  rw [vc126]
  try simp only [splitB_iff, -eq_self]
  rw [thrD_tab hb]
  simp only [room, fits, tab_len, -eq_self]
  refine ⟨⟨0, Nat.zero_le _, rfl, rfl, rfl, rfl, rfl, rfl, rfl, trivial⟩, fun g hg => ⟨fun hlt => ?_, fun hge => ?_⟩⟩
  · have hlt : g < s.length := by simpa using hlt
    have k1 := bd_get h1 (i := g) (by omega)
    have k2 := bd_get h2 (i := g) (by omega)
    have k3 := bd_get h3 (i := g) (by omega)
    exact ⟨by omega, by omega, by omega, by omega, by omega, by omega, by omega, by omega, g + 1, hlt, by omega, by simp, rfl, rfl, rfl, rfl, rfl, (tab_succ _ _).symm, trivial⟩
  · have hg : g ≤ s.length := hg
    have hge : ¬ g < s.length := by simpa using hge
    have e : g = s.length := by omega
    subst e
    have z : Bd 65536 (tab s.length fun n => 2 * List.getD s n 0 - List.getD b n 0 - List.getD a n 0) := by
      rw [← thrD_tab hb]; exact bd_thrD h1 h2 h3
    have k0 := diffAt_bd (j := 0) (c := c.toNat) (line := line) (den := 8) (by omega) (by omega) z
    have k1 := diffAt_bd (j := 1) (c := c.toNat) (line := line) (den := 8) (by omega) (by omega) z
    exact ⟨bd_le z (by omega), by omega, by omega, hn, by omega, bd_le h2 (by omega), by omega, by omega, by omega, by omega, hn, rfl, rfl, rfl, trivial⟩
theorem so126_ : SpecOk P1 gl1 126 sp126 := by
  intro vs ps r h hp
  simp only [sp126] at h
  split at h
  · cases h; exact fn126 _ _ _ _ _ (hp _ (.head _)) (hp _ (.tail _ (.head _))) (hp _ (.tail _ (.tail _ (.head _)))) (hp _ (.tail _ (.tail _ (.tail _ (.head _))))) (hp _ (.tail _ (.tail _ (.tail _ (.tail _ (.head _)))))) (hp _ (.tail _ (.tail _ (.tail _ (.tail _ (.tail _ (.head _))))))) (hp _ (.tail _ (.tail _ (.tail _ (.tail _ (.tail _ (.tail _ (.head _)))))))) (hp _ (.tail _ (.tail _ (.tail _ (.tail _ (.tail _ (.tail _ (.tail _ (.head _)))))))))
  · cases h
theorem so126 : Sp1 126 sp126 := ⟨so126_, Proofs.Tryz.f126, _, by kernel_rfl, rfl, by kernel_rfl⟩
theorem fn51 (l : Fld) (line : Int) (h : chkLine l line = 0) : Fn P1 gl1 51 [fldV l, iV line] (.tup [pV (errP (threeE l line) (threeL l line)), iV (errE (threeE l line) (threeL l line))]) true := by
  refine fn_ofr false [(100, sp100), (126, sp126), (102, sp102), (22, sp22)] [fb114] h50 3 Proofs.Tryz.f51 ⟨so100, so126, so102, so22, trivial⟩ ⟨⟨by kernel_rfl, by kernel_rfl, _, rfl, by kernel_rfl⟩, trivial⟩ (by kernel_rfl) rfl (by kernel_rfl) rfl rfl rfl ?_
  rw [vc51]
  try simp only [splitB_iff, -eq_self]
  obtain ⟨c1, c2, c3⟩ := chkLine_zero.1 h
  have c0 := (chkFld_zero.1 c1).1
  simp only [bcond_l, -eq_self]
  refine ⟨fun _ => by simp only [fits]; omega, fun k => ?_, fun k => ?_⟩
  · have e : threeE l line = 14 := by
      unfold threeE
      rw [if_pos h, if_neg (by simp only [Bool.or_eq_true, beq_iff_eq] at k; omega)]
    rw [e]
    exact ⟨rfl, rfl, rfl, rfl, trivial⟩
  · have k : ¬ line = 0 ∧ ¬ line = (l.length : Int) - 1 := by simpa using k
    have e : threeE l line = 0 := threeE_zero.2 ⟨c1, by omega, by omega⟩
    unfold errP errE threeL threeI lnI
    rw [if_pos e, if_pos e]
    obtain ⟨a1, a2, a3, a4⟩ := fld_line c1 (i := line.toNat) (by omega)
    obtain ⟨b1, b2, b3, b4⟩ := fld_line c1 (i := (line - 1).toNat) (by omega)
    obtain ⟨d1, d2, d3, d4⟩ := fld_line c1 (i := (line + 1).toNat) (by omega)
    generalize List.getD l (line - 1).toNat [] = o at *
    generalize List.getD l (line + 1).toNat [] = p at *
    generalize List.getD l line.toNat [] = s at *
    have eL : (thrD (sixs o) (sixs s) (sixs p)).length = s.length := by rw [thrD_len, sixs_len]
    rw [apartI_eq (by rw [eL, sixs_len]) (by rw [sixs_len]; exact a3)]
    generalize hD : thrD (sixs o) (sixs s) (sixs p) = D at *
    simp only [tab_len, sixs_len, room, fits, withN, -eq_self]
    refine ⟨by omega, by omega, a1, ⟨0, Nat.zero_le _, rfl, rfl, rfl, rfl, rfl, rfl, rfl, trivial⟩, fun g hg => ⟨by omega, fun hlt => ?_, fun hge => ?_⟩⟩
    · have hlt : (g : Int) < (s.length : Int) / 4 := by simpa using hlt
      exact ⟨by omega, by omega, by omega, b1, by omega, by omega, by omega, d1, bd_sixs b1, bd_sixs a1, bd_sixs d1, by omega, by omega, by omega, by omega, c2, by omega, by omega, by omega, by omega, g + 1, show g + 1 ≤ _ by omega, by omega, by simp, rfl, rfl, with_step _ _ _ _ _, (tab_succ _ _).symm, (tab_succ _ _).symm, rfl, trivial⟩
    · have hg : g ≤ s.length / 4 := hg
      have hge : ¬ (g : Int) < (s.length : Int) / 4 := by simpa using hge
      have e : g = s.length / 4 := by omega
      subst e
      rw [show 4 * (s.length / 4) = s.length by omega]
      unfold diffN
      rw [eL]
      refine ⟨by omega, by omega, by omega, by decide, fun h => ?_, fun h => ?_⟩
      · have h : ¬ partsE (tab s.length (apAt (sixs s) D line 8), tab (s.length / 4) (fun c => diffAt 0 D c line 8), tab (s.length / 4) fun c => diffAt 1 D c line 8) = 0 := bneZ.1 h
        unfold partsP
        rw [if_neg h]
        exact ⟨rfl, rfl, rfl, rfl, trivial⟩
      · have h : partsE (tab s.length (apAt (sixs s) D line 8), tab (s.length / 4) (fun c => diffAt 0 D c line 8), tab (s.length / 4) fun c => diffAt 1 D c line 8) = 0 := bneF.1 h
        unfold partsP
        rw [if_pos h]
        exact ⟨rfl, rfl, rfl, h.symm, trivial⟩
theorem so51_ : SpecOk P1 gl1 51 sp51 := by
  intro vs ps r h hp
  simp only [sp51] at h
  split at h
  · cases h; exact fn51 _ _ (hp _ (.head _))
  · cases h
theorem so51 : Sp1 51 sp51 := ⟨so51_, Proofs.Tryz.f51, _, by kernel_rfl, rfl, by kernel_rfl⟩
end Go.Sx

/- Plain functions of composite: sums by the powers of -i, greatest values. -/
namespace Go.Sx.U
def pw (n : Nat) : Int × Int := List.getD [(1, 0), (0, -1), (-1, 0), (0, 1)] (n % 4) (0, 0)
def quTo (l : List Int) (k : Nat) : Nat → Int × Int
  | 0 => (0, 0)
  | i + 1 => ((quTo l k i).1 + List.getD l i 0 * (pw (k * i)).1, (quTo l k i).2 + List.getD l i 0 * (pw (k * i)).2)
def qu (l : List Int) (k : Nat) : Int × Int := quTo l k l.length
def quSt (l : List Int) (k j : Nat) : List (Int × Int) := tab 4 fun q => if q < k then qu l q else if q = k then quTo l k j else (0, 0)
theorem pw_cases (n : Nat) : pw n = (1, 0) ∨ pw n = (0, -1) ∨ pw n = (-1, 0) ∨ pw n = (0, 1) := by
  unfold pw
  have h : n % 4 < 4 := Nat.mod_lt _ (by decide)
  generalize n % 4 = m at h
  match m, h with
  | 0, _ => exact .inl rfl
  | 1, _ => exact .inr (.inl rfl)
  | 2, _ => exact .inr (.inr (.inl rfl))
  | 3, _ => exact .inr (.inr (.inr rfl))
theorem pw_bd (n : Nat) {x B : Int} (h : -B ≤ x ∧ x ≤ B) : (-B ≤ x * (pw n).1 ∧ x * (pw n).1 ≤ B) ∧ (-B ≤ x * (pw n).2 ∧ x * (pw n).2 ≤ B) := by
  rcases pw_cases n with e | e | e | e <;> rw [e] <;> simp <;> omega
theorem quTo_bd {l : List Int} {B : Int} (h : Bd B l) (hB : 0 ≤ B) (k : Nat) : ∀ i : Nat, (-((i : Int) * B) ≤ (quTo l k i).1 ∧ (quTo l k i).1 ≤ (i : Int) * B) ∧ (-((i : Int) * B) ≤ (quTo l k i).2 ∧ (quTo l k i).2 ≤ (i : Int) * B)
  | 0 => by simp [quTo]
  | i + 1 => by
    have ih := quTo_bd h hB k i
    have hb := pw_bd (k * i) (bd_get h (i := i) hB)
    have e : ((i + 1 : Nat) : Int) * B = (i : Int) * B + B := by
      rw [Int.natCast_add, Int.add_mul]; simp
    rw [e]
    unfold quTo
    generalize (i : Int) * B = m at *
    simp only
    omega
theorem quSt_zero (l : List Int) (k : Nat) : quSt l k 0 = fillTo (0, 0) 4 (qu l) k := by
  unfold quSt fillTo
  refine tab_ext fun q _ => ?_
  by_cases h : q < k
  · rw [if_pos h, if_pos h]
  · rw [if_neg h, if_neg h]
    by_cases h2 : q = k
    · rw [if_pos h2]; rfl
    · rw [if_neg h2]
theorem quSt_get {l : List Int} {k j : Nat} (hk : k < 4) : List.getD (quSt l k j) k (0, 0) = quTo l k j := by
  unfold quSt
  rw [tab_get hk, if_neg (by omega), if_pos rfl]
theorem quSt_set (l : List Int) (k j : Nat) : (quSt l k j).set k (quTo l k (j + 1)) = quSt l k (j + 1) := by
  unfold quSt
  rw [tab_set]
  refine tab_ext fun q _ => ?_
  by_cases h : q = k
  · subst h; rw [if_pos rfl, if_neg (by omega), if_pos rfl]
  · rw [if_neg h]
    by_cases h2 : q < k
    · rw [if_pos h2, if_pos h2]
    · rw [if_neg h2, if_neg h2, if_neg h, if_neg h]
theorem quSt_all (l : List Int) (k : Nat) : quSt l k l.length = fillTo (0, 0) 4 (qu l) (k + 1) := by
  unfold quSt fillTo
  refine tab_ext fun q _ => ?_
  by_cases h : q < k
  · rw [if_pos h, if_pos (by omega)]
  · rw [if_neg h]
    by_cases h2 : q = k
    · subst h2; rw [if_pos rfl, if_pos (by omega)]; rfl
    · rw [if_neg h2, if_neg (by omega)]
theorem quSt_len (l : List Int) (k j : Nat) : (quSt l k j).length = 4 := by unfold quSt; rw [tab_len]
def panI (l : List Int) (c : Nat) : List (Nat × Nat) := tab 4 fun k => (smp (qu (List.take 4 (List.drop (4 * c) l)) k).1, smp (qu (List.take 4 (List.drop (4 * c) l)) k).2)
def panN (l : List Nat) : List (List (Nat × Nat)) := if chkSig l = 0 then tab (l.length / 4) (panI (sixs l)) else []
def maxTo (f : Nat → Int) : Nat → Int
  | 0 => 0
  | i + 1 => max (maxTo f i) (f i)
theorem maxTo_nonneg (f : Nat → Int) : ∀ i, 0 ≤ maxTo f i
  | 0 => Int.le_refl 0
  | i + 1 => by
    have := maxTo_nonneg f i
    unfold maxTo
    omega
theorem maxTo_bd {f : Nat → Int} {B : Int} (hB : 0 ≤ B) : ∀ {i : Nat}, (∀ j, j < i → f j ≤ B) → maxTo f i ≤ B
  | 0, _ => hB
  | i + 1, h => by
    have h1 := maxTo_bd hB (i := i) fun j hj => h j (by omega)
    have h2 := h i (by omega)
    unfold maxTo
    omega
theorem farI_nonneg (x y : Int) : 0 ≤ farI x y := by unfold farI; omega
def unAt (l : List Int) (n : Nat) : Int := if n % 4 < 2 then farI (List.getD l n 0) (List.getD l (n + 2) 0) else 0
def unevI (l : List Int) : Int := maxTo (unAt l) l.length
theorem unAt_bd {l : List Int} {B : Int} (h : Bd B l) (hB : 0 ≤ B) (n : Nat) : unAt l n ≤ 2 * B := by
  have h1 := bd_get h (i := n) hB
  have h2 := bd_get h (i := n + 2) hB
  unfold unAt farI
  split <;> omega
theorem unAt_step (l : List Int) (g : Nat) (m : Int) (hm : m = maxTo (unAt l) (4 * g)) :
    max (max (max (max m (List.getD l (4 * g) 0 - List.getD l (4 * g + 2) 0)) (List.getD l (4 * g + 2) 0 - List.getD l (4 * g) 0)) (List.getD l (4 * g + 1) 0 - List.getD l (4 * g + 3) 0)) (List.getD l (4 * g + 3) 0 - List.getD l (4 * g + 1) 0) = maxTo (unAt l) (4 * (g + 1)) := by
  have h0 := maxTo_nonneg (unAt l) (4 * g)
  rw [show 4 * (g + 1) = 4 * g + 1 + 1 + 1 + 1 by omega]
  simp only [maxTo]
  rw [← hm] at *
  have e0 : unAt l (4 * g) = farI (List.getD l (4 * g) 0) (List.getD l (4 * g + 2) 0) := by unfold unAt; rw [if_pos (by omega)]
  have e1 : unAt l (4 * g + 1) = farI (List.getD l (4 * g + 1) 0) (List.getD l (4 * g + 3) 0) := by unfold unAt; rw [if_pos (by omega)]
  have e2 : unAt l (4 * g + 1 + 1) = 0 := by unfold unAt; rw [if_neg (by omega)]
  have e3 : unAt l (4 * g + 1 + 1 + 1) = 0 := by unfold unAt; rw [if_neg (by omega)]
  rw [e0, e1, e2, e3]
  unfold farI
  omega
theorem unevI_bd {l : List Int} (h : Bd 16384 l) : 0 ≤ unevI l ∧ unevI l ≤ 32768 := ⟨maxTo_nonneg _ _, maxTo_bd (by omega) fun j _ => by have := unAt_bd h (by omega) j; omega⟩
def farN (a b : List Int) : Int := maxTo (fun i => farI (List.getD a i 0) (List.getD b i 0)) a.length
theorem farN_bd {a b : List Int} (ha : Bd 16384 a) (hb : Bd 16384 b) : 0 ≤ farN a b ∧ farN a b ≤ 32768 := ⟨maxTo_nonneg _ _, maxTo_bd (by omega) fun j _ => by
  have h1 := bd_get ha (i := j) (by omega)
  have h2 := bd_get hb (i := j) (by omega)
  unfold farI; omega⟩
def mxTo (l : List Int) : Nat → Int
  | 0 => List.getD l 0 0
  | i + 1 => max (mxTo l i) (List.getD l i 0)
theorem mxTo_far (f : Nat → Int) (hf : ∀ j, 0 ≤ f j) (n : Nat) : ∀ i, i ≤ n → 0 < i → mxTo (tab n f ++ [0]) i = maxTo f i
  | 0, _, h => absurd h (by omega)
  | i + 1, hi, _ => by
    have hg : List.getD (tab n f ++ [0]) i 0 = f i := by
      rw [List.getD_eq_getElem?_getD, List.getElem?_append_left (by rw [tab_len]; omega), ← List.getD_eq_getElem?_getD, tab_get (by omega)]
    unfold mxTo maxTo
    rw [hg]
    by_cases h0 : i = 0
    · subst h0
      have hg0 : mxTo (tab n f ++ [0]) 0 = f 0 := hg
      rw [hg0]
      have := hf 0
      unfold maxTo
      omega
    · rw [mxTo_far f hf n i (by omega) (by omega)]
theorem mxTo_comb (a b : List Int) : mxTo (combI farI a b ++ [0]) (combI farI a b ++ [0]).length = farN a b := by
  unfold combI farN
  rw [List.length_append, tab_len]
  show mxTo _ (a.length + 1) = _
  have hl : List.getD (tab a.length (fun i => farI (List.getD a i 0) (List.getD b i 0)) ++ [0]) a.length 0 = 0 := by
    rw [List.getD_eq_getElem?_getD, List.getElem?_append_right (by rw [tab_len]; omega), tab_len]
    simp
  unfold mxTo
  rw [hl]
  by_cases h : a.length = 0
  · rw [h]; simp [mxTo, maxTo, tab]
  · rw [mxTo_far _ (fun j => farI_nonneg _ _) _ _ (Nat.le_refl _) (by omega)]
    have := maxTo_nonneg (fun i => farI (List.getD a i 0) (List.getD b i 0)) a.length
    omega
def difE (y u v y' u' v' : List Nat) : Int :=
  if first [chkPt y u v, chkPt y' u' v'] = 0 then (if y.length = y'.length then (if farN (sixs y) (sixs y') ≤ 16384 ∧ max (farN (sixs u) (sixs u')) (farN (sixs v) (sixs v')) ≤ 16384 then 0 else 4) else 2)
  else first [chkPt y u v, chkPt y' u' v']
def difP (y u v y' u' v' : List Nat) : List Nat := if difE y u v y' u' v' = 0 then [smp (farN (sixs y) (sixs y')), smp (max (farN (sixs u) (sixs u')) (farN (sixs v) (sixs v')))] else [0, 0]
end Go.Sx.U

/- Plain functions and hints. -/
namespace Go.Sx
open U
abbrev panT : Ty := .arr 4 (.cpx .f32)
@[reducible] def gsV (z : Int × Int) : V := .agg [.one (.int .i64 z.1), .one (.int .i64 z.2)]
def ptrId (s : St) (t : Nat) : Option Nat := match lookT s.tm t with
  | some (.val (.one (.ptr id 0))) => some id
  | _ => none
def rowC (s : St) : List Ch → Option (List Int)
  | [.one c] => rowAs (lookO s.ob) (.int .i64) c
  | _ => none
def h33 : Hints := ⟨fun f k s => match f, k with
  | 109, 3 => match listAs s 0 (.int .i64), ptrId s 3 with
    | some l, some b => some ⟨Nat, fun i => ⟨tI 8 i :: keepT [0, 2, 3] s.tm, (b, some (.box [.arr 4 gsT (fillTo (0, 0) 4 (qu l) i)])) :: dropO s [b], s.nx, s.lr⟩, fun i => i ≤ 4, fun i => 4 - i⟩
    | _, _ => none
  | 109, 6 => match listAs s 0 (.int .i64), ptrId s 3, intOfT s 4 with
    | some l, some b, some k => some ⟨Nat, fun j => ⟨tI 13 j :: keepT [0, 2, 3, 4, 8, 11, 12] s.tm, (b, some (.box [.arr 4 gsT (quSt l k.toNat j)])) :: dropO s [b], s.nx, s.lr⟩, fun j => j ≤ List.length l, fun j => List.length l - j⟩
    | _, _, _ => none
  | 167, 1 => match boxS s with
    | [(bo, co), (_, cl)] => match rowC s cl with
      | some l => some ⟨Nat, fun i => ⟨tI 7 i :: keepT [0, 1, 6] s.tm, (bo, some (.box [.one (.own s.nx)])) :: (s.nx, some (.row panT (tab i (panI l)))) :: dropO s ([bo] ++ ownC co), s.nx + 1, s.lr⟩, fun i => i ≤ List.length l / 4, fun i => List.length l / 4 - i⟩
      | none => none
    | _ => none
  | 77, 3 => match listAs s 0 (.int .i64), ptrId s 5, intOfT s 1 with
    | some l, some b, some k => some ⟨Nat, fun j => ⟨tI 6 j :: keepT [0, 1, 4, 5] s.tm, (b, some (.box [.one (.int .i64 (quTo l k.toNat j).1), .one (.int .i64 (quTo l k.toNat j).2)])) :: dropO s [b], s.nx, s.lr⟩, fun j => j ≤ List.length l, fun j => List.length l - j⟩
    | _, _, _ => none
  | _, _ => none, 6⟩
def h128 : Hints := ⟨fun f k s => match f, k with
  | 167, 1 => match boxS s with
    | [_, (bo, _), (_, cl)] => match rowC s cl with
      | some l => some ⟨Nat, fun i => ⟨tI 7 i :: keepT [0, 1, 6] s.tm, (bo, some (.box [.one (.int .i64 (maxTo (unAt l) (4 * i)))])) :: dropO s [bo], s.nx, s.lr⟩, fun i => i ≤ List.length l / 4, fun i => List.length l / 4 - i⟩
      | none => none
    | _ => none
  | 134, 5 => match listAs s 0 (.int .i64) with
    | some l => some ⟨Nat, fun i => s.at [0] [tI 4 i, tI 3 (mxTo l i)], fun i => 1 ≤ i ∧ i ≤ List.length l, fun i => List.length l - i⟩
    | none => none
  | 59, 2 => match boxS s with
    | (_, .one (.sl (.flt .f32) y) :: _) :: _ => some ⟨Nat, fun i => s.at [1] [tI 3 i], fun i => i ≤ List.length y ∧ ∀ j, j < i → unAt (sixs y) j = 0, fun i => List.length y - i⟩
    | _ => none
  | 60, 3 => match listAs s 3 (.int .i64) with
    | some l => some ⟨Nat, fun i => s.at [1, 3] [tI 5 i, tI 4 (maxTo (unAt l) i)], fun i => i ≤ List.length l, fun i => List.length l - i⟩
    | _ => none
  | 132, 3 => match listAs s 5 (.int .i64), listAs s 6 (.int .i64) with
    | some a, some b => some ⟨Nat, fun i => s.at [5, 6] [tI 8 i, tI 7 (maxTo (fun i => farI (List.getD a i 0) (List.getD b i 0)) i)], fun i => i ≤ List.length a, fun i => List.length a - i⟩
    | _, _ => none
  | _, _ => none, 0⟩
end Go.Sx
namespace Go.Sx
open U
def sp109 : FSpec := ⟨fun vs => match vs with
  | [.one (.sl (.int .i64) l)] => some ([List.length l ≤ 1000, Bd 1000000 l], .val (.agg [.arr 4 gsT (tab 4 (qu l))]))
  | _ => none, true⟩
def sp128 : FSpec := ⟨fun vs => match vs with
  | [.agg [.one (.sl (.flt .f32) y), .one (.sl (.flt .f32) _u), .one (.sl (.flt .f32) _v)]] => some ([chkSig y = 0], .val (iV (unevI (sixs y))))
  | _ => none, true⟩
def sp134 : FSpec := ⟨fun vs => match vs with
  | [.one (.sl (.int .i64) l)] => some ([0 < List.length l ∧ List.length l ≤ 1000000000], .val (iV (mxTo l (List.length l))))
  | _ => none, true⟩
def sp129 : FSpec := ⟨fun vs => match vs with
  | [.one (.sl (.flt .f32) a), .one (.sl (.flt .f32) b)] => some ([OkS a, OkS b, List.length a ≤ 1000, List.length b = List.length a], .val (iV (farN (sixs a) (sixs b))))
  | _ => none, true⟩
end Go.Sx
