/- A verified symbolic run of functions, part 16: lemmas, no claim of their own. -/
import Derived.Test.YtpfngnmgipnmlaaDoorS15
/- What the engine asks, written out (printed by a program). -/
namespace Go.Sx
open U
theorem vc130 (l : List Int) : exF (env false [(53, sp53)] [fb131]) h130 3 130 Proofs.Tryd.f130 [.one (.sl (.int .i64) l), .one (.fn 131 [] [])] (.val (.one (.frs (.int .i64) (List.map (fun n => within n 1 4) l)))) = (let q0 := (↑(List.length l) : Int); (∃ (g : Nat), Nat.le g (List.length l) ∧ (0 : Int) = (↑g : Int) ∧ q0 = q0 ∧ l = l ∧ List.map (fun (n : Int) => within n (1 : Int) (4 : Int)) (List.take g l) = [] ∧ True) ∧ ∀ (g : Nat), Nat.le g (List.length l) → splitB (decide ((↑g : Int) < q0)) (((0 : Int) ≤ (↑g : Int) ∧ (↑g : Int) < q0) ∧ room (List.length (List.map (fun (n : Int) => within n (1 : Int) (4 : Int)) (List.take g l)) + (1 : Nat)) (8 : Nat) ∧ fits IntKind.i64 ((↑g : Int) + (1 : Int)) ∧ ∃ (g' : Nat), Nat.le g' (List.length l) ∧ List.length l - g' < List.length l - g ∧ (↑g : Int) + (1 : Int) = (↑g' : Int) ∧ q0 = q0 ∧ l = l ∧ List.map (fun (n : Int) => within n (1 : Int) (4 : Int)) (List.take g l) ++ [within (List.getD l g (0 : Int)) (1 : Int) (4 : Int)] = List.map (fun (n : Int) => within n (1 : Int) (4 : Int)) (List.take g' l) ∧ True) (List.map (fun (n : Int) => within n (1 : Int) (4 : Int)) (List.take g l) = List.map (fun (n : Int) => within n (1 : Int) (4 : Int)) l ∧ True)) := by
  kernel_rfl
theorem vc91 (l : List Int) : exF (env false [(68, sp68), (52, sp52), (130, sp130)] []) h0 0 91 Proofs.Tryd.f91 [.one (.sl (.int .i64) l)] (.val (iV (chkCad l))) = (let q0 := (↑(List.length l) : Int); (2 : Nat) ≤ (1000000000 : Nat) ∧ splitB (first [whenE (q0 == (0 : Int)) (12 : Int), whenE (decide ((8 : Int) < q0)) (5 : Int)] != (0 : Int)) (first [whenE (q0 == (0 : Int)) (12 : Int), whenE (decide ((8 : Int) < q0)) (5 : Int)] = chkCad l ∧ True) (List.length l ≤ (1000000 : Nat) ∧ List.length (List.map (fun (n : Int) => within n (1 : Int) (4 : Int)) l) ≤ (1000000000 : Nat) ∧ first (List.map (fun (n : Int) => within n (1 : Int) (4 : Int)) l) = chkCad l ∧ True)) := by
  kernel_rfl
theorem vc26 (l : List Int) : exF (env false [(46, sp46)] []) h26 0 26 Proofs.Tryd.f26 [.one (.sl (.int .i64) l)] (.val (iV (chkCad l))) = (let q0 := (↑(List.length l) : Int); splitB (q0 == (0 : Int)) ((12 : Int) = chkCad l ∧ True) (splitB (decide ((8 : Int) < q0)) ((5 : Int) = chkCad l ∧ True) ((∃ (g : Nat), (g ≤ List.length l ∧ upTo (fun (j : Nat) => within (List.getD l j (0 : Int)) (1 : Int) (4 : Int)) g = (0 : Int)) ∧ (0 : Int) = (↑g : Int) ∧ l = l ∧ True) ∧ ∀ (g : Nat), g ≤ List.length l ∧ upTo (fun (j : Nat) => within (List.getD l j (0 : Int)) (1 : Int) (4 : Int)) g = (0 : Int) → splitB (decide ((↑g : Int) < q0)) (((0 : Int) ≤ (↑g : Int) ∧ (↑g : Int) < q0) ∧ splitB (within (List.getD l g (0 : Int)) (1 : Int) (4 : Int) != (0 : Int)) (within (List.getD l g (0 : Int)) (1 : Int) (4 : Int) = chkCad l ∧ True) (fits IntKind.i64 ((↑g : Int) + (1 : Int)) ∧ ∃ (g' : Nat), (g' ≤ List.length l ∧ upTo (fun (j : Nat) => within (List.getD l j (0 : Int)) (1 : Int) (4 : Int)) g' = (0 : Int)) ∧ List.length l - g' < List.length l - g ∧ (↑g : Int) + (1 : Int) = (↑g' : Int) ∧ l = l ∧ True)) ((0 : Int) = chkCad l ∧ True)))) := by
  kernel_rfl
theorem vc94 (l : List Int) (n : Int) : exF (env false [] []) h94 0 94 Proofs.Tryd.f94 [.one (.sl (.int .i64) l), iV n] (.val (.one (.frs p2T (pullN l n.toNat)))) = (let q3 := (↑(List.length l) : Int); (∃ (g : Nat), Nat.le g (Int.toNat n) ∧ (0 : Int) = (↑g : Int) ∧ n = n ∧ l = l ∧ fldTo l g = [] ∧ True) ∧ ∀ (g : Nat), let q0 := (Int.toNat ((↑g : Int) % q3)); let q2 := (List.getD l q0 (0 : Int)); let q4 := (List.length (fldTo l g) / (2 : Nat)); let q5 := (↑(List.length (fldTo l g)) : Int); Nat.le g (Int.toNat n) → splitB (decide ((↑g : Int) < n)) (((0 : Int) ≤ (↑g : Int) ∧ (0 : Int) < q3) ∧ ((0 : Int) ≤ (↑g : Int) % q3 ∧ (↑g : Int) % q3 < q3) ∧ (∃ (g_1 : Nat), Nat.le g_1 (Int.toNat q2) ∧ (0 : Int) = (↑g_1 : Int) ∧ List.getD l q0 (0 : Int) = List.getD l q0 (0 : Int) ∧ (↑g : Int) = (↑g : Int) ∧ (↑g : Int) = (↑g : Int) ∧ n = n ∧ l = l ∧ fldTo l g = fldTo l g ++ List.replicate g_1 (↑g : Int) ∧ True) ∧ ∀ (g_1 : Nat), Nat.le g_1 (Int.toNat q2) → splitB (decide ((↑g_1 : Int) < List.getD l q0 (0 : Int))) (room (List.length (fldTo l g ++ List.replicate g_1 (↑g : Int)) + (1 : Nat)) (8 : Nat) ∧ fits IntKind.i64 ((↑g_1 : Int) + (1 : Int)) ∧ ∃ (g' : Nat), Nat.le g' (Int.toNat q2) ∧ Int.toNat q2 - g' < Int.toNat q2 - g_1 ∧ (↑g_1 : Int) + (1 : Int) = (↑g' : Int) ∧ List.getD l q0 (0 : Int) = List.getD l q0 (0 : Int) ∧ (↑g : Int) = (↑g : Int) ∧ (↑g : Int) = (↑g : Int) ∧ n = n ∧ l = l ∧ fldTo l g ++ List.replicate g_1 (↑g : Int) ++ [(↑g : Int)] = fldTo l g ++ List.replicate g' (↑g : Int) ∧ True) (fits IntKind.i64 ((↑g : Int) + (1 : Int)) ∧ ∃ (g' : Nat), Nat.le g' (Int.toNat n) ∧ Int.toNat n - g' < Int.toNat n - g ∧ (↑g : Int) + (1 : Int) = (↑g' : Int) ∧ n = n ∧ l = l ∧ fldTo l g ++ List.replicate g_1 (↑g : Int) = fldTo l g' ∧ True)) ((∃ (g_1 : Nat), Nat.le g_1 q4 ∧ (0 : Int) = (↑((2 : Nat) * g_1) : Int) ∧ prsTo (fldTo l g) g_1 = [] ∧ fldTo l g = fldTo l g ∧ True) ∧ ∀ (g_1 : Nat), let q1 := (↑((2 : Nat) * g_1) : Int); Nat.le g_1 q4 → fits IntKind.i64 (q1 + (1 : Int)) ∧ splitB (decide (q1 + (1 : Int) < q5)) (((0 : Int) ≤ q1 ∧ q1 < q5) ∧ (2 : Nat) * g_1 < List.length (fldTo l g) ∧ fits IntKind.i64 (q1 + (1 : Int)) ∧ ((0 : Int) ≤ q1 + (1 : Int) ∧ q1 + (1 : Int) < q5) ∧ Int.toNat (q1 + (1 : Int)) < List.length (fldTo l g) ∧ room (List.length (prsTo (fldTo l g) g_1) + (1 : Nat)) (16 : Nat) ∧ fits IntKind.i64 (q1 + (2 : Int)) ∧ ∃ (g' : Nat), Nat.le g' q4 ∧ List.length (fldTo l g) / (2 : Nat) - g' < List.length (fldTo l g) / (2 : Nat) - g_1 ∧ q1 + (2 : Int) = (↑((2 : Nat) * g') : Int) ∧ prsTo (fldTo l g) g_1 ++ [[List.getD (fldTo l g) ((2 : Nat) * g_1) (0 : Int), List.getD (fldTo l g) (Int.toNat (q1 + (1 : Int))) (0 : Int)]] = prsTo (fldTo l g) g' ∧ fldTo l g = fldTo l g ∧ True) (prsTo (fldTo l g) g_1 = pullN l (Int.toNat n) ∧ True))) := by
  kernel_rfl
theorem vc92 (l : List Int) (n : Int) : exF (env false [(91, sp91), (53, sp53), (52, sp52), (94, sp94)] []) h0 0 92 Proofs.Tryd.f92 [.one (.sl (.int .i64) l), iV n] (.tup [.one (.frs p2T (pullL l n)), iV (pullE l n)]) = ((2 : Nat) ≤ (1000000000 : Nat) ∧ splitB (first [chkCad l, within n (0 : Int) (256 : Int)] != (0 : Int)) (pullL l n = [] ∧ first [chkCad l, within n (0 : Int) (256 : Int)] = pullE l n ∧ True) (chkCad l = (0 : Int) ∧ ((0 : Int) ≤ n ∧ n ≤ (256 : Int)) ∧ pullN l (Int.toNat n) = pullL l n ∧ (0 : Int) = pullE l n ∧ True)) := by
  kernel_rfl
theorem vc31 (R : List Rl) (L : List Ed) (l : List Int) : exF (env false [(43, sp43), (91, sp91), (78, sp78), (88, sp88), (92, sp92)] []) h0 0 31 Proofs.Tryd.f31 [.one (.sl rlT R), .one (.sl edT L), .one (.sl (.int .i64) l)] (.tup [.one (.frs p2T (convL R L l)), iV (convE R L l)]) = (let q0 := (1000000000 : Nat); List.length R ≤ q0 ∧ (∀ (r : Rl), r ∈ R → List.length r.2.2 ≤ (1000000 : Nat)) ∧ List.length L ≤ q0 ∧ (2 : Nat) ≤ q0 ∧ splitB (first [chkEds R L, chkCad l] != (0 : Int)) (convL R L l = [] ∧ first [chkEds R L, chkCad l] = convE R L l ∧ True) (List.length R ≤ q0 ∧ EdsIn L ∧ splitB (decide ((256 : Int) < begN L (List.length L))) (convL R L l = [] ∧ (5 : Int) = convE R L l ∧ True) (pullL l (begN L (List.length L)) = convL R L l ∧ pullE l (begN L (List.length L)) = convE R L l ∧ True))) := by
  kernel_rfl
theorem vc34 (R : List Rl) (L : List Ed) (x : St7) : exF (env false [(43, sp43), (55, sp55), (78, sp78), (88, sp88), (12, sp12)] []) h34 0 34 Proofs.Tryd.f34 [.one (.sl rlT R), .one (.sl edT L), stW x] (.tup [.one (.frs lbT (if chkEds R L = 0 then labsN x (ls L) else [])), iV (chkEds R L)]) = (let q4 := (List.length L); let q0 := (plTo L q4); let q2 := ((x.1.1, x.1.2), (x.2.1.1, x.2.1.2.1, x.2.1.2.2.1, x.2.1.2.2.2), x.2.2); let q3 := (↑(List.length q0) : Int); let q5 := (1000000000 : Nat); List.length R ≤ q5 ∧ (∀ (r : Rl), r ∈ R → List.length r.2.2 ≤ (1000000 : Nat)) ∧ List.length L ≤ q5 ∧ (0 : Int) ≤ x.2.1.2.1 ∧ ((0 : Int) ≤ x.1.1 ∧ x.1.1 ≤ (1000 : Int)) ∧ (2 : Nat) ≤ q5 ∧ splitB (first [chkEds R L, chkStamp x.1.1 x.1.2 x.2.1.1 x.2.1.2.1 x.2.1.2.2.1 x.2.1.2.2.2 x.2.2] != (0 : Int)) ((if chkEds R L = (0 : Int) then labsN x (ls L) else []) = [] ∧ first [chkEds R L, chkStamp x.1.1 x.1.2 x.2.1.1 x.2.1.2.1 x.2.1.2.2.1 x.2.1.2.2.2 x.2.2] = chkEds R L ∧ True) (List.length R ≤ q5 ∧ EdsIn L ∧ (∃ (g : Nat), Nat.le g (List.length q0) ∧ (0 : Int) = (↑g : Int) ∧ q3 = q3 ∧ plTo L q4 = plTo L q4 ∧ labsN q2 (List.take g q0) = [] ∧ [chkEds R L, chkStamp x.1.1 x.1.2 x.2.1.1 x.2.1.2.1 x.2.1.2.2.1 x.2.1.2.2.2 x.2.2] = [chkEds R L, chkStamp x.1.1 x.1.2 x.2.1.1 x.2.1.2.1 x.2.1.2.2.1 x.2.1.2.2.2 x.2.2] ∧ x.1.1 = x.1.1 ∧ x.1.2 = x.1.2 ∧ x.2.1.1 = x.2.1.1 ∧ x.2.1.2.1 = x.2.1.2.1 ∧ x.2.1.2.2.1 = x.2.1.2.2.1 ∧ x.2.1.2.2.2 = x.2.1.2.2.2 ∧ x.2.2 = x.2.2 ∧ True) ∧ ∀ (g : Nat), let q1 := (lab x.1.1 x.1.2 (addN x.1.1 x.1.2 x.2.1.1 x.2.1.2.1 x.2.1.2.2.1 x.2.1.2.2.2 (List.getD q0 g pl0).2)); Nat.le g (List.length q0) → splitB (decide ((↑g : Int) < q3)) (((0 : Int) ≤ (↑g : Int) ∧ (↑g : Int) < q3) ∧ RateOk x.1.1 x.1.2 ∧ LabOk x.1.1 x.1.2 x.2.1.1 x.2.1.2.1 x.2.1.2.2.1 x.2.1.2.2.2 ∧ ((0 : Int) ≤ (List.getD q0 g pl0).2 ∧ (List.getD q0 g pl0).2 ≤ (10000000 : Int)) ∧ room (List.length (labsN q2 (List.take g q0)) + (1 : Nat)) (32 : Nat) ∧ fits IntKind.i64 ((↑g : Int) + (1 : Int)) ∧ ∃ (g' : Nat), Nat.le g' (List.length q0) ∧ List.length q0 - g' < List.length q0 - g ∧ (↑g : Int) + (1 : Int) = (↑g' : Int) ∧ q3 = q3 ∧ plTo L q4 = plTo L q4 ∧ labsN q2 (List.take g q0) ++ [(q1.1, q1.2.1, q1.2.2.1, q1.2.2.2)] = labsN q2 (List.take g' q0) ∧ [chkEds R L, chkStamp x.1.1 x.1.2 x.2.1.1 x.2.1.2.1 x.2.1.2.2.1 x.2.1.2.2.2 x.2.2] = [chkEds R L, chkStamp x.1.1 x.1.2 x.2.1.1 x.2.1.2.1 x.2.1.2.2.1 x.2.1.2.2.2 x.2.2] ∧ x.1.1 = x.1.1 ∧ x.1.2 = x.1.2 ∧ x.2.1.1 = x.2.1.1 ∧ x.2.1.2.1 = x.2.1.2.1 ∧ x.2.1.2.2.1 = x.2.1.2.2.1 ∧ x.2.1.2.2.2 = x.2.1.2.2.2 ∧ x.2.2 = x.2.2 ∧ True) ((labsN q2 (List.take g q0) = if chkEds R L = (0 : Int) then labsN x (ls L) else []) ∧ (0 : Int) = chkEds R L ∧ True))) := by
  kernel_rfl
theorem vc87 (a b : List (List Int)) : exF (env false [] []) h87 0 87 Proofs.Tryd.f87 [.one (.sl p2T a), .one (.sl p2T b)] (.val (bV (decide (a = b)))) = (let q0 := (Ty.arr (2 : Nat) (Ty.int IntKind.i64)); splitB ((↑(List.length a) : Int) != (↑(List.length b) : Int)) (false = decide (a = b) ∧ True) ((∃ (g : Nat), (g ≤ List.length a ∧ ∀ (j : Nat), j < g → eqT q0 (List.getD a j [(0 : Int), (0 : Int)]) (List.getD b j [(0 : Int), (0 : Int)]) = true) ∧ (0 : Int) = (↑g : Int) ∧ a = a ∧ b = b ∧ True) ∧ ∀ (g : Nat), (g ≤ List.length a ∧ ∀ (j : Nat), j < g → eqT q0 (List.getD a j [(0 : Int), (0 : Int)]) (List.getD b j [(0 : Int), (0 : Int)]) = true) → splitB (decide ((↑g : Int) < (↑(List.length a) : Int))) (((0 : Int) ≤ (↑g : Int) ∧ (↑g : Int) < (↑(List.length a) : Int)) ∧ ((0 : Int) ≤ (↑g : Int) ∧ (↑g : Int) < (↑(List.length b) : Int)) ∧ splitB (!eqT q0 (List.getD a g (List.replicate (2 : Nat) (0 : Int))) (List.getD b g (List.replicate (2 : Nat) (0 : Int)))) (false = decide (a = b) ∧ True) (fits IntKind.i64 ((↑g : Int) + (1 : Int)) ∧ ∃ (g' : Nat), (g' ≤ List.length a ∧ ∀ (j : Nat), j < g' → eqT q0 (List.getD a j [(0 : Int), (0 : Int)]) (List.getD b j [(0 : Int), (0 : Int)]) = true) ∧ List.length a - g' < List.length a - g ∧ (↑g : Int) + (1 : Int) = (↑g' : Int) ∧ a = a ∧ b = b ∧ True)) (true = decide (a = b) ∧ True))) := by
  kernel_rfl
theorem vc93 (a b : List (List Int)) : exF (env false [] []) h93 0 93 Proofs.Tryd.f93 [.one (.sl p2T a), .one (.sl p2T b)] (.val (bV (decide (a = b)))) = (let q0 := (↑(List.length a) : Int); let q1 := (Ty.arr (2 : Nat) (Ty.int IntKind.i64)); splitB (q0 != (↑(List.length b) : Int)) (false = decide (a = b) ∧ True) ((∃ (g : Nat), (g ≤ List.length a ∧ ∀ (j : Nat), j < g → eqT q1 (List.getD a j [(0 : Int), (0 : Int)]) (List.getD b j [(0 : Int), (0 : Int)]) = true) ∧ (0 : Int) = (↑g : Int) ∧ q0 = q0 ∧ a = a ∧ a = a ∧ b = b ∧ True) ∧ ∀ (g : Nat), (g ≤ List.length a ∧ ∀ (j : Nat), j < g → eqT q1 (List.getD a j [(0 : Int), (0 : Int)]) (List.getD b j [(0 : Int), (0 : Int)]) = true) → splitB (decide ((↑g : Int) < q0)) (((0 : Int) ≤ (↑g : Int) ∧ (↑g : Int) < q0) ∧ ((0 : Int) ≤ (↑g : Int) ∧ (↑g : Int) < (↑(List.length b) : Int)) ∧ splitB (!eqT q1 (List.getD a g (List.replicate (2 : Nat) (0 : Int))) (List.getD b g (List.replicate (2 : Nat) (0 : Int)))) (false = decide (a = b) ∧ True) (fits IntKind.i64 ((↑g : Int) + (1 : Int)) ∧ ∃ (g' : Nat), (g' ≤ List.length a ∧ ∀ (j : Nat), j < g' → eqT q1 (List.getD a j [(0 : Int), (0 : Int)]) (List.getD b j [(0 : Int), (0 : Int)]) = true) ∧ List.length a - g' < List.length a - g ∧ (↑g : Int) + (1 : Int) = (↑g' : Int) ∧ q0 = q0 ∧ a = a ∧ a = a ∧ b = b ∧ True)) (true = decide (a = b) ∧ True))) := by
  kernel_rfl
theorem vc32 (l : List Int) (ps : List (List Int)) : exF (env false [(91, sp91), (68, sp68), (52, sp52), (94, sp94), (93, sp93)] []) h32 0 32 Proofs.Tryd.f32 [.one (.sl (.int .i64) l), .one (.sl p2T ps)] (.tup [iV (undN l ps : Int), iV 0]) = (let q0 := (decide ((512 : Int) < (↑(List.length ps) : Int))); (2 : Nat) ≤ (1000000000 : Nat) ∧ splitB (first [chkCad l, whenE q0 (5 : Int)] != (0 : Int)) ((0 : Int) = (↑(undN l ps) : Int) ∧ first [chkCad l, whenE q0 (5 : Int)] = (0 : Int) ∧ True) ((∃ (g : Nat), (g ≤ (257 : Nat) ∧ ∀ (m : Nat), m < g → pullN l m ≠ ps) ∧ (0 : Int) = (↑g : Int) ∧ false = false ∧ (0 : Int) = (0 : Int) ∧ l = l ∧ ps = ps ∧ [chkCad l, whenE q0 (5 : Int)] = [chkCad l, whenE q0 (5 : Int)] ∧ True) ∧ ∀ (g : Nat), (g ≤ (257 : Nat) ∧ ∀ (m : Nat), m < g → pullN l m ≠ ps) → splitB (decide ((↑g : Int) < (257 : Int))) (chkCad l = (0 : Int) ∧ ((0 : Int) ≤ (↑g : Int) ∧ (↑g : Int) ≤ (256 : Int)) ∧ List.length (pullN l g) ≤ (1000000 : Nat) ∧ (∀ (x : List Int), x ∈ pullN l g → List.length x = (2 : Nat)) ∧ (∀ (x : List Int), x ∈ ps → List.length x = (2 : Nat)) ∧ splitB (decide (pullN l g = ps)) ((↑g : Int) = (↑(undN l ps) : Int) ∧ (0 : Int) = (0 : Int) ∧ True) (fits IntKind.i64 ((↑g : Int) + (1 : Int)) ∧ ∃ (g' : Nat), (g' ≤ (257 : Nat) ∧ ∀ (m : Nat), m < g' → pullN l m ≠ ps) ∧ (257 : Nat) - g' < (257 : Nat) - g ∧ (↑g : Int) + (1 : Int) = (↑g' : Int) ∧ false = false ∧ (0 : Int) = (0 : Int) ∧ l = l ∧ ps = ps ∧ [chkCad l, whenE q0 (5 : Int)] = [chkCad l, whenE q0 (5 : Int)] ∧ True)) ((0 : Int) = (↑(undN l ps) : Int) ∧ (19 : Int) = (0 : Int) ∧ True))) := by
  kernel_rfl
end Go.Sx

/- Plain laws of cadences. -/
namespace Go.Sx
open U

theorem getD_app {α : Type} (xs ys : List α) (a : Nat) (d : α) : (xs ++ ys).getD a d = if a < xs.length then xs.getD a d else ys.getD (a - xs.length) d := by
  rw [List.getD_eq_getElem?_getD]
  split
  · rename_i h
    rw [List.getElem?_append_left h, ← List.getD_eq_getElem?_getD]
  · rename_i h
    rw [List.getElem?_append_right (by omega), ← List.getD_eq_getElem?_getD]
theorem getD_rep {α : Type} {c j : Nat} (x d : α) (h : j < c) : (List.replicate c x).getD j d = x := by
  rw [getD_of (by simpa using h)]; simp

theorem cad_map (l : List Int) : first (l.map fun n => within n 1 4) = 0 ↔ ∀ x ∈ l, 1 ≤ x ∧ x ≤ 4 := by
  rw [first_zero_iff]
  constructor
  · intro h x hx
    exact within_zero.1 (h _ (List.mem_map_of_mem hx))
  · intro h y hy
    obtain ⟨x, hx, rfl⟩ := List.mem_map.1 hy
    exact within_zero.2 (h x hx)
theorem chkCad_ok {l : List Int} (h : chkCad l = 0) : (1 ≤ l.length ∧ l.length ≤ 8) ∧ ∀ x ∈ l, 1 ≤ x ∧ x ≤ 4 := by
  unfold chkCad at h
  split at h
  · rename_i h1; exact absurd h h1
  · rename_i h1
    have hz := (first_zero_iff _).1 (show first [whenE (decide (l.length = 0)) 12, whenE (decide (8 < l.length)) 5] = 0 by simpa using h1)
    have h2 := of_decide_eq_false ((whenE_zero (by decide)).1 (hz _ List.mem_cons_self))
    have h3 := of_decide_eq_false ((whenE_zero (by decide)).1 (hz _ (List.mem_cons_of_mem _ List.mem_cons_self)))
    exact ⟨by omega, (cad_map l).1 h⟩

section
variable {l : List Int} (h : chkCad l = 0)
include h
theorem fld_cnt (i : Nat) : 1 ≤ l.getD (i % l.length) 0 ∧ l.getD (i % l.length) 0 ≤ 4 := by
  obtain ⟨h1, h2⟩ := chkCad_ok h
  exact h2 _ (getD_mem (Nat.mod_lt _ (by omega)))
theorem fld_len : ∀ n : Nat, n ≤ (fldTo l n).length ∧ (fldTo l n).length ≤ 4 * n
  | 0 => ⟨Nat.le_refl _, Nat.le_refl _⟩
  | n + 1 => by
    have ih := fld_len n
    have := fld_cnt h n
    simp only [fldTo, List.length_append, List.length_replicate]
    omega
theorem fld_last : ∀ n : Nat, 0 < n → (fldTo l n).getD ((fldTo l n).length - 1) 0 = (n : Int) - 1
  | 0, h0 => by omega
  | n + 1, _ => by
    have := fld_cnt h n
    simp only [fldTo]
    rw [getD_app, List.length_append, List.length_replicate, if_neg (by omega), getD_rep _ _ (by omega)]
    omega
theorem fld_steps : ∀ n a : Nat, a < (fldTo l n).length → (0 ≤ (fldTo l n).getD a 0 ∧ (fldTo l n).getD a 0 < n) ∧ (a = 0 → (fldTo l n).getD a 0 = 0) ∧ (0 < a → (fldTo l n).getD (a - 1) 0 ≤ (fldTo l n).getD a 0 ∧ (fldTo l n).getD a 0 ≤ (fldTo l n).getD (a - 1) 0 + 1)
  | 0, a, ha => by simp [fldTo] at ha
  | n + 1, a, ha => by
    have hl := fld_len h n
    have hc := fld_cnt h n
    simp only [fldTo] at ha ⊢
    rw [List.length_append, List.length_replicate] at ha
    rw [getD_app, getD_app]
    by_cases h1 : a < (fldTo l n).length
    · have ih := fld_steps n a h1
      rw [if_pos h1, if_pos (by omega)]
      exact ⟨by omega, ih.2.1, ih.2.2⟩
    · rw [if_neg h1, getD_rep _ _ (by omega)]
      refine ⟨by omega, fun h0 => by omega, fun h0 => ?_⟩
      by_cases h2 : a - 1 < (fldTo l n).length
      · have e : a - 1 = (fldTo l n).length - 1 := by omega
        rw [if_pos h2, e]
        have hn : 0 < n := by
          apply Nat.pos_of_ne_zero
          rintro rfl
          simp [fldTo] at h2
        rw [fld_last h n hn]
        omega
      · rw [if_neg h2, getD_rep _ _ (by omega)]
        omega
end
theorem prs_len (fs : List Int) : ∀ k, (prsTo fs k).length = k
  | 0 => rfl
  | k + 1 => by simp [prsTo, prs_len fs k]
theorem prs_get (fs : List Int) : ∀ k j, j < k → (prsTo fs k).getD j [0, 0] = [fs.getD (2 * j) 0, fs.getD (2 * j + 1) 0]
  | 0, _, h => by omega
  | k + 1, j, h => by
    simp only [prsTo]
    rw [getD_app, prs_len]
    split
    · rename_i h1; exact prs_get fs k j h1
    · have : j = k := by omega
      subst this
      simp
theorem prs_two (fs : List Int) : ∀ k, ∀ x ∈ prsTo fs k, x.length = 2
  | 0, x, hx => by simp [prsTo] at hx
  | k + 1, x, hx => by
    simp only [prsTo, List.mem_append, List.mem_singleton] at hx
    rcases hx with hx | rfl
    · exact prs_two fs k x hx
    · rfl
theorem eq2 {a b : List Int} (ha : a.length = 2) (hb : b.length = 2) : eqT (.arr 2 (.int .i64)) a b = true ↔ a = b := by
  match a, ha, b, hb with
  | [x, y], _, [u, v], _ =>
    simp [eqT, List.range, List.range.loop]
theorem pairs_eq {a b : List (List Int)} (hl : a.length = b.length) (ha : ∀ x ∈ a, x.length = 2) (hb : ∀ x ∈ b, x.length = 2) (h : ∀ j, j < a.length → eqT (.arr 2 (.int .i64)) (a.getD j [0, 0]) (b.getD j [0, 0]) = true) : a = b := by
  apply List.ext_getElem hl
  intro i h1 h2
  have := (eq2 (ha _ (getD_mem (d := [0, 0]) h1)) (hb _ (getD_mem (d := [0, 0]) h2))).1 (h i h1)
  rwa [getD_of h1, getD_of h2] at this
end Go.Sx

/- Contracts. -/
namespace Go.Sx
open U
theorem fn130 (l : List Int) (hl : l.length ≤ 1000000) : Fn P1 gl1 130 [.one (.sl (.int .i64) l), .one (.fn 131 [] [])] (.val (.one (.frs (.int .i64) (List.map (fun n => within n 1 4) l)))) true := by
  refine Fn.flat ?_ rfl
  refine fn_of false [(53, sp53)] [fb131] h130 3 Proofs.Tryd.f130 ⟨so53, trivial⟩ ⟨⟨by kernel_rfl, by kernel_rfl, _, rfl, by kernel_rfl⟩, trivial⟩ (by kernel_rfl) rfl (by kernel_rfl) rfl rfl rfl ?_
  rw [vc130]
  try simp only [splitB_iff, -eq_self]
  refine ⟨⟨0, Nat.zero_le _, rfl, rfl, rfl, by simp⟩, fun g hg => ⟨fun hlt => ?_, fun hge => ?_⟩⟩
  · have hlt' : g < l.length := by simpa using hlt
    refine ⟨by omega, by simp only [room, List.length_map, List.length_take]; omega, by simp only [fits]; omega, g + 1, hlt', by omega, by simp, rfl, rfl, ?_, trivial⟩
    rw [getD_of hlt', List.take_succ_eq_append_getElem hlt', List.map_append]
    rfl
  · have hge' : ¬ g < l.length := by simpa using hge
    rw [List.take_of_length_le (by omega)]
    exact ⟨rfl, trivial⟩
theorem so130_ : SpecOk P1 gl1 130 sp130 := by
  intro vs ps r h hp
  simp only [sp130] at h
  split at h
  · cases h; exact fn130 _ (hp _ (.head _))
  · cases h
theorem so130 : Sp1 130 sp130 := ⟨so130_, Proofs.Tryd.f130, _, by kernel_rfl, rfl, by kernel_rfl⟩
theorem fn91 (l : List Int)  : Fn P1 gl1 91 [.one (.sl (.int .i64) l)] (.val (iV (chkCad l))) true := by
  refine Fn.flat ?_ rfl
  refine fn_of false [(68, sp68), (52, sp52), (130, sp130)] [] h0 0 Proofs.Tryd.f91 ⟨so68, so52, so130, trivial⟩ trivial (by kernel_rfl) rfl (by kernel_rfl) rfl rfl rfl ?_
  rw [vc91]
  try simp only [splitB_iff, -eq_self]
  simp only [len_beq]
  refine ⟨by decide, fun h => ?_, fun h => ?_⟩
  all_goals have e8 : decide ((8 : Int) < (l.length : Int)) = decide (8 < l.length) := decide_eq_decide.2 (by omega)
  all_goals have e0' : decide (l.length = 0) = decide (l.length = 0) := rfl
  all_goals rw [e8] at h
  · have h' : first [whenE (decide (l.length = 0)) 12, whenE (decide (8 < l.length)) 5] ≠ 0 := by simpa using h
    refine ⟨?_, trivial⟩
    rw [e8]
    unfold chkCad
    rw [if_pos h']
  · have h' : first [whenE (decide (l.length = 0)) 12, whenE (decide (8 < l.length)) 5] = 0 := by simpa using h
    have hz := (first_zero_iff _).1 h'
    have h3 := of_decide_eq_false ((whenE_zero (by decide)).1 (hz _ (List.mem_cons_of_mem _ List.mem_cons_self)))
    refine ⟨by omega, by rw [List.length_map]; omega, ?_, trivial⟩
    unfold chkCad
    rw [if_neg (by simpa using h')]
theorem so91_ : SpecOk P1 gl1 91 sp91 := by
  intro vs ps r h _
  simp only [sp91] at h
  split at h
  · cases h; exact fn91 _ 
  · cases h
theorem so91 : Sp1 91 sp91 := ⟨so91_, Proofs.Tryd.f91, _, by kernel_rfl, rfl, by kernel_rfl⟩
theorem fn26 (l : List Int)  : Fn P1 gl1 26 [.one (.sl (.int .i64) l)] (.val (iV (chkCad l))) true := by
  refine Fn.flat ?_ rfl
  refine fn_of false [(46, sp46)] [] h26 0 Proofs.Tryd.f26 ⟨so46, trivial⟩ trivial (by kernel_rfl) rfl (by kernel_rfl) rfl rfl rfl ?_
  rw [vc26]
  try simp only [splitB_iff, -eq_self]
  have hmp : ∀ n, n ≤ l.length → first ((l.take n).map fun n => within n 1 4) = upTo (fun j => within (l.getD j 0) 1 4) n := fun n h => upTo_map (fun n => within n 1 4) l n h
  have hall : first (l.map fun n => within n 1 4) = upTo (fun j => within (l.getD j 0) 1 4) l.length := by
    have := hmp l.length (Nat.le_refl _)
    rwa [List.take_length] at this
  refine ⟨fun h => ?_, fun h => ⟨fun h8 => ?_, fun h8 => ?_⟩⟩
  · have h' : l.length = 0 := by simpa using h
    refine ⟨?_, trivial⟩
    unfold chkCad
    have : decide (l.length = 0) = true := by simpa using h'
    rw [this]
    rfl
  · have h' : ¬ l.length = 0 := by simpa using h
    have h8' : 8 < l.length := by have := of_decide_eq_true h8; omega
    refine ⟨?_, trivial⟩
    unfold chkCad
    rw [decide_eq_false h', decide_eq_true h8']
    rfl
  · have h' : ¬ l.length = 0 := by simpa using h
    have h8' : ¬ 8 < l.length := by have := of_decide_eq_false h8; omega
    have hc : chkCad l = upTo (fun j => within (l.getD j 0) 1 4) l.length := by
      unfold chkCad
      rw [decide_eq_false h', decide_eq_false h8', hall]
      rfl
    rw [hc]
    refine ⟨⟨0, ⟨Nat.zero_le _, rfl⟩, rfl, rfl, trivial⟩, fun g hg => ⟨fun hlt => ?_, fun hge => ?_⟩⟩
    · have hlt' : g < l.length := by have := of_decide_eq_true hlt; omega
      refine ⟨by omega, fun hne => ?_, fun heq => ?_⟩
      · have hne' : within (l.getD g 0) 1 4 ≠ 0 := by simpa using hne
        exact ⟨(upTo_eq hg.2 hne' hlt').symm, trivial⟩
      · have heq' : within (l.getD g 0) 1 4 = 0 := by simpa using heq
        exact ⟨by simp only [fits]; omega, g + 1, ⟨hlt', upTo_succ hg.2 heq'⟩, by omega, by omega, rfl, trivial⟩
    · have hge' : g = l.length := by have := of_decide_eq_false hge; omega
      rw [← hge', hg.2]
      exact ⟨rfl, trivial⟩
theorem so26_ : SpecOk P1 gl1 26 sp26 := by
  intro vs ps r h _
  simp only [sp26] at h
  split at h
  · cases h; exact fn26 _ 
  · cases h
theorem so26 : Sp1 26 sp26 := ⟨so26_, Proofs.Tryd.f26, _, by kernel_rfl, rfl, by kernel_rfl⟩
theorem fn94 (l : List Int) (n : Int) (hc : chkCad l = 0) (hn : 0 ≤ n ∧ n ≤ 256) : Fn P1 gl1 94 [.one (.sl (.int .i64) l), iV n] (.val (.one (.frs p2T (pullN l n.toNat)))) true := by
  refine Fn.flat ?_ rfl
  refine fn_of false [] [] h94 0 Proofs.Tryd.f94 trivial trivial (by kernel_rfl) rfl (by kernel_rfl) rfl rfl rfl ?_
  rw [vc94]
  try simp only [splitB_iff, -eq_self]
  have hcl := chkCad_ok hc
  refine ⟨⟨0, Nat.zero_le _, rfl, rfl, rfl, rfl, trivial⟩, fun g hg => ⟨fun hlt => ?_, fun hge => ?_⟩⟩
  · have hlt' : (g : Int) < n := of_decide_eq_true hlt
    have em : ((g : Int) % (l.length : Int)).toNat = g % l.length := by omega
    have hl := fld_len hc g
    have hx := fld_cnt hc g
    simp only [em]
    have hm : g % l.length < l.length := Nat.mod_lt _ (by omega)
    refine ⟨by omega, by omega, ⟨0, Nat.zero_le _, by trivial, by trivial, by trivial, by trivial, by trivial, by trivial, by simp, trivial⟩, fun j hj => ⟨fun hjl => ?_, fun hjg => ?_⟩⟩
    · have hjl' : (j : Int) < l.getD (g % l.length) 0 := of_decide_eq_true hjl
      have hj' : j < (l.getD (g % l.length) 0).toNat := by omega
      refine ⟨by simp only [room, List.length_append, List.length_replicate]; omega, by simp only [fits]; omega, j + 1, hj', by omega, by omega, by trivial, by trivial, by trivial, by trivial, by trivial, ?_, trivial⟩
      rw [List.replicate_succ', List.append_assoc]
    · have hjg' : ¬ (j : Int) < l.getD (g % l.length) 0 := of_decide_eq_false hjg
      have hje : (l.getD (g % l.length) 0).toNat = j := by
        have := Nat.le_of_ble_eq_true (Nat.ble_eq_true_of_le hj)
        omega
      refine ⟨by simp only [fits]; omega, g + 1, ?_, by omega, by omega, by trivial, by trivial, ?_, trivial⟩
      · show g + 1 ≤ n.toNat
        omega
      · simp only [fldTo, hje]
  · have hge' : ¬ (g : Int) < n := of_decide_eq_false hge
    have hgn : n.toNat = g := by
      have : g ≤ n.toNat := hg
      omega
    have hl := fld_len hc g
    refine ⟨⟨0, Nat.zero_le _, rfl, rfl, rfl, trivial⟩, fun k hk => ⟨by have : k ≤ (fldTo l g).length / 2 := hk; simp only [fits]; omega, fun hlt => ?_, fun hge2 => ?_⟩⟩
    · have hlt' : ((2 * k : Nat) : Int) + 1 < ((fldTo l g).length : Int) := of_decide_eq_true hlt
      have ek : (((2 * k : Nat) : Int) + 1).toNat = 2 * k + 1 := by omega
      refine ⟨by omega, by omega, by simp only [fits]; omega, by omega, by omega, by simp only [room, prs_len]; omega, by simp only [fits]; omega, k + 1, ?_, by omega, by omega, ?_, rfl, trivial⟩
      · show k + 1 ≤ (fldTo l g).length / 2
        omega
      · rw [ek]; rfl
    · have hge2' : ¬ ((2 * k : Nat) : Int) + 1 < ((fldTo l g).length : Int) := of_decide_eq_false hge2
      have : (fldTo l g).length / 2 = k := by
        have : k ≤ (fldTo l g).length / 2 := hk
        omega
      refine ⟨?_, trivial⟩
      unfold pullN
      rw [hgn, this]
theorem so94_ : SpecOk P1 gl1 94 sp94 := by
  intro vs ps r h hp
  simp only [sp94] at h
  split at h
  · cases h; exact fn94 _ _ (hp _ (.head _)) (hp _ (.tail _ (.head _)))
  · cases h
theorem so94 : Sp1 94 sp94 := ⟨so94_, Proofs.Tryd.f94, _, by kernel_rfl, rfl, by kernel_rfl⟩
theorem fn92 (l : List Int) (n : Int)  : Fn P1 gl1 92 [.one (.sl (.int .i64) l), iV n] (.tup [.one (.frs p2T (pullL l n)), iV (pullE l n)]) true := by
  refine Fn.flat ?_ rfl
  refine fn_of false [(91, sp91), (53, sp53), (52, sp52), (94, sp94)] [] h0 0 Proofs.Tryd.f92 ⟨so91, so53, so52, so94, trivial⟩ trivial (by kernel_rfl) rfl (by kernel_rfl) rfl rfl rfl ?_
  rw [vc92]
  try simp only [splitB_iff, -eq_self]
  refine ⟨by decide, fun h => ?_, fun h => ?_⟩
  · have h' : pullE l n ≠ 0 := by simpa [pullE] using h
    refine ⟨?_, rfl, trivial⟩
    unfold pullL
    rw [if_neg h']
  · have h' : pullE l n = 0 := by simpa [pullE] using h
    have hz := (first_zero_iff _).1 (show first [chkCad l, within n 0 256] = 0 from h')
    have h1 := hz _ List.mem_cons_self
    have h2 := within_zero.1 (hz _ (List.mem_cons_of_mem _ List.mem_cons_self))
    refine ⟨h1, h2, ?_, h'.symm, trivial⟩
    unfold pullL
    rw [if_pos h']
theorem so92_ : SpecOk P1 gl1 92 sp92 := by
  intro vs ps r h _
  simp only [sp92] at h
  split at h
  · cases h; exact fn92 _ _ 
  · cases h
theorem so92 : Sp1 92 sp92 := ⟨so92_, Proofs.Tryd.f92, _, by kernel_rfl, rfl, by kernel_rfl⟩
theorem fn31 (R : List Rl) (L : List Ed) (l : List Int) (hl : R.length ≤ 1000000000) (hR : ∀ r ∈ R, r.2.2.length ≤ 1000000) (hL : L.length ≤ 1000000000) : Fn P1 gl1 31 [.one (.sl rlT R), .one (.sl edT L), .one (.sl (.int .i64) l)] (.tup [.one (.frs p2T (convL R L l)), iV (convE R L l)]) true := by
  refine Fn.flat ?_ rfl
  refine fn_of false [(43, sp43), (91, sp91), (78, sp78), (88, sp88), (92, sp92)] [] h0 0 Proofs.Tryd.f31 ⟨so43, so91, so78, so88, so92, trivial⟩ trivial (by kernel_rfl) rfl (by kernel_rfl) rfl rfl rfl ?_
  rw [vc31]
  try simp only [splitB_iff, -eq_self]
  refine ⟨hl, hR, hL, by decide, fun h => ?_, fun h => ?_⟩
  · have h' : first [chkEds R L, chkCad l] ≠ 0 := by simpa using h
    have he : convE R L l = first [chkEds R L, chkCad l] := by unfold convE; rw [if_pos h']
    refine ⟨?_, he.symm, trivial⟩
    unfold convL
    rw [he, if_neg h']
  · have h' : first [chkEds R L, chkCad l] = 0 := by simpa using h
    have hz := (first_zero_iff _).1 h'
    have h1 := hz _ List.mem_cons_self
    have h2 := hz _ (List.mem_cons_of_mem _ List.mem_cons_self)
    have hk := chkEds_zero.1 h1
    have hn := lenL_nn hk
    have hN : begN L L.length = lenL L := rfl
    simp only [hN]
    refine ⟨hl, hk.eds, fun h3 => ?_, fun h3 => ?_⟩
    · have h3' : 256 < lenL L := of_decide_eq_true h3
      have he : convE R L l = 5 := by unfold convE; rw [if_neg (by simpa using h'), if_pos h3']
      refine ⟨?_, he.symm, trivial⟩
      unfold convL
      rw [he]
      rfl
    · have h3' : ¬ 256 < lenL L := of_decide_eq_false h3
      have he : convE R L l = 0 := by unfold convE; rw [if_neg (by simpa using h'), if_neg h3']
      have hp : pullE l (lenL L) = 0 := by
        unfold pullE
        rw [h2, within_zero.2 ⟨hn, by omega⟩]
        rfl
      refine ⟨?_, ?_, trivial⟩
      · unfold pullL convL
        rw [if_pos hp, if_pos he]
      · rw [hp, he]
theorem so31_ : SpecOk P1 gl1 31 sp31 := by
  intro vs ps r h hp
  simp only [sp31] at h
  split at h
  · cases h; exact fn31 _ _ _ (hp _ (.head _)) (hp _ (.tail _ (.head _))) (hp _ (.tail _ (.tail _ (.head _))))
  · cases h
theorem so31 : Sp1 31 sp31 := ⟨so31_, Proofs.Tryd.f31, _, by kernel_rfl, rfl, by kernel_rfl⟩
theorem fn34 (R : List Rl) (L : List Ed) (x : St7) (hl : R.length ≤ 1000000000) (hR : ∀ r ∈ R, r.2.2.length ≤ 1000000) (hL : L.length ≤ 1000000000) (hx : StOk x) : Fn P1 gl1 34 [.one (.sl rlT R), .one (.sl edT L), stW x] (.tup [.one (.frs lbT (if chkEds R L = 0 then labsN x (ls L) else [])), iV (chkEds R L)]) true := by
  refine Fn.flat ?_ rfl
  refine fn_of false [(43, sp43), (55, sp55), (78, sp78), (88, sp88), (12, sp12)] [] h34 0 Proofs.Tryd.f34 ⟨so43, so55, so78, so88, so12, trivial⟩ trivial (by kernel_rfl) rfl (by kernel_rfl) rfl rfl rfl ?_
  rw [vc34]
  try simp only [splitB_iff, -eq_self]
  obtain ⟨⟨F, D⟩, ⟨h, m, c, f⟩, u⟩ := x
  have hk0 : chkStamp F D h m c f u = 0 := (chkStZ (x := ((F, D), (h, m, c, f), u))).2 hx
  obtain ⟨hr, hlab, hu⟩ := hx
  have hrb := rate_bd hr
  simp only [hk0]
  refine ⟨hl, hR, hL, hlab.2.1.1, hrb, by decide, fun h => ?_, fun h => ?_⟩
  · have h' : first [chkEds R L, 0] ≠ 0 := by simpa using h
    have h1 : chkEds R L ≠ 0 := fun e => h' (by rw [e]; rfl)
    refine ⟨by rw [if_neg h1], ?_, trivial⟩
    simp [first, h1]
  · have h' : first [chkEds R L, 0] = 0 := by simpa using h
    have h1 := (first_zero_iff _).1 h' _ List.mem_cons_self
    have hk := chkEds_zero.1 h1
    have hP : plTo L L.length = ls L := rfl
    simp only [hP, h1, if_true]
    have hlen := ls_len L
    have hll := hk.len
    refine ⟨hl, hk.eds, ⟨0, Nat.zero_le _, by trivial, by trivial, by trivial, by simp [labsN], by simp⟩, fun g hg => ⟨fun hlt => ?_, fun hge => ?_⟩⟩
    · have hlt' : g < (ls L).length := by simpa using hlt
      have hb := pl_bd hk.rs hk.len hk.ed hk.big _ (getD_mem (d := pl0) hlt')
      refine ⟨by omega, hr, hlab, by omega, by simp only [room, labsN, List.length_map, List.length_take]; omega, by simp only [fits]; omega, g + 1, hlt', by omega, by omega, by trivial, by trivial, ?_, by simp⟩
      rw [getD_of hlt', List.take_succ_eq_append_getElem hlt']
      unfold labsN
      rw [List.map_append]
      rfl
    · have hge' : ¬ g < (ls L).length := by simpa using hge
      rw [List.take_of_length_le (by omega)]
      refine ⟨rfl, ?_⟩
      trivial
theorem so34_ : SpecOk P1 gl1 34 sp34 := by
  intro vs ps r h hp
  simp only [sp34] at h
  split at h
  · cases h; exact fn34 _ _ ((_, _), (_, _, _, _), _) (hp _ (.head _)) (hp _ (.tail _ (.head _))) (hp _ (.tail _ (.tail _ (.head _)))) (hp _ (.tail _ (.tail _ (.tail _ (.head _)))))
  · cases h
theorem so34 : Sp1 34 sp34 := ⟨so34_, Proofs.Tryd.f34, _, by kernel_rfl, rfl, by kernel_rfl⟩
theorem fn87 (a b : List (List Int)) (hl : a.length ≤ 1000000) (ha : ∀ x ∈ a, x.length = 2) (hb : ∀ x ∈ b, x.length = 2) : Fn P1 gl1 87 [.one (.sl p2T a), .one (.sl p2T b)] (.val (bV (decide (a = b)))) true := by
  refine Fn.flat ?_ rfl
  refine fn_of false [] [] h87 0 Proofs.Tryd.f87 trivial trivial (by kernel_rfl) rfl (by kernel_rfl) rfl rfl rfl ?_
  rw [vc87]
  try simp only [splitB_iff, -eq_self]
  have hlen : ((a.length : Int) != (b.length : Int)) = !decide (a.length = b.length) := by
    by_cases h : a.length = b.length
    · simp [h]
    · have : ¬ (a.length : Int) = (b.length : Int) := by omega
      simp [h]
      exact this
  have hrep : List.replicate 2 (0 : Int) = [0, 0] := rfl
  simp only [hlen, hrep]
  refine ⟨fun h => ?_, fun h => ?_⟩
  · have h' : ¬ a.length = b.length := by simpa using h
    exact ⟨(decide_eq_false fun e => h' (by rw [e])).symm, trivial⟩
  · have h' : a.length = b.length := by simpa using h
    refine ⟨⟨0, ⟨Nat.zero_le _, fun j hj => absurd hj (Nat.not_lt_zero _)⟩, by trivial, by trivial, by trivial, trivial⟩, fun g hg => ⟨fun hlt => ?_, fun hge => ?_⟩⟩
    · have hlt' : g < a.length := by have := of_decide_eq_true hlt; omega
      refine ⟨by omega, by omega, fun hne => ?_, fun heq => ?_⟩
      · refine ⟨(decide_eq_false fun e => ?_).symm, trivial⟩
        subst e
        have : eqT (.arr 2 (.int .i64)) (a.getD g [0, 0]) (a.getD g [0, 0]) = true := (eq2 (ha _ (getD_mem (d := [0, 0]) hlt')) (ha _ (getD_mem (d := [0, 0]) hlt'))).2 rfl
        rw [this] at hne
        exact absurd hne (by decide)
      · have heq' : eqT (.arr 2 (.int .i64)) (a.getD g [0, 0]) (b.getD g [0, 0]) = true := by simpa using heq
        refine ⟨by simp only [fits]; omega, g + 1, ⟨hlt', fun j hj => ?_⟩, by omega, by omega, by trivial, by trivial, trivial⟩
        by_cases e : j = g
        · subst e; exact heq'
        · exact hg.2 j (by omega)
    · have hge' : g = a.length := by have := of_decide_eq_false hge; have := hg.1; omega
      exact ⟨(decide_eq_true (pairs_eq h' ha hb fun j hj => hg.2 j (by omega))).symm, trivial⟩
theorem so87_ : SpecOk P1 gl1 87 sp87 := by
  intro vs ps r h hp
  simp only [sp87] at h
  split at h
  · cases h; exact fn87 _ _ (hp _ (.head _)) (hp _ (.tail _ (.head _))) (hp _ (.tail _ (.tail _ (.head _))))
  · cases h
theorem so87 : Sp1 87 sp87 := ⟨so87_, Proofs.Tryd.f87, _, by kernel_rfl, rfl, by kernel_rfl⟩
theorem fn93 (a b : List (List Int)) (hl : a.length ≤ 1000000) (ha : ∀ x ∈ a, x.length = 2) (hb : ∀ x ∈ b, x.length = 2) : Fn P1 gl1 93 [.one (.sl p2T a), .one (.sl p2T b)] (.val (bV (decide (a = b)))) true := by
  refine Fn.flat ?_ rfl
  refine fn_of false [] [] h93 0 Proofs.Tryd.f93 trivial trivial (by kernel_rfl) rfl (by kernel_rfl) rfl rfl rfl ?_
  rw [vc93]
  try simp only [splitB_iff, -eq_self]
  have hlen : ((a.length : Int) != (b.length : Int)) = !decide (a.length = b.length) := by
    by_cases h : a.length = b.length
    · simp [h]
    · have : ¬ (a.length : Int) = (b.length : Int) := by omega
      simp [h]
      exact this
  have hrep : List.replicate 2 (0 : Int) = [0, 0] := rfl
  simp only [hlen, hrep]
  refine ⟨fun h => ?_, fun h => ?_⟩
  · have h' : ¬ a.length = b.length := by simpa using h
    exact ⟨(decide_eq_false fun e => h' (by rw [e])).symm, trivial⟩
  · have h' : a.length = b.length := by simpa using h
    refine ⟨⟨0, ⟨Nat.zero_le _, fun j hj => absurd hj (Nat.not_lt_zero _)⟩, by trivial, by trivial, by trivial, by trivial, by trivial, trivial⟩, fun g hg => ⟨fun hlt => ?_, fun hge => ?_⟩⟩
    · have hlt' : g < a.length := by have := of_decide_eq_true hlt; omega
      refine ⟨by omega, by omega, fun hne => ?_, fun heq => ?_⟩
      · refine ⟨(decide_eq_false fun e => ?_).symm, trivial⟩
        subst e
        have : eqT (.arr 2 (.int .i64)) (a.getD g [0, 0]) (a.getD g [0, 0]) = true := (eq2 (ha _ (getD_mem (d := [0, 0]) hlt')) (ha _ (getD_mem (d := [0, 0]) hlt'))).2 rfl
        rw [this] at hne
        exact absurd hne (by decide)
      · have heq' : eqT (.arr 2 (.int .i64)) (a.getD g [0, 0]) (b.getD g [0, 0]) = true := by simpa using heq
        refine ⟨by simp only [fits]; omega, g + 1, ⟨hlt', fun j hj => ?_⟩, by omega, by omega, by trivial, by trivial, by trivial, by trivial, trivial⟩
        by_cases e : j = g
        · subst e; exact heq'
        · exact hg.2 j (by omega)
    · have hge' : g = a.length := by have := of_decide_eq_false hge; have := hg.1; omega
      exact ⟨(decide_eq_true (pairs_eq h' ha hb fun j hj => hg.2 j (by omega))).symm, trivial⟩
theorem so93_ : SpecOk P1 gl1 93 sp93 := by
  intro vs ps r h hp
  simp only [sp93] at h
  split at h
  · cases h; exact fn93 _ _ (hp _ (.head _)) (hp _ (.tail _ (.head _))) (hp _ (.tail _ (.tail _ (.head _))))
  · cases h
theorem so93 : Sp1 93 sp93 := ⟨so93_, Proofs.Tryd.f93, _, by kernel_rfl, rfl, by kernel_rfl⟩
theorem fn32 (l : List Int) (ps : List (List Int)) (hc : chkCad l = 0) (hl : ps.length ≤ 512) (hp : ∀ x ∈ ps, x.length = 2) (hn : ∃ n, n ≤ 256 ∧ pullN l n = ps) : Fn P1 gl1 32 [.one (.sl (.int .i64) l), .one (.sl p2T ps)] (.tup [iV (undN l ps : Int), iV 0]) true := by
  refine Fn.flat ?_ rfl
  refine fn_of false [(91, sp91), (68, sp68), (52, sp52), (94, sp94), (93, sp93)] [] h32 0 Proofs.Tryd.f32 ⟨so91, so68, so52, so94, so93, trivial⟩ trivial (by kernel_rfl) rfl (by kernel_rfl) rfl rfl rfl ?_
  rw [vc32]
  try simp only [splitB_iff, -eq_self]
  obtain ⟨n, hn1, hn2⟩ := hn
  have h8 : decide ((512 : Int) < (ps.length : Int)) = false := decide_eq_false (by omega)
  have hz : first [chkCad l, whenE (decide ((512 : Int) < (ps.length : Int))) 5] = 0 := by
    rw [hc, h8]; rfl
  refine ⟨by decide, fun h => ?_, fun _ => ⟨⟨0, ⟨Nat.zero_le _, fun m hm => absurd hm (Nat.not_lt_zero _)⟩, by trivial, by trivial, by trivial, by trivial, by trivial, by trivial, trivial⟩, fun g hg => ⟨fun hlt => ?_, fun hge => ?_⟩⟩⟩
  · rw [hz] at h
    exact absurd h (by decide)
  · have hlt' : g < 257 := by have := of_decide_eq_true hlt; omega
    have hx := fld_len hc g
    refine ⟨hc, by omega, by unfold pullN; rw [prs_len]; omega, fun x hx => prs_two _ _ x hx, hp, fun heq => ?_, fun hne => ?_⟩
    · have heq' : pullN l g = ps := of_decide_eq_true heq
      have : undN l ps = g := by
        unfold undN
        have h1 : (List.range 257).find? (fun m => decide (pullN l m = ps)) = some g := by
          rw [List.find?_range_eq_some]
          exact ⟨decide_eq_true heq', List.mem_range.2 hlt', fun j hj => by rw [decide_eq_false (hg.2 j hj)]; rfl⟩
        rw [h1]
        rfl
      rw [this]
      exact ⟨rfl, rfl, trivial⟩
    · have hne' : pullN l g ≠ ps := of_decide_eq_false hne
      refine ⟨by simp only [fits]; omega, g + 1, ⟨hlt', fun m hm => ?_⟩, by omega, by omega, rfl, rfl, rfl, rfl, rfl, trivial⟩
      by_cases e : m = g
      · subst e; exact hne'
      · exact hg.2 m (by omega)
  · have hge' : ¬ (g : Int) < 257 := of_decide_eq_false hge
    exact absurd hn2 (hg.2 n (by have := hg.1; omega))
theorem so32_ : SpecOk P1 gl1 32 sp32 := by
  intro vs ps r h hp
  simp only [sp32] at h
  split at h
  · cases h; exact fn32 _ _ (hp _ (.head _)) (hp _ (.tail _ (.head _))) (hp _ (.tail _ (.tail _ (.head _)))) (hp _ (.tail _ (.tail _ (.tail _ (.head _)))))
  · cases h
theorem so32 : Sp1 32 sp32 := ⟨so32_, Proofs.Tryd.f32, _, by kernel_rfl, rfl, by kernel_rfl⟩

end Go.Sx

/- Plain functions and hints. -/
namespace Go.Sx.U
def lastP (ps : List (List Int)) : Nat → Int
  | 0 => 0
  | k + 1 => (ps.getD k [0, 0]).getD 1 0
/-- A list without fades. -/
def plnTo (L : List Ed) : Nat → List Ed
  | 0 => L
  | i + 1 => (plnTo L i).set i (((plnTo L i).getD i e0).1, ((plnTo L i).getD i e0).2.1, ((plnTo L i).getD i e0).2.2.1, 0, ((plnTo L i).getD i e0).2.2.2.2)
/-- The checks of an edit's frames. -/
def partN (r : Rl) (x : Ed) : List Int := (r.2.2.drop (x.2.1 - r.2.1).toNat).take ((x.2.2.1 - r.2.1).toNat - (x.2.1 - r.2.1).toNat)
def wantTo (R : List Rl) (L : List Ed) : Nat → List Int
  | 0 => []
  | i + 1 => wantTo R L i ++ partN (rlOf R (L.getD i e0).1) (L.getD i e0)
end Go.Sx.U
namespace Go.Sx
open U
/-- A loop that counts up to a number, with temporaries that hang on the counter. -/
def hCtP (s : St) (keep : List Nat) (new : Nat → List (Nat × SV)) (n : Nat) : Option LInv := some ⟨Nat, fun i => s.at keep (new i), fun i => i ≤ n, fun i => n - i⟩
/-- The loop that copies a list. -/
def hCopyP (u : Ty) (tl tn ti to : Nat) (keep : List Nat) (s : St) : Option LInv := match listAs s tl u with
  | some xs => some ⟨Nat, fun i => ⟨[tI ti i, (to, .val (.one (.own s.nx)))] ++ keepT (keep ++ [tl, tn]) s.tm, (s.nx, some (.row u (List.take i xs))) :: lessO s [to], s.nx + 1, s.lr⟩, fun i => i ≤ List.length xs, fun i => List.length xs - i⟩
  | _ => none
def h29 : Hints := ⟨fun f k s => match f, k with
  | 29, 3 => hCopyP rlT 6 7 8 3 [] s
  | _, _ => none, 0⟩
def h30 : Hints := ⟨fun f k s => match f, k with
  | 30, 3 => hCopyP edT 6 7 8 3 [] s
  | _, _ => none, 0⟩
def ownId (s : St) (t : Nat) : Option Nat := match lookT s.tm t with
  | some (.val (.one (.own id))) => some id
  | _ => none
/-- A box of eight cells at the first place. -/
def withBox (s : St) (k : Nat × Option AObj → Option LInv) : Option LInv := match lookO s.ob 0 with
  | some (.box [a, b, c, d, e, f, g, h]) => k (0, some (.box [a, b, c, d, e, f, g, h]))
  | _ => none
def withEd (s : St) (t : Nat) (k : Nat → Ed → Option LInv) : Option LInv := match lookT s.tm t with
  | some (.val (.one (.ptr i 0))) => match lookO s.ob i with
    | some (.box [.one (.str nm), .one (.int .i64 a), .one (.int .i64 b), .one (.int .i64 c), .one (.int .i64 d)]) => k i (nm, a, b, c, d)
    | _ => none
  | _ => none
@[reducible] def edBox (x : Ed) : AObj := .box [.one (.str x.1), .one (.int .i64 x.2.1), .one (.int .i64 x.2.2.1), .one (.int .i64 x.2.2.2.1), .one (.int .i64 x.2.2.2.2)]
def h5 : Hints := ⟨fun f k s => match f, k with
  | 5, 12 => match listAs s 133 p2T with
    | some ps => hCtP s [0, 1, 5, 7, 8, 133, 134] (fun k => [tI 135 k, tI 14 (lastP ps k)]) (List.length ps)
    | _ => none
  | 5, 24 => match ownId s 19, listAs s 1 edT, ownId s 7, listAs s 7 (.int .i64) with
    | some j, some L, some j7, some S => withBox s fun x0 => some ⟨Nat, fun i => ⟨tI 165 i :: keepT [0, 1, 5, 7, 8, 19, 163, 164] s.tm, [(j, some (.row edT (plnTo L i))), (j7, some (.row (.int .i64) S)), x0], s.nx, s.lr⟩, fun i => i ≤ List.length L, fun i => List.length L - i⟩
    | _, _, _, _ => none
  | 5, 32 => match listAs s 0 rlT, ownId s 185, listAs s 185 edT with
    | some R, some j, some P => match ownId s 7, listAs s 7 (.int .i64), ownId s 21, listAs s 21 (.int .i64) with
      | some j7, some S, some j21, some Y => withBox s fun x0 => some ⟨Nat, fun i => ⟨[tI 187 i, (23, .val (.one (.own s.nx)))] ++ keepT [0, 1, 5, 7, 8, 21, 22, 185, 186] s.tm, [(s.nx, some (.row (.int .i64) (wantTo R P i))), (j21, some (.row (.int .i64) Y)), (j, some (.row edT P)), (j7, some (.row (.int .i64) S)), x0], s.nx + 1, s.lr⟩, fun i => i ≤ List.length P, fun i => List.length P - i⟩
      | _, _, _, _ => none
    | _, _, _ => none
  | 5, 35 => match listAs s 191 rlT, listAs s 23 (.int .i64), ownId s 185, listAs s 185 edT with
    | some R, some o, some j, some P => match ownId s 7, listAs s 7 (.int .i64), ownId s 21, listAs s 21 (.int .i64) with
      | some j7, some S, some j21, some Y => withBox s fun x0 => withEd s 25 fun b x => some ⟨Nat, fun i => ⟨[tI 193 i, (23, .val (.one (.own s.nx)))] ++ keepT [0, 1, 5, 7, 8, 21, 22, 25, 185, 186, 187, 191, 192] s.tm, [(s.nx, some (.row (.int .i64) (o ++ if idxN x.1 R < i then partN (rlOf R x.1) x else []))), (b, some (edBox x)), (j21, some (.row (.int .i64) Y)), (j, some (.row edT P)), (j7, some (.row (.int .i64) S)), x0], s.nx + 1, s.lr⟩, fun i => i ≤ List.length R, fun i => List.length R - i⟩
      | _, _, _, _ => none
    | _, _, _, _ => none
  | 5, 49 => match listAs s 276 lbT with
    | some ls => hCtP s [0, 1, 5, 7, 30, 32, 276, 277] (fun i => [tI 278 i]) (List.length ls)
    | _ => none
  | _, _ => none, 3⟩
end Go.Sx
namespace Go.Sx
open U
def sp29 : FSpec := ⟨fun vs => match vs with
  | [.one (.sl (.pair .str (.pair (.int .i64) (.sl (.int .i64)))) R)] => some ([List.length R ≤ 1000000, ∀ r ∈ (show List Rl from R), List.length r.2.2 ≤ 1000000], .val (.one (.sl rlT R)))
  | _ => none, false⟩
def sp30 : FSpec := ⟨fun vs => match vs with
  | [.one (.sl (.pair .str (.pair (.int .i64) (.pair (.int .i64) (.pair (.int .i64) (.int .i64))))) L)] => some ([List.length L ≤ 1000000], .val (.one (.frs edT L)))
  | _ => none, true⟩
def sp27 : FSpec := ⟨fun vs => match vs with
  | [] => some ([], .val (bV true))
  | _ => none, true⟩
def sp35 : FSpec := ⟨fun vs => match vs with
  | [.agg [.one (.int .i64 F), .one (.bool D), .one (.int .i64 h), .one (.int .i64 m), .one (.int .i64 s), .one (.int .i64 f), .one (.int .i64 u)]] => some ([], .val (stV F D h m s f u))
  | _ => none, true⟩
end Go.Sx

/- What the engine asks, written out (printed by a program). -/
namespace Go.Sx
open U
theorem vc29 (R : List Rl) : exF (env false [] []) h29 0 29 Proofs.Tryd.f29 [.one (.sl rlT R)] (.val (.one (.sl rlT R))) = (let q0 := (↑(List.length R) : Int); (∃ (g : Nat), Nat.le g (List.length R) ∧ (0 : Int) = (↑g : Int) ∧ q0 = q0 ∧ R = R ∧ List.take g R = [] ∧ True) ∧ ∀ (g : Nat), let q1 := (List.getD R g r0); Nat.le g (List.length R) → splitB (decide ((↑g : Int) < q0)) (((0 : Int) ≤ (↑g : Int) ∧ (↑g : Int) < q0) ∧ room (List.length q1.2.2) (8 : Nat) ∧ room (List.length (List.take g R) + (1 : Nat)) (48 : Nat) ∧ fits IntKind.i64 ((↑g : Int) + (1 : Int)) ∧ ∃ (g' : Nat), Nat.le g' (List.length R) ∧ List.length R - g' < List.length R - g ∧ (↑g : Int) + (1 : Int) = (↑g' : Int) ∧ q0 = q0 ∧ R = R ∧ List.take g R ++ [(q1.1, q1.2.1, q1.2.2)] = List.take g' R ∧ True) (List.take g R = R ∧ True)) := by
  kernel_rfl
theorem vc30 (L : List Ed) : exF (env false [] []) h30 0 30 Proofs.Tryd.f30 [.one (.sl edT L)] (.val (.one (.frs edT L))) = (let q0 := (↑(List.length L) : Int); (∃ (g : Nat), Nat.le g (List.length L) ∧ (0 : Int) = (↑g : Int) ∧ q0 = q0 ∧ L = L ∧ List.take g L = [] ∧ True) ∧ ∀ (g : Nat), let q1 := (List.getD L g e0); Nat.le g (List.length L) → splitB (decide ((↑g : Int) < q0)) (((0 : Int) ≤ (↑g : Int) ∧ (↑g : Int) < q0) ∧ room (List.length (List.take g L) + (1 : Nat)) (48 : Nat) ∧ fits IntKind.i64 ((↑g : Int) + (1 : Int)) ∧ ∃ (g' : Nat), Nat.le g' (List.length L) ∧ List.length L - g' < List.length L - g ∧ (↑g : Int) + (1 : Int) = (↑g' : Int) ∧ q0 = q0 ∧ L = L ∧ List.take g L ++ [(q1.1, q1.2.1, q1.2.2.1, q1.2.2.2.1, q1.2.2.2.2)] = List.take g' L ∧ True) (List.take g L = L ∧ True)) := by
  kernel_rfl
theorem vc27 (_u : Unit) : exF (env false [(33, sp33), (31, sp31), (34, sp34), (17, sp17), (87, sp87)] []) h0 0 27 Proofs.Tryd.f27 [] (.val (bV true)) = (let q2 := (Array.toList (ByteArray.data { data := #[(97 : UInt8)] }), (10 : Int), (12 : Int), (0 : Int), (0 : Int)); let q3 := (Array.toList (ByteArray.data { data := #[(98 : UInt8)] }), (20 : Int), (22 : Int), (0 : Int), (0 : Int)); let q4 := (Array.toList (ByteArray.data { data := #[(98 : UInt8)] }), (20 : Int), [(30 : Int), (40 : Int)]); let q5 := (Array.toList (ByteArray.data { data := #[(97 : UInt8)] }), (10 : Int), [(1 : Int), (2 : Int)]); let q11 := (((25 : Int), false), ((0 : Int), (0 : Int), (0 : Int), (24 : Int)), (0 : Int)); let q0 := (if chkEds [q5, q4] [q2, q3] = (0 : Int) then labsN q11 (ls [q2, q3]) else []); let q9 := (playN [q5, q4] [q2, q3] = [(1 : Int), (2 : Int), (30 : Int), (40 : Int)]); let q1 := (bif bif bif chkEds [q5, q4] [q2, q3] == (0 : Int) then convE [q5, q4] [q2, q3] [(2 : Int), (3 : Int)] == (0 : Int) else false then chkEds [q5, q4] [q2, q3] == (0 : Int) else false then decide q9 else false); let q8 := (convL [q5, q4] [q2, q3] [(2 : Int), (3 : Int)] = [[(0 : Int), (0 : Int)], [(1 : Int), (1 : Int)], [(1 : Int), (2 : Int)], [(2 : Int), (3 : Int)], [(3 : Int), (3 : Int)]]); let q13 := (↑(List.length q0) : Int); let q6 := (bif bif bif bif bif chkEds [q5, q4] [q2, q3] == (0 : Int) then convE [q5, q4] [q2, q3] [(2 : Int), (3 : Int)] == (0 : Int) else false then chkEds [q5, q4] [q2, q3] == (0 : Int) else false then decide q9 else false then decide q8 else false then q13 == (2 : Int) else false); let q7 := (List.getD q0 (1 : Nat) ((0 : Int), (0 : Int), (0 : Int), (0 : Int))); let q10 := (1000000000 : Nat); let q12 := (Ty.int IntKind.i64); (2 : Nat) ≤ q10 ∧ (∀ (r : Rl), r ∈ [q5, q4] → List.length r.2.2 ≤ (1000000 : Nat)) ∧ (2 : Nat) ≤ q10 ∧ (2 : Nat) ≤ q10 ∧ (∀ (r : Rl), r ∈ [q5, q4] → List.length r.2.2 ≤ (1000000 : Nat)) ∧ (2 : Nat) ≤ q10 ∧ (2 : Nat) ≤ q10 ∧ (∀ (r : Rl), r ∈ [q5, q4] → List.length r.2.2 ≤ (1000000 : Nat)) ∧ (2 : Nat) ≤ q10 ∧ StOk q11 ∧ ((bif bif chkEds [q5, q4] [q2, q3] == (0 : Int) then convE [q5, q4] [q2, q3] [(2 : Int), (3 : Int)] == (0 : Int) else false then chkEds [q5, q4] [q2, q3] == (0 : Int) else false) = true → List.length (playN [q5, q4] [q2, q3]) ≤ q10) ∧ (q1 = true → List.length (convL [q5, q4] [q2, q3] [(2 : Int), (3 : Int)]) ≤ (1000000 : Nat)) ∧ (q1 = true → ∀ (x : List Int), x ∈ convL [q5, q4] [q2, q3] [(2 : Int), (3 : Int)] → List.length x = (2 : Nat)) ∧ (q1 = true → ∀ (x : List Int), x ∈ [[(0 : Int), (0 : Int)], [(1 : Int), (1 : Int)], [(1 : Int), (2 : Int)], [(2 : Int), (3 : Int)], [(3 : Int), (3 : Int)]] → List.length x = (2 : Nat)) ∧ (q6 = true → (0 : Int) ≤ (1 : Int) ∧ (1 : Int) < q13) ∧ (q6 = true → (1 : Nat) < List.length q0) ∧ (bif bif bif bif bif bif chkEds [q5, q4] [q2, q3] == (0 : Int) then convE [q5, q4] [q2, q3] [(2 : Int), (3 : Int)] == (0 : Int) else false then chkEds [q5, q4] [q2, q3] == (0 : Int) else false then decide q9 else false then decide q8 else false then q13 == (2 : Int) else false then eqT (Ty.pair q12 (Ty.pair q12 (Ty.pair q12 q12))) (q7.1, q7.2.1, q7.2.2.1, q7.2.2.2) ((0 : Int), (0 : Int), (1 : Int), (1 : Int)) else false) = true ∧ True) := by
  kernel_rfl
theorem vc35 (F : Int) (D : Bool) (h m s f u : Int) : exF (env false [] []) h0 0 35 Proofs.Tryd.f35 [stV F D h m s f u] (.val (stV F D h m s f u)) = (F = F ∧ D = D ∧ h = h ∧ m = m ∧ s = s ∧ f = f ∧ u = u ∧ True) := by
  kernel_rfl
theorem vc5 (R : List Rl) (L : List Ed) (l : List Int) (F : Int) (D : Bool) (hh mm ss ff uu : Int) : exF (env false [(35, sp35), (24, sp24), (25, sp25), (26, sp26), (8, sp8), (27, sp27), (29, sp29), (30, sp30), (28, sp28), (31, sp31), (33, sp33), (34, sp34), (32, sp32), (10, sp10), (11, sp11), (17, sp17)] []) h5 0 5 Proofs.Tryd.f5 [.one (.sl rlT R), .one (.sl edT L), .agg [.one (.sl (.int .i64) l), .one (.int .i64 F), .one (.bool D), .one (.int .i64 hh), .one (.int .i64 mm), .one (.int .i64 ss), .one (.int .i64 ff), .one (.int .i64 uu)]] (.val (bV true)) = (let q20 := ((F, D), (hh, mm, ss, ff), uu); let q0 := (if chkEds R L = (0 : Int) then labsN q20 (ls L) else []); let q3 := ((0 : Int), (0 : Int), (0 : Int), (0 : Int)); let q22 := (List.length q0); let q6 := (↑q22 : Int); let q7 := (q0 = if chkEds R L = (0 : Int) then labsN q20 (ls L) else []); let q9 := (1000000 : Nat); let q10 := (1000000000 : Nat); let q17 := (↑(List.length L) : Int); let q11 := (bif bif bif bif chkEds R L != (0 : Int) then true else (0 : Int) != (0 : Int) then true else (0 : Int) != (0 : Int) then true else q6 != q17 then true else decide (dayN F D < (1 : Int))); let q12 := (List.length (convL R L l)); let q31 := (List.length R); let q13 := (↑q31 : Int); let q14 := ((0 : Int) != (0 : Int)); let q15 := (false = true ∧ True); let q24 := (↑(List.length (startsN R L)) : Int); let q29 := (↑(undN l (convL R L l)) : Int); List.length R ≤ (9223372036854775807 : Nat) ∧ List.length L ≤ (9223372036854775807 : Nat) ∧ ((!shortB R L) = false → List.length R ≤ q10) ∧ ((!shortB R L) = false → ∀ (r : Rl), r ∈ R → List.length r.2.2 ≤ q9 ∧ List.length r.1 ≤ q10) ∧ ((!shortB R L) = false → List.length L ≤ q10) ∧ ((!shortB R L) = false → ∀ (x : Ed), x ∈ L → fits IntKind.i64 x.2.2.1) ∧ splitB (bif bif bif bif !shortB R L then true else chkEds R L != (0 : Int) then true else decide ((8 : Int) < (↑(List.length l) : Int)) then true else chkCad l != (0 : Int) then true else chkStamp F D hh mm ss ff uu != (0 : Int)) (true = true ∧ True) (List.length R ≤ q9 ∧ (∀ (r : Rl), r ∈ R → List.length r.2.2 ≤ q9) ∧ List.length L ≤ q9 ∧ List.length R ≤ q10 ∧ (∀ (r : Rl), r ∈ R → List.length r.2.2 ≤ q9) ∧ List.length L ≤ q10 ∧ List.length R ≤ q9 ∧ (∀ (r : Rl), r ∈ R → List.length r.2.2 ≤ q9) ∧ List.length L ≤ q9 ∧ room (List.length l) (8 : Nat) ∧ List.length R ≤ q10 ∧ (∀ (r : Rl), r ∈ R → List.length r.2.2 ≤ q9) ∧ List.length L ≤ q10 ∧ splitB (bif bif bif bif chkEds R L != (0 : Int) then true else convE R L l != (0 : Int) then true else q24 != q17 then true else decide (lenN R L < (0 : Int)) then true else decide ((256 : Int) < lenN R L)) q15 (room ((0 : Nat) + List.length l) (8 : Nat) ∧ room ((0 : Nat) + List.length (convL R L l)) (16 : Nat) ∧ chkCad l = (0 : Int) ∧ List.length (convL R L l) ≤ (512 : Nat) ∧ (∀ (x : List Int), x ∈ convL R L l → List.length x = (2 : Nat)) ∧ (∃ (n : Nat), n ≤ (256 : Nat) ∧ pullN l n = convL R L l) ∧ ((bif (0 : Int) != (0 : Int) then true else decide (lenN R L < q29)) = false → fits IntKind.i64 (lenN R L - (1 : Int))) ∧ splitB (bif bif (0 : Int) != (0 : Int) then true else decide (lenN R L < q29) then true else decide (q29 < lenN R L - (1 : Int))) q15 ((∃ (g : Nat), Nat.le g q12 ∧ (0 : Int) = (↑g : Int) ∧ (0 : Int) = lastP (convL R L l) g ∧ (↑q12 : Int) = (↑q12 : Int) ∧ lenN R L = lenN R L ∧ R = R ∧ L = L ∧ convL R L l = convL R L l ∧ l = l ∧ convL R L l = convL R L l ∧ L = L ∧ startsN R L = startsN R L ∧ L = L ∧ l = l ∧ F = F ∧ D = D ∧ hh = hh ∧ mm = mm ∧ ss = ss ∧ ff = ff ∧ uu = uu ∧ True) ∧ ∀ (g : Nat), let q2 := (List.getD (convL R L l) g (List.replicate (2 : Nat) (0 : Int))); let q23 := (List.getD q2 (1 : Nat) (0 : Int) < List.getD q2 (0 : Nat) (0 : Int)); let q30 := (List.getD q2 (0 : Nat) (0 : Int) < lastP (convL R L l) g); Nat.le g q12 → splitB (decide ((↑g : Int) < (↑q12 : Int))) (((0 : Int) ≤ (↑g : Int) ∧ (↑g : Int) < (↑q12 : Int)) ∧ g < List.length (convL R L l) ∧ ((0 : Int) ≤ (0 : Int) ∧ (0 : Int) < (2 : Int)) ∧ (decide q30 = false → fits IntKind.i64 (lastP (convL R L l) g + (1 : Int))) ∧ splitB (bif bif decide q30 then true else decide (lastP (convL R L l) g + (1 : Int) < List.getD q2 (0 : Nat) (0 : Int)) then true else decide (lenN R L ≤ List.getD q2 (0 : Nat) (0 : Int))) q15 (fits IntKind.i64 (1 : Int) ∧ ((0 : Int) ≤ (1 : Int) ∧ (1 : Int) < (2 : Int)) ∧ (decide q23 = false → fits IntKind.i64 (List.getD q2 (0 : Nat) (0 : Int) + (1 : Int))) ∧ splitB (bif bif decide q23 then true else decide (List.getD q2 (0 : Nat) (0 : Int) + (1 : Int) < List.getD q2 (1 : Nat) (0 : Int)) then true else decide (lenN R L ≤ List.getD q2 (1 : Nat) (0 : Int))) q15 (fits IntKind.i64 (2 : Int) ∧ fits IntKind.i64 ((↑g : Int) + (1 : Int)) ∧ ∃ (g' : Nat), Nat.le g' q12 ∧ List.length (convL R L l) - g' < List.length (convL R L l) - g ∧ (↑g : Int) + (1 : Int) = (↑g' : Int) ∧ List.getD q2 (1 : Nat) (0 : Int) = lastP (convL R L l) g' ∧ (↑q12 : Int) = (↑q12 : Int) ∧ lenN R L = lenN R L ∧ R = R ∧ L = L ∧ convL R L l = convL R L l ∧ l = l ∧ convL R L l = convL R L l ∧ L = L ∧ startsN R L = startsN R L ∧ L = L ∧ l = l ∧ F = F ∧ D = D ∧ hh = hh ∧ mm = mm ∧ ss = ss ∧ ff = ff ∧ uu = uu ∧ True))) (room ((0 : Nat) + List.length L) (48 : Nat) ∧ (∃ (g : Nat), Nat.le g (List.length L) ∧ (0 : Int) = (↑g : Int) ∧ q17 = q17 ∧ lenN R L = lenN R L ∧ R = R ∧ L = L ∧ L = plnTo L g ∧ startsN R L = startsN R L ∧ l = l ∧ F = F ∧ D = D ∧ hh = hh ∧ mm = mm ∧ ss = ss ∧ ff = ff ∧ uu = uu ∧ True) ∧ ∀ (g : Nat), let q25 := (List.length (plnTo L g)); let q5 := (↑q25 : Int); let q21 := (List.getD (plnTo L g) g e0); Nat.le g (List.length L) → splitB (decide ((↑g : Int) < q17)) (((0 : Int) ≤ (↑g : Int) ∧ (↑g : Int) < q5) ∧ g < List.length (plnTo L g) ∧ fits IntKind.i64 ((↑g : Int) + (1 : Int)) ∧ ∃ (g' : Nat), Nat.le g' (List.length L) ∧ List.length L - g' < List.length L - g ∧ (↑g : Int) + (1 : Int) = (↑g' : Int) ∧ q17 = q17 ∧ lenN R L = lenN R L ∧ R = R ∧ L = L ∧ List.set (plnTo L g) g (q21.1, q21.2.1, q21.2.2.1, (0 : Int), q21.2.2.2.2) = plnTo L g' ∧ startsN R L = startsN R L ∧ l = l ∧ F = F ∧ D = D ∧ hh = hh ∧ mm = mm ∧ ss = ss ∧ ff = ff ∧ uu = uu ∧ True) (List.length R ≤ q10 ∧ (∀ (r : Rl), r ∈ R → List.length r.2.2 ≤ q9 ∧ List.length r.1 ≤ q10) ∧ List.length (plnTo L g) ≤ q10 ∧ (∀ (x : Ed), x ∈ plnTo L g → fits IntKind.i64 x.2.2.1) ∧ splitB (chkEds R (plnTo L g) == (0 : Int)) (List.length R ≤ q9 ∧ (∀ (r : Rl), r ∈ R → List.length r.2.2 ≤ q9) ∧ List.length (plnTo L g) ≤ q9 ∧ List.length R ≤ q10 ∧ (∀ (r : Rl), r ∈ R → List.length r.2.2 ≤ q9) ∧ List.length (plnTo L g) ≤ q10 ∧ (∃ (g_1 : Nat), Nat.le g_1 q25 ∧ (0 : Int) = (↑g_1 : Int) ∧ q5 = q5 ∧ chkEds R (plnTo L g) = chkEds R (plnTo L g) ∧ lenN R L = lenN R L ∧ R = R ∧ L = L ∧ wantTo R (plnTo L g) g_1 = [] ∧ playN R (plnTo L g) = playN R (plnTo L g) ∧ plnTo L g = plnTo L g ∧ startsN R L = startsN R L ∧ l = l ∧ F = F ∧ D = D ∧ hh = hh ∧ mm = mm ∧ ss = ss ∧ ff = ff ∧ uu = uu ∧ True) ∧ ∀ (g_1 : Nat), let q1 := (List.getD (plnTo L g) g_1 e0); let q16 := (q1.1, q1.2.1, q1.2.2.1, q1.2.2.2.1, q1.2.2.2.2); Nat.le g_1 q25 → splitB (decide ((↑g_1 : Int) < q5)) (((0 : Int) ≤ (↑g_1 : Int) ∧ (↑g_1 : Int) < q5) ∧ g_1 < List.length (plnTo L g) ∧ (∃ (g_2 : Nat), Nat.le g_2 q31 ∧ (0 : Int) = (↑g_2 : Int) ∧ q13 = q13 ∧ R = R ∧ (↑g_1 : Int) = (↑g_1 : Int) ∧ q5 = q5 ∧ chkEds R (plnTo L g) = chkEds R (plnTo L g) ∧ lenN R L = lenN R L ∧ R = R ∧ L = L ∧ (wantTo R (plnTo L g) g_1 = wantTo R (plnTo L g) g_1 ++ if idxN q1.1 R < g_2 then partN (rlOf R q1.1) q16 else []) ∧ q1.1 = q1.1 ∧ q1.2.1 = q1.2.1 ∧ q1.2.2.1 = q1.2.2.1 ∧ q1.2.2.2.1 = q1.2.2.2.1 ∧ q1.2.2.2.2 = q1.2.2.2.2 ∧ playN R (plnTo L g) = playN R (plnTo L g) ∧ plnTo L g = plnTo L g ∧ startsN R L = startsN R L ∧ l = l ∧ F = F ∧ D = D ∧ hh = hh ∧ mm = mm ∧ ss = ss ∧ ff = ff ∧ uu = uu ∧ True) ∧ ∀ (g_2 : Nat), let q4 := (wantTo R (plnTo L g) g_1 ++ if idxN q1.1 R < g_2 then partN (rlOf R q1.1) q16 else []); let q8 := (List.getD R g_2 r0); let q28 := (Int.toNat (q1.2.2.1 - q8.2.1) - Int.toNat (q1.2.1 - q8.2.1)); let q32 := (List.drop (Int.toNat (q1.2.1 - q8.2.1)) q8.2.2); Nat.le g_2 q31 → splitB (decide ((↑g_2 : Int) < q13)) (((0 : Int) ≤ (↑g_2 : Int) ∧ (↑g_2 : Int) < q13) ∧ splitB (q8.1 == q1.1) (fits IntKind.i64 (q1.2.1 - q8.2.1) ∧ fits IntKind.i64 (q1.2.2.1 - q8.2.1) ∧ ((0 : Int) ≤ q1.2.1 - q8.2.1 ∧ q1.2.1 - q8.2.1 ≤ q1.2.2.1 - q8.2.1 ∧ q1.2.2.1 - q8.2.1 ≤ (↑(List.length q8.2.2) : Int)) ∧ room (List.length q4 + List.length (List.take q28 q32)) (8 : Nat) ∧ fits IntKind.i64 ((↑g_2 : Int) + (1 : Int)) ∧ ∃ (g' : Nat), Nat.le g' q31 ∧ List.length R - g' < List.length R - g_2 ∧ (↑g_2 : Int) + (1 : Int) = (↑g' : Int) ∧ q13 = q13 ∧ R = R ∧ (↑g_1 : Int) = (↑g_1 : Int) ∧ q5 = q5 ∧ chkEds R (plnTo L g) = chkEds R (plnTo L g) ∧ lenN R L = lenN R L ∧ R = R ∧ L = L ∧ (q4 ++ List.take q28 q32 = wantTo R (plnTo L g) g_1 ++ if idxN q1.1 R < g' then partN (rlOf R q1.1) q16 else []) ∧ q1.1 = q1.1 ∧ q1.2.1 = q1.2.1 ∧ q1.2.2.1 = q1.2.2.1 ∧ q1.2.2.2.1 = q1.2.2.2.1 ∧ q1.2.2.2.2 = q1.2.2.2.2 ∧ playN R (plnTo L g) = playN R (plnTo L g) ∧ plnTo L g = plnTo L g ∧ startsN R L = startsN R L ∧ l = l ∧ F = F ∧ D = D ∧ hh = hh ∧ mm = mm ∧ ss = ss ∧ ff = ff ∧ uu = uu ∧ True) (fits IntKind.i64 ((↑g_2 : Int) + (1 : Int)) ∧ ∃ (g' : Nat), Nat.le g' q31 ∧ List.length R - g' < List.length R - g_2 ∧ (↑g_2 : Int) + (1 : Int) = (↑g' : Int) ∧ q13 = q13 ∧ R = R ∧ (↑g_1 : Int) = (↑g_1 : Int) ∧ q5 = q5 ∧ chkEds R (plnTo L g) = chkEds R (plnTo L g) ∧ lenN R L = lenN R L ∧ R = R ∧ L = L ∧ (q4 = wantTo R (plnTo L g) g_1 ++ if idxN q1.1 R < g' then partN (rlOf R q1.1) q16 else []) ∧ q1.1 = q1.1 ∧ q1.2.1 = q1.2.1 ∧ q1.2.2.1 = q1.2.2.1 ∧ q1.2.2.2.1 = q1.2.2.2.1 ∧ q1.2.2.2.2 = q1.2.2.2.2 ∧ playN R (plnTo L g) = playN R (plnTo L g) ∧ plnTo L g = plnTo L g ∧ startsN R L = startsN R L ∧ l = l ∧ F = F ∧ D = D ∧ hh = hh ∧ mm = mm ∧ ss = ss ∧ ff = ff ∧ uu = uu ∧ True)) (fits IntKind.i64 ((↑g_1 : Int) + (1 : Int)) ∧ ∃ (g' : Nat), Nat.le g' q25 ∧ List.length (plnTo L g) - g' < List.length (plnTo L g) - g_1 ∧ (↑g_1 : Int) + (1 : Int) = (↑g' : Int) ∧ q5 = q5 ∧ chkEds R (plnTo L g) = chkEds R (plnTo L g) ∧ lenN R L = lenN R L ∧ R = R ∧ L = L ∧ q4 = wantTo R (plnTo L g) g' ∧ playN R (plnTo L g) = playN R (plnTo L g) ∧ plnTo L g = plnTo L g ∧ startsN R L = startsN R L ∧ l = l ∧ F = F ∧ D = D ∧ hh = hh ∧ mm = mm ∧ ss = ss ∧ ff = ff ∧ uu = uu ∧ True)) (((chkEds R (plnTo L g) != (0 : Int)) = false → List.length (playN R (plnTo L g)) ≤ q10) ∧ splitB (bif chkEds R (plnTo L g) != (0 : Int) then true else !decide (playN R (plnTo L g) = wantTo R (plnTo L g) g_1)) q15 (List.length R ≤ q9 ∧ (∀ (r : Rl), r ∈ R → List.length r.2.2 ≤ q9) ∧ List.length L ≤ q9 ∧ List.length R ≤ q10 ∧ (∀ (r : Rl), r ∈ R → List.length r.2.2 ≤ q9) ∧ List.length L ≤ q10 ∧ StOk q20 ∧ RateOk F D ∧ RateOk F D ∧ LabOk F D hh mm ss ff ∧ splitB q11 q15 ((∃ (g_2 : Nat), Nat.le g_2 q22 ∧ (0 : Int) = (↑g_2 : Int) ∧ q6 = q6 ∧ frameN F D hh mm ss ff = frameN F D hh mm ss ff ∧ dayN F D = dayN F D ∧ R = R ∧ L = L ∧ q7 ∧ L = L ∧ wantTo R (plnTo L g) g_1 = wantTo R (plnTo L g) g_1 ∧ playN R (plnTo L g) = playN R (plnTo L g) ∧ plnTo L g = plnTo L g ∧ startsN R L = startsN R L ∧ l = l ∧ F = F ∧ D = D ∧ hh = hh ∧ mm = mm ∧ ss = ss ∧ ff = ff ∧ uu = uu ∧ True) ∧ ∀ (g_2 : Nat), let q18 := (List.getD q0 g_2 q3); let q26 := (frameN F D hh mm ss ff + List.getD (startsN R L) g_2 (0 : Int)); Nat.le g_2 q22 → splitB (decide ((↑g_2 : Int) < q6)) (((0 : Int) ≤ (↑g_2 : Int) ∧ (↑g_2 : Int) < q6) ∧ g_2 < List.length q0 ∧ RateOk F D ∧ LabOk F D q18.1 q18.2.1 q18.2.2.1 q18.2.2.2 ∧ (q14 = false → (0 : Int) ≤ (↑g_2 : Int) ∧ (↑g_2 : Int) < q24) ∧ (q14 = false → g_2 < List.length (startsN R L)) ∧ (q14 = false → fits IntKind.i64 q26) ∧ (q14 = false → (0 : Int) ≤ frameN F D hh mm ss ff + List.getD (startsN R L) g_2 (0 : Int) ∧ (0 : Int) < dayN F D) ∧ splitB (bif (0 : Int) != (0 : Int) then true else frameN F D q18.1 q18.2.1 q18.2.2.1 q18.2.2.2 != q26 % dayN F D) q15 (fits IntKind.i64 ((↑g_2 : Int) + (1 : Int)) ∧ ∃ (g' : Nat), Nat.le g' q22 ∧ List.length q0 - g' < List.length q0 - g_2 ∧ (↑g_2 : Int) + (1 : Int) = (↑g' : Int) ∧ q6 = q6 ∧ frameN F D hh mm ss ff = frameN F D hh mm ss ff ∧ dayN F D = dayN F D ∧ R = R ∧ L = L ∧ q7 ∧ L = L ∧ wantTo R (plnTo L g) g_1 = wantTo R (plnTo L g) g_1 ∧ playN R (plnTo L g) = playN R (plnTo L g) ∧ plnTo L g = plnTo L g ∧ startsN R L = startsN R L ∧ l = l ∧ F = F ∧ D = D ∧ hh = hh ∧ mm = mm ∧ ss = ss ∧ ff = ff ∧ uu = uu ∧ True)) (true = true ∧ True))))) (List.length R ≤ q9 ∧ (∀ (r : Rl), r ∈ R → List.length r.2.2 ≤ q9) ∧ List.length L ≤ q9 ∧ List.length R ≤ q10 ∧ (∀ (r : Rl), r ∈ R → List.length r.2.2 ≤ q9) ∧ List.length L ≤ q10 ∧ StOk q20 ∧ RateOk F D ∧ RateOk F D ∧ LabOk F D hh mm ss ff ∧ splitB q11 q15 ((∃ (g_1 : Nat), Nat.le g_1 q22 ∧ (0 : Int) = (↑g_1 : Int) ∧ q6 = q6 ∧ frameN F D hh mm ss ff = frameN F D hh mm ss ff ∧ dayN F D = dayN F D ∧ R = R ∧ L = L ∧ q7 ∧ L = L ∧ plnTo L g = plnTo L g ∧ startsN R L = startsN R L ∧ l = l ∧ F = F ∧ D = D ∧ hh = hh ∧ mm = mm ∧ ss = ss ∧ ff = ff ∧ uu = uu ∧ True) ∧ ∀ (g_1 : Nat), let q19 := (List.getD q0 g_1 q3); let q27 := (frameN F D hh mm ss ff + List.getD (startsN R L) g_1 (0 : Int)); Nat.le g_1 q22 → splitB (decide ((↑g_1 : Int) < q6)) (((0 : Int) ≤ (↑g_1 : Int) ∧ (↑g_1 : Int) < q6) ∧ g_1 < List.length q0 ∧ RateOk F D ∧ LabOk F D q19.1 q19.2.1 q19.2.2.1 q19.2.2.2 ∧ (q14 = false → (0 : Int) ≤ (↑g_1 : Int) ∧ (↑g_1 : Int) < q24) ∧ (q14 = false → g_1 < List.length (startsN R L)) ∧ (q14 = false → fits IntKind.i64 q27) ∧ (q14 = false → (0 : Int) ≤ frameN F D hh mm ss ff + List.getD (startsN R L) g_1 (0 : Int) ∧ (0 : Int) < dayN F D) ∧ splitB (bif (0 : Int) != (0 : Int) then true else frameN F D q19.1 q19.2.1 q19.2.2.1 q19.2.2.2 != q27 % dayN F D) q15 (fits IntKind.i64 ((↑g_1 : Int) + (1 : Int)) ∧ ∃ (g' : Nat), Nat.le g' q22 ∧ List.length q0 - g' < List.length q0 - g_1 ∧ (↑g_1 : Int) + (1 : Int) = (↑g' : Int) ∧ q6 = q6 ∧ frameN F D hh mm ss ff = frameN F D hh mm ss ff ∧ dayN F D = dayN F D ∧ R = R ∧ L = L ∧ q7 ∧ L = L ∧ plnTo L g = plnTo L g ∧ startsN R L = startsN R L ∧ l = l ∧ F = F ∧ D = D ∧ hh = hh ∧ mm = mm ∧ ss = ss ∧ ff = ff ∧ uu = uu ∧ True)) (true = true ∧ True))))))))) := by
  kernel_rfl
end Go.Sx

/- Plain laws of short lists, of lists without fades, and of cadences undone. -/
namespace Go.Sx
open U

/-! ### Short lists. -/
theorem begN_short {R : List Rl} {L : List Ed} (h : ListOk R L) {c : Nat} (hs : ∀ r ∈ R, r.2.2.length ≤ c) : ∀ n : Nat, n ≤ L.length → begN L n ≤ (c : Int) * n
  | 0, _ => by simp [begN]
  | n + 1, hn => by
    have ih := begN_short h hs n (by omega)
    have hE := chkEd_ok (h.ed n (by omega))
    have h1 := hE.lo
    have h2 := hE.hi
    have h3 := hs _ (getD_mem (d := r0) hE.idx)
    have h4 : (rlOf R (L.getD n e0).1).2.2.length ≤ c := h3
    unfold endR at h2
    simp only [begN]
    have e : (c : Int) * ((n + 1 : Nat) : Int) = (c : Int) * n + c := by
      rw [Int.natCast_add, Int.mul_add]; simp
    omega

/-! ### Cadences undone. -/
section
variable {l : List Int} (h : chkCad l = 0)
include h
theorem fld_mono (m : Nat) : ∀ n, m ≤ n → (fldTo l m).length + (n - m) ≤ (fldTo l n).length
  | 0, hm => by
    have : m = 0 := by omega
    subst this; simp
  | n + 1, hm => by
    by_cases e : m = n + 1
    · subst e; simp
    · have ih := fld_mono m n (by omega)
      have := fld_cnt h n
      simp only [fldTo, List.length_append, List.length_replicate]
      omega
omit h in
theorem und_spec {n : Nat} (hn : n ≤ 256) : undN l (pullN l n) ≤ n ∧ pullN l (undN l (pullN l n)) = pullN l n := by
  cases hf : (List.range 257).find? (fun m => decide (pullN l m = pullN l n)) with
  | none =>
    rw [List.find?_eq_none] at hf
    exact absurd (decide_eq_true rfl) (hf n (List.mem_range.2 (by omega)))
  | some i =>
    have e : undN l (pullN l n) = i := by
      unfold undN
      rw [hf]; rfl
    rw [List.find?_range_eq_some] at hf
    rw [e]
    refine ⟨?_, of_decide_eq_true hf.1⟩
    apply Classical.byContradiction
    intro hc
    have := hf.2.2 n (by omega)
    simp at this
theorem und_near {n : Nat} (hn : n ≤ 256) : n ≤ undN l (pullN l n) + 1 := by
  obtain ⟨h1, h2⟩ := und_spec (l := l) hn
  have h3 := congrArg List.length h2
  unfold pullN at h3
  rw [prs_len, prs_len] at h3
  have := fld_mono h _ n h1
  unfold pullN at *
  omega
theorem pull_len (n : Nat) : (pullN l n).length ≤ 2 * n := by
  unfold pullN
  rw [prs_len]
  have := fld_len h n
  omega
/-- A pair and the frame before it. -/
theorem pull_at (n g : Nat) (hg : g < (pullN l n).length) :
    (0 ≤ lastP (pullN l n) g ∧ lastP (pullN l n) g ≤ ((pullN l n).getD g [0, 0]).getD 0 0 ∧ ((pullN l n).getD g [0, 0]).getD 0 0 ≤ lastP (pullN l n) g + 1) ∧ (((pullN l n).getD g [0, 0]).getD 0 0 ≤ ((pullN l n).getD g [0, 0]).getD 1 0 ∧ ((pullN l n).getD g [0, 0]).getD 1 0 ≤ ((pullN l n).getD g [0, 0]).getD 0 0 + 1) ∧ ((pullN l n).getD g [0, 0]).getD 1 0 < n := by
  unfold pullN at hg
  rw [prs_len] at hg
  have e := prs_get (fldTo l n) _ g hg
  have f0 := fld_steps h n (2 * g) (by omega)
  have f1 := fld_steps h n (2 * g + 1) (by omega)
  have e0 : ((pullN l n).getD g [0, 0]).getD 0 0 = (fldTo l n).getD (2 * g) 0 := by unfold pullN; rw [e]; rfl
  have e1 : ((pullN l n).getD g [0, 0]).getD 1 0 = (fldTo l n).getD (2 * g + 1) 0 := by unfold pullN; rw [e]; rfl
  rw [e0, e1]
  have f1' := f1.2.2 (by omega)
  have e2 : 2 * g + 1 - 1 = 2 * g := by omega
  rw [e2] at f1'
  cases g with
  | zero =>
    have e3 : lastP (pullN l n) 0 = 0 := rfl
    have f0' := f0.2.1 rfl
    rw [e3]
    omega
  | succ k =>
    have e4 := prs_get (fldTo l n) _ k (Nat.lt_of_succ_lt hg)
    have e3 : lastP (pullN l n) (k + 1) = (fldTo l n).getD (2 * k + 1) 0 := by
      show ((pullN l n).getD k [0, 0]).getD 1 0 = _
      unfold pullN; rw [e4]; rfl
    have f0' := f0.2.2 (by omega)
    have e5 : 2 * (k + 1) - 1 = 2 * k + 1 := by omega
    rw [e5] at f0'
    have f2 := fld_steps h n (2 * k + 1) (by omega)
    rw [e3]
    omega
end
theorem pull_two {l : List Int} (n : Nat) : ∀ x ∈ pullN l n, x.length = 2 := fun x hx => prs_two _ _ x hx

/-! ### Lists without fades. -/
theorem setD_get {α : Type} (l : List α) (n j : Nat) (y d : α) : (l.set n y).getD j d = if n = j ∧ n < l.length then y else l.getD j d := by
  rw [List.getD_eq_getElem?_getD, List.getD_eq_getElem?_getD, List.getElem?_set]
  by_cases e : n = j
  · subst e
    by_cases h : n < l.length
    · simp [h]
    · simp [h]
  · simp [e]
theorem cut_get {α : Type} (l : List α) (a c i : Nat) (d : α) (h2 : a + i < l.length) (h3 : i < ((l.drop a).take c).length) : ((l.drop a).take c)[i] = l.getD (a + i) d := by
  rw [List.getElem_take, List.getElem_drop, getD_of h2]
theorem pln_len (L : List Ed) : ∀ n, (plnTo L n).length = L.length
  | 0 => rfl
  | n + 1 => by simp [plnTo, pln_len L n]
theorem pln_get (L : List Ed) (d : Ed) : ∀ n j, j < L.length → (plnTo L n).getD j d = if j < n then ((L.getD j d).1, (L.getD j d).2.1, (L.getD j d).2.2.1, 0, (L.getD j d).2.2.2.2) else L.getD j d
  | 0, j, _ => by simp [plnTo]
  | n + 1, j, hj => by
    have ih := pln_get L d n j hj
    have hl := pln_len L n
    simp only [plnTo]
    rw [setD_get]
    by_cases e : n = j
    · subst e
      have h1 := ih
      rw [if_neg (by omega)] at h1
      have h2 : (plnTo L n).getD n e0 = L.getD n d := by
        rw [← h1, getD_of (by omega), getD_of (by omega)]
      rw [if_pos ⟨rfl, by omega⟩, if_pos (by omega), h2]
    · rw [if_neg (by omega), ih]
      by_cases e3 : j < n
      · rw [if_pos e3, if_pos (by omega)]
      · rw [if_neg e3, if_neg (by omega)]
theorem pln_mem {L : List Ed} {n : Nat} {x : Ed} (h : x ∈ plnTo L n) : ∃ y ∈ L, x.1 = y.1 ∧ x.2.1 = y.2.1 ∧ x.2.2.1 = y.2.2.1 := by
  obtain ⟨j, hj, rfl⟩ := mem_getD e0 h
  rw [pln_len] at hj
  refine ⟨L.getD j e0, getD_mem hj, ?_⟩
  rw [pln_get L e0 n j hj]
  split <;> exact ⟨rfl, rfl, rfl⟩

theorem mix_1 {R : List Rl} (hr : chkRs R = 0) {x : Tk} (h : TkOk R x) (h1 : x.2.2 = (1, 1)) : mixN (mapR R R.length) [x] = (rlOf R x.1).2.2.getD (x.2.1 - (rlOf R x.1).2.1).toNat 0 := by
  have hc := (take_check hr h).2
  unfold mixN
  have : mixTo (mapR R R.length) [x] [x].length = ((rlOf R x.1).2.2.getD (x.2.1 - (rlOf R x.1).2.1).toNat 0, 1) := by
    show mixTo (mapR R R.length) [x] 1 = _
    rw [mixTo_succ (rs_nodup hr)]
    have e : List.getD [x] 0 tk0 = x := rfl
    rw [e, h1]
    simp [mixTo]
  rw [this]
  dsimp only
  omega
theorem idx_reel {R : List Rl} (hd : NoDup R) {j : Nat} (hj : j < R.length) : idxN (R.getD j r0).1 R = j := by
  have h1 := idxN_at (nm := (R.getD j r0).1) (R := R) (d := r0) hj rfl
  apply Classical.byContradiction
  intro hc
  have := idxN_name (R := R) (nm := (R.getD j r0).1) (by omega)
  exact hd _ j (by omega) hj this

/-- What is played at a frame of an edit without a fade. -/
theorem play_at {R : List Rl} {L : List Ed} (h : ListOk R L) {k : Nat} (hk : k < L.length) (hf : (L.getD k e0).2.2.2.1 = 0) {t : Int} (h1 : begN L k ≤ t) (h2 : t < begN L (k + 1)) :
    mixN (mapR R R.length) (takesN (ls L) t) = (rlOf R (L.getD k e0).1).2.2.getD ((L.getD k e0).2.1 + (t - begN L k) - (rlOf R (L.getD k e0).1).2.1).toNat 0 := by
  have hb := begN_mono h.eds (show k + 1 ≤ L.length by omega) (Nat.le_refl _)
  have h0 := begN_mono h.eds (show 0 ≤ k by omega) (by omega)
  have h0' : begN L 0 = 0 := rfl
  have ht : t < lenL L := by unfold lenL; omega
  obtain ⟨k', hk', e, b1, b2⟩ := seen_at h (show 0 ≤ t by omega) ht
  have ek : k' = k := by
    apply Classical.byContradiction
    intro hc
    by_cases hl : k' < k
    · have := begN_mono h.eds (show k' + 1 ≤ k by omega) (by omega)
      omega
    · have := begN_mono h.eds (show k + 1 ≤ k' by omega) (by omega)
      omega
  subst ek
  have et : takesN (ls L) t = [((L.getD k' e0).1, (L.getD k' e0).2.1 + (t - begN L k'), 1, 1)] := by
    unfold takesN
    rw [e, ls_get L hk']
    unfold takesE
    dsimp only
    rw [hf, if_pos (by omega)]
  have hok := (takes_ok h (show 0 ≤ t by omega) ht).2
  rw [et] at hok ⊢
  exact mix_1 h.rs (hok _ List.mem_cons_self) rfl

theorem play_to {R : List Rl} {L : List Ed} (h : ListOk R L) (hf : ∀ k, k < L.length → (L.getD k e0).2.2.2.1 = 0) : ∀ n, n ≤ L.length →
    (List.range (begN L n).toNat).map (fun t : Nat => mixN (mapR R R.length) (takesN (ls L) t)) = wantTo R L n
  | 0, _ => rfl
  | n + 1, hn => by
    have ih := play_to h hf n (by omega)
    have h0 := begN_mono h.eds (show 0 ≤ n by omega) (by omega)
    have h0' : begN L 0 = 0 := rfl
    have hlt := begN_lt h.eds (show n < L.length by omega)
    have hE := chkEd_ok (h.ed n (by omega))
    have e1 := hE.lo
    have e2 := hE.hi
    unfold endR at e2
    have eb : begN L (n + 1) = begN L n + ((L.getD n e0).2.2.1 - (L.getD n e0).2.1) := rfl
    have ebn : (begN L (n + 1)).toNat = (begN L n).toNat + ((L.getD n e0).2.2.1 - (L.getD n e0).2.1).toNat := by omega
    simp only [wantTo]
    rw [ebn, List.range_add, List.map_append, ih, List.map_map]
    congr 1
    have hlen : (partN (rlOf R (L.getD n e0).1) (L.getD n e0)).length = ((L.getD n e0).2.2.1 - (L.getD n e0).2.1).toNat := by
      unfold partN
      rw [List.length_take, List.length_drop]
      omega
    apply List.ext_getElem
    · rw [hlen]; simp
    · intro i h3 h4
      have hi : i < ((L.getD n e0).2.2.1 - (L.getD n e0).2.1).toNat := by simpa using h3
      simp only [List.getElem_map, List.getElem_range, Function.comp_apply]
      rw [play_at h (show n < L.length by omega) (hf n (by omega)) (by omega) (by omega)]
      have e5 : ((L.getD n e0).2.1 + ((((begN L n).toNat + i : Nat) : Int) - begN L n) - (rlOf R (L.getD n e0).1).2.1).toNat = ((L.getD n e0).2.1 - (rlOf R (L.getD n e0).1).2.1).toNat + i := by omega
      rw [e5]
      exact (cut_get _ _ _ _ 0 (by omega) h4).symm
theorem play_plain {R : List Rl} {L : List Ed} (h : chkEds R (plnTo L L.length) = 0) : playN R (plnTo L L.length) = wantTo R (plnTo L L.length) L.length := by
  have hk := chkEds_zero.1 h
  unfold playN
  rw [if_pos h]
  have := play_to hk (fun k hk' => by
    rw [pln_len] at hk'
    rw [pln_get L e0 _ k hk', if_pos hk']) (plnTo L L.length).length (Nat.le_refl _)
  rw [pln_len] at this
  have e : begN (plnTo L L.length) L.length = lenL (plnTo L L.length) := by unfold lenL; rw [pln_len]
  rw [e] at this
  exact this
theorem want_len {R : List Rl} (hs : ∀ r ∈ R, r.2.2.length ≤ 20) (L : List Ed) : ∀ n, (wantTo R L n).length ≤ 20 * n
  | 0 => Nat.le_refl _
  | n + 1 => by
    have ih := want_len hs L n
    have h2 : (rlOf R (L.getD n e0).1).2.2.length ≤ 20 := by
      by_cases h : idxN (L.getD n e0).1 R < R.length
      · exact hs _ (getD_mem h)
      · unfold rlOf
        rw [List.getD_eq_getElem?_getD, List.getElem?_eq_none (by omega)]
        exact Nat.zero_le _
    simp only [wantTo, List.length_append]
    unfold partN
    rw [List.length_take, List.length_drop]
    omega
end Go.Sx
