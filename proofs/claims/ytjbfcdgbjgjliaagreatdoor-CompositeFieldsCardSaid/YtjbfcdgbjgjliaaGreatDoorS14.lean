/- A verified symbolic run of functions, part 14: lemmas, no claim of their own. -/
import Derived.Test.YtjbfcdgbjgjliaaGreatDoorS13
/- What the engine asks, written out (printed by a program). -/
namespace Go.Sx
open U
theorem vc116 (l : List Int) (line den : Int) : exF (env false [(170, sp170), (120, sp120)] [fb107, fb167]) h116 3 116 Proofs.Tryz.f116 [.one (.sl (.int .i64) l), iV line, iV den] (.tup [.one (.frs (.int .i64) (diffN 0 l line den)), .one (.frs (.int .i64) (diffN 1 l line den))]) = (let q4 := (↑(List.length l) : Int); let q6 := (List.length l / (4 : Nat)); let q7 := (1000000000 : Int); ((0 : Int) ≤ q4 ∧ (0 : Int) < (4 : Int) ∧ fits IntKind.i64 (q4 / (4 : Int))) ∧ (∃ (g : Nat), Nat.le g q6 ∧ (0 : Int) = (↑g : Int) ∧ q4 / (4 : Int) = q4 / (4 : Int) ∧ (tab g fun (c : Nat) => diffAt (0 : Nat) l c line den) = [] ∧ (tab g fun (c : Nat) => diffAt (1 : Nat) l c line den) = [] ∧ l = l ∧ den = den ∧ line = line ∧ True) ∧ ∀ (g : Nat), let q5 := ((4 : Int) * (↑g : Int)); let q3 := (List.take (Int.toNat ((4 : Int) * (↑g : Int) + (4 : Int)) - Int.toNat q5) (List.drop (Int.toNat q5) l)); let q0 := (List.take (4 : Nat) q3); let q1 := (List.getD q0 (0 : Nat) (0 : Int) - List.getD q0 (2 : Nat) (0 : Int)); let q2 := (List.getD q0 (1 : Nat) (0 : Int) - List.getD q0 (3 : Nat) (0 : Int)); Nat.le g q6 → splitB (decide ((↑g : Int) < q4 / (4 : Int))) (fits IntKind.i64 q5 ∧ fits IntKind.i64 q5 ∧ fits IntKind.i64 ((4 : Int) * (↑g : Int) + (4 : Int)) ∧ ((0 : Int) ≤ (4 : Int) * (↑g : Int) ∧ (4 : Int) * (↑g : Int) ≤ (4 : Int) * (↑g : Int) + (4 : Int) ∧ (4 : Int) * (↑g : Int) + (4 : Int) ≤ q4) ∧ (4 : Nat) ≤ List.length q3 ∧ (0 : Int) ≤ line ∧ ((0 : Int) ≤ (0 : Int) ∧ (0 : Int) < (4 : Int)) ∧ (0 : Nat) < List.length q0 ∧ ((0 : Int) ≤ (2 : Int) ∧ (2 : Int) < (4 : Int)) ∧ (2 : Nat) < List.length q0 ∧ fits IntKind.i64 q1 ∧ fits IntKind.i64 (signI line * q1) ∧ ((-1000000000 : Int) ≤ signI line * q1 ∧ signI line * q1 ≤ q7) ∧ ((0 : Int) < den ∧ den ≤ q7) ∧ room (List.length (tab g fun (c : Nat) => diffAt (0 : Nat) l c line den) + (1 : Nat)) (8 : Nat) ∧ (0 : Int) ≤ line ∧ ((0 : Int) ≤ (1 : Int) ∧ (1 : Int) < (4 : Int)) ∧ (1 : Nat) < List.length q0 ∧ ((0 : Int) ≤ (3 : Int) ∧ (3 : Int) < (4 : Int)) ∧ (3 : Nat) < List.length q0 ∧ fits IntKind.i64 q2 ∧ fits IntKind.i64 (signI line * q2) ∧ ((-1000000000 : Int) ≤ signI line * q2 ∧ signI line * q2 ≤ q7) ∧ ((0 : Int) < den ∧ den ≤ q7) ∧ room (List.length (tab g fun (c : Nat) => diffAt (1 : Nat) l c line den) + (1 : Nat)) (8 : Nat) ∧ fits IntKind.i64 ((↑g : Int) + (1 : Int)) ∧ ∃ (g' : Nat), Nat.le g' q6 ∧ List.length l / (4 : Nat) - g' < List.length l / (4 : Nat) - g ∧ (↑g : Int) + (1 : Int) = (↑g' : Int) ∧ q4 / (4 : Int) = q4 / (4 : Int) ∧ ((tab g fun (c : Nat) => diffAt (0 : Nat) l c line den) ++ [roundI (signI line * q1) den] = tab g' fun (c : Nat) => diffAt (0 : Nat) l c line den) ∧ ((tab g fun (c : Nat) => diffAt (1 : Nat) l c line den) ++ [roundI (signI line * q2) den] = tab g' fun (c : Nat) => diffAt (1 : Nat) l c line den) ∧ l = l ∧ den = den ∧ line = line ∧ True) ((tab g fun (c : Nat) => diffAt (0 : Nat) l c line den) = diffN (0 : Nat) l line den ∧ (tab g fun (c : Nat) => diffAt (1 : Nat) l c line den) = diffN (1 : Nat) l line den ∧ True)) := by
  kernel_rfl
theorem vc43 (l : List Nat) (line : Int) : exFr (env false [(41, sp41), (96, sp96), (95, sp95), (108, sp108), (116, sp116), (163, sp163), (117, sp117), (118, sp118), (138, sp138)] [fb111, fb168, fb112]) h0 3 43 Proofs.Tryz.f43 [.one (.sl (.flt .f32) l), iV line] (.tup [pV (bndP l line), iV (bndE l line)]) = (let q1 := (diffN (0 : Nat) (sixs l) line (2 : Int)); let q2 := (diffN (1 : Nat) (sixs l) line (2 : Int)); let q0 := (carI q1 q2 (signI line)); let q3 := (combI minusI (sixs l) q0); let q4 := (1000000 : Int); (2 : Nat) ≤ (1000000000 : Nat) ∧ splitB (first [chkSig l, within line (0 : Int) (10000000 : Int)] != (0 : Int)) ((bndP l line).1 = [] ∧ (bndP l line).2.1 = [] ∧ (bndP l line).2.2 = [] ∧ first [chkSig l, within line (0 : Int) (10000000 : Int)] = bndE l line ∧ True) (List.length l ≤ (1000000 : Nat) ∧ OkS l ∧ List.length (sixs l) ≤ (100000 : Nat) ∧ Bd q4 (sixs l) ∧ (0 : Int) ≤ line ∧ ((0 : Int) < (2 : Int) ∧ (2 : Int) ≤ (1000 : Int)) ∧ List.length q1 ≤ (100000 : Nat) ∧ List.length q2 = List.length q1 ∧ Bd q4 q1 ∧ Bd q4 q2 ∧ (0 : Int) ≤ line ∧ List.length (sixs l) ≤ (100000 : Nat) ∧ List.length q0 = List.length (sixs l) ∧ Bd q4 (sixs l) ∧ Bd q4 q0 ∧ List.length q3 ≤ (1000000 : Nat) ∧ List.length q1 ≤ (1000000 : Nat) ∧ List.length q2 ≤ (1000000 : Nat) ∧ (3 : Nat) ≤ (1000000000 : Nat) ∧ splitB (first [lgE q3, lgE q1, lgE q2] != (0 : Int)) ((bndP l line).1 = [] ∧ (bndP l line).2.1 = [] ∧ (bndP l line).2.2 = [] ∧ first [lgE q3, lgE q1, lgE q2] = bndE l line ∧ True) (smpsN q3 = (bndP l line).1 ∧ smpsN q1 = (bndP l line).2.1 ∧ smpsN q2 = (bndP l line).2.2 ∧ (0 : Int) = bndE l line ∧ True))) := by
  kernel_rfl
theorem vc125 (l : List Int) (c line den : Int) : exF (env false [(165, sp165), (87, sp87)] []) h0 0 125 Proofs.Tryz.f125 [.one (.sl (.int .i64) l), iV c, iV line, iV den] (.tup [iV (diffAt 0 l c.toNat line den), iV (diffAt 1 l c.toNat line den)]) = ((0 : Int) ≤ line ∧ fits IntKind.i64 ((4 : Int) * c) ∧ ((0 : Int) ≤ (4 : Int) * c ∧ (4 : Int) * c < (↑(List.length l) : Int)) ∧ fits IntKind.i64 ((4 : Int) * c) ∧ fits IntKind.i64 ((4 : Int) * c + (2 : Int)) ∧ ((0 : Int) ≤ (4 : Int) * c + (2 : Int) ∧ (4 : Int) * c + (2 : Int) < (↑(List.length l) : Int)) ∧ fits IntKind.i64 (List.getD l (Int.toNat ((4 : Int) * c)) (0 : Int) - List.getD l (Int.toNat ((4 : Int) * c + (2 : Int))) (0 : Int)) ∧ fits IntKind.i64 (signI line * (List.getD l (Int.toNat ((4 : Int) * c)) (0 : Int) - List.getD l (Int.toNat ((4 : Int) * c + (2 : Int))) (0 : Int))) ∧ ((-1000000000 : Int) ≤ signI line * (List.getD l (Int.toNat ((4 : Int) * c)) (0 : Int) - List.getD l (Int.toNat ((4 : Int) * c + (2 : Int))) (0 : Int)) ∧ signI line * (List.getD l (Int.toNat ((4 : Int) * c)) (0 : Int) - List.getD l (Int.toNat ((4 : Int) * c + (2 : Int))) (0 : Int)) ≤ (1000000000 : Int)) ∧ ((0 : Int) < den ∧ den ≤ (1000000000 : Int)) ∧ (0 : Int) ≤ line ∧ fits IntKind.i64 ((4 : Int) * c) ∧ fits IntKind.i64 ((4 : Int) * c + (1 : Int)) ∧ ((0 : Int) ≤ (4 : Int) * c + (1 : Int) ∧ (4 : Int) * c + (1 : Int) < (↑(List.length l) : Int)) ∧ fits IntKind.i64 ((4 : Int) * c) ∧ fits IntKind.i64 ((4 : Int) * c + (3 : Int)) ∧ ((0 : Int) ≤ (4 : Int) * c + (3 : Int) ∧ (4 : Int) * c + (3 : Int) < (↑(List.length l) : Int)) ∧ fits IntKind.i64 (List.getD l (Int.toNat ((4 : Int) * c + (1 : Int))) (0 : Int) - List.getD l (Int.toNat ((4 : Int) * c + (3 : Int))) (0 : Int)) ∧ fits IntKind.i64 (signI line * (List.getD l (Int.toNat ((4 : Int) * c + (1 : Int))) (0 : Int) - List.getD l (Int.toNat ((4 : Int) * c + (3 : Int))) (0 : Int))) ∧ ((-1000000000 : Int) ≤ signI line * (List.getD l (Int.toNat ((4 : Int) * c + (1 : Int))) (0 : Int) - List.getD l (Int.toNat ((4 : Int) * c + (3 : Int))) (0 : Int)) ∧ signI line * (List.getD l (Int.toNat ((4 : Int) * c + (1 : Int))) (0 : Int) - List.getD l (Int.toNat ((4 : Int) * c + (3 : Int))) (0 : Int)) ≤ (1000000000 : Int)) ∧ ((0 : Int) < den ∧ den ≤ (1000000000 : Int)) ∧ roundI (signI line * (List.getD l (Int.toNat ((4 : Int) * c)) (0 : Int) - List.getD l (Int.toNat ((4 : Int) * c + (2 : Int))) (0 : Int))) den = diffAt (0 : Nat) l (Int.toNat c) line den ∧ roundI (signI line * (List.getD l (Int.toNat ((4 : Int) * c + (1 : Int))) (0 : Int) - List.getD l (Int.toNat ((4 : Int) * c + (3 : Int))) (0 : Int))) den = diffAt (1 : Nat) l (Int.toNat c) line den ∧ True) := by
  kernel_rfl
theorem vc169 (l : List Int) (c u v line : Int) : exF (env false [(101, sp101)] []) h44 0 169 Proofs.Tryz.f169 [.one (.sl (.int .i64) l), iV c, iV u, iV v, iV line] (.val (.one (.frs (.int .i64) (withN l c.toNat u v line)))) = ((∃ (g : Nat), Nat.le g (4 : Nat) ∧ (0 : Int) = (↑g : Int) ∧ l = l ∧ c = c ∧ u = u ∧ v = v ∧ line = line ∧ (tab g fun (n : Nat) => List.getD l ((4 : Nat) * Int.toNat c + n) (0 : Int) - carN u v n (signI line)) = [] ∧ True) ∧ ∀ (g : Nat), let q0 := ((4 : Int) * c + (↑g : Int)); Nat.le g (4 : Nat) → splitB (decide ((↑g : Int) < (4 : Int))) (fits IntKind.i64 ((4 : Int) * c) ∧ fits IntKind.i64 q0 ∧ ((0 : Int) ≤ (4 : Int) * c + (↑g : Int) ∧ (4 : Int) * c + (↑g : Int) < (↑(List.length l) : Int)) ∧ ((-1000000 : Int) ≤ u ∧ u ≤ (1000000 : Int)) ∧ ((-1000000 : Int) ≤ v ∧ v ≤ (1000000 : Int)) ∧ ((0 : Int) ≤ (↑g : Int) ∧ (↑g : Int) ≤ (3 : Int)) ∧ (0 : Int) ≤ line ∧ fits IntKind.i64 (List.getD l (Int.toNat q0) (0 : Int) - carN u v g (signI line)) ∧ room (List.length (tab g fun (n : Nat) => List.getD l ((4 : Nat) * Int.toNat c + n) (0 : Int) - carN u v n (signI line)) + (1 : Nat)) (8 : Nat) ∧ fits IntKind.i64 ((↑g : Int) + (1 : Int)) ∧ ∃ (g' : Nat), Nat.le g' (4 : Nat) ∧ (4 : Nat) - g' < (4 : Nat) - g ∧ (↑g : Int) + (1 : Int) = (↑g' : Int) ∧ l = l ∧ c = c ∧ u = u ∧ v = v ∧ line = line ∧ ((tab g fun (n : Nat) => List.getD l ((4 : Nat) * Int.toNat c + n) (0 : Int) - carN u v n (signI line)) ++ [List.getD l (Int.toNat q0) (0 : Int) - carN u v g (signI line)] = tab g' fun (n : Nat) => List.getD l ((4 : Nat) * Int.toNat c + n) (0 : Int) - carN u v n (signI line)) ∧ True) ((tab g fun (n : Nat) => List.getD l ((4 : Nat) * Int.toNat c + n) (0 : Int) - carN u v n (signI line)) = withN l (Int.toNat c) u v line ∧ True)) := by
  kernel_rfl
theorem vc113 (l : List Int) (c line : Int) : exF (env false [(125, sp125), (169, sp169)] []) h0 0 113 Proofs.Tryz.f113 [.one (.sl (.int .i64) l), iV c, iV line] (.tup [.one (.frs (.int .i64) (withN l c.toNat (diffAt 0 l c.toNat line 2) (diffAt 1 l c.toNat line 2) line)), iV (diffAt 0 l c.toNat line 2), iV (diffAt 1 l c.toNat line 2)]) = (Bd (1000000 : Int) l ∧ ((0 : Int) ≤ c ∧ (4 : Int) * c + (4 : Int) ≤ (↑(List.length l) : Int)) ∧ List.length l ≤ (100000 : Nat) ∧ (0 : Int) ≤ line ∧ ((0 : Int) < (2 : Int) ∧ (2 : Int) ≤ (1000 : Int)) ∧ Bd (1000000 : Int) l ∧ ((0 : Int) ≤ c ∧ (4 : Int) * c + (4 : Int) ≤ (↑(List.length l) : Int)) ∧ List.length l ≤ (100000 : Nat) ∧ ((-1000000 : Int) ≤ diffAt (0 : Nat) l (Int.toNat c) line (2 : Int) ∧ diffAt (0 : Nat) l (Int.toNat c) line (2 : Int) ≤ (1000000 : Int)) ∧ ((-1000000 : Int) ≤ diffAt (1 : Nat) l (Int.toNat c) line (2 : Int) ∧ diffAt (1 : Nat) l (Int.toNat c) line (2 : Int) ≤ (1000000 : Int)) ∧ (0 : Int) ≤ line ∧ withN l (Int.toNat c) (diffAt (0 : Nat) l (Int.toNat c) line (2 : Int)) (diffAt (1 : Nat) l (Int.toNat c) line (2 : Int)) line = withN l (Int.toNat c) (diffAt (0 : Nat) l (Int.toNat c) line (2 : Int)) (diffAt (1 : Nat) l (Int.toNat c) line (2 : Int)) line ∧ diffAt (0 : Nat) l (Int.toNat c) line (2 : Int) = diffAt (0 : Nat) l (Int.toNat c) line (2 : Int) ∧ diffAt (1 : Nat) l (Int.toNat c) line (2 : Int) = diffAt (1 : Nat) l (Int.toNat c) line (2 : Int) ∧ True) := by
  kernel_rfl
theorem vc44 (l : List Nat) (line : Int) : exFr (env false [(100, sp100), (113, sp113), (102, sp102), (22, sp22)] [fb114]) h44 3 44 Proofs.Tryz.f44 [.one (.sl (.flt .f32) l), iV line] (.tup [pV (partsP (bandI (sixs l) line)), iV (partsE (bandI (sixs l) line))]) = (let q0 := (apAt (sixs l) (sixs l) line (2 : Int)); let q1 := (partsP (bandI (sixs l) line)); let q2 := (↑(List.length (sixs l)) : Int); let q4 := (List.length (sixs l) / (4 : Nat)); List.length l ≤ (1000000 : Nat) ∧ OkS l ∧ (∃ (g : Nat), Nat.le g q4 ∧ (0 : Int) = (↑g : Int) ∧ line = line ∧ tab ((4 : Nat) * g) q0 = [] ∧ (tab g fun (c : Nat) => diffAt (0 : Nat) (sixs l) c line (2 : Int)) = [] ∧ (tab g fun (c : Nat) => diffAt (1 : Nat) (sixs l) c line (2 : Int)) = [] ∧ sixs l = sixs l ∧ True) ∧ ∀ (g : Nat), let q3 := (tab ((4 : Nat) * g) q0); Nat.le g q4 → ((0 : Int) ≤ q2 ∧ (0 : Int) < (4 : Int) ∧ fits IntKind.i64 (q2 / (4 : Int))) ∧ splitB (decide ((↑g : Int) < q2 / (4 : Int))) (Bd (400000 : Int) (sixs l) ∧ ((0 : Int) ≤ (↑g : Int) ∧ (4 : Int) * (↑g : Int) + (4 : Int) ≤ q2) ∧ List.length (sixs l) ≤ (100000 : Nat) ∧ (0 : Int) ≤ line ∧ room (List.length q3 + List.length (withN (sixs l) g (diffAt (0 : Nat) (sixs l) g line (2 : Int)) (diffAt (1 : Nat) (sixs l) g line (2 : Int)) line)) (8 : Nat) ∧ room (List.length (tab g fun (c : Nat) => diffAt (0 : Nat) (sixs l) c line (2 : Int)) + (1 : Nat)) (8 : Nat) ∧ room (List.length (tab g fun (c : Nat) => diffAt (1 : Nat) (sixs l) c line (2 : Int)) + (1 : Nat)) (8 : Nat) ∧ fits IntKind.i64 ((↑g : Int) + (1 : Int)) ∧ ∃ (g' : Nat), Nat.le g' q4 ∧ List.length (sixs l) / (4 : Nat) - g' < List.length (sixs l) / (4 : Nat) - g ∧ (↑g : Int) + (1 : Int) = (↑g' : Int) ∧ line = line ∧ tab ((4 : Nat) * g) q0 ++ withN (sixs l) g (diffAt (0 : Nat) (sixs l) g line (2 : Int)) (diffAt (1 : Nat) (sixs l) g line (2 : Int)) line = tab ((4 : Nat) * g') q0 ∧ ((tab g fun (c : Nat) => diffAt (0 : Nat) (sixs l) c line (2 : Int)) ++ [diffAt (0 : Nat) (sixs l) g line (2 : Int)] = tab g' fun (c : Nat) => diffAt (0 : Nat) (sixs l) c line (2 : Int)) ∧ ((tab g fun (c : Nat) => diffAt (1 : Nat) (sixs l) c line (2 : Int)) ++ [diffAt (1 : Nat) (sixs l) g line (2 : Int)] = tab g' fun (c : Nat) => diffAt (1 : Nat) (sixs l) c line (2 : Int)) ∧ sixs l = sixs l ∧ True) (List.length q3 ≤ (1000000 : Nat) ∧ List.length (tab g fun (c : Nat) => diffAt (0 : Nat) (sixs l) c line (2 : Int)) ≤ (1000000 : Nat) ∧ List.length (tab g fun (c : Nat) => diffAt (1 : Nat) (sixs l) c line (2 : Int)) ≤ (1000000 : Nat) ∧ (3 : Nat) ≤ (1000000000 : Nat) ∧ splitB (first [lgE q3, lgE (tab g fun (c : Nat) => diffAt (0 : Nat) (sixs l) c line (2 : Int)), lgE (tab g fun (c : Nat) => diffAt (1 : Nat) (sixs l) c line (2 : Int))] != (0 : Int)) (q1.1 = [] ∧ q1.2.1 = [] ∧ q1.2.2 = [] ∧ first [lgE q3, lgE (tab g fun (c : Nat) => diffAt (0 : Nat) (sixs l) c line (2 : Int)), lgE (tab g fun (c : Nat) => diffAt (1 : Nat) (sixs l) c line (2 : Int))] = partsE (bandI (sixs l) line) ∧ True) (smpsN q3 = q1.1 ∧ smpsN (tab g fun (c : Nat) => diffAt (0 : Nat) (sixs l) c line (2 : Int)) = q1.2.1 ∧ smpsN (tab g fun (c : Nat) => diffAt (1 : Nat) (sixs l) c line (2 : Int)) = q1.2.2 ∧ (0 : Int) = partsE (bandI (sixs l) line) ∧ True))) := by
  kernel_rfl
theorem vc45 (a b : Pt) : exF (env false [(27, sp27)] []) h0 0 45 Proofs.Tryz.f45 [pV a, pV b] (.val (bV (sameP a b))) = (List.length (Prod.fst a) ≤ (1000000000 : Nat) ∧ (sameS (Prod.fst a) (Prod.fst b) = true → List.length (Prod.fst (Prod.snd a)) ≤ (1000000000 : Nat)) ∧ ((bif sameS (Prod.fst a) (Prod.fst b) then sameS (Prod.fst (Prod.snd a)) (Prod.fst (Prod.snd b)) else false) = true → List.length (Prod.snd (Prod.snd a)) ≤ (1000000000 : Nat)) ∧ (bif bif sameS (Prod.fst a) (Prod.fst b) then sameS (Prod.fst (Prod.snd a)) (Prod.fst (Prod.snd b)) else false then sameS (Prod.snd (Prod.snd a)) (Prod.snd (Prod.snd b)) else false) = sameP a b ∧ True) := by
  kernel_rfl
theorem vc46 (y u v : List Nat) : exF (env false [] []) h0 0 46 Proofs.Tryz.f46 [ptV y u v] (.val (ptV y u v)) = (y = y ∧ u = u ∧ v = v ∧ True) := by
  kernel_rfl
end Go.Sx

/- Contracts. -/
namespace Go.Sx
open U
theorem fn116 (l : List Int) (line den : Int) (hl : l.length ≤ 100000) (h1 : Bd 1000000 l) (hn : 0 ≤ line) (hd : 0 < den ∧ den ≤ 1000) : Fn P1 gl1 116 [.one (.sl (.int .i64) l), iV line, iV den] (.tup [.one (.frs (.int .i64) (diffN 0 l line den)), .one (.frs (.int .i64) (diffN 1 l line den))]) true := by
  refine Fn.flat ?_ rfl
  refine fn_of false [(170, sp170), (120, sp120)] [fb107, fb167] h116 3 Proofs.Tryz.f116 ⟨so170, so120, trivial⟩ ⟨⟨by kernel_rfl, by kernel_rfl, _, rfl, by kernel_rfl⟩, ⟨by kernel_rfl, by kernel_rfl, _, rfl, by kernel_rfl⟩, trivial⟩ (by kernel_rfl) rfl (by kernel_rfl) rfl rfl rfl ?_
  rw [vc116]
  try simp only [splitB_iff, -eq_self]
  refine ⟨⟨by omega, by decide, by simp only [fits]; omega⟩, ⟨0, Nat.zero_le _, rfl, rfl, rfl, rfl, rfl, rfl, rfl, trivial⟩, fun g hg => ⟨fun hlt => ?_, fun hge => ?_⟩⟩
  · have hg : g ≤ l.length / 4 := hg
    have hlt : (g : Int) < (l.length : Int) / 4 := by simpa using hlt
    have hlt : g < l.length / 4 := by omega
    simp only [cyc_eq, cyc_len (l := l) (g := g) (by omega), cyc_get l g 0 (by omega), cyc_get l g 1 (by omega), cyc_get l g 2 (by omega), cyc_get l g 3 (by omega), tab_len, -eq_self]
    have k0 := bd_get h1 (i := 4 * g) (by omega)
    have k1 := bd_get h1 (i := 4 * g + 1) (by omega)
    have k2 := bd_get h1 (i := 4 * g + 2) (by omega)
    have k3 := bd_get h1 (i := 4 * g + 3) (by omega)
    have hm : ∀ x : Int, -1000000000 ≤ x ∧ x ≤ 1000000000 → -1000000000 ≤ signI line * x ∧ signI line * x ≤ 1000000000 := fun x hx => by
      rcases signI_cases line with e | e <;> rw [e] <;> omega
    have m0 := hm (List.getD l (4 * g) 0 - List.getD l (4 * g + 2) 0) (by omega)
    have m1 := hm (List.getD l (4 * g + 1) 0 - List.getD l (4 * g + 3) 0) (by omega)
    have lt4 : (List.take 4 (List.drop (4 * g) l)).length = 4 := by rw [List.length_take, List.length_drop]; omega
    rw [lt4]
    simp only [fits, Nat.add_zero, -eq_self]
    exact ⟨by omega, by omega, by omega, by omega, by omega, hn, by omega, by omega, by omega, by omega, by omega, by omega, m0, by omega, by simp only [room]; omega, hn, by omega, by omega, by omega, by omega, by omega, by omega, m1, by omega, by simp only [room]; omega, by omega, g + 1, hlt, by omega, by simp, rfl, (tab_succ _ _).symm, (tab_succ _ _).symm, rfl, rfl, rfl, trivial⟩
  · have hg : g ≤ l.length / 4 := hg
    have hge : ¬ (g : Int) < (l.length : Int) / 4 := by simpa using hge
    have e : g = l.length / 4 := by omega
    subst e
    exact ⟨rfl, rfl, trivial⟩
theorem so116_ : SpecOk P1 gl1 116 sp116 := by
  intro vs ps r h hp
  simp only [sp116] at h
  split at h
  · cases h; exact fn116 _ _ _ (hp _ (.head _)) (hp _ (.tail _ (.head _))) (hp _ (.tail _ (.tail _ (.head _)))) (hp _ (.tail _ (.tail _ (.tail _ (.head _)))))
  · cases h
theorem so116 : Sp1 116 sp116 := ⟨so116_, Proofs.Tryz.f116, _, by kernel_rfl, rfl, by kernel_rfl⟩
theorem fn43 (l : List Nat) (line : Int)  : Fn P1 gl1 43 [.one (.sl (.flt .f32) l), iV line] (.tup [pV (bndP l line), iV (bndE l line)]) true := by
  refine fn_ofr false [(41, sp41), (96, sp96), (95, sp95), (108, sp108), (116, sp116), (163, sp163), (117, sp117), (118, sp118), (138, sp138)] [fb111, fb168, fb112] h0 3 Proofs.Tryz.f43 ⟨so41, so96, so95, so108, so116, so163, so117, so118, so138, trivial⟩ ⟨⟨by kernel_rfl, by kernel_rfl, _, rfl, by kernel_rfl⟩, ⟨by kernel_rfl, by kernel_rfl, _, rfl, by kernel_rfl⟩, ⟨by kernel_rfl, by kernel_rfl, _, rfl, by kernel_rfl⟩, trivial⟩ (by kernel_rfl) rfl (by kernel_rfl) rfl rfl rfl ?_
  rw [vc43]
  try simp only [splitB_iff, -eq_self]
  refine ⟨by decide, fun h => ?_, fun h => ?_⟩
  · have h : ¬ first [chkSig l, within line 0 10000000] = 0 := bneZ.1 h
    unfold bndP bndE
    rw [if_pos h, if_pos h]
    exact ⟨rfl, rfl, rfl, rfl, trivial⟩
  · have h : first [chkSig l, within line 0 10000000] = 0 := bneF.1 h
    have h2 := first_zero.1 h
    obtain ⟨k1, k2, k3⟩ := chkSig_zero.1 (h2 _ (.head _))
    have hl : 0 ≤ line := within_lo (h2 _ (.tail _ (.head _)))
    unfold bndP bndE
    rw [if_neg (fun e => e h), if_neg (fun e => e h)]
    have b0 := bd_sixs k3
    have b1 : Bd 1000000 (diffN 0 (sixs l) line 2) := bd_le (bd_diff (B := 16384) (by omega) (by omega) b0) (by omega)
    have b2 : Bd 1000000 (diffN 1 (sixs l) line 2) := bd_le (bd_diff (B := 16384) (by omega) (by omega) b0) (by omega)
    simp only [sixs_len, carI_len, combI_len, diffN_len, -eq_self]
    refine ⟨by omega, k3, by omega, bd_le b0 (by omega), hl, by omega, by omega, rfl, b1, b2, hl, by omega, by omega, bd_le b0 (by omega), bd_car (signI_cases _) (by omega) b1 b2, by omega, by omega, by omega, by decide, fun h => ?_, fun h => ?_⟩
    · have h : ¬ partsE (bandI (sixs l) line) = 0 := bneZ.1 h
      unfold partsP
      rw [if_neg h]
      exact ⟨rfl, rfl, rfl, rfl, trivial⟩
    · have h : partsE (bandI (sixs l) line) = 0 := bneF.1 h
      unfold partsP
      rw [if_pos h]
      exact ⟨rfl, rfl, rfl, h.symm, trivial⟩
theorem so43_ : SpecOk P1 gl1 43 sp43 := by
  intro vs ps r h _
  simp only [sp43] at h
  split at h
  · cases h; exact fn43 _ _ 
  · cases h
theorem so43 : Sp1 43 sp43 := ⟨so43_, Proofs.Tryz.f43, _, by kernel_rfl, rfl, by kernel_rfl⟩
theorem fn125 (l : List Int) (c line den : Int) (h1 : Bd 1000000 l) (hc : 0 ≤ c ∧ 4 * c + 4 ≤ (l.length : Int)) (hl : l.length ≤ 100000) (hn : 0 ≤ line) (hd : 0 < den ∧ den ≤ 1000) : Fn P1 gl1 125 [.one (.sl (.int .i64) l), iV c, iV line, iV den] (.tup [iV (diffAt 0 l c.toNat line den), iV (diffAt 1 l c.toNat line den)]) true := by
  refine Fn.flat ?_ rfl
  refine fn_of false [(165, sp165), (87, sp87)] [] h0 0 Proofs.Tryz.f125 ⟨so165, so87, trivial⟩ trivial (by kernel_rfl) rfl (by kernel_rfl) rfl rfl rfl ?_
  rw [vc125]
  try simp only [splitB_iff, -eq_self]
  have e0 : Int.toNat (4 * c) = 4 * c.toNat := by omega
  have e1 : Int.toNat (4 * c + 1) = 4 * c.toNat + 1 := by omega
  have e2 : Int.toNat (4 * c + 2) = 4 * c.toNat + 2 := by omega
  have e3 : Int.toNat (4 * c + 3) = 4 * c.toNat + 3 := by omega
  rw [e0, e1, e2, e3]
  have k0 := bd_get h1 (i := 4 * c.toNat) (by omega)
  have k1 := bd_get h1 (i := 4 * c.toNat + 1) (by omega)
  have k2 := bd_get h1 (i := 4 * c.toNat + 2) (by omega)
  have k3 := bd_get h1 (i := 4 * c.toNat + 3) (by omega)
  have hm : ∀ x : Int, -1000000000 ≤ x ∧ x ≤ 1000000000 → -1000000000 ≤ signI line * x ∧ signI line * x ≤ 1000000000 := fun x hx => by
    rcases signI_cases line with e | e <;> rw [e] <;> omega
  have m0 := hm (List.getD l (4 * c.toNat) 0 - List.getD l (4 * c.toNat + 2) 0) (by omega)
  have m1 := hm (List.getD l (4 * c.toNat + 1) 0 - List.getD l (4 * c.toNat + 3) 0) (by omega)
  simp only [fits, -eq_self]
  exact ⟨hn, by omega, by omega, by omega, by omega, by omega, by omega, by omega, m0, by omega, hn, by omega, by omega, by omega, by omega, by omega, by omega, by omega, by omega, m1, by omega, rfl, rfl, trivial⟩
theorem so125_ : SpecOk P1 gl1 125 sp125 := by
  intro vs ps r h hp
  simp only [sp125] at h
  split at h
  · cases h; exact fn125 _ _ _ _ (hp _ (.head _)) (hp _ (.tail _ (.head _))) (hp _ (.tail _ (.tail _ (.head _)))) (hp _ (.tail _ (.tail _ (.tail _ (.head _))))) (hp _ (.tail _ (.tail _ (.tail _ (.tail _ (.head _))))))
  · cases h
theorem so125 : Sp1 125 sp125 := ⟨so125_, Proofs.Tryz.f125, _, by kernel_rfl, rfl, by kernel_rfl⟩
theorem fn169 (l : List Int) (c u v line : Int) (h1 : Bd 1000000 l) (hc : 0 ≤ c ∧ 4 * c + 4 ≤ (l.length : Int)) (hl : l.length ≤ 100000) (hu : -1000000 ≤ u ∧ u ≤ 1000000) (hv : -1000000 ≤ v ∧ v ≤ 1000000) (hn : 0 ≤ line) : Fn P1 gl1 169 [.one (.sl (.int .i64) l), iV c, iV u, iV v, iV line] (.val (.one (.frs (.int .i64) (withN l c.toNat u v line)))) true := by
  refine Fn.flat ?_ rfl
  refine fn_of false [(101, sp101)] [] h44 0 Proofs.Tryz.f169 ⟨so101, trivial⟩ trivial (by kernel_rfl) rfl (by kernel_rfl) rfl rfl rfl ?_
  rw [vc169]
  try simp only [splitB_iff, -eq_self]
  refine ⟨⟨0, Nat.zero_le _, rfl, rfl, rfl, rfl, rfl, rfl, rfl, trivial⟩, fun g hg => ⟨fun hlt => ?_, fun hge => ?_⟩⟩
  · have hlt : (g : Int) < 4 := by simpa using hlt
    have hlt : g < 4 := by omega
    have e : Int.toNat (4 * c + (g : Int)) = 4 * c.toNat + g := by omega
    rw [e]
    have k1 := bd_get h1 (i := 4 * c.toNat + g) (by omega)
    have k2 := carN_bd (k := g) (signI_cases line) hu hv
    simp only [fits, tab_len, room, -eq_self]
    exact ⟨by omega, by omega, by omega, by omega, by omega, by omega, hn, by omega, by omega, by omega, g + 1, hlt, by omega, by simp, rfl, rfl, rfl, rfl, rfl, (tab_succ _ _).symm, trivial⟩
  · have hg : g ≤ 4 := hg
    have hge : ¬ (g : Int) < 4 := by simpa using hge
    have e : g = 4 := by omega
    subst e
    exact ⟨rfl, trivial⟩
theorem so169_ : SpecOk P1 gl1 169 sp169 := by
  intro vs ps r h hp
  simp only [sp169] at h
  split at h
  · cases h; exact fn169 _ _ _ _ _ (hp _ (.head _)) (hp _ (.tail _ (.head _))) (hp _ (.tail _ (.tail _ (.head _)))) (hp _ (.tail _ (.tail _ (.tail _ (.head _))))) (hp _ (.tail _ (.tail _ (.tail _ (.tail _ (.head _)))))) (hp _ (.tail _ (.tail _ (.tail _ (.tail _ (.tail _ (.head _)))))))
  · cases h
theorem so169 : Sp1 169 sp169 := ⟨so169_, Proofs.Tryz.f169, _, by kernel_rfl, rfl, by kernel_rfl⟩
theorem fn113 (l : List Int) (c line : Int) (h1 : Bd 400000 l) (hc : 0 ≤ c ∧ 4 * c + 4 ≤ (l.length : Int)) (hl : l.length ≤ 100000) (hn : 0 ≤ line) : Fn P1 gl1 113 [.one (.sl (.int .i64) l), iV c, iV line] (.tup [.one (.frs (.int .i64) (withN l c.toNat (diffAt 0 l c.toNat line 2) (diffAt 1 l c.toNat line 2) line)), iV (diffAt 0 l c.toNat line 2), iV (diffAt 1 l c.toNat line 2)]) true := by
  refine Fn.flat ?_ rfl
  refine fn_of false [(125, sp125), (169, sp169)] [] h0 0 Proofs.Tryz.f113 ⟨so125, so169, trivial⟩ trivial (by kernel_rfl) rfl (by kernel_rfl) rfl rfl rfl ?_
  rw [vc113]
  try simp only [splitB_iff, -eq_self]
  have b0 := diffAt_bd (j := 0) (c := c.toNat) (line := line) (den := 2) (by omega) (by omega) h1
  have b1 := diffAt_bd (j := 1) (c := c.toNat) (line := line) (den := 2) (by omega) (by omega) h1
  exact ⟨bd_le h1 (by omega), hc, hl, hn, by omega, bd_le h1 (by omega), hc, hl, by omega, by omega, hn, rfl, rfl, rfl, trivial⟩
theorem so113_ : SpecOk P1 gl1 113 sp113 := by
  intro vs ps r h hp
  simp only [sp113] at h
  split at h
  · cases h; exact fn113 _ _ _ (hp _ (.head _)) (hp _ (.tail _ (.head _))) (hp _ (.tail _ (.tail _ (.head _)))) (hp _ (.tail _ (.tail _ (.tail _ (.head _)))))
  · cases h
theorem so113 : Sp1 113 sp113 := ⟨so113_, Proofs.Tryz.f113, _, by kernel_rfl, rfl, by kernel_rfl⟩
theorem fn44 (l : List Nat) (line : Int) (h : chkSig l = 0) (hn : 0 ≤ line) : Fn P1 gl1 44 [.one (.sl (.flt .f32) l), iV line] (.tup [pV (partsP (bandI (sixs l) line)), iV (partsE (bandI (sixs l) line))]) true := by
  refine fn_ofr false [(100, sp100), (113, sp113), (102, sp102), (22, sp22)] [fb114] h44 3 Proofs.Tryz.f44 ⟨so100, so113, so102, so22, trivial⟩ ⟨⟨by kernel_rfl, by kernel_rfl, _, rfl, by kernel_rfl⟩, trivial⟩ (by kernel_rfl) rfl (by kernel_rfl) rfl rfl rfl ?_
  rw [vc44]
  try simp only [splitB_iff, -eq_self]
  obtain ⟨k1, k2, k3⟩ := chkSig_zero.1 h
  have b0 := bd_sixs k3
  unfold bandI
  rw [apartI_eq rfl (by rw [sixs_len]; exact k2)]
  simp only [tab_len, sixs_len, -eq_self]
  refine ⟨by omega, k3, ⟨0, Nat.zero_le _, rfl, rfl, rfl, rfl, rfl, rfl, trivial⟩, fun g hg => ⟨by simp only [fits]; omega, fun hlt => ?_, fun hge => ?_⟩⟩
  · have hlt : (g : Int) < (l.length : Int) / 4 := by simpa using hlt
    simp only [room, fits, withN, tab_len, -eq_self]
    refine ⟨bd_le b0 (by omega), by omega, by omega, hn, by omega, by omega, by omega, by omega, g + 1, show g + 1 ≤ _ by omega, by omega, by simp, rfl, with_step _ _ _ _ _, (tab_succ _ _).symm, (tab_succ _ _).symm, rfl, trivial⟩
  · have hg : g ≤ l.length / 4 := hg
    have hge : ¬ (g : Int) < (l.length : Int) / 4 := by simpa using hge
    have e : g = l.length / 4 := by omega
    subst e
    rw [show 4 * (l.length / 4) = l.length by omega]
    unfold diffN
    rw [sixs_len]
    refine ⟨by omega, by omega, by omega, by decide, fun h => ?_, fun h => ?_⟩
    · have h : ¬ partsE (tab l.length (apAt (sixs l) (sixs l) line 2), tab (l.length / 4) (fun c => diffAt 0 (sixs l) c line 2), tab (l.length / 4) fun c => diffAt 1 (sixs l) c line 2) = 0 := bneZ.1 h
      unfold partsP
      rw [if_neg h]
      exact ⟨rfl, rfl, rfl, rfl, trivial⟩
    · have h : partsE (tab l.length (apAt (sixs l) (sixs l) line 2), tab (l.length / 4) (fun c => diffAt 0 (sixs l) c line 2), tab (l.length / 4) fun c => diffAt 1 (sixs l) c line 2) = 0 := bneF.1 h
      unfold partsP
      rw [if_pos h]
      exact ⟨rfl, rfl, rfl, h.symm, trivial⟩
theorem so44_ : SpecOk P1 gl1 44 sp44 := by
  intro vs ps r h hp
  simp only [sp44] at h
  split at h
  · cases h; exact fn44 _ _ (hp _ (.head _)) (hp _ (.tail _ (.head _)))
  · cases h
theorem so44 : Sp1 44 sp44 := ⟨so44_, Proofs.Tryz.f44, _, by kernel_rfl, rfl, by kernel_rfl⟩
theorem fn45 (a b : Pt) (h1 : a.1.length ≤ 1000000000) (h2 : a.2.1.length ≤ 1000000000) (h3 : a.2.2.length ≤ 1000000000) : Fn P1 gl1 45 [pV a, pV b] (.val (bV (sameP a b))) true := by
  refine Fn.flat ?_ rfl
  refine fn_of false [(27, sp27)] [] h0 0 Proofs.Tryz.f45 ⟨so27, trivial⟩ trivial (by kernel_rfl) rfl (by kernel_rfl) rfl rfl rfl ?_
  rw [vc45]
  try simp only [splitB_iff, -eq_self]
  unfold sameP
  simp only [bcond_r, -eq_self]
  exact ⟨h1, fun _ => h2, fun _ => h3, rfl, trivial⟩
theorem so45_ : SpecOk P1 gl1 45 sp45 := by
  intro vs ps r h hp
  simp only [sp45] at h
  split at h
  · cases h; exact fn45 (_, _, _) (_, _, _) (hp _ (.head _)) (hp _ (.tail _ (.head _))) (hp _ (.tail _ (.tail _ (.head _))))
  · cases h
theorem so45 : Sp1 45 sp45 := ⟨so45_, Proofs.Tryz.f45, _, by kernel_rfl, rfl, by kernel_rfl⟩
theorem fn46 (y u v : List Nat)  : Fn P1 gl1 46 [ptV y u v] (.val (ptV y u v)) false := by
  refine fn_of false [] [] h0 0 Proofs.Tryz.f46 trivial trivial (by kernel_rfl) rfl (by kernel_rfl) rfl rfl rfl ?_
  rw [vc46]
  try simp only [splitB_iff, -eq_self]
  exact ⟨rfl, rfl, rfl, trivial⟩
theorem so46_ : SpecOk P1 gl1 46 sp46 := by
  intro vs ps r h _
  simp only [sp46] at h
  split at h
  · cases h; exact fn46 _ _ _ 
  · cases h
theorem so46 : Sp1 46 sp46 := ⟨so46_, Proofs.Tryz.f46, _, by kernel_rfl, rfl, by kernel_rfl⟩
end Go.Sx

/- Plain functions of composite: fields, two and three lines. -/
namespace Go.Sx.U
abbrev Fld := List (List Nat)
def upTo (f : Nat → Int) : Nat → Int
  | 0 => 0
  | i + 1 => if upTo f i = 0 then f i else upTo f i
theorem upTo_zero {f : Nat → Int} : ∀ {n : Nat}, upTo f n = 0 ↔ ∀ i, i < n → f i = 0
  | 0 => by simp [upTo]
  | n + 1 => by
    unfold upTo
    constructor
    · intro h i hi
      split at h
      · rename_i h0
        by_cases e : i = n
        · rw [e]; exact h
        · exact upTo_zero.1 h0 i (by omega)
      · rename_i h0; exact absurd h h0
    · intro h
      rw [if_pos (upTo_zero.2 fun i hi => h i (by omega))]
      exact h n (by omega)
theorem upTo_stop {f : Nat → Int} {i : Nat} (h : upTo f i = 0) (h2 : f i ≠ 0) : ∀ {n : Nat}, i < n → upTo f n = f i
  | 0, hi => absurd hi (by omega)
  | n + 1, hi => by
    unfold upTo
    by_cases e : i = n
    · subst e; rw [if_pos h]
    · rw [upTo_stop h h2 (n := n) (by omega), if_neg h2]
theorem upTo_next {f : Nat → Int} {i : Nat} (h : upTo f i = 0) (h2 : f i = 0) : upTo f (i + 1) = 0 := by
  unfold upTo; rw [if_pos h, h2]
def chkLn (l : Fld) (i : Nat) : Int := if chkSig (List.getD l i []) = 0 then (if (List.getD l i []).length = (List.getD l 0 []).length then 0 else 2) else chkSig (List.getD l i [])
def chkFld (l : Fld) : Int := if 32 < l.length then 5 else upTo (chkLn l) l.length
def chkLine (l : Fld) (line : Int) : Int := if chkFld l = 0 then (if 0 ≤ line ∧ line < l.length then 0 else 10) else chkFld l
theorem chkLn_zero {l : Fld} {i : Nat} : chkLn l i = 0 ↔ chkSig (List.getD l i []) = 0 ∧ (List.getD l i []).length = (List.getD l 0 []).length := by
  unfold chkLn
  generalize chkSig (List.getD l i []) = e
  generalize (List.getD l i []).length = a
  generalize (List.getD l 0 []).length = b
  by_cases h : e = 0
  · by_cases h2 : a = b <;> simp [h, h2]
  · simp [h]
theorem chkFld_zero {l : Fld} : chkFld l = 0 ↔ l.length ≤ 32 ∧ ∀ i, i < l.length → chkSig (List.getD l i []) = 0 ∧ (List.getD l i []).length = (List.getD l 0 []).length := by
  unfold chkFld
  by_cases h : 32 < l.length
  · simp [h]; omega
  · rw [if_neg h, upTo_zero]
    simp only [chkLn_zero]
    exact ⟨fun k => ⟨by omega, k⟩, fun k => k.2⟩
theorem chkLine_zero {l : Fld} {line : Int} : chkLine l line = 0 ↔ chkFld l = 0 ∧ 0 ≤ line ∧ line < l.length := by
  unfold chkLine
  by_cases h : chkFld l = 0
  · by_cases h2 : 0 ≤ line ∧ line < l.length
    · simp [h, h2]
    · simp only [h, if_true, h2, if_false, true_and, iff_false]; decide
  · simp [h]
theorem ln_first (l : Fld) (g : Nat) : first [chkSig (List.getD l g []), whenE (((List.getD l g []).length : Int) != ((List.getD l 0 []).length : Int)) 2] = chkLn l g := by
  unfold chkLn
  generalize chkSig (List.getD l g []) = e
  generalize (List.getD l g []).length = a
  generalize (List.getD l 0 []).length = b
  by_cases h : e = 0
  · by_cases h2 : a = b
    · simp [first, whenE, h, h2]
    · have : ¬ (a : Int) = b := by omega
      simp [first, whenE, h, h2, this]
  · simp [first, h]
theorem line_first (l : Fld) (line : Int) : first [chkFld l, whenE (bif decide (line < 0) then true else decide ((l.length : Int) ≤ line)) 10] = chkLine l line := by
  unfold chkLine
  generalize chkFld l = e
  by_cases h : e = 0
  · by_cases h2 : line < 0
    · have : ¬ 0 ≤ line := by omega
      simp [first, whenE, h, h2, this]
    · by_cases h3 : (l.length : Int) ≤ line
      · have : ¬ line < (l.length : Int) := by omega
        simp [first, whenE, h, h2, h3, this]
      · have k1 : 0 ≤ line := by omega
        have k2 : line < (l.length : Int) := by omega
        simp [first, whenE, h, h2, h3, k1, k2]
  · simp [first, h]
def lnI (l : Fld) (line : Int) : List Int := sixs (List.getD l line.toNat [])
theorem map_get (l : Fld) (i : Nat) : List.getD (l.map sixs) i [] = sixs (List.getD l i []) := by
  by_cases h : i < l.length
  · rw [List.getD_eq_getElem?_getD, List.getD_eq_getElem?_getD, List.getElem?_map, List.getElem?_eq_getElem h]; rfl
  · rw [List.getD_eq_getElem?_getD, List.getD_eq_getElem?_getD, List.getElem?_map, List.getElem?_eq_none (by omega)]; rfl
theorem fld_line {l : Fld} {i : Nat} (h : chkFld l = 0) (hi : i < l.length) : OkS (List.getD l i []) ∧ (List.getD l i []).length ≤ 256 ∧ (List.getD l i []).length % 4 = 0 ∧ (List.getD l i []).length = (List.getD l 0 []).length := by
  obtain ⟨h1, h2⟩ := (chkFld_zero.1 h).2 i hi
  obtain ⟨k1, k2, k3⟩ := chkSig_zero.1 h1
  exact ⟨k3, k1, k2, h2⟩
def nextL (l : Fld) (line : Int) : Int := if line + 1 = l.length then line - 1 else line + 1
def twoI (l : Fld) (line : Int) : It := (combI midI (lnI l line) (lnI l (nextL l line)), diffN 0 (combI minusI (lnI l line) (lnI l (nextL l line))) line 4, diffN 1 (combI minusI (lnI l line) (lnI l (nextL l line))) line 4)
def twoE (l : Fld) (line : Int) : Int := if chkLine l line = 0 then (if l.length = 1 then 16 else 0) else chkLine l line
theorem two_first (l : Fld) (line : Int) : first [chkLine l line, whenE ((l.length : Int) == 1) 16] = twoE l line := by
  unfold twoE
  generalize chkLine l line = e
  by_cases h : e = 0
  · by_cases h2 : l.length = 1
    · simp [first, whenE, h, h2]
    · have : ¬ (l.length : Int) = 1 := by omega
      simp [first, whenE, h, h2, this]
  · simp [first, h]
theorem twoE_zero {l : Fld} {line : Int} : twoE l line = 0 ↔ chkFld l = 0 ∧ 0 ≤ line ∧ line < l.length ∧ l.length ≠ 1 := by
  unfold twoE
  by_cases h : chkLine l line = 0
  · rw [if_pos h]
    obtain ⟨h1, h2, h3⟩ := chkLine_zero.1 h
    by_cases k : l.length = 1 <;> simp [k, h1, h2, h3]
  · rw [if_neg h]
    constructor
    · exact fun k => absurd k h
    · exact fun k => absurd (chkLine_zero.2 ⟨k.1, k.2.1, k.2.2.1⟩) h
def thrD (b s a : List Int) : List Int := combI lessI s (combI plusI b a)
def threeI (b s a : List Int) (line : Int) : It := apartI s (thrD b s a) line 8
def threeL (l : Fld) (line : Int) : It := threeI (lnI l (line - 1)) (lnI l line) (lnI l (line + 1)) line
def threeE (l : Fld) (line : Int) : Int := if chkLine l line = 0 then (if 0 < line ∧ line < (l.length : Int) - 1 then 0 else 14) else chkLine l line
def errP (e : Int) (x : It) : Pt := if e = 0 then partsP x else ([], [], [])
def errE (e : Int) (x : It) : Int := if e = 0 then partsE x else e
theorem threeE_zero {l : Fld} {line : Int} : threeE l line = 0 ↔ chkFld l = 0 ∧ 0 < line ∧ line < (l.length : Int) - 1 := by
  unfold threeE
  by_cases h : chkLine l line = 0
  · rw [if_pos h]
    obtain ⟨h1, h2, h3⟩ := chkLine_zero.1 h
    by_cases k : 0 < line ∧ line < (l.length : Int) - 1
    · rw [if_pos k]; simp [h1, k]
    · rw [if_neg k]; simp only [h1, true_and, k, iff_false]; decide
  · rw [if_neg h]
    constructor
    · exact fun k => absurd k h
    · exact fun k => absurd (chkLine_zero.2 ⟨k.1, by omega, by omega⟩) h
theorem thrD_len (b s a : List Int) : (thrD b s a).length = s.length := by unfold thrD; rw [combI_len]
theorem thrD_tab {b s a : List Int} (hb : b.length = s.length) : thrD b s a = tab s.length fun n => 2 * List.getD s n 0 - List.getD b n 0 - List.getD a n 0 := by
  unfold thrD combI
  refine tab_ext fun i hi => ?_
  rw [tab_get (by omega)]
  unfold lessI plusI
  omega
theorem bd_thrD {b s a : List Int} (hb : Bd 16384 b) (hs : Bd 16384 s) (ha : Bd 16384 a) : Bd 65536 (thrD b s a) := by
  unfold thrD
  refine bd_comb (A := 16384) (B := 32768) hs (bd_comb (A := 16384) (B := 16384) (C := 32768) hb ha (by omega) (by omega) fun x y hx hy => ?_) (by omega) (by omega) fun x y hx hy => ?_
  · unfold plusI; omega
  · unfold lessI; omega
end Go.Sx.U

/- Plain functions and hints. -/
namespace Go.Sx
open U
abbrev lnT : Ty := .sl (.flt .f32)
@[reducible] def fldV (l : Fld) : V := .one (.sl lnT l)
def h38 : Hints := ⟨fun f k s => match f, k with
  | 38, 4 => match listAs s 0 lnT with
    | some l => some ⟨Nat, fun i => s.at [0, 9, 10] [tI 11 i], fun i => i ≤ List.length l ∧ upTo (chkLn l) i = 0, fun i => List.length l - i⟩
    | _ => none
  | 40, 4 => match listAs s 0 lnT with
    | some l => some ⟨Nat, fun i => s.at [0] [tI 3 i], fun i => i ≤ List.length l ∧ upTo (chkLn l) i = 0, fun i => List.length l - i⟩
    | _ => none
  | 123, 3 => hMapG lnT (.sl (.int .i64)) sixs 8 10 5 [1, 9] s
  | _, _ => none, 0⟩
def h50 : Hints := ⟨fun f k s => match f, k with
  | 50, 9 => match listAs s 7 (.int .i64), listAs s 8 (.int .i64) with
    | some a, some b => some ⟨Nat, fun i => ⟨[tI 13 i, (9, .val (.one (.own s.nx))), (10, .val (.one (.own (s.nx + 1))))] ++ keepT [1, 4, 7, 8, 11, 12] s.tm,
        (s.nx, some (.row (.int .i64) (tab i fun n => midI (List.getD a n 0) (List.getD b n 0)))) :: (s.nx + 1, some (.row (.int .i64) (tab i fun n => minusI (List.getD a n 0) (List.getD b n 0)))) :: lessO s [9, 10], s.nx + 2, s.lr⟩,
        fun i => i ≤ List.length a, fun i => List.length a - i⟩
    | _, _ => none
  | 50, 13 => match listAs s 10 (.int .i64), intOfT s 1, listAs s 7 (.int .i64) with
    | some d, some line, some a => some ⟨Nat, fun i => ⟨[tI 14 i, (11, .val (.one (.own s.nx))), (12, .val (.one (.own (s.nx + 1))))] ++ keepT [1, 4, 7, 9, 10] s.tm,
        (s.nx, some (.row (.int .i64) (tab i fun c => diffAt 0 d c line 4))) :: (s.nx + 1, some (.row (.int .i64) (tab i fun c => diffAt 1 d c line 4))) :: lessO s [11, 12], s.nx + 2, s.lr⟩,
        fun i => i ≤ List.length a / 4, fun i => List.length a / 4 - i⟩
    | _, _, _ => none
  | 126, 3 => match listAs s 0 (.int .i64), listAs s 1 (.int .i64), listAs s 2 (.int .i64) with
    | some b, some l, some a => some ⟨Nat, fun i => ⟨[tI 14 i, (13, .val (.one (.own s.nx)))] ++ keepT [0, 1, 2, 3, 4] s.tm,
        (s.nx, some (.row (.int .i64) (tab i fun n => 2 * List.getD l n 0 - List.getD b n 0 - List.getD a n 0))) :: lessO s [13], s.nx + 1, s.lr⟩,
        fun i => i ≤ List.length l, fun i => List.length l - i⟩
    | _, _, _ => none
  | 51, 6 => match listAs s 6 (.int .i64), intOfT s 1, listAs s 0 lnT with
    | some l, some line, some F => some ⟨Nat, fun i => ⟨[tI 10 i, (7, .val (.one (.own s.nx))), (8, .val (.one (.own (s.nx + 1)))), (9, .val (.one (.own (s.nx + 2))))] ++ keepT [0, 1, 4, 6] s.tm,
        (s.nx, some (.row (.int .i64) (tab (4 * i) (apAt l (thrD (lnI F (line - 1)) l (lnI F (line + 1))) line 8)))) :: (s.nx + 1, some (.row (.int .i64) (tab i fun c => diffAt 0 (thrD (lnI F (line - 1)) l (lnI F (line + 1))) c line 8))) :: (s.nx + 2, some (.row (.int .i64) (tab i fun c => diffAt 1 (thrD (lnI F (line - 1)) l (lnI F (line + 1))) c line 8))) :: lessO s [7, 8, 9], s.nx + 3, s.lr⟩,
        fun i => i ≤ List.length l / 4, fun i => List.length l / 4 - i⟩
    | _, _, _ => none
  | _, _ => none, 0⟩
@[reducible] noncomputable def fb122 : Nat × Func := (122, Proofs.Tryz.f122)
end Go.Sx
namespace Go.Sx
open U
def sp38 : FSpec := ⟨fun vs => match vs with
  | [.one (.sl (.sl (.flt .f32)) l)] => some ([], .val (iV (chkFld l)))
  | _ => none, true⟩
def sp40 : FSpec := ⟨fun vs => match vs with
  | [.one (.sl (.sl (.flt .f32)) l)] => some ([], .val (iV (chkFld l)))
  | _ => none, true⟩
def sp115 : FSpec := ⟨fun vs => match vs with
  | [.one (.sl (.sl (.flt .f32)) l), .one (.int .i64 line)] => some ([], .val (iV (chkLine l line)))
  | _ => none, true⟩
def sp123 : FSpec := ⟨fun vs => match vs with
  | [.one (.sl (.sl (.flt .f32)) l), .one (.fn 108 [] [])] => some ([chkFld l = 0], .val (.one (.sl (.sl (.int .i64)) (List.map sixs l))))
  | _ => none, false⟩
def sp121 : FSpec := ⟨fun vs => match vs with
  | [.one (.int .i64 n), .one (.int .i64 line)] => some ([0 ≤ n ∧ n ≤ 1000000000], .val (bV (decide (0 < line) && decide (line < n - 1))))
  | _ => none, true⟩
def sp47 : FSpec := ⟨fun vs => match vs with
  | [.one (.sl (.sl (.flt .f32)) l), .one (.int .i64 line)] => some ([], .tup [pV (errP (twoE l line) (twoI l line)), iV (errE (twoE l line) (twoI l line))])
  | _ => none, true⟩
def sp48 : FSpec := ⟨fun vs => match vs with
  | [.one (.sl (.sl (.flt .f32)) l), .one (.int .i64 line)] => some ([], .tup [pV (errP (threeE l line) (threeL l line)), iV (errE (threeE l line) (threeL l line))])
  | _ => none, true⟩
def sp50 : FSpec := ⟨fun vs => match vs with
  | [.one (.sl (.sl (.flt .f32)) l), .one (.int .i64 line)] => some ([chkLine l line = 0], .tup [pV (errP (twoE l line) (twoI l line)), iV (errE (twoE l line) (twoI l line))])
  | _ => none, true⟩
def sp126 : FSpec := ⟨fun vs => match vs with
  | [.one (.sl (.int .i64) b), .one (.sl (.int .i64) s), .one (.sl (.int .i64) a), .one (.int .i64 c), .one (.int .i64 line)] => some ([Bd 16384 b, Bd 16384 s, Bd 16384 a, List.length b = List.length s, List.length a = List.length s, 0 ≤ c ∧ 4 * c + 4 ≤ ((List.length s : Nat) : Int), List.length s ≤ 100000, 0 ≤ line], .tup [.one (.frs (.int .i64) (withN s c.toNat (diffAt 0 (thrD b s a) c.toNat line 8) (diffAt 1 (thrD b s a) c.toNat line 8) line)), iV (diffAt 0 (thrD b s a) c.toNat line 8), iV (diffAt 1 (thrD b s a) c.toNat line 8)])
  | _ => none, true⟩
def sp51 : FSpec := ⟨fun vs => match vs with
  | [.one (.sl (.sl (.flt .f32)) l), .one (.int .i64 line)] => some ([chkLine l line = 0], .tup [pV (errP (threeE l line) (threeL l line)), iV (errE (threeE l line) (threeL l line))])
  | _ => none, true⟩
end Go.Sx

/- What the engine asks, written out (printed by a program). -/
namespace Go.Sx
open U
theorem vc38 (l : Fld) : exF (env false [(41, sp41), (104, sp104), (95, sp95)] []) h38 0 38 Proofs.Tryz.f38 [fldV l] (.val (iV (chkFld l))) = (let q0 := (↑(List.length l) : Int); splitB (decide ((32 : Int) < q0)) ((5 : Int) = chkFld l ∧ True) ((∃ (g : Nat), (g ≤ List.length l ∧ upTo (chkLn l) g = (0 : Int)) ∧ (0 : Int) = (↑g : Int) ∧ q0 = q0 ∧ l = l ∧ l = l ∧ True) ∧ ∀ (g : Nat), let q1 := ((↑(List.length (List.getD l g [])) : Int) != (↑(List.length (List.getD l (0 : Nat) [])) : Int)); g ≤ List.length l ∧ upTo (chkLn l) g = (0 : Int) → splitB (decide ((↑g : Int) < q0)) (((0 : Int) ≤ (↑g : Int) ∧ (↑g : Int) < q0) ∧ ((0 : Int) ≤ (0 : Int) ∧ (0 : Int) < q0) ∧ (2 : Nat) ≤ (1000000000 : Nat) ∧ splitB (first [chkSig (List.getD l g []), whenE q1 (2 : Int)] != (0 : Int)) (first [chkSig (List.getD l g []), whenE q1 (2 : Int)] = chkFld l ∧ True) (fits IntKind.i64 ((↑g : Int) + (1 : Int)) ∧ ∃ (g' : Nat), (g' ≤ List.length l ∧ upTo (chkLn l) g' = (0 : Int)) ∧ List.length l - g' < List.length l - g ∧ (↑g : Int) + (1 : Int) = (↑g' : Int) ∧ q0 = q0 ∧ l = l ∧ l = l ∧ True)) ((0 : Int) = chkFld l ∧ True))) := by
  kernel_rfl
theorem vc40 (l : Fld) : exF (env false [(36, sp36)] []) h38 0 40 Proofs.Tryz.f40 [fldV l] (.val (iV (chkFld l))) = (let q0 := (↑(List.length l) : Int); splitB (decide ((32 : Int) < q0)) ((5 : Int) = chkFld l ∧ True) ((∃ (g : Nat), (g ≤ List.length l ∧ upTo (chkLn l) g = (0 : Int)) ∧ (0 : Int) = (↑g : Int) ∧ l = l ∧ True) ∧ ∀ (g : Nat), g ≤ List.length l ∧ upTo (chkLn l) g = (0 : Int) → splitB (decide ((↑g : Int) < q0)) (((0 : Int) ≤ (↑g : Int) ∧ (↑g : Int) < q0) ∧ splitB (chkSig (List.getD l g []) != (0 : Int)) (chkSig (List.getD l g []) = chkFld l ∧ True) (((0 : Int) ≤ (↑g : Int) ∧ (↑g : Int) < q0) ∧ ((0 : Int) ≤ (0 : Int) ∧ (0 : Int) < q0) ∧ splitB ((↑(List.length (List.getD l g [])) : Int) != (↑(List.length (List.getD l (0 : Nat) [])) : Int)) ((2 : Int) = chkFld l ∧ True) (fits IntKind.i64 ((↑g : Int) + (1 : Int)) ∧ ∃ (g' : Nat), (g' ≤ List.length l ∧ upTo (chkLn l) g' = (0 : Int)) ∧ List.length l - g' < List.length l - g ∧ (↑g : Int) + (1 : Int) = (↑g' : Int) ∧ l = l ∧ True))) ((0 : Int) = chkFld l ∧ True))) := by
  kernel_rfl
theorem vc115 (l : Fld) (line : Int) : exF (env false [(38, sp38), (104, sp104), (95, sp95)] []) h0 0 115 Proofs.Tryz.f115 [fldV l, iV line] (.val (iV (chkLine l line))) = ((2 : Nat) ≤ (1000000000 : Nat) ∧ first [chkFld l, whenE (bif decide (line < (0 : Int)) then true else decide ((↑(List.length l) : Int) ≤ line)) (10 : Int)] = chkLine l line ∧ True) := by
  kernel_rfl
theorem vc123 (l : Fld) : exF (env false [(108, sp108)] []) h38 0 123 Proofs.Tryz.f123 [fldV l, .one (.fn 108 [] [])] (.val (.one (.sl (.sl (.int .i64)) (l.map sixs)))) = (let q0 := (↑(List.length l) : Int); (∃ (g : Nat), Nat.le g (List.length l) ∧ (0 : Int) = (↑g : Int) ∧ q0 = q0 ∧ l = l ∧ List.map sixs (List.take g l) = [] ∧ True) ∧ ∀ (g : Nat), Nat.le g (List.length l) → splitB (decide ((↑g : Int) < q0)) (((0 : Int) ≤ (↑g : Int) ∧ (↑g : Int) < q0) ∧ List.length (List.getD l g []) ≤ (1000000 : Nat) ∧ OkS (List.getD l g []) ∧ room (List.length (List.map sixs (List.take g l)) + (1 : Nat)) (24 : Nat) ∧ fits IntKind.i64 ((↑g : Int) + (1 : Int)) ∧ ∃ (g' : Nat), Nat.le g' (List.length l) ∧ List.length l - g' < List.length l - g ∧ (↑g : Int) + (1 : Int) = (↑g' : Int) ∧ q0 = q0 ∧ l = l ∧ List.map sixs (List.take g l) ++ [sixs (List.getD l g [])] = List.map sixs (List.take g' l) ∧ True) (List.map sixs (List.take g l) = List.map sixs l ∧ True)) := by
  kernel_rfl
theorem vc121 (n line : Int) : exF (env false [] []) h0 0 121 Proofs.Tryz.f121 [iV n, iV line] (.val (bV (decide (0 < line) && decide (line < n - 1)))) = ((decide ((0 : Int) < line) = true → fits IntKind.i64 (n - (1 : Int))) ∧ (bif decide ((0 : Int) < line) then decide (line < n - (1 : Int)) else false) = (decide ((0 : Int) < line) && decide (line < n - (1 : Int))) ∧ True) := by
  kernel_rfl
theorem vc47 (l : Fld) (line : Int) : exFr (env false [(115, sp115), (104, sp104), (95, sp95), (108, sp108), (117, sp117), (118, sp118), (119, sp119), (116, sp116), (138, sp138)] [fb112]) h0 3 47 Proofs.Tryz.f47 [fldV l, iV line] (.tup [pV (errP (twoE l line) (twoI l line)), iV (errE (twoE l line) (twoI l line))]) = (let q9 := (List.getD l (Int.toNat line) []); let q0 := (sixs q9); let q12 := (List.getD l (Int.toNat (line - (1 : Int))) []); let q1 := (sixs q12); let q13 := (List.getD l (Int.toNat (line + (1 : Int))) []); let q2 := (sixs q13); let q3 := (errP (twoE l line) (twoI l line)); let q15 := (combI minusI q0 q1); let q4 := (diffN (0 : Nat) q15 line (4 : Int)); let q5 := (diffN (1 : Nat) q15 line (4 : Int)); let q16 := (combI minusI q0 q2); let q6 := (diffN (0 : Nat) q16 line (4 : Int)); let q7 := (diffN (1 : Nat) q16 line (4 : Int)); let q8 := (↑(List.length l) : Int); let q10 := (1000000 : Nat); let q11 := (1000000 : Int); let q14 := (100000 : Nat); let q17 := ((0 : Int) < (4 : Int) ∧ (4 : Int) ≤ (1000 : Int)); let q18 := (combI midI q0 q1); let q19 := (combI midI q0 q2); (2 : Nat) ≤ (1000000000 : Nat) ∧ splitB (first [chkLine l line, whenE (q8 == (1 : Int)) (16 : Int)] != (0 : Int)) (q3.1 = [] ∧ q3.2.1 = [] ∧ q3.2.2 = [] ∧ first [chkLine l line, whenE (q8 == (1 : Int)) (16 : Int)] = errE (twoE l line) (twoI l line) ∧ True) (fits IntKind.i64 (line + (1 : Int)) ∧ splitB (line + (1 : Int) == q8) (fits IntKind.i64 (line - (1 : Int)) ∧ ((0 : Int) ≤ line ∧ line < q8) ∧ List.length q9 ≤ q10 ∧ OkS q9 ∧ ((0 : Int) ≤ line - (1 : Int) ∧ line - (1 : Int) < q8) ∧ List.length q12 ≤ q10 ∧ OkS q12 ∧ List.length q0 ≤ q14 ∧ List.length q1 = List.length q0 ∧ Bd q11 q0 ∧ Bd q11 q1 ∧ List.length q15 ≤ q14 ∧ Bd q11 q15 ∧ (0 : Int) ≤ line ∧ q17 ∧ List.length q0 ≤ q14 ∧ List.length q1 = List.length q0 ∧ Bd q11 q0 ∧ Bd q11 q1 ∧ List.length q18 ≤ q10 ∧ List.length q4 ≤ q10 ∧ List.length q5 ≤ q10 ∧ (3 : Nat) ≤ (1000000000 : Nat) ∧ splitB (first [lgE q18, lgE q4, lgE q5] != (0 : Int)) (q3.1 = [] ∧ q3.2.1 = [] ∧ q3.2.2 = [] ∧ first [lgE q18, lgE q4, lgE q5] = errE (twoE l line) (twoI l line) ∧ True) (smpsN q18 = q3.1 ∧ smpsN q4 = q3.2.1 ∧ smpsN q5 = q3.2.2 ∧ (0 : Int) = errE (twoE l line) (twoI l line) ∧ True)) (((0 : Int) ≤ line ∧ line < q8) ∧ List.length q9 ≤ q10 ∧ OkS q9 ∧ ((0 : Int) ≤ line + (1 : Int) ∧ line + (1 : Int) < q8) ∧ List.length q13 ≤ q10 ∧ OkS q13 ∧ List.length q0 ≤ q14 ∧ List.length q2 = List.length q0 ∧ Bd q11 q0 ∧ Bd q11 q2 ∧ List.length q16 ≤ q14 ∧ Bd q11 q16 ∧ (0 : Int) ≤ line ∧ q17 ∧ List.length q0 ≤ q14 ∧ List.length q2 = List.length q0 ∧ Bd q11 q0 ∧ Bd q11 q2 ∧ List.length q19 ≤ q10 ∧ List.length q6 ≤ q10 ∧ List.length q7 ≤ q10 ∧ (3 : Nat) ≤ (1000000000 : Nat) ∧ splitB (first [lgE q19, lgE q6, lgE q7] != (0 : Int)) (q3.1 = [] ∧ q3.2.1 = [] ∧ q3.2.2 = [] ∧ first [lgE q19, lgE q6, lgE q7] = errE (twoE l line) (twoI l line) ∧ True) (smpsN q19 = q3.1 ∧ smpsN q6 = q3.2.1 ∧ smpsN q7 = q3.2.2 ∧ (0 : Int) = errE (twoE l line) (twoI l line) ∧ True)))) := by
  kernel_rfl
theorem vc48 (l : Fld) (line : Int) : exFr (env false [(115, sp115), (95, sp95), (121, sp121), (123, sp123), (108, sp108), (117, sp117), (118, sp118), (164, sp164), (171, sp171), (116, sp116), (163, sp163), (138, sp138)] [fb112, fb122, fb168]) h0 3 48 Proofs.Tryz.f48 [fldV l, iV line] (.tup [pV (errP (threeE l line) (threeL l line)), iV (errE (threeE l line) (threeL l line))]) = (let q7 := (List.getD (List.map sixs l) (Int.toNat (line + (1 : Int))) []); let q3 := (List.getD (List.map sixs l) (Int.toNat line) []); let q4 := (List.getD (List.map sixs l) (Int.toNat (line - (1 : Int))) []); let q0 := (combI lessI q3 (combI plusI q4 q7)); let q5 := (diffN (0 : Nat) q0 line (8 : Int)); let q6 := (diffN (1 : Nat) q0 line (8 : Int)); let q12 := (carI q5 q6 (signI line)); let q1 := (combI minusI q3 q12); let q10 := (threeE l line); let q11 := (threeL l line); let q2 := (errP q10 q11); let q8 := (↑(List.length (List.map sixs l)) : Int); let q9 := (1000000 : Int); splitB (chkLine l line != (0 : Int)) (q2.1 = [] ∧ q2.2.1 = [] ∧ q2.2.2 = [] ∧ chkLine l line = errE q10 q11 ∧ True) (((0 : Int) ≤ (↑(List.length l) : Int) ∧ (↑(List.length l) : Int) ≤ (1000000000 : Int)) ∧ splitB (!(decide ((0 : Int) < line) && decide (line < (↑(List.length l) : Int) - (1 : Int)))) (q2.1 = [] ∧ q2.2.1 = [] ∧ q2.2.2 = [] ∧ (14 : Int) = errE q10 q11 ∧ True) (chkFld l = (0 : Int) ∧ fits IntKind.i64 (line - (1 : Int)) ∧ ((0 : Int) ≤ line - (1 : Int) ∧ line - (1 : Int) < q8) ∧ fits IntKind.i64 (line + (1 : Int)) ∧ ((0 : Int) ≤ line + (1 : Int) ∧ line + (1 : Int) < q8) ∧ List.length q4 ≤ (100000 : Nat) ∧ List.length q7 = List.length q4 ∧ Bd q9 q4 ∧ Bd q9 q7 ∧ ((0 : Int) ≤ line ∧ line < q8) ∧ ((0 : Int) ≤ line ∧ line < q8) ∧ List.length q3 ≤ (100000 : Nat) ∧ List.length (combI plusI q4 q7) = List.length q3 ∧ Bd q9 q3 ∧ Bd q9 (combI plusI q4 q7) ∧ List.length q0 ≤ (100000 : Nat) ∧ Bd q9 q0 ∧ (0 : Int) ≤ line ∧ ((0 : Int) < (8 : Int) ∧ (8 : Int) ≤ (1000 : Int)) ∧ List.length q5 ≤ (100000 : Nat) ∧ List.length q6 = List.length q5 ∧ Bd q9 q5 ∧ Bd q9 q6 ∧ (0 : Int) ≤ line ∧ List.length q3 ≤ (100000 : Nat) ∧ List.length q12 = List.length q3 ∧ Bd q9 q3 ∧ Bd q9 q12 ∧ List.length q1 ≤ (1000000 : Nat) ∧ List.length q5 ≤ (1000000 : Nat) ∧ List.length q6 ≤ (1000000 : Nat) ∧ (3 : Nat) ≤ (1000000000 : Nat) ∧ splitB (first [lgE q1, lgE q5, lgE q6] != (0 : Int)) (q2.1 = [] ∧ q2.2.1 = [] ∧ q2.2.2 = [] ∧ first [lgE q1, lgE q5, lgE q6] = errE q10 q11 ∧ True) (smpsN q1 = q2.1 ∧ smpsN q5 = q2.2.1 ∧ smpsN q6 = q2.2.2 ∧ (0 : Int) = errE q10 q11 ∧ True)))) := by
  kernel_rfl
theorem vc50 (l : Fld) (line : Int) : exFr (env false [(100, sp100), (87, sp87), (125, sp125), (102, sp102), (22, sp22)] [fb114]) h50 3 50 Proofs.Tryz.f50 [fldV l, iV line] (.tup [pV (errP (twoE l line) (twoI l line)), iV (errE (twoE l line) (twoI l line))]) = (let q3 := (List.getD l (Int.toNat line) []); let q0 := (sixs q3); let q1 := (List.getD l (Int.toNat (line - (1 : Int))) []); let q2 := (List.getD l (Int.toNat (line + (1 : Int))) []); let q4 := (errP (twoE l line) (twoI l line)); let q9 := (List.length q0); let q5 := (↑q9 : Int); let q6 := (List.length q0 / (4 : Nat)); let q7 := (↑(List.length l) : Int); let q8 := (1000000 : Nat); let q10 := ((0 : Int) ≤ q5 ∧ (0 : Int) < (4 : Int) ∧ fits IntKind.i64 (q5 / (4 : Int))); let q15 := ((0 : Int) < (2 : Int) ∧ (2 : Int) ≤ (1000000000 : Int)); let q16 := ((0 : Int) < (4 : Int) ∧ (4 : Int) ≤ (1000 : Int)); splitB (decide (q7 < (2 : Int))) (q4.1 = [] ∧ q4.2.1 = [] ∧ q4.2.2 = [] ∧ (16 : Int) = errE (twoE l line) (twoI l line) ∧ True) (fits IntKind.i64 (line + (1 : Int)) ∧ splitB (line + (1 : Int) == q7) (fits IntKind.i64 (line - (1 : Int)) ∧ ((0 : Int) ≤ line ∧ line < q7) ∧ List.length q3 ≤ q8 ∧ OkS q3 ∧ ((0 : Int) ≤ line - (1 : Int) ∧ line - (1 : Int) < q7) ∧ List.length q1 ≤ q8 ∧ OkS q1 ∧ (∃ (g : Nat), Nat.le g q9 ∧ (0 : Int) = (↑g : Int) ∧ line = line ∧ (tab g fun (n : Nat) => midI (List.getD q0 n (0 : Int)) (List.getD (sixs q1) n (0 : Int))) = [] ∧ (tab g fun (n : Nat) => minusI (List.getD q0 n (0 : Int)) (List.getD (sixs q1) n (0 : Int))) = [] ∧ sixs q1 = sixs q1 ∧ sixs q3 = sixs q3 ∧ True) ∧ ∀ (g : Nat), let q11 := ((0 : Int) ≤ (↑g : Int) ∧ (↑g : Int) < (↑(List.length (sixs q1)) : Int)); let q13 := (List.getD q0 g (0 : Int) + List.getD (sixs q1) g (0 : Int)); Nat.le g q9 → splitB (decide ((↑g : Int) < q5)) (((0 : Int) ≤ (↑g : Int) ∧ (↑g : Int) < q5) ∧ g < List.length q0 ∧ q11 ∧ g < List.length (sixs q1) ∧ fits IntKind.i64 q13 ∧ ((-1000000000 : Int) ≤ List.getD q0 g (0 : Int) + List.getD (sixs q1) g (0 : Int) ∧ List.getD q0 g (0 : Int) + List.getD (sixs q1) g (0 : Int) ≤ (1000000000 : Int)) ∧ q15 ∧ room (List.length (tab g fun (n : Nat) => midI (List.getD q0 n (0 : Int)) (List.getD (sixs q1) n (0 : Int))) + (1 : Nat)) (8 : Nat) ∧ ((0 : Int) ≤ (↑g : Int) ∧ (↑g : Int) < q5) ∧ g < List.length q0 ∧ q11 ∧ g < List.length (sixs q1) ∧ fits IntKind.i64 (List.getD q0 g (0 : Int) - List.getD (sixs q1) g (0 : Int)) ∧ room (List.length (tab g fun (n : Nat) => minusI (List.getD q0 n (0 : Int)) (List.getD (sixs q1) n (0 : Int))) + (1 : Nat)) (8 : Nat) ∧ fits IntKind.i64 ((↑g : Int) + (1 : Int)) ∧ ∃ (g' : Nat), Nat.le g' q9 ∧ List.length q0 - g' < List.length q0 - g ∧ (↑g : Int) + (1 : Int) = (↑g' : Int) ∧ line = line ∧ ((tab g fun (n : Nat) => midI (List.getD q0 n (0 : Int)) (List.getD (sixs q1) n (0 : Int))) ++ [roundI q13 (2 : Int)] = tab g' fun (n : Nat) => midI (List.getD q0 n (0 : Int)) (List.getD (sixs q1) n (0 : Int))) ∧ ((tab g fun (n : Nat) => minusI (List.getD q0 n (0 : Int)) (List.getD (sixs q1) n (0 : Int))) ++ [List.getD q0 g (0 : Int) - List.getD (sixs q1) g (0 : Int)] = tab g' fun (n : Nat) => minusI (List.getD q0 n (0 : Int)) (List.getD (sixs q1) n (0 : Int))) ∧ sixs q1 = sixs q1 ∧ sixs q3 = sixs q3 ∧ True) ((∃ (g_1 : Nat), Nat.le g_1 q6 ∧ (0 : Int) = (↑g_1 : Int) ∧ line = line ∧ (tab g_1 fun (c : Nat) => diffAt (0 : Nat) (tab g fun (n : Nat) => minusI (List.getD q0 n (0 : Int)) (List.getD (sixs q1) n (0 : Int))) c line (4 : Int)) = [] ∧ (tab g_1 fun (c : Nat) => diffAt (1 : Nat) (tab g fun (n : Nat) => minusI (List.getD q0 n (0 : Int)) (List.getD (sixs q1) n (0 : Int))) c line (4 : Int)) = [] ∧ ((tab g fun (n : Nat) => midI (List.getD q0 n (0 : Int)) (List.getD (sixs q1) n (0 : Int))) = tab g fun (n : Nat) => midI (List.getD q0 n (0 : Int)) (List.getD (sixs q1) n (0 : Int))) ∧ ((tab g fun (n : Nat) => minusI (List.getD q0 n (0 : Int)) (List.getD (sixs q1) n (0 : Int))) = tab g fun (n : Nat) => minusI (List.getD q0 n (0 : Int)) (List.getD (sixs q1) n (0 : Int))) ∧ sixs q1 = sixs q1 ∧ sixs q3 = sixs q3 ∧ True) ∧ ∀ (g_1 : Nat), Nat.le g_1 q6 → q10 ∧ splitB (decide ((↑g_1 : Int) < q5 / (4 : Int))) (Bd (1000000 : Int) (tab g fun (n : Nat) => minusI (List.getD q0 n (0 : Int)) (List.getD (sixs q1) n (0 : Int))) ∧ ((0 : Int) ≤ (↑g_1 : Int) ∧ (4 : Int) * (↑g_1 : Int) + (4 : Int) ≤ (↑(List.length (tab g fun (n : Nat) => minusI (List.getD q0 n (0 : Int)) (List.getD (sixs q1) n (0 : Int)))) : Int)) ∧ List.length (tab g fun (n : Nat) => minusI (List.getD q0 n (0 : Int)) (List.getD (sixs q1) n (0 : Int))) ≤ (100000 : Nat) ∧ (0 : Int) ≤ line ∧ q16 ∧ room (List.length (tab g_1 fun (c : Nat) => diffAt (0 : Nat) (tab g fun (n : Nat) => minusI (List.getD q0 n (0 : Int)) (List.getD (sixs q1) n (0 : Int))) c line (4 : Int)) + (1 : Nat)) (8 : Nat) ∧ room (List.length (tab g_1 fun (c : Nat) => diffAt (1 : Nat) (tab g fun (n : Nat) => minusI (List.getD q0 n (0 : Int)) (List.getD (sixs q1) n (0 : Int))) c line (4 : Int)) + (1 : Nat)) (8 : Nat) ∧ fits IntKind.i64 ((↑g_1 : Int) + (1 : Int)) ∧ ∃ (g' : Nat), Nat.le g' q6 ∧ List.length q0 / (4 : Nat) - g' < List.length q0 / (4 : Nat) - g_1 ∧ (↑g_1 : Int) + (1 : Int) = (↑g' : Int) ∧ line = line ∧ ((tab g_1 fun (c : Nat) => diffAt (0 : Nat) (tab g fun (n : Nat) => minusI (List.getD q0 n (0 : Int)) (List.getD (sixs q1) n (0 : Int))) c line (4 : Int)) ++ [diffAt (0 : Nat) (tab g fun (n : Nat) => minusI (List.getD q0 n (0 : Int)) (List.getD (sixs q1) n (0 : Int))) g_1 line (4 : Int)] = tab g' fun (c : Nat) => diffAt (0 : Nat) (tab g fun (n : Nat) => minusI (List.getD q0 n (0 : Int)) (List.getD (sixs q1) n (0 : Int))) c line (4 : Int)) ∧ ((tab g_1 fun (c : Nat) => diffAt (1 : Nat) (tab g fun (n : Nat) => minusI (List.getD q0 n (0 : Int)) (List.getD (sixs q1) n (0 : Int))) c line (4 : Int)) ++ [diffAt (1 : Nat) (tab g fun (n : Nat) => minusI (List.getD q0 n (0 : Int)) (List.getD (sixs q1) n (0 : Int))) g_1 line (4 : Int)] = tab g' fun (c : Nat) => diffAt (1 : Nat) (tab g fun (n : Nat) => minusI (List.getD q0 n (0 : Int)) (List.getD (sixs q1) n (0 : Int))) c line (4 : Int)) ∧ ((tab g fun (n : Nat) => midI (List.getD q0 n (0 : Int)) (List.getD (sixs q1) n (0 : Int))) = tab g fun (n : Nat) => midI (List.getD q0 n (0 : Int)) (List.getD (sixs q1) n (0 : Int))) ∧ ((tab g fun (n : Nat) => minusI (List.getD q0 n (0 : Int)) (List.getD (sixs q1) n (0 : Int))) = tab g fun (n : Nat) => minusI (List.getD q0 n (0 : Int)) (List.getD (sixs q1) n (0 : Int))) ∧ sixs q1 = sixs q1 ∧ sixs q3 = sixs q3 ∧ True) (List.length (tab g fun (n : Nat) => midI (List.getD q0 n (0 : Int)) (List.getD (sixs q1) n (0 : Int))) ≤ q8 ∧ List.length (tab g_1 fun (c : Nat) => diffAt (0 : Nat) (tab g fun (n : Nat) => minusI (List.getD q0 n (0 : Int)) (List.getD (sixs q1) n (0 : Int))) c line (4 : Int)) ≤ q8 ∧ List.length (tab g_1 fun (c : Nat) => diffAt (1 : Nat) (tab g fun (n : Nat) => minusI (List.getD q0 n (0 : Int)) (List.getD (sixs q1) n (0 : Int))) c line (4 : Int)) ≤ q8 ∧ (3 : Nat) ≤ (1000000000 : Nat) ∧ splitB (first [lgE (tab g fun (n : Nat) => midI (List.getD q0 n (0 : Int)) (List.getD (sixs q1) n (0 : Int))), lgE (tab g_1 fun (c : Nat) => diffAt (0 : Nat) (tab g fun (n : Nat) => minusI (List.getD q0 n (0 : Int)) (List.getD (sixs q1) n (0 : Int))) c line (4 : Int)), lgE (tab g_1 fun (c : Nat) => diffAt (1 : Nat) (tab g fun (n : Nat) => minusI (List.getD q0 n (0 : Int)) (List.getD (sixs q1) n (0 : Int))) c line (4 : Int))] != (0 : Int)) (q4.1 = [] ∧ q4.2.1 = [] ∧ q4.2.2 = [] ∧ first [lgE (tab g fun (n : Nat) => midI (List.getD q0 n (0 : Int)) (List.getD (sixs q1) n (0 : Int))), lgE (tab g_1 fun (c : Nat) => diffAt (0 : Nat) (tab g fun (n : Nat) => minusI (List.getD q0 n (0 : Int)) (List.getD (sixs q1) n (0 : Int))) c line (4 : Int)), lgE (tab g_1 fun (c : Nat) => diffAt (1 : Nat) (tab g fun (n : Nat) => minusI (List.getD q0 n (0 : Int)) (List.getD (sixs q1) n (0 : Int))) c line (4 : Int))] = errE (twoE l line) (twoI l line) ∧ True) (smpsN (tab g fun (n : Nat) => midI (List.getD q0 n (0 : Int)) (List.getD (sixs q1) n (0 : Int))) = q4.1 ∧ smpsN (tab g_1 fun (c : Nat) => diffAt (0 : Nat) (tab g fun (n : Nat) => minusI (List.getD q0 n (0 : Int)) (List.getD (sixs q1) n (0 : Int))) c line (4 : Int)) = q4.2.1 ∧ smpsN (tab g_1 fun (c : Nat) => diffAt (1 : Nat) (tab g fun (n : Nat) => minusI (List.getD q0 n (0 : Int)) (List.getD (sixs q1) n (0 : Int))) c line (4 : Int)) = q4.2.2 ∧ (0 : Int) = errE (twoE l line) (twoI l line) ∧ True)))) (((0 : Int) ≤ line ∧ line < q7) ∧ List.length q3 ≤ q8 ∧ OkS q3 ∧ ((0 : Int) ≤ line + (1 : Int) ∧ line + (1 : Int) < q7) ∧ List.length q2 ≤ q8 ∧ OkS q2 ∧ (∃ (g : Nat), Nat.le g q9 ∧ (0 : Int) = (↑g : Int) ∧ line = line ∧ (tab g fun (n : Nat) => midI (List.getD q0 n (0 : Int)) (List.getD (sixs q2) n (0 : Int))) = [] ∧ (tab g fun (n : Nat) => minusI (List.getD q0 n (0 : Int)) (List.getD (sixs q2) n (0 : Int))) = [] ∧ sixs q2 = sixs q2 ∧ sixs q3 = sixs q3 ∧ True) ∧ ∀ (g : Nat), let q12 := ((0 : Int) ≤ (↑g : Int) ∧ (↑g : Int) < (↑(List.length (sixs q2)) : Int)); let q14 := (List.getD q0 g (0 : Int) + List.getD (sixs q2) g (0 : Int)); Nat.le g q9 → splitB (decide ((↑g : Int) < q5)) (((0 : Int) ≤ (↑g : Int) ∧ (↑g : Int) < q5) ∧ g < List.length q0 ∧ q12 ∧ g < List.length (sixs q2) ∧ fits IntKind.i64 q14 ∧ ((-1000000000 : Int) ≤ List.getD q0 g (0 : Int) + List.getD (sixs q2) g (0 : Int) ∧ List.getD q0 g (0 : Int) + List.getD (sixs q2) g (0 : Int) ≤ (1000000000 : Int)) ∧ q15 ∧ room (List.length (tab g fun (n : Nat) => midI (List.getD q0 n (0 : Int)) (List.getD (sixs q2) n (0 : Int))) + (1 : Nat)) (8 : Nat) ∧ ((0 : Int) ≤ (↑g : Int) ∧ (↑g : Int) < q5) ∧ g < List.length q0 ∧ q12 ∧ g < List.length (sixs q2) ∧ fits IntKind.i64 (List.getD q0 g (0 : Int) - List.getD (sixs q2) g (0 : Int)) ∧ room (List.length (tab g fun (n : Nat) => minusI (List.getD q0 n (0 : Int)) (List.getD (sixs q2) n (0 : Int))) + (1 : Nat)) (8 : Nat) ∧ fits IntKind.i64 ((↑g : Int) + (1 : Int)) ∧ ∃ (g' : Nat), Nat.le g' q9 ∧ List.length q0 - g' < List.length q0 - g ∧ (↑g : Int) + (1 : Int) = (↑g' : Int) ∧ line = line ∧ ((tab g fun (n : Nat) => midI (List.getD q0 n (0 : Int)) (List.getD (sixs q2) n (0 : Int))) ++ [roundI q14 (2 : Int)] = tab g' fun (n : Nat) => midI (List.getD q0 n (0 : Int)) (List.getD (sixs q2) n (0 : Int))) ∧ ((tab g fun (n : Nat) => minusI (List.getD q0 n (0 : Int)) (List.getD (sixs q2) n (0 : Int))) ++ [List.getD q0 g (0 : Int) - List.getD (sixs q2) g (0 : Int)] = tab g' fun (n : Nat) => minusI (List.getD q0 n (0 : Int)) (List.getD (sixs q2) n (0 : Int))) ∧ sixs q2 = sixs q2 ∧ sixs q3 = sixs q3 ∧ True) ((∃ (g_1 : Nat), Nat.le g_1 q6 ∧ (0 : Int) = (↑g_1 : Int) ∧ line = line ∧ (tab g_1 fun (c : Nat) => diffAt (0 : Nat) (tab g fun (n : Nat) => minusI (List.getD q0 n (0 : Int)) (List.getD (sixs q2) n (0 : Int))) c line (4 : Int)) = [] ∧ (tab g_1 fun (c : Nat) => diffAt (1 : Nat) (tab g fun (n : Nat) => minusI (List.getD q0 n (0 : Int)) (List.getD (sixs q2) n (0 : Int))) c line (4 : Int)) = [] ∧ ((tab g fun (n : Nat) => midI (List.getD q0 n (0 : Int)) (List.getD (sixs q2) n (0 : Int))) = tab g fun (n : Nat) => midI (List.getD q0 n (0 : Int)) (List.getD (sixs q2) n (0 : Int))) ∧ ((tab g fun (n : Nat) => minusI (List.getD q0 n (0 : Int)) (List.getD (sixs q2) n (0 : Int))) = tab g fun (n : Nat) => minusI (List.getD q0 n (0 : Int)) (List.getD (sixs q2) n (0 : Int))) ∧ sixs q2 = sixs q2 ∧ sixs q3 = sixs q3 ∧ True) ∧ ∀ (g_1 : Nat), Nat.le g_1 q6 → q10 ∧ splitB (decide ((↑g_1 : Int) < q5 / (4 : Int))) (Bd (1000000 : Int) (tab g fun (n : Nat) => minusI (List.getD q0 n (0 : Int)) (List.getD (sixs q2) n (0 : Int))) ∧ ((0 : Int) ≤ (↑g_1 : Int) ∧ (4 : Int) * (↑g_1 : Int) + (4 : Int) ≤ (↑(List.length (tab g fun (n : Nat) => minusI (List.getD q0 n (0 : Int)) (List.getD (sixs q2) n (0 : Int)))) : Int)) ∧ List.length (tab g fun (n : Nat) => minusI (List.getD q0 n (0 : Int)) (List.getD (sixs q2) n (0 : Int))) ≤ (100000 : Nat) ∧ (0 : Int) ≤ line ∧ q16 ∧ room (List.length (tab g_1 fun (c : Nat) => diffAt (0 : Nat) (tab g fun (n : Nat) => minusI (List.getD q0 n (0 : Int)) (List.getD (sixs q2) n (0 : Int))) c line (4 : Int)) + (1 : Nat)) (8 : Nat) ∧ room (List.length (tab g_1 fun (c : Nat) => diffAt (1 : Nat) (tab g fun (n : Nat) => minusI (List.getD q0 n (0 : Int)) (List.getD (sixs q2) n (0 : Int))) c line (4 : Int)) + (1 : Nat)) (8 : Nat) ∧ fits IntKind.i64 ((↑g_1 : Int) + (1 : Int)) ∧ ∃ (g' : Nat), Nat.le g' q6 ∧ List.length q0 / (4 : Nat) - g' < List.length q0 / (4 : Nat) - g_1 ∧ (↑g_1 : Int) + (1 : Int) = (↑g' : Int) ∧ line = line ∧ ((tab g_1 fun (c : Nat) => diffAt (0 : Nat) (tab g fun (n : Nat) => minusI (List.getD q0 n (0 : Int)) (List.getD (sixs q2) n (0 : Int))) c line (4 : Int)) ++ [diffAt (0 : Nat) (tab g fun (n : Nat) => minusI (List.getD q0 n (0 : Int)) (List.getD (sixs q2) n (0 : Int))) g_1 line (4 : Int)] = tab g' fun (c : Nat) => diffAt (0 : Nat) (tab g fun (n : Nat) => minusI (List.getD q0 n (0 : Int)) (List.getD (sixs q2) n (0 : Int))) c line (4 : Int)) ∧ ((tab g_1 fun (c : Nat) => diffAt (1 : Nat) (tab g fun (n : Nat) => minusI (List.getD q0 n (0 : Int)) (List.getD (sixs q2) n (0 : Int))) c line (4 : Int)) ++ [diffAt (1 : Nat) (tab g fun (n : Nat) => minusI (List.getD q0 n (0 : Int)) (List.getD (sixs q2) n (0 : Int))) g_1 line (4 : Int)] = tab g' fun (c : Nat) => diffAt (1 : Nat) (tab g fun (n : Nat) => minusI (List.getD q0 n (0 : Int)) (List.getD (sixs q2) n (0 : Int))) c line (4 : Int)) ∧ ((tab g fun (n : Nat) => midI (List.getD q0 n (0 : Int)) (List.getD (sixs q2) n (0 : Int))) = tab g fun (n : Nat) => midI (List.getD q0 n (0 : Int)) (List.getD (sixs q2) n (0 : Int))) ∧ ((tab g fun (n : Nat) => minusI (List.getD q0 n (0 : Int)) (List.getD (sixs q2) n (0 : Int))) = tab g fun (n : Nat) => minusI (List.getD q0 n (0 : Int)) (List.getD (sixs q2) n (0 : Int))) ∧ sixs q2 = sixs q2 ∧ sixs q3 = sixs q3 ∧ True) (List.length (tab g fun (n : Nat) => midI (List.getD q0 n (0 : Int)) (List.getD (sixs q2) n (0 : Int))) ≤ q8 ∧ List.length (tab g_1 fun (c : Nat) => diffAt (0 : Nat) (tab g fun (n : Nat) => minusI (List.getD q0 n (0 : Int)) (List.getD (sixs q2) n (0 : Int))) c line (4 : Int)) ≤ q8 ∧ List.length (tab g_1 fun (c : Nat) => diffAt (1 : Nat) (tab g fun (n : Nat) => minusI (List.getD q0 n (0 : Int)) (List.getD (sixs q2) n (0 : Int))) c line (4 : Int)) ≤ q8 ∧ (3 : Nat) ≤ (1000000000 : Nat) ∧ splitB (first [lgE (tab g fun (n : Nat) => midI (List.getD q0 n (0 : Int)) (List.getD (sixs q2) n (0 : Int))), lgE (tab g_1 fun (c : Nat) => diffAt (0 : Nat) (tab g fun (n : Nat) => minusI (List.getD q0 n (0 : Int)) (List.getD (sixs q2) n (0 : Int))) c line (4 : Int)), lgE (tab g_1 fun (c : Nat) => diffAt (1 : Nat) (tab g fun (n : Nat) => minusI (List.getD q0 n (0 : Int)) (List.getD (sixs q2) n (0 : Int))) c line (4 : Int))] != (0 : Int)) (q4.1 = [] ∧ q4.2.1 = [] ∧ q4.2.2 = [] ∧ first [lgE (tab g fun (n : Nat) => midI (List.getD q0 n (0 : Int)) (List.getD (sixs q2) n (0 : Int))), lgE (tab g_1 fun (c : Nat) => diffAt (0 : Nat) (tab g fun (n : Nat) => minusI (List.getD q0 n (0 : Int)) (List.getD (sixs q2) n (0 : Int))) c line (4 : Int)), lgE (tab g_1 fun (c : Nat) => diffAt (1 : Nat) (tab g fun (n : Nat) => minusI (List.getD q0 n (0 : Int)) (List.getD (sixs q2) n (0 : Int))) c line (4 : Int))] = errE (twoE l line) (twoI l line) ∧ True) (smpsN (tab g fun (n : Nat) => midI (List.getD q0 n (0 : Int)) (List.getD (sixs q2) n (0 : Int))) = q4.1 ∧ smpsN (tab g_1 fun (c : Nat) => diffAt (0 : Nat) (tab g fun (n : Nat) => minusI (List.getD q0 n (0 : Int)) (List.getD (sixs q2) n (0 : Int))) c line (4 : Int)) = q4.2.1 ∧ smpsN (tab g_1 fun (c : Nat) => diffAt (1 : Nat) (tab g fun (n : Nat) => minusI (List.getD q0 n (0 : Int)) (List.getD (sixs q2) n (0 : Int))) c line (4 : Int)) = q4.2.2 ∧ (0 : Int) = errE (twoE l line) (twoI l line) ∧ True)))))) := by
  kernel_rfl
theorem vc126 (b s a : List Int) (c line : Int) : exF (env false [(125, sp125), (169, sp169)] []) h50 0 126 Proofs.Tryz.f126 [.one (.sl (.int .i64) b), .one (.sl (.int .i64) s), .one (.sl (.int .i64) a), iV c, iV line] (.tup [.one (.frs (.int .i64) (withN s c.toNat (diffAt 0 (thrD b s a) c.toNat line 8) (diffAt 1 (thrD b s a) c.toNat line 8) line)), iV (diffAt 0 (thrD b s a) c.toNat line 8), iV (diffAt 1 (thrD b s a) c.toNat line 8)]) = (let q0 := (List.length s); (∃ (g : Nat), Nat.le g q0 ∧ (0 : Int) = (↑g : Int) ∧ b = b ∧ s = s ∧ a = a ∧ c = c ∧ line = line ∧ (tab g fun (n : Nat) => (2 : Int) * List.getD s n (0 : Int) - List.getD b n (0 : Int) - List.getD a n (0 : Int)) = [] ∧ True) ∧ ∀ (g : Nat), Nat.le g q0 → splitB (decide ((↑g : Int) < (↑q0 : Int))) (((0 : Int) ≤ (↑g : Int) ∧ (↑g : Int) < (↑q0 : Int)) ∧ fits IntKind.i64 ((2 : Int) * List.getD s g (0 : Int)) ∧ ((0 : Int) ≤ (↑g : Int) ∧ (↑g : Int) < (↑(List.length b) : Int)) ∧ fits IntKind.i64 ((2 : Int) * List.getD s g (0 : Int) - List.getD b g (0 : Int)) ∧ ((0 : Int) ≤ (↑g : Int) ∧ (↑g : Int) < (↑(List.length a) : Int)) ∧ fits IntKind.i64 ((2 : Int) * List.getD s g (0 : Int) - List.getD b g (0 : Int) - List.getD a g (0 : Int)) ∧ room (List.length (tab g fun (n : Nat) => (2 : Int) * List.getD s n (0 : Int) - List.getD b n (0 : Int) - List.getD a n (0 : Int)) + (1 : Nat)) (8 : Nat) ∧ fits IntKind.i64 ((↑g : Int) + (1 : Int)) ∧ ∃ (g' : Nat), Nat.le g' q0 ∧ List.length s - g' < List.length s - g ∧ (↑g : Int) + (1 : Int) = (↑g' : Int) ∧ b = b ∧ s = s ∧ a = a ∧ c = c ∧ line = line ∧ ((tab g fun (n : Nat) => (2 : Int) * List.getD s n (0 : Int) - List.getD b n (0 : Int) - List.getD a n (0 : Int)) ++ [(2 : Int) * List.getD s g (0 : Int) - List.getD b g (0 : Int) - List.getD a g (0 : Int)] = tab g' fun (n : Nat) => (2 : Int) * List.getD s n (0 : Int) - List.getD b n (0 : Int) - List.getD a n (0 : Int)) ∧ True) (Bd (1000000 : Int) (tab g fun (n : Nat) => (2 : Int) * List.getD s n (0 : Int) - List.getD b n (0 : Int) - List.getD a n (0 : Int)) ∧ ((0 : Int) ≤ c ∧ (4 : Int) * c + (4 : Int) ≤ (↑(List.length (tab g fun (n : Nat) => (2 : Int) * List.getD s n (0 : Int) - List.getD b n (0 : Int) - List.getD a n (0 : Int))) : Int)) ∧ List.length (tab g fun (n : Nat) => (2 : Int) * List.getD s n (0 : Int) - List.getD b n (0 : Int) - List.getD a n (0 : Int)) ≤ (100000 : Nat) ∧ (0 : Int) ≤ line ∧ ((0 : Int) < (8 : Int) ∧ (8 : Int) ≤ (1000 : Int)) ∧ Bd (1000000 : Int) s ∧ ((0 : Int) ≤ c ∧ (4 : Int) * c + (4 : Int) ≤ (↑q0 : Int)) ∧ List.length s ≤ (100000 : Nat) ∧ ((-1000000 : Int) ≤ diffAt (0 : Nat) (tab g fun (n : Nat) => (2 : Int) * List.getD s n (0 : Int) - List.getD b n (0 : Int) - List.getD a n (0 : Int)) (Int.toNat c) line (8 : Int) ∧ diffAt (0 : Nat) (tab g fun (n : Nat) => (2 : Int) * List.getD s n (0 : Int) - List.getD b n (0 : Int) - List.getD a n (0 : Int)) (Int.toNat c) line (8 : Int) ≤ (1000000 : Int)) ∧ ((-1000000 : Int) ≤ diffAt (1 : Nat) (tab g fun (n : Nat) => (2 : Int) * List.getD s n (0 : Int) - List.getD b n (0 : Int) - List.getD a n (0 : Int)) (Int.toNat c) line (8 : Int) ∧ diffAt (1 : Nat) (tab g fun (n : Nat) => (2 : Int) * List.getD s n (0 : Int) - List.getD b n (0 : Int) - List.getD a n (0 : Int)) (Int.toNat c) line (8 : Int) ≤ (1000000 : Int)) ∧ (0 : Int) ≤ line ∧ withN s (Int.toNat c) (diffAt (0 : Nat) (tab g fun (n : Nat) => (2 : Int) * List.getD s n (0 : Int) - List.getD b n (0 : Int) - List.getD a n (0 : Int)) (Int.toNat c) line (8 : Int)) (diffAt (1 : Nat) (tab g fun (n : Nat) => (2 : Int) * List.getD s n (0 : Int) - List.getD b n (0 : Int) - List.getD a n (0 : Int)) (Int.toNat c) line (8 : Int)) line = withN s (Int.toNat c) (diffAt (0 : Nat) (thrD b s a) (Int.toNat c) line (8 : Int)) (diffAt (1 : Nat) (thrD b s a) (Int.toNat c) line (8 : Int)) line ∧ diffAt (0 : Nat) (tab g fun (n : Nat) => (2 : Int) * List.getD s n (0 : Int) - List.getD b n (0 : Int) - List.getD a n (0 : Int)) (Int.toNat c) line (8 : Int) = diffAt (0 : Nat) (thrD b s a) (Int.toNat c) line (8 : Int) ∧ diffAt (1 : Nat) (tab g fun (n : Nat) => (2 : Int) * List.getD s n (0 : Int) - List.getD b n (0 : Int) - List.getD a n (0 : Int)) (Int.toNat c) line (8 : Int) = diffAt (1 : Nat) (thrD b s a) (Int.toNat c) line (8 : Int) ∧ True)) := by
  kernel_rfl
theorem vc51 (l : Fld) (line : Int) : exFr (env false [(100, sp100), (126, sp126), (102, sp102), (22, sp22)] [fb114]) h50 3 51 Proofs.Tryz.f51 [fldV l, iV line] (.tup [pV (errP (threeE l line) (threeL l line)), iV (errE (threeE l line) (threeL l line))]) = (let q5 := (List.getD l (Int.toNat line) []); let q1 := (sixs q5); let q0 := (thrD (lnI l (line - (1 : Int))) q1 (lnI l (line + (1 : Int)))); let q7 := (List.getD l (Int.toNat (line + (1 : Int))) []); let q6 := (List.getD l (Int.toNat (line - (1 : Int))) []); let q2 := (thrD (sixs q6) q1 (sixs q7)); let q3 := (errP (threeE l line) (threeL l line)); let q8 := (↑(List.length l) : Int); let q9 := (apAt q1 q0 line (8 : Int)); let q10 := (↑(List.length q1) : Int); let q11 := (1000000 : Nat); let q12 := (List.length q1 / (4 : Nat)); ((line == (0 : Int)) = false → fits IntKind.i64 (q8 - (1 : Int))) ∧ splitB (bif line == (0 : Int) then true else line == q8 - (1 : Int)) (q3.1 = [] ∧ q3.2.1 = [] ∧ q3.2.2 = [] ∧ (14 : Int) = errE (threeE l line) (threeL l line) ∧ True) (((0 : Int) ≤ line ∧ line < q8) ∧ List.length q5 ≤ q11 ∧ OkS q5 ∧ (∃ (g : Nat), Nat.le g q12 ∧ (0 : Int) = (↑g : Int) ∧ l = l ∧ line = line ∧ tab ((4 : Nat) * g) q9 = [] ∧ (tab g fun (c : Nat) => diffAt (0 : Nat) q0 c line (8 : Int)) = [] ∧ (tab g fun (c : Nat) => diffAt (1 : Nat) q0 c line (8 : Int)) = [] ∧ sixs q5 = sixs q5 ∧ True) ∧ ∀ (g : Nat), let q4 := (tab ((4 : Nat) * g) q9); Nat.le g q12 → ((0 : Int) ≤ q10 ∧ (0 : Int) < (4 : Int) ∧ fits IntKind.i64 (q10 / (4 : Int))) ∧ splitB (decide ((↑g : Int) < q10 / (4 : Int))) (fits IntKind.i64 (line - (1 : Int)) ∧ ((0 : Int) ≤ line - (1 : Int) ∧ line - (1 : Int) < q8) ∧ List.length q6 ≤ q11 ∧ OkS q6 ∧ fits IntKind.i64 (line + (1 : Int)) ∧ ((0 : Int) ≤ line + (1 : Int) ∧ line + (1 : Int) < q8) ∧ List.length q7 ≤ q11 ∧ OkS q7 ∧ Bd (16384 : Int) (sixs q6) ∧ Bd (16384 : Int) q1 ∧ Bd (16384 : Int) (sixs q7) ∧ List.length (sixs q6) = List.length q1 ∧ List.length (sixs q7) = List.length q1 ∧ ((0 : Int) ≤ (↑g : Int) ∧ (4 : Int) * (↑g : Int) + (4 : Int) ≤ q10) ∧ List.length q1 ≤ (100000 : Nat) ∧ (0 : Int) ≤ line ∧ room (List.length q4 + List.length (withN q1 g (diffAt (0 : Nat) q2 g line (8 : Int)) (diffAt (1 : Nat) q2 g line (8 : Int)) line)) (8 : Nat) ∧ room (List.length (tab g fun (c : Nat) => diffAt (0 : Nat) q0 c line (8 : Int)) + (1 : Nat)) (8 : Nat) ∧ room (List.length (tab g fun (c : Nat) => diffAt (1 : Nat) q0 c line (8 : Int)) + (1 : Nat)) (8 : Nat) ∧ fits IntKind.i64 ((↑g : Int) + (1 : Int)) ∧ ∃ (g' : Nat), Nat.le g' q12 ∧ List.length q1 / (4 : Nat) - g' < List.length q1 / (4 : Nat) - g ∧ (↑g : Int) + (1 : Int) = (↑g' : Int) ∧ l = l ∧ line = line ∧ tab ((4 : Nat) * g) q9 ++ withN q1 g (diffAt (0 : Nat) q2 g line (8 : Int)) (diffAt (1 : Nat) q2 g line (8 : Int)) line = tab ((4 : Nat) * g') q9 ∧ ((tab g fun (c : Nat) => diffAt (0 : Nat) q0 c line (8 : Int)) ++ [diffAt (0 : Nat) q2 g line (8 : Int)] = tab g' fun (c : Nat) => diffAt (0 : Nat) q0 c line (8 : Int)) ∧ ((tab g fun (c : Nat) => diffAt (1 : Nat) q0 c line (8 : Int)) ++ [diffAt (1 : Nat) q2 g line (8 : Int)] = tab g' fun (c : Nat) => diffAt (1 : Nat) q0 c line (8 : Int)) ∧ sixs q5 = sixs q5 ∧ True) (List.length q4 ≤ q11 ∧ List.length (tab g fun (c : Nat) => diffAt (0 : Nat) q0 c line (8 : Int)) ≤ q11 ∧ List.length (tab g fun (c : Nat) => diffAt (1 : Nat) q0 c line (8 : Int)) ≤ q11 ∧ (3 : Nat) ≤ (1000000000 : Nat) ∧ splitB (first [lgE q4, lgE (tab g fun (c : Nat) => diffAt (0 : Nat) q0 c line (8 : Int)), lgE (tab g fun (c : Nat) => diffAt (1 : Nat) q0 c line (8 : Int))] != (0 : Int)) (q3.1 = [] ∧ q3.2.1 = [] ∧ q3.2.2 = [] ∧ first [lgE q4, lgE (tab g fun (c : Nat) => diffAt (0 : Nat) q0 c line (8 : Int)), lgE (tab g fun (c : Nat) => diffAt (1 : Nat) q0 c line (8 : Int))] = errE (threeE l line) (threeL l line) ∧ True) (smpsN q4 = q3.1 ∧ smpsN (tab g fun (c : Nat) => diffAt (0 : Nat) q0 c line (8 : Int)) = q3.2.1 ∧ smpsN (tab g fun (c : Nat) => diffAt (1 : Nat) q0 c line (8 : Int)) = q3.2.2 ∧ (0 : Int) = errE (threeE l line) (threeL l line) ∧ True)))) := by
  kernel_rfl
end Go.Sx
