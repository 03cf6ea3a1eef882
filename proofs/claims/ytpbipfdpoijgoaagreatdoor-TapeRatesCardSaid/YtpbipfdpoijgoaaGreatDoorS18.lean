/- A verified symbolic run of functions, part 18: lemmas, no claim of their own. -/
import Derived.Test.YtpbipfdpoijgoaaGreatDoorS17
/- What the engine asks, written out (printed by a program). -/
namespace Go.Sx
open U
theorem vc192 (F : Int) (D : Bool) (m : Int) : exF (env false [] []) h0 0 192 Proofs.Tryz.f192 [rtV F D, iV m] (.val (iV (minN F D m))) = ((D = true → (0 : Int) ≤ m ∧ (0 : Int) < (10 : Int)) ∧ splitB (bif D then m % (10 : Int) != (0 : Int) else false) (fits IntKind.i64 ((60 : Int) * F) ∧ fits IntKind.i64 ((60 : Int) * F - (2 : Int)) ∧ (60 : Int) * F - (2 : Int) = minN F D m ∧ True) (fits IntKind.i64 ((60 : Int) * F) ∧ (60 : Int) * F = minN F D m ∧ True)) := by
  kernel_rfl
theorem vc145 (F : Int) (D : Bool) (h m s f : Int) : exF (env false [(192, sp192)] []) h145 0 145 Proofs.Tryz.f145 [rtV F D, lbV h m s f] (.val (iV (frameN F D h m s f))) = (let q0 := ((60 : Int) * h + m); (∃ (g : Nat), Nat.le g (Int.toNat q0) ∧ (0 : Int) = (↑g : Int) ∧ (0 : Int) = minTo F D g ∧ h = h ∧ m = m ∧ s = s ∧ f = f ∧ F = F ∧ D = D ∧ True) ∧ ∀ (g : Nat), Nat.le g (Int.toNat q0) → fits IntKind.i64 ((60 : Int) * h) ∧ fits IntKind.i64 q0 ∧ splitB (decide ((↑g : Int) < (60 : Int) * h + m)) ((0 : Int) ≤ (↑g : Int) ∧ ((0 : Int) ≤ F ∧ F ≤ (1000 : Int)) ∧ fits IntKind.i64 (minTo F D g + minN F D (↑g : Int)) ∧ fits IntKind.i64 ((↑g : Int) + (1 : Int)) ∧ ∃ (g' : Nat), Nat.le g' (Int.toNat q0) ∧ Int.toNat q0 - g' < Int.toNat q0 - g ∧ (↑g : Int) + (1 : Int) = (↑g' : Int) ∧ minTo F D g + minN F D (↑g : Int) = minTo F D g' ∧ h = h ∧ m = m ∧ s = s ∧ f = f ∧ F = F ∧ D = D ∧ True) (fits IntKind.i64 (s * F) ∧ fits IntKind.i64 (minTo F D g + s * F) ∧ fits IntKind.i64 (minTo F D g + s * F + f) ∧ (D = true → (0 : Int) ≤ m ∧ (0 : Int) < (10 : Int)) ∧ splitB (bif D then m % (10 : Int) != (0 : Int) else false) (fits IntKind.i64 (minTo F D g + s * F + f - (2 : Int)) ∧ minTo F D g + s * F + f - (2 : Int) = frameN F D h m s f ∧ True) (minTo F D g + s * F + f = frameN F D h m s f ∧ True))) := by
  kernel_rfl
theorem vc143 (F : Int) (D : Bool) : exF (env false [(145, sp145)] []) h0 0 143 Proofs.Tryz.f143 [rtV F D] (.val (iV (dayN F D))) = (fits IntKind.i64 (F - (1 : Int)) ∧ RateOk F D ∧ LabOk F D (23 : Int) (59 : Int) (59 : Int) (F - (1 : Int)) ∧ fits IntKind.i64 (frameN F D (23 : Int) (59 : Int) (59 : Int) (F - (1 : Int)) + (1 : Int)) ∧ frameN F D (23 : Int) (59 : Int) (59 : Int) (F - (1 : Int)) + (1 : Int) = dayN F D ∧ True) := by
  kernel_rfl
theorem vc144 (F : Int) (D : Bool) (n : Int) : exF (env false [(192, sp192)] []) h144 0 144 Proofs.Tryz.f144 [rtV F D, iV n] (.val (lbW (lab F D n))) = ((∃ (g : Nat), (g ≤ (1440 : Nat) ∧ minTo F D g ≤ n) ∧ n = n - minTo F D g ∧ (0 : Int) = (↑g : Int) ∧ (0 : Int) = (0 : Int) ∧ (0 : Int) = (0 : Int) ∧ (0 : Int) = (0 : Int) ∧ (0 : Int) = (0 : Int) ∧ F = F ∧ D = D ∧ True) ∧ ∀ (g : Nat), let q0 := ((0 : Int) ≤ (↑g : Int) ∧ (0 : Int) < (60 : Int) ∧ fits IntKind.i64 ((↑g : Int) / (60 : Int))); let q1 := (n - minTo F D g + (2 : Int)); let q2 := ((0 : Int) ≤ (↑g : Int) ∧ (0 : Int) < (60 : Int)); g ≤ (1440 : Nat) ∧ minTo F D g ≤ n → (0 : Int) ≤ (↑g : Int) ∧ ((0 : Int) ≤ F ∧ F ≤ (1000 : Int)) ∧ splitB (decide (minN F D (↑g : Int) ≤ n - minTo F D g)) ((0 : Int) ≤ (↑g : Int) ∧ ((0 : Int) ≤ F ∧ F ≤ (1000 : Int)) ∧ fits IntKind.i64 (n - minTo F D g - minN F D (↑g : Int)) ∧ fits IntKind.i64 ((↑g : Int) + (1 : Int)) ∧ ∃ (g' : Nat), (g' ≤ (1440 : Nat) ∧ minTo F D g' ≤ n) ∧ (1440 : Nat) - g' < (1440 : Nat) - g ∧ n - minTo F D g - minN F D (↑g : Int) = n - minTo F D g' ∧ (↑g : Int) + (1 : Int) = (↑g' : Int) ∧ (0 : Int) = (0 : Int) ∧ (0 : Int) = (0 : Int) ∧ (0 : Int) = (0 : Int) ∧ (0 : Int) = (0 : Int) ∧ F = F ∧ D = D ∧ True) ((D = true → (0 : Int) ≤ (↑g : Int) ∧ (0 : Int) < (10 : Int)) ∧ splitB (bif D then (↑g : Int) % (10 : Int) != (0 : Int) else false) (fits IntKind.i64 q1 ∧ q0 ∧ q2 ∧ ((0 : Int) ≤ n - minTo F D g + (2 : Int) ∧ (0 : Int) < F ∧ fits IntKind.i64 (q1 / F)) ∧ ((0 : Int) ≤ n - minTo F D g + (2 : Int) ∧ (0 : Int) < F) ∧ (↑g : Int) / (60 : Int) = (lab F D n).1 ∧ (↑g : Int) % (60 : Int) = (lab F D n).2.1 ∧ q1 / F = (lab F D n).2.2.1 ∧ q1 % F = (lab F D n).2.2.2 ∧ True) (q0 ∧ q2 ∧ ((0 : Int) ≤ n - minTo F D g ∧ (0 : Int) < F ∧ fits IntKind.i64 ((n - minTo F D g) / F)) ∧ ((0 : Int) ≤ n - minTo F D g ∧ (0 : Int) < F) ∧ (↑g : Int) / (60 : Int) = (lab F D n).1 ∧ (↑g : Int) % (60 : Int) = (lab F D n).2.1 ∧ (n - minTo F D g) / F = (lab F D n).2.2.1 ∧ (n - minTo F D g) % F = (lab F D n).2.2.2 ∧ True))) := by
  kernel_rfl
theorem vc65 (F : Int) (D : Bool) (h m s f n : Int) : exF (env false [(143, sp143), (145, sp145), (144, sp144)] []) h0 0 65 Proofs.Tryz.f65 [rtV F D, lbV h m s f, iV n] (.val (lbW (lab F D (addN F D h m s f n)))) = (RateOk F D ∧ RateOk F D ∧ LabOk F D h m s f ∧ fits IntKind.i64 (frameN F D h m s f + n) ∧ ((0 : Int) ≤ frameN F D h m s f + n ∧ (0 : Int) < dayN F D) ∧ fits IntKind.i64 ((frameN F D h m s f + n) % dayN F D + dayN F D) ∧ ((0 : Int) ≤ (frameN F D h m s f + n) % dayN F D + dayN F D ∧ (0 : Int) < dayN F D) ∧ RateOk F D ∧ ((0 : Int) ≤ ((frameN F D h m s f + n) % dayN F D + dayN F D) % dayN F D ∧ ((frameN F D h m s f + n) % dayN F D + dayN F D) % dayN F D < dayN F D) ∧ Prod.fst (lab F D (((frameN F D h m s f + n) % dayN F D + dayN F D) % dayN F D)) = Prod.fst (lab F D (addN F D h m s f n)) ∧ Prod.fst (Prod.snd (lab F D (((frameN F D h m s f + n) % dayN F D + dayN F D) % dayN F D))) = Prod.fst (Prod.snd (lab F D (addN F D h m s f n))) ∧ Prod.fst (Prod.snd (Prod.snd (lab F D (((frameN F D h m s f + n) % dayN F D + dayN F D) % dayN F D)))) = Prod.fst (Prod.snd (Prod.snd (lab F D (addN F D h m s f n)))) ∧ Prod.snd (Prod.snd (Prod.snd (lab F D (((frameN F D h m s f + n) % dayN F D + dayN F D) % dayN F D)))) = Prod.snd (Prod.snd (Prod.snd (lab F D (addN F D h m s f n)))) ∧ True) := by
  kernel_rfl
theorem vc64 (l : List Int) (n : Int) : exF (env false [] []) h64 0 64 Proofs.Tryz.f64 [.one (.sl (.int .i64) l), iV n] (.val (.one (.frs p2T (pullN l n.toNat)))) = (let q2 := (↑(List.length l) : Int); (∃ (g : Nat), Nat.le g (Int.toNat n) ∧ (0 : Int) = (↑g : Int) ∧ l = l ∧ n = n ∧ fldTo l g = [] ∧ True) ∧ ∀ (g : Nat), let q0 := (List.getD l (Int.toNat ((↑g : Int) % q2)) (0 : Int)); let q3 := (List.length (fldTo l g) / (2 : Nat)); let q4 := (↑(List.length (fldTo l g)) : Int); Nat.le g (Int.toNat n) → splitB (decide ((↑g : Int) < n)) ((∃ (g_1 : Nat), Nat.le g_1 (Int.toNat q0) ∧ (0 : Int) = (↑g_1 : Int) ∧ (↑g : Int) = (↑g : Int) ∧ l = l ∧ n = n ∧ fldTo l g = fldTo l g ++ List.replicate g_1 (↑g : Int) ∧ True) ∧ ∀ (g_1 : Nat), Nat.le g_1 (Int.toNat q0) → ((0 : Int) ≤ (↑g : Int) ∧ (0 : Int) < q2) ∧ ((0 : Int) ≤ (↑g : Int) % q2 ∧ (↑g : Int) % q2 < q2) ∧ splitB (decide ((↑g_1 : Int) < List.getD l (Int.toNat ((↑g : Int) % q2)) (0 : Int))) (room (List.length (fldTo l g ++ List.replicate g_1 (↑g : Int)) + (1 : Nat)) (8 : Nat) ∧ fits IntKind.i64 ((↑g_1 : Int) + (1 : Int)) ∧ ∃ (g' : Nat), Nat.le g' (Int.toNat q0) ∧ Int.toNat q0 - g' < Int.toNat q0 - g_1 ∧ (↑g_1 : Int) + (1 : Int) = (↑g' : Int) ∧ (↑g : Int) = (↑g : Int) ∧ l = l ∧ n = n ∧ fldTo l g ++ List.replicate g_1 (↑g : Int) ++ [(↑g : Int)] = fldTo l g ++ List.replicate g' (↑g : Int) ∧ True) (fits IntKind.i64 ((↑g : Int) + (1 : Int)) ∧ ∃ (g' : Nat), Nat.le g' (Int.toNat n) ∧ Int.toNat n - g' < Int.toNat n - g ∧ (↑g : Int) + (1 : Int) = (↑g' : Int) ∧ l = l ∧ n = n ∧ fldTo l g ++ List.replicate g_1 (↑g : Int) = fldTo l g' ∧ True)) ((∃ (g_1 : Nat), Nat.le g_1 q3 ∧ (0 : Int) = (↑((2 : Nat) * g_1) : Int) ∧ prsTo (fldTo l g) g_1 = [] ∧ fldTo l g = fldTo l g ∧ True) ∧ ∀ (g_1 : Nat), let q1 := (↑((2 : Nat) * g_1) : Int); Nat.le g_1 q3 → fits IntKind.i64 (q1 + (1 : Int)) ∧ splitB (decide (q1 + (1 : Int) < q4)) (((0 : Int) ≤ q1 ∧ q1 < q4) ∧ (2 : Nat) * g_1 < List.length (fldTo l g) ∧ fits IntKind.i64 (q1 + (1 : Int)) ∧ ((0 : Int) ≤ q1 + (1 : Int) ∧ q1 + (1 : Int) < q4) ∧ Int.toNat (q1 + (1 : Int)) < List.length (fldTo l g) ∧ room (List.length (prsTo (fldTo l g) g_1) + (1 : Nat)) (16 : Nat) ∧ fits IntKind.i64 (q1 + (2 : Int)) ∧ ∃ (g' : Nat), Nat.le g' q3 ∧ List.length (fldTo l g) / (2 : Nat) - g' < List.length (fldTo l g) / (2 : Nat) - g_1 ∧ q1 + (2 : Int) = (↑((2 : Nat) * g') : Int) ∧ prsTo (fldTo l g) g_1 ++ [[List.getD (fldTo l g) ((2 : Nat) * g_1) (0 : Int), List.getD (fldTo l g) (Int.toNat (q1 + (1 : Int))) (0 : Int)]] = prsTo (fldTo l g) g' ∧ fldTo l g = fldTo l g ∧ True) (prsTo (fldTo l g) g_1 = pullN l (Int.toNat n) ∧ True))) := by
  kernel_rfl
theorem vc213n (F : Int) (D : Bool) (h m s f : Int) : exF (env true [] []) h0 0 213 Proofs.Tryz.f213 [lbV h m s f, rtV F D] (.val (bV (dropB D m s f))) = ((D = true → (10 : Int) ≠ (0 : Int)) ∧ (bif bif bif D then Int.tmod m (10 : Int) != (0 : Int) else false then s == (0 : Int) else false then decide (f < (2 : Int)) else false) = dropB D m s f ∧ True) := by
  kernel_rfl
theorem vc188n (F : Int) (D : Bool) (h m s f : Int) : exF (env true [(212, sp212), (186, sp186), (183, sp183), (182, sp182), (213, sp213n)] []) h0 0 188 Proofs.Tryz.f188 [rtV F D, lbV h m s f] (.val (iV (chkLab F D h m s f))) = ((6 : Nat) ≤ (1000000000 : Nat) ∧ first [chkRate F D, within h (0 : Int) (23 : Int), within m (0 : Int) (59 : Int), within s (0 : Int) (59 : Int), within f (0 : Int) (IntKind.wrap IntKind.i64 (F - (1 : Int))), whenE (dropB D m s f) (7 : Int)] = chkLab F D h m s f ∧ True) := by
  kernel_rfl
theorem vc140n (F : Int) (D : Bool) (h m s f u : Int) : exF (env false [(188, sp188n), (186, sp186), (182, sp182)] []) h0 0 140 Proofs.Tryz.f140 [stV F D h m s f u] (.val (iV (chkStamp F D h m s f u))) = ((2 : Nat) ≤ (1000000000 : Nat) ∧ first [chkLab F D h m s f, within u (0 : Int) (65535 : Int)] = chkStamp F D h m s f u ∧ True) := by
  kernel_rfl
theorem vc60n (R : List Rl) (L : List Ed) (x : St7) : exF (env false [(43, sp43), (140, sp140n), (106, sp106), (120, sp120), (141, sp141)] []) h60 0 60 Proofs.Tryz.f60 [.one (.sl rlT R), .one (.sl edT L), stW x] (.tup [.one (.frs lbT (bif labE R L x == 0 then labsN x (ls L) else [])), iV (labE R L x)]) = (let q4 := (List.length L); let q0 := (plTo L q4); let q2 := ((x.1.1, x.1.2), (x.2.1.1, x.2.1.2.1, x.2.1.2.2.1, x.2.1.2.2.2), x.2.2); let q3 := (↑(List.length q0) : Int); let q5 := (1000000000 : Nat); List.length R ≤ q5 ∧ (∀ (r : Rl), r ∈ R → List.length r.2.2 ≤ (1000000 : Nat)) ∧ List.length L ≤ q5 ∧ (2 : Nat) ≤ q5 ∧ splitB (first [chkEds R L, chkStamp x.1.1 x.1.2 x.2.1.1 x.2.1.2.1 x.2.1.2.2.1 x.2.1.2.2.2 x.2.2] != (0 : Int)) ((bif labE R L x == (0 : Int) then labsN x (ls L) else []) = [] ∧ first [chkEds R L, chkStamp x.1.1 x.1.2 x.2.1.1 x.2.1.2.1 x.2.1.2.2.1 x.2.1.2.2.2 x.2.2] = labE R L x ∧ True) (List.length R ≤ q5 ∧ EdsIn L ∧ (∃ (g : Nat), Nat.le g (List.length q0) ∧ (0 : Int) = (↑g : Int) ∧ q3 = q3 ∧ plTo L q4 = plTo L q4 ∧ labsN q2 (List.take g q0) = [] ∧ [chkEds R L, chkStamp x.1.1 x.1.2 x.2.1.1 x.2.1.2.1 x.2.1.2.2.1 x.2.1.2.2.2 x.2.2] = [chkEds R L, chkStamp x.1.1 x.1.2 x.2.1.1 x.2.1.2.1 x.2.1.2.2.1 x.2.1.2.2.2 x.2.2] ∧ x.1.1 = x.1.1 ∧ x.1.2 = x.1.2 ∧ x.2.1.1 = x.2.1.1 ∧ x.2.1.2.1 = x.2.1.2.1 ∧ x.2.1.2.2.1 = x.2.1.2.2.1 ∧ x.2.1.2.2.2 = x.2.1.2.2.2 ∧ x.2.2 = x.2.2 ∧ True) ∧ ∀ (g : Nat), let q1 := (lab x.1.1 x.1.2 (addN x.1.1 x.1.2 x.2.1.1 x.2.1.2.1 x.2.1.2.2.1 x.2.1.2.2.2 (List.getD q0 g pl0).2)); Nat.le g (List.length q0) → splitB (decide ((↑g : Int) < q3)) (((0 : Int) ≤ (↑g : Int) ∧ (↑g : Int) < q3) ∧ RateOk x.1.1 x.1.2 ∧ LabOk x.1.1 x.1.2 x.2.1.1 x.2.1.2.1 x.2.1.2.2.1 x.2.1.2.2.2 ∧ ((0 : Int) ≤ (List.getD q0 g pl0).2 ∧ (List.getD q0 g pl0).2 ≤ (10000000 : Int)) ∧ room (List.length (labsN q2 (List.take g q0)) + (1 : Nat)) (32 : Nat) ∧ fits IntKind.i64 ((↑g : Int) + (1 : Int)) ∧ ∃ (g' : Nat), Nat.le g' (List.length q0) ∧ List.length q0 - g' < List.length q0 - g ∧ (↑g : Int) + (1 : Int) = (↑g' : Int) ∧ q3 = q3 ∧ plTo L q4 = plTo L q4 ∧ labsN q2 (List.take g q0) ++ [(q1.1, q1.2.1, q1.2.2.1, q1.2.2.2)] = labsN q2 (List.take g' q0) ∧ [chkEds R L, chkStamp x.1.1 x.1.2 x.2.1.1 x.2.1.2.1 x.2.1.2.2.1 x.2.1.2.2.2 x.2.2] = [chkEds R L, chkStamp x.1.1 x.1.2 x.2.1.1 x.2.1.2.1 x.2.1.2.2.1 x.2.1.2.2.2 x.2.2] ∧ x.1.1 = x.1.1 ∧ x.1.2 = x.1.2 ∧ x.2.1.1 = x.2.1.1 ∧ x.2.1.2.1 = x.2.1.2.1 ∧ x.2.1.2.2.1 = x.2.1.2.2.1 ∧ x.2.1.2.2.2 = x.2.1.2.2.2 ∧ x.2.2 = x.2.2 ∧ True) ((labsN q2 (List.take g q0) = bif labE R L x == (0 : Int) then labsN x (ls L) else []) ∧ (0 : Int) = labE R L x ∧ True))) := by
  kernel_rfl
theorem vc7 (R : List Rl) (L : List Ed) (l : List Int) (x : St7) : exF (env false [(17, sp17), (18, sp18), (25, sp25), (34, sp34), (59, sp59), (58, sp58), (60, sp60n), (38, sp38), (62, sp62), (61, sp61), (63, sp63), (39, sp39), (64, sp64), (65, sp65), (66, sp66n)] []) h7 0 7 Proofs.Tryz.f7 [.one (.sl rlT R), .one (.sl edT L), .agg [.one (.sl (.int .i64) l), .one (.int .i64 x.1.1), .one (.bool x.1.2), .one (.int .i64 x.2.1.1), .one (.int .i64 x.2.1.2.1), .one (.int .i64 x.2.1.2.2.1), .one (.int .i64 x.2.1.2.2.2), .one (.int .i64 x.2.2)]] (.val (bV true)) = (let q0 := ((x.1.1, x.1.2), (x.2.1.1, x.2.1.2.1, x.2.1.2.2.1, x.2.1.2.2.2), x.2.2); let q1 := (bif labE R L q0 == (0 : Int) then labsN q0 (ls L) else []); let q2 := (q1 = bif labE R L q0 == (0 : Int) then labsN q0 (ls L) else []); let q3 := (bif bif bif decide (convL R L l = []) then convE R L l == first [chkEds R L, chkCad l] else false then labE R L q0 == first [chkEds R L, chkStamp x.1.1 x.1.2 x.2.1.1 x.2.1.2.1 x.2.1.2.2.1 x.2.1.2.2.2 x.2.2] else false then true else false); let q4 := (bif bif bif decide (convL R L l = []) then convE R L l == (5 : Int) else false then labE R L q0 == first [chkEds R L, chkStamp x.1.1 x.1.2 x.2.1.1 x.2.1.2.1 x.2.1.2.2.1 x.2.1.2.2.2 x.2.2] else false then true else false); let q5 := (List.length (startsL L)); let q6 := (first [chkEds R L, chkStamp x.1.1 x.1.2 x.2.1.1 x.2.1.2.1 x.2.1.2.2.1 x.2.1.2.2.2 x.2.2] != (0 : Int)); let q7 := ((0 : Int), (0 : Int), (0 : Int), (0 : Int)); let q11 := (↑(List.length q1) : Int); let q17 := (Int.toNat (lenL L)); let q12 := (bif bif bif decide (convL R L l = pullN l q17) then convE R L l == first [chkEds R L, chkCad l] else false then labE R L q0 == first [chkEds R L, chkStamp x.1.1 x.1.2 x.2.1.1 x.2.1.2.1 x.2.1.2.2.1 x.2.1.2.2.2 x.2.2] else false then true else false); let q13 := (bif bif bif decide (convL R L l = pullN l (0 : Nat)) then convE R L l == first [chkEds R L, chkCad l] else false then labE R L q0 == first [chkEds R L, chkStamp x.1.1 x.1.2 x.2.1.1 x.2.1.2.1 x.2.1.2.2.1 x.2.1.2.2.2 x.2.2] else false then true else false); let q14 := (false = true ∧ True); let q15 := (1000000 : Nat); let q20 := (Ty.int IntKind.i64); let q16 := (Ty.pair q20 (Ty.pair q20 (Ty.pair q20 q20))); let q18 := (1000000000 : Nat); let q19 := (q11 != (0 : Int)); List.length R ≤ (9223372036854775807 : Nat) ∧ List.length L ≤ (9223372036854775807 : Nat) ∧ splitB (bif !shortB R L then true else decide ((10 : Int) < (↑(List.length l) : Int))) (true = true ∧ True) (List.length R ≤ q15 ∧ (∀ (r : Rl), r ∈ R → List.length r.2.2 ≤ q15) ∧ List.length L ≤ q15 ∧ List.length l ≤ q15 ∧ List.length R ≤ q18 ∧ (∀ (r : Rl), r ∈ R → List.length r.2.2 ≤ q15) ∧ List.length L ≤ q18 ∧ List.length R ≤ q15 ∧ (∀ (r : Rl), r ∈ R → List.length r.2.2 ≤ q15) ∧ List.length L ≤ q15 ∧ List.length R ≤ q18 ∧ (∀ (r : Rl), r ∈ R → List.length r.2.2 ≤ q15) ∧ List.length L ≤ q18 ∧ List.length R ≤ q18 ∧ (∀ (r : Rl), r ∈ R → List.length r.2.2 ≤ q15 ∧ List.length r.1 ≤ q18) ∧ List.length L ≤ q18 ∧ (∀ (x : Ed), x ∈ L → fits IntKind.i64 x.2.2.1) ∧ (2 : Nat) ≤ q18 ∧ (2 : Nat) ≤ q18 ∧ splitB (chkEds R L == (0 : Int)) (EdsIn L ∧ splitB (bif first [chkEds R L, chkCad l] == (0 : Int) then decide ((256 : Int) < lenL L) else false) (splitB q6 (splitB q19 q14 ((∃ (g : Nat), Nat.le g (0 : Nat) ∧ (0 : Int) = (↑g : Int) ∧ (5 : Int) = (5 : Int) ∧ (0 : Int) = (0 : Int) ∧ first [chkEds R L, chkStamp x.1.1 x.1.2 x.2.1.1 x.2.1.2.1 x.2.1.2.2.1 x.2.1.2.2.2 x.2.2] = first [chkEds R L, chkStamp x.1.1 x.1.2 x.2.1.1 x.2.1.2.1 x.2.1.2.2.1 x.2.1.2.2.2 x.2.2] ∧ labE R L q0 = labE R L q0 ∧ convE R L l = convE R L l ∧ startsL L = startsL L ∧ [chkEds R L, chkStamp x.1.1 x.1.2 x.2.1.1 x.2.1.2.1 x.2.1.2.2.1 x.2.1.2.2.2 x.2.2] = [chkEds R L, chkStamp x.1.1 x.1.2 x.2.1.1 x.2.1.2.1 x.2.1.2.2.1 x.2.1.2.2.2 x.2.2] ∧ [chkEds R L, chkCad l] = [chkEds R L, chkCad l] ∧ q2 ∧ L = L ∧ convL R L l = convL R L l ∧ l = l ∧ L = L ∧ l = l ∧ x.1.1 = x.1.1 ∧ x.1.2 = x.1.2 ∧ x.2.1.1 = x.2.1.1 ∧ x.2.1.2.1 = x.2.1.2.1 ∧ x.2.1.2.2.1 = x.2.1.2.2.1 ∧ x.2.1.2.2.2 = x.2.1.2.2.2 ∧ x.2.2 = x.2.2 ∧ True) ∧ ∀ (g : Nat), Nat.le g (0 : Nat) → List.length (convL R L l) ≤ q15 ∧ (∀ (x : List Int), x ∈ convL R L l → List.length x = (2 : Nat)) ∧ q4 = true ∧ True)) (splitB (q11 != (↑q5 : Int)) q14 ((∃ (g : Nat), Nat.le g q5 ∧ (0 : Int) = (↑g : Int) ∧ (5 : Int) = (5 : Int) ∧ (↑q5 : Int) = (↑q5 : Int) ∧ first [chkEds R L, chkStamp x.1.1 x.1.2 x.2.1.1 x.2.1.2.1 x.2.1.2.2.1 x.2.1.2.2.2 x.2.2] = first [chkEds R L, chkStamp x.1.1 x.1.2 x.2.1.1 x.2.1.2.1 x.2.1.2.2.1 x.2.1.2.2.2 x.2.2] ∧ labE R L q0 = labE R L q0 ∧ convE R L l = convE R L l ∧ startsL L = startsL L ∧ [chkEds R L, chkStamp x.1.1 x.1.2 x.2.1.1 x.2.1.2.1 x.2.1.2.2.1 x.2.1.2.2.2 x.2.2] = [chkEds R L, chkStamp x.1.1 x.1.2 x.2.1.1 x.2.1.2.1 x.2.1.2.2.1 x.2.1.2.2.2 x.2.2] ∧ [chkEds R L, chkCad l] = [chkEds R L, chkCad l] ∧ q2 ∧ L = L ∧ convL R L l = convL R L l ∧ l = l ∧ L = L ∧ l = l ∧ x.1.1 = x.1.1 ∧ x.1.2 = x.1.2 ∧ x.2.1.1 = x.2.1.1 ∧ x.2.1.2.1 = x.2.1.2.1 ∧ x.2.1.2.2.1 = x.2.1.2.2.1 ∧ x.2.1.2.2.2 = x.2.1.2.2.2 ∧ x.2.2 = x.2.2 ∧ True) ∧ ∀ (g : Nat), let q8 := (lab x.1.1 x.1.2 (addN x.1.1 x.1.2 x.2.1.1 x.2.1.2.1 x.2.1.2.2.1 x.2.1.2.2.2 (List.getD (startsL L) g (0 : Int)))); let q21 := (List.getD q1 g q7); Nat.le g q5 → splitB (decide ((↑g : Int) < (↑q5 : Int))) (((0 : Int) ≤ (↑g : Int) ∧ (↑g : Int) < (↑q5 : Int)) ∧ g < List.length (startsL L) ∧ ((0 : Int) ≤ (↑g : Int) ∧ (↑g : Int) < q11) ∧ g < List.length q1 ∧ RateOk x.1.1 x.1.2 ∧ LabOk x.1.1 x.1.2 x.2.1.1 x.2.1.2.1 x.2.1.2.2.1 x.2.1.2.2.2 ∧ ((0 : Int) ≤ List.getD (startsL L) g (0 : Int) ∧ List.getD (startsL L) g (0 : Int) ≤ (10000000 : Int)) ∧ splitB (!eqT q16 (q21.1, q21.2.1, q21.2.2.1, q21.2.2.2) (q8.1, q8.2.1, q8.2.2.1, q8.2.2.2)) q14 (fits IntKind.i64 ((↑g : Int) + (1 : Int)) ∧ ∃ (g' : Nat), Nat.le g' q5 ∧ List.length (startsL L) - g' < List.length (startsL L) - g ∧ (↑g : Int) + (1 : Int) = (↑g' : Int) ∧ (5 : Int) = (5 : Int) ∧ (↑q5 : Int) = (↑q5 : Int) ∧ first [chkEds R L, chkStamp x.1.1 x.1.2 x.2.1.1 x.2.1.2.1 x.2.1.2.2.1 x.2.1.2.2.2 x.2.2] = first [chkEds R L, chkStamp x.1.1 x.1.2 x.2.1.1 x.2.1.2.1 x.2.1.2.2.1 x.2.1.2.2.2 x.2.2] ∧ labE R L q0 = labE R L q0 ∧ convE R L l = convE R L l ∧ startsL L = startsL L ∧ [chkEds R L, chkStamp x.1.1 x.1.2 x.2.1.1 x.2.1.2.1 x.2.1.2.2.1 x.2.1.2.2.2 x.2.2] = [chkEds R L, chkStamp x.1.1 x.1.2 x.2.1.1 x.2.1.2.1 x.2.1.2.2.1 x.2.1.2.2.2 x.2.2] ∧ [chkEds R L, chkCad l] = [chkEds R L, chkCad l] ∧ q2 ∧ L = L ∧ convL R L l = convL R L l ∧ l = l ∧ L = L ∧ l = l ∧ x.1.1 = x.1.1 ∧ x.1.2 = x.1.2 ∧ x.2.1.1 = x.2.1.1 ∧ x.2.1.2.1 = x.2.1.2.1 ∧ x.2.1.2.2.1 = x.2.1.2.2.1 ∧ x.2.1.2.2.2 = x.2.1.2.2.2 ∧ x.2.2 = x.2.2 ∧ True)) (List.length (convL R L l) ≤ q15 ∧ (∀ (x : List Int), x ∈ convL R L l → List.length x = (2 : Nat)) ∧ q4 = true ∧ True)))) (splitB (first [chkEds R L, chkCad l] == (0 : Int)) (chkCad l = (0 : Int) ∧ ((0 : Int) ≤ lenL L ∧ lenL L ≤ (256 : Int)) ∧ splitB q6 (splitB q19 q14 ((∃ (g : Nat), Nat.le g (0 : Nat) ∧ (0 : Int) = (↑g : Int) ∧ first [chkEds R L, chkCad l] = first [chkEds R L, chkCad l] ∧ (0 : Int) = (0 : Int) ∧ first [chkEds R L, chkStamp x.1.1 x.1.2 x.2.1.1 x.2.1.2.1 x.2.1.2.2.1 x.2.1.2.2.2 x.2.2] = first [chkEds R L, chkStamp x.1.1 x.1.2 x.2.1.1 x.2.1.2.1 x.2.1.2.2.1 x.2.1.2.2.2 x.2.2] ∧ labE R L q0 = labE R L q0 ∧ convE R L l = convE R L l ∧ pullN l q17 = pullN l q17 ∧ startsL L = startsL L ∧ [chkEds R L, chkStamp x.1.1 x.1.2 x.2.1.1 x.2.1.2.1 x.2.1.2.2.1 x.2.1.2.2.2 x.2.2] = [chkEds R L, chkStamp x.1.1 x.1.2 x.2.1.1 x.2.1.2.1 x.2.1.2.2.1 x.2.1.2.2.2 x.2.2] ∧ [chkEds R L, chkCad l] = [chkEds R L, chkCad l] ∧ q2 ∧ L = L ∧ convL R L l = convL R L l ∧ l = l ∧ L = L ∧ l = l ∧ x.1.1 = x.1.1 ∧ x.1.2 = x.1.2 ∧ x.2.1.1 = x.2.1.1 ∧ x.2.1.2.1 = x.2.1.2.1 ∧ x.2.1.2.2.1 = x.2.1.2.2.1 ∧ x.2.1.2.2.2 = x.2.1.2.2.2 ∧ x.2.2 = x.2.2 ∧ True) ∧ ∀ (g : Nat), Nat.le g (0 : Nat) → List.length (convL R L l) ≤ q15 ∧ (∀ (x : List Int), x ∈ convL R L l → List.length x = (2 : Nat)) ∧ (∀ (x : List Int), x ∈ pullN l q17 → List.length x = (2 : Nat)) ∧ q12 = true ∧ True)) (splitB (q11 != (↑q5 : Int)) q14 ((∃ (g : Nat), Nat.le g q5 ∧ (0 : Int) = (↑g : Int) ∧ first [chkEds R L, chkCad l] = first [chkEds R L, chkCad l] ∧ (↑q5 : Int) = (↑q5 : Int) ∧ first [chkEds R L, chkStamp x.1.1 x.1.2 x.2.1.1 x.2.1.2.1 x.2.1.2.2.1 x.2.1.2.2.2 x.2.2] = first [chkEds R L, chkStamp x.1.1 x.1.2 x.2.1.1 x.2.1.2.1 x.2.1.2.2.1 x.2.1.2.2.2 x.2.2] ∧ labE R L q0 = labE R L q0 ∧ convE R L l = convE R L l ∧ pullN l q17 = pullN l q17 ∧ startsL L = startsL L ∧ [chkEds R L, chkStamp x.1.1 x.1.2 x.2.1.1 x.2.1.2.1 x.2.1.2.2.1 x.2.1.2.2.2 x.2.2] = [chkEds R L, chkStamp x.1.1 x.1.2 x.2.1.1 x.2.1.2.1 x.2.1.2.2.1 x.2.1.2.2.2 x.2.2] ∧ [chkEds R L, chkCad l] = [chkEds R L, chkCad l] ∧ q2 ∧ L = L ∧ convL R L l = convL R L l ∧ l = l ∧ L = L ∧ l = l ∧ x.1.1 = x.1.1 ∧ x.1.2 = x.1.2 ∧ x.2.1.1 = x.2.1.1 ∧ x.2.1.2.1 = x.2.1.2.1 ∧ x.2.1.2.2.1 = x.2.1.2.2.1 ∧ x.2.1.2.2.2 = x.2.1.2.2.2 ∧ x.2.2 = x.2.2 ∧ True) ∧ ∀ (g : Nat), let q9 := (lab x.1.1 x.1.2 (addN x.1.1 x.1.2 x.2.1.1 x.2.1.2.1 x.2.1.2.2.1 x.2.1.2.2.2 (List.getD (startsL L) g (0 : Int)))); let q22 := (List.getD q1 g q7); Nat.le g q5 → splitB (decide ((↑g : Int) < (↑q5 : Int))) (((0 : Int) ≤ (↑g : Int) ∧ (↑g : Int) < (↑q5 : Int)) ∧ g < List.length (startsL L) ∧ ((0 : Int) ≤ (↑g : Int) ∧ (↑g : Int) < q11) ∧ g < List.length q1 ∧ RateOk x.1.1 x.1.2 ∧ LabOk x.1.1 x.1.2 x.2.1.1 x.2.1.2.1 x.2.1.2.2.1 x.2.1.2.2.2 ∧ ((0 : Int) ≤ List.getD (startsL L) g (0 : Int) ∧ List.getD (startsL L) g (0 : Int) ≤ (10000000 : Int)) ∧ splitB (!eqT q16 (q22.1, q22.2.1, q22.2.2.1, q22.2.2.2) (q9.1, q9.2.1, q9.2.2.1, q9.2.2.2)) q14 (fits IntKind.i64 ((↑g : Int) + (1 : Int)) ∧ ∃ (g' : Nat), Nat.le g' q5 ∧ List.length (startsL L) - g' < List.length (startsL L) - g ∧ (↑g : Int) + (1 : Int) = (↑g' : Int) ∧ first [chkEds R L, chkCad l] = first [chkEds R L, chkCad l] ∧ (↑q5 : Int) = (↑q5 : Int) ∧ first [chkEds R L, chkStamp x.1.1 x.1.2 x.2.1.1 x.2.1.2.1 x.2.1.2.2.1 x.2.1.2.2.2 x.2.2] = first [chkEds R L, chkStamp x.1.1 x.1.2 x.2.1.1 x.2.1.2.1 x.2.1.2.2.1 x.2.1.2.2.2 x.2.2] ∧ labE R L q0 = labE R L q0 ∧ convE R L l = convE R L l ∧ pullN l q17 = pullN l q17 ∧ startsL L = startsL L ∧ [chkEds R L, chkStamp x.1.1 x.1.2 x.2.1.1 x.2.1.2.1 x.2.1.2.2.1 x.2.1.2.2.2 x.2.2] = [chkEds R L, chkStamp x.1.1 x.1.2 x.2.1.1 x.2.1.2.1 x.2.1.2.2.1 x.2.1.2.2.2 x.2.2] ∧ [chkEds R L, chkCad l] = [chkEds R L, chkCad l] ∧ q2 ∧ L = L ∧ convL R L l = convL R L l ∧ l = l ∧ L = L ∧ l = l ∧ x.1.1 = x.1.1 ∧ x.1.2 = x.1.2 ∧ x.2.1.1 = x.2.1.1 ∧ x.2.1.2.1 = x.2.1.2.1 ∧ x.2.1.2.2.1 = x.2.1.2.2.1 ∧ x.2.1.2.2.2 = x.2.1.2.2.2 ∧ x.2.2 = x.2.2 ∧ True)) (List.length (convL R L l) ≤ q15 ∧ (∀ (x : List Int), x ∈ convL R L l → List.length x = (2 : Nat)) ∧ (∀ (x : List Int), x ∈ pullN l q17 → List.length x = (2 : Nat)) ∧ q12 = true ∧ True)))) (splitB q6 (splitB q19 q14 ((∃ (g : Nat), Nat.le g (0 : Nat) ∧ (0 : Int) = (↑g : Int) ∧ first [chkEds R L, chkCad l] = first [chkEds R L, chkCad l] ∧ (0 : Int) = (0 : Int) ∧ first [chkEds R L, chkStamp x.1.1 x.1.2 x.2.1.1 x.2.1.2.1 x.2.1.2.2.1 x.2.1.2.2.2 x.2.2] = first [chkEds R L, chkStamp x.1.1 x.1.2 x.2.1.1 x.2.1.2.1 x.2.1.2.2.1 x.2.1.2.2.2 x.2.2] ∧ labE R L q0 = labE R L q0 ∧ convE R L l = convE R L l ∧ startsL L = startsL L ∧ [chkEds R L, chkStamp x.1.1 x.1.2 x.2.1.1 x.2.1.2.1 x.2.1.2.2.1 x.2.1.2.2.2 x.2.2] = [chkEds R L, chkStamp x.1.1 x.1.2 x.2.1.1 x.2.1.2.1 x.2.1.2.2.1 x.2.1.2.2.2 x.2.2] ∧ [chkEds R L, chkCad l] = [chkEds R L, chkCad l] ∧ q2 ∧ L = L ∧ convL R L l = convL R L l ∧ l = l ∧ L = L ∧ l = l ∧ x.1.1 = x.1.1 ∧ x.1.2 = x.1.2 ∧ x.2.1.1 = x.2.1.1 ∧ x.2.1.2.1 = x.2.1.2.1 ∧ x.2.1.2.2.1 = x.2.1.2.2.1 ∧ x.2.1.2.2.2 = x.2.1.2.2.2 ∧ x.2.2 = x.2.2 ∧ True) ∧ ∀ (g : Nat), Nat.le g (0 : Nat) → List.length (convL R L l) ≤ q15 ∧ (∀ (x : List Int), x ∈ convL R L l → List.length x = (2 : Nat)) ∧ q3 = true ∧ True)) (splitB (q11 != (↑q5 : Int)) q14 ((∃ (g : Nat), Nat.le g q5 ∧ (0 : Int) = (↑g : Int) ∧ first [chkEds R L, chkCad l] = first [chkEds R L, chkCad l] ∧ (↑q5 : Int) = (↑q5 : Int) ∧ first [chkEds R L, chkStamp x.1.1 x.1.2 x.2.1.1 x.2.1.2.1 x.2.1.2.2.1 x.2.1.2.2.2 x.2.2] = first [chkEds R L, chkStamp x.1.1 x.1.2 x.2.1.1 x.2.1.2.1 x.2.1.2.2.1 x.2.1.2.2.2 x.2.2] ∧ labE R L q0 = labE R L q0 ∧ convE R L l = convE R L l ∧ startsL L = startsL L ∧ [chkEds R L, chkStamp x.1.1 x.1.2 x.2.1.1 x.2.1.2.1 x.2.1.2.2.1 x.2.1.2.2.2 x.2.2] = [chkEds R L, chkStamp x.1.1 x.1.2 x.2.1.1 x.2.1.2.1 x.2.1.2.2.1 x.2.1.2.2.2 x.2.2] ∧ [chkEds R L, chkCad l] = [chkEds R L, chkCad l] ∧ q2 ∧ L = L ∧ convL R L l = convL R L l ∧ l = l ∧ L = L ∧ l = l ∧ x.1.1 = x.1.1 ∧ x.1.2 = x.1.2 ∧ x.2.1.1 = x.2.1.1 ∧ x.2.1.2.1 = x.2.1.2.1 ∧ x.2.1.2.2.1 = x.2.1.2.2.1 ∧ x.2.1.2.2.2 = x.2.1.2.2.2 ∧ x.2.2 = x.2.2 ∧ True) ∧ ∀ (g : Nat), let q10 := (lab x.1.1 x.1.2 (addN x.1.1 x.1.2 x.2.1.1 x.2.1.2.1 x.2.1.2.2.1 x.2.1.2.2.2 (List.getD (startsL L) g (0 : Int)))); let q23 := (List.getD q1 g q7); Nat.le g q5 → splitB (decide ((↑g : Int) < (↑q5 : Int))) (((0 : Int) ≤ (↑g : Int) ∧ (↑g : Int) < (↑q5 : Int)) ∧ g < List.length (startsL L) ∧ ((0 : Int) ≤ (↑g : Int) ∧ (↑g : Int) < q11) ∧ g < List.length q1 ∧ RateOk x.1.1 x.1.2 ∧ LabOk x.1.1 x.1.2 x.2.1.1 x.2.1.2.1 x.2.1.2.2.1 x.2.1.2.2.2 ∧ ((0 : Int) ≤ List.getD (startsL L) g (0 : Int) ∧ List.getD (startsL L) g (0 : Int) ≤ (10000000 : Int)) ∧ splitB (!eqT q16 (q23.1, q23.2.1, q23.2.2.1, q23.2.2.2) (q10.1, q10.2.1, q10.2.2.1, q10.2.2.2)) q14 (fits IntKind.i64 ((↑g : Int) + (1 : Int)) ∧ ∃ (g' : Nat), Nat.le g' q5 ∧ List.length (startsL L) - g' < List.length (startsL L) - g ∧ (↑g : Int) + (1 : Int) = (↑g' : Int) ∧ first [chkEds R L, chkCad l] = first [chkEds R L, chkCad l] ∧ (↑q5 : Int) = (↑q5 : Int) ∧ first [chkEds R L, chkStamp x.1.1 x.1.2 x.2.1.1 x.2.1.2.1 x.2.1.2.2.1 x.2.1.2.2.2 x.2.2] = first [chkEds R L, chkStamp x.1.1 x.1.2 x.2.1.1 x.2.1.2.1 x.2.1.2.2.1 x.2.1.2.2.2 x.2.2] ∧ labE R L q0 = labE R L q0 ∧ convE R L l = convE R L l ∧ startsL L = startsL L ∧ [chkEds R L, chkStamp x.1.1 x.1.2 x.2.1.1 x.2.1.2.1 x.2.1.2.2.1 x.2.1.2.2.2 x.2.2] = [chkEds R L, chkStamp x.1.1 x.1.2 x.2.1.1 x.2.1.2.1 x.2.1.2.2.1 x.2.1.2.2.2 x.2.2] ∧ [chkEds R L, chkCad l] = [chkEds R L, chkCad l] ∧ q2 ∧ L = L ∧ convL R L l = convL R L l ∧ l = l ∧ L = L ∧ l = l ∧ x.1.1 = x.1.1 ∧ x.1.2 = x.1.2 ∧ x.2.1.1 = x.2.1.1 ∧ x.2.1.2.1 = x.2.1.2.1 ∧ x.2.1.2.2.1 = x.2.1.2.2.1 ∧ x.2.1.2.2.2 = x.2.1.2.2.2 ∧ x.2.2 = x.2.2 ∧ True)) (List.length (convL R L l) ≤ q15 ∧ (∀ (x : List Int), x ∈ convL R L l → List.length x = (2 : Nat)) ∧ q3 = true ∧ True)))))) (splitB (bif first [chkEds R L, chkCad l] == (0 : Int) then decide ((256 : Int) < (0 : Int)) else false) (splitB q6 (splitB q19 q14 ((∃ (g : Nat), Nat.le g (0 : Nat) ∧ (0 : Int) = (↑g : Int) ∧ (5 : Int) = (5 : Int) ∧ (0 : Int) = (0 : Int) ∧ first [chkEds R L, chkStamp x.1.1 x.1.2 x.2.1.1 x.2.1.2.1 x.2.1.2.2.1 x.2.1.2.2.2 x.2.2] = first [chkEds R L, chkStamp x.1.1 x.1.2 x.2.1.1 x.2.1.2.1 x.2.1.2.2.1 x.2.1.2.2.2 x.2.2] ∧ labE R L q0 = labE R L q0 ∧ convE R L l = convE R L l ∧ [chkEds R L, chkStamp x.1.1 x.1.2 x.2.1.1 x.2.1.2.1 x.2.1.2.2.1 x.2.1.2.2.2 x.2.2] = [chkEds R L, chkStamp x.1.1 x.1.2 x.2.1.1 x.2.1.2.1 x.2.1.2.2.1 x.2.1.2.2.2 x.2.2] ∧ [chkEds R L, chkCad l] = [chkEds R L, chkCad l] ∧ q2 ∧ L = L ∧ convL R L l = convL R L l ∧ l = l ∧ L = L ∧ l = l ∧ x.1.1 = x.1.1 ∧ x.1.2 = x.1.2 ∧ x.2.1.1 = x.2.1.1 ∧ x.2.1.2.1 = x.2.1.2.1 ∧ x.2.1.2.2.1 = x.2.1.2.2.1 ∧ x.2.1.2.2.2 = x.2.1.2.2.2 ∧ x.2.2 = x.2.2 ∧ True) ∧ ∀ (g : Nat), Nat.le g (0 : Nat) → List.length (convL R L l) ≤ q15 ∧ (∀ (x : List Int), x ∈ convL R L l → List.length x = (2 : Nat)) ∧ q4 = true ∧ True)) (splitB q19 q14 ((∃ (g : Nat), Nat.le g (0 : Nat) ∧ (0 : Int) = (↑g : Int) ∧ (5 : Int) = (5 : Int) ∧ (0 : Int) = (0 : Int) ∧ first [chkEds R L, chkStamp x.1.1 x.1.2 x.2.1.1 x.2.1.2.1 x.2.1.2.2.1 x.2.1.2.2.2 x.2.2] = first [chkEds R L, chkStamp x.1.1 x.1.2 x.2.1.1 x.2.1.2.1 x.2.1.2.2.1 x.2.1.2.2.2 x.2.2] ∧ labE R L q0 = labE R L q0 ∧ convE R L l = convE R L l ∧ [chkEds R L, chkStamp x.1.1 x.1.2 x.2.1.1 x.2.1.2.1 x.2.1.2.2.1 x.2.1.2.2.2 x.2.2] = [chkEds R L, chkStamp x.1.1 x.1.2 x.2.1.1 x.2.1.2.1 x.2.1.2.2.1 x.2.1.2.2.2 x.2.2] ∧ [chkEds R L, chkCad l] = [chkEds R L, chkCad l] ∧ q2 ∧ L = L ∧ convL R L l = convL R L l ∧ l = l ∧ L = L ∧ l = l ∧ x.1.1 = x.1.1 ∧ x.1.2 = x.1.2 ∧ x.2.1.1 = x.2.1.1 ∧ x.2.1.2.1 = x.2.1.2.1 ∧ x.2.1.2.2.1 = x.2.1.2.2.1 ∧ x.2.1.2.2.2 = x.2.1.2.2.2 ∧ x.2.2 = x.2.2 ∧ True) ∧ ∀ (g : Nat), Nat.le g (0 : Nat) → List.length (convL R L l) ≤ q15 ∧ (∀ (x : List Int), x ∈ convL R L l → List.length x = (2 : Nat)) ∧ q4 = true ∧ True))) (splitB (first [chkEds R L, chkCad l] == (0 : Int)) (chkCad l = (0 : Int) ∧ ((0 : Int) ≤ (0 : Int) ∧ (0 : Int) ≤ (256 : Int)) ∧ splitB q6 (splitB q19 q14 ((∃ (g : Nat), Nat.le g (0 : Nat) ∧ (0 : Int) = (↑g : Int) ∧ first [chkEds R L, chkCad l] = first [chkEds R L, chkCad l] ∧ (0 : Int) = (0 : Int) ∧ first [chkEds R L, chkStamp x.1.1 x.1.2 x.2.1.1 x.2.1.2.1 x.2.1.2.2.1 x.2.1.2.2.2 x.2.2] = first [chkEds R L, chkStamp x.1.1 x.1.2 x.2.1.1 x.2.1.2.1 x.2.1.2.2.1 x.2.1.2.2.2 x.2.2] ∧ labE R L q0 = labE R L q0 ∧ convE R L l = convE R L l ∧ pullN l (0 : Nat) = pullN l (0 : Nat) ∧ [chkEds R L, chkStamp x.1.1 x.1.2 x.2.1.1 x.2.1.2.1 x.2.1.2.2.1 x.2.1.2.2.2 x.2.2] = [chkEds R L, chkStamp x.1.1 x.1.2 x.2.1.1 x.2.1.2.1 x.2.1.2.2.1 x.2.1.2.2.2 x.2.2] ∧ [chkEds R L, chkCad l] = [chkEds R L, chkCad l] ∧ q2 ∧ L = L ∧ convL R L l = convL R L l ∧ l = l ∧ L = L ∧ l = l ∧ x.1.1 = x.1.1 ∧ x.1.2 = x.1.2 ∧ x.2.1.1 = x.2.1.1 ∧ x.2.1.2.1 = x.2.1.2.1 ∧ x.2.1.2.2.1 = x.2.1.2.2.1 ∧ x.2.1.2.2.2 = x.2.1.2.2.2 ∧ x.2.2 = x.2.2 ∧ True) ∧ ∀ (g : Nat), Nat.le g (0 : Nat) → List.length (convL R L l) ≤ q15 ∧ (∀ (x : List Int), x ∈ convL R L l → List.length x = (2 : Nat)) ∧ (∀ (x : List Int), x ∈ pullN l (0 : Nat) → List.length x = (2 : Nat)) ∧ q13 = true ∧ True)) (splitB q19 q14 ((∃ (g : Nat), Nat.le g (0 : Nat) ∧ (0 : Int) = (↑g : Int) ∧ first [chkEds R L, chkCad l] = first [chkEds R L, chkCad l] ∧ (0 : Int) = (0 : Int) ∧ first [chkEds R L, chkStamp x.1.1 x.1.2 x.2.1.1 x.2.1.2.1 x.2.1.2.2.1 x.2.1.2.2.2 x.2.2] = first [chkEds R L, chkStamp x.1.1 x.1.2 x.2.1.1 x.2.1.2.1 x.2.1.2.2.1 x.2.1.2.2.2 x.2.2] ∧ labE R L q0 = labE R L q0 ∧ convE R L l = convE R L l ∧ pullN l (0 : Nat) = pullN l (0 : Nat) ∧ [chkEds R L, chkStamp x.1.1 x.1.2 x.2.1.1 x.2.1.2.1 x.2.1.2.2.1 x.2.1.2.2.2 x.2.2] = [chkEds R L, chkStamp x.1.1 x.1.2 x.2.1.1 x.2.1.2.1 x.2.1.2.2.1 x.2.1.2.2.2 x.2.2] ∧ [chkEds R L, chkCad l] = [chkEds R L, chkCad l] ∧ q2 ∧ L = L ∧ convL R L l = convL R L l ∧ l = l ∧ L = L ∧ l = l ∧ x.1.1 = x.1.1 ∧ x.1.2 = x.1.2 ∧ x.2.1.1 = x.2.1.1 ∧ x.2.1.2.1 = x.2.1.2.1 ∧ x.2.1.2.2.1 = x.2.1.2.2.1 ∧ x.2.1.2.2.2 = x.2.1.2.2.2 ∧ x.2.2 = x.2.2 ∧ True) ∧ ∀ (g : Nat), Nat.le g (0 : Nat) → List.length (convL R L l) ≤ q15 ∧ (∀ (x : List Int), x ∈ convL R L l → List.length x = (2 : Nat)) ∧ (∀ (x : List Int), x ∈ pullN l (0 : Nat) → List.length x = (2 : Nat)) ∧ q13 = true ∧ True))) (splitB q6 (splitB q19 q14 ((∃ (g : Nat), Nat.le g (0 : Nat) ∧ (0 : Int) = (↑g : Int) ∧ first [chkEds R L, chkCad l] = first [chkEds R L, chkCad l] ∧ (0 : Int) = (0 : Int) ∧ first [chkEds R L, chkStamp x.1.1 x.1.2 x.2.1.1 x.2.1.2.1 x.2.1.2.2.1 x.2.1.2.2.2 x.2.2] = first [chkEds R L, chkStamp x.1.1 x.1.2 x.2.1.1 x.2.1.2.1 x.2.1.2.2.1 x.2.1.2.2.2 x.2.2] ∧ labE R L q0 = labE R L q0 ∧ convE R L l = convE R L l ∧ [chkEds R L, chkStamp x.1.1 x.1.2 x.2.1.1 x.2.1.2.1 x.2.1.2.2.1 x.2.1.2.2.2 x.2.2] = [chkEds R L, chkStamp x.1.1 x.1.2 x.2.1.1 x.2.1.2.1 x.2.1.2.2.1 x.2.1.2.2.2 x.2.2] ∧ [chkEds R L, chkCad l] = [chkEds R L, chkCad l] ∧ q2 ∧ L = L ∧ convL R L l = convL R L l ∧ l = l ∧ L = L ∧ l = l ∧ x.1.1 = x.1.1 ∧ x.1.2 = x.1.2 ∧ x.2.1.1 = x.2.1.1 ∧ x.2.1.2.1 = x.2.1.2.1 ∧ x.2.1.2.2.1 = x.2.1.2.2.1 ∧ x.2.1.2.2.2 = x.2.1.2.2.2 ∧ x.2.2 = x.2.2 ∧ True) ∧ ∀ (g : Nat), Nat.le g (0 : Nat) → List.length (convL R L l) ≤ q15 ∧ (∀ (x : List Int), x ∈ convL R L l → List.length x = (2 : Nat)) ∧ q3 = true ∧ True)) (splitB q19 q14 ((∃ (g : Nat), Nat.le g (0 : Nat) ∧ (0 : Int) = (↑g : Int) ∧ first [chkEds R L, chkCad l] = first [chkEds R L, chkCad l] ∧ (0 : Int) = (0 : Int) ∧ first [chkEds R L, chkStamp x.1.1 x.1.2 x.2.1.1 x.2.1.2.1 x.2.1.2.2.1 x.2.1.2.2.2 x.2.2] = first [chkEds R L, chkStamp x.1.1 x.1.2 x.2.1.1 x.2.1.2.1 x.2.1.2.2.1 x.2.1.2.2.2 x.2.2] ∧ labE R L q0 = labE R L q0 ∧ convE R L l = convE R L l ∧ [chkEds R L, chkStamp x.1.1 x.1.2 x.2.1.1 x.2.1.2.1 x.2.1.2.2.1 x.2.1.2.2.2 x.2.2] = [chkEds R L, chkStamp x.1.1 x.1.2 x.2.1.1 x.2.1.2.1 x.2.1.2.2.1 x.2.1.2.2.2 x.2.2] ∧ [chkEds R L, chkCad l] = [chkEds R L, chkCad l] ∧ q2 ∧ L = L ∧ convL R L l = convL R L l ∧ l = l ∧ L = L ∧ l = l ∧ x.1.1 = x.1.1 ∧ x.1.2 = x.1.2 ∧ x.2.1.1 = x.2.1.1 ∧ x.2.1.2.1 = x.2.1.2.1 ∧ x.2.1.2.2.1 = x.2.1.2.2.1 ∧ x.2.1.2.2.2 = x.2.1.2.2.2 ∧ x.2.2 = x.2.2 ∧ True) ∧ ∀ (g : Nat), Nat.le g (0 : Nat) → List.length (convL R L l) ≤ q15 ∧ (∀ (x : List Int), x ∈ convL R L l → List.length x = (2 : Nat)) ∧ q3 = true ∧ True))))))) := by
  kernel_rfl
end Go.Sx

/- Contracts. -/
namespace Go.Sx
open U
theorem so66n_ : SpecOk P1 gl1 66 sp66n := by
  intro vs ps r h hp
  simp only [sp66n] at h
  split at h
  · cases h
    exact fn66 _ _ (hp _ (.head _)) (hp _ (.tail _ (.head _))) (hp _ (.tail _ (.tail _ (.head _))))
  · cases h
    exact Fn.args (fn66 _ [] (hp _ (.head _)) (hp _ (.tail _ (.head _))) (fun x hx => by cases hx)) fun H vs d => by
      obtain ⟨v0, r0, rfl, h0, v1, r1, rfl, h1, hz⟩ := d
      exact ⟨_, _, rfl, h0, _, _, rfl, nil_sl h1, hz⟩
  · cases h
theorem so66n : Sp1 66 sp66n := ⟨so66n_, Proofs.Tryz.f66, _, by kernel_rfl, rfl, by kernel_rfl⟩
theorem fn192 (F : Int) (D : Bool) (m : Int) (hm : 0 ≤ m) (hF : 0 ≤ F ∧ F ≤ 1000) : Fn P1 gl1 192 [rtV F D, iV m] (.val (iV (minN F D m))) true := by
  refine Fn.flat ?_ rfl
  refine fn_of false [] [] h0 0 Proofs.Tryz.f192 trivial trivial (by kernel_rfl) rfl (by kernel_rfl) rfl rfl rfl ?_
  rw [vc192]
  try simp only [splitB_iff, -eq_self]
  refine ⟨fun _ => ⟨hm, by decide⟩, fun h => ?_, fun h => ?_⟩
  · have h' : D = true ∧ m % 10 ≠ 0 := by simpa [bcond_l, bcond_r] using h
    exact ⟨by simp only [fits]; omega, by simp only [fits]; omega, by unfold minN; rw [if_pos h'], trivial⟩
  · have h' : ¬ (D = true ∧ m % 10 ≠ 0) := fun q => by
      simp only [q.1, bcond_l, bcond_r, Bool.true_and, bne_eq_false_iff_eq] at h
      exact q.2 h
    exact ⟨by simp only [fits]; omega, by unfold minN; rw [if_neg h'], trivial⟩
theorem so192_ : SpecOk P1 gl1 192 sp192 := by
  intro vs ps r h hp
  simp only [sp192] at h
  split at h
  · cases h; exact fn192 _ _ _ (hp _ (.head _)) (hp _ (.tail _ (.head _)))
  · cases h
theorem so192 : Sp1 192 sp192 := ⟨so192_, Proofs.Tryz.f192, _, by kernel_rfl, rfl, by kernel_rfl⟩
theorem fn145 (F : Int) (D : Bool) (h m s f : Int) (hr : RateOk F D) (hl : LabOk F D h m s f) : Fn P1 gl1 145 [rtV F D, lbV h m s f] (.val (iV (frameN F D h m s f))) true := by
  refine Fn.flat ?_ rfl
  refine fn_of false [(192, sp192)] [] h145 0 Proofs.Tryz.f145 ⟨so192, trivial⟩ trivial (by kernel_rfl) rfl (by kernel_rfl) rfl rfl rfl ?_
  rw [vc145]
  try simp only [splitB_iff, -eq_self]
  obtain ⟨h1, h2, h3, h4, _⟩ := hl
  have hq : ((60 * h + m).toNat : Int) = 60 * h + m := by omega
  have hF : 0 ≤ F ∧ F ≤ 30 := by have := hr.1; omega
  have hsF : 0 ≤ s * F ∧ s * F ≤ 59 * 30 := by rcases hr.1 with rfl | rfl | rfl <;> omega
  refine ⟨⟨0, Nat.zero_le _, rfl, by unfold minTo; cases D <;> simp, by simp⟩, fun g hg => ⟨by simp only [fits]; omega, by simp only [fits]; omega, fun hlt => ?_, fun hge => ?_⟩⟩
  · have hlt' := of_decide_eq_true hlt
    have hb := minTo_bd hr g
    have hm := minN_bd hr (g : Int)
    refine ⟨by omega, by omega, by simp only [fits]; omega, by simp only [fits]; omega, g + 1, by show g + 1 ≤ _; omega, by omega, by omega, (minTo_succ hr g).symm, by simp⟩
  · have hge' := of_decide_eq_false hge
    have hge2 : g ≤ (60 * h + m).toNat := hg
    have hgq : (60 * h + m).toNat = g := by omega
    have hb := minTo_bd hr g
    have hf := frame_min (s := s) (f := f) hr h1.1 h2.1
    rw [hgq] at hf
    refine ⟨by simp only [fits]; omega, by simp only [fits]; omega, by simp only [fits]; omega, fun _ => ⟨by omega, by decide⟩, fun hd => ?_, fun hd => ?_⟩
    · have hd' : D = true ∧ m % 10 ≠ 0 := by simpa [bcond_l, bcond_r] using hd
      rw [if_pos hd'] at hf
      exact ⟨by simp only [fits]; omega, by omega, trivial⟩
    · have hd' : ¬ (D = true ∧ m % 10 ≠ 0) := fun q => by
        simp only [q.1, bcond_l, bcond_r, Bool.true_and, bne_eq_false_iff_eq] at hd
        exact q.2 hd
      rw [if_neg hd'] at hf
      exact ⟨by omega, trivial⟩
theorem so145_ : SpecOk P1 gl1 145 sp145 := by
  intro vs ps r h hp
  simp only [sp145] at h
  split at h
  · cases h; exact fn145 _ _ _ _ _ _ (hp _ (.head _)) (hp _ (.tail _ (.head _)))
  · cases h
theorem so145 : Sp1 145 sp145 := ⟨so145_, Proofs.Tryz.f145, _, by kernel_rfl, rfl, by kernel_rfl⟩
theorem fn143 (F : Int) (D : Bool) (hr : RateOk F D) : Fn P1 gl1 143 [rtV F D] (.val (iV (dayN F D))) true := by
  refine Fn.flat ?_ rfl
  refine fn_of false [(145, sp145)] [] h0 0 Proofs.Tryz.f143 ⟨so145, trivial⟩ trivial (by kernel_rfl) rfl (by kernel_rfl) rfl rfl rfl ?_
  rw [vc143]
  try simp only [splitB_iff, -eq_self]
  have hF : 24 ≤ F ∧ F ≤ 30 := by have := hr.1; omega
  have hl : LabOk F D 23 59 59 (F - 1) := ⟨by omega, by omega, by omega, by omega, by omega⟩
  have hb := frame_range hr hl
  have he : frameN F D 23 59 59 (F - 1) + 1 = dayN F D := by
    unfold frameN dayN
    cases D with
    | true => simp only [if_true]; rcases hr.1 with rfl | rfl | rfl <;> omega
    | false => simp only [Bool.false_eq_true, if_false]; rcases hr.1 with rfl | rfl | rfl <;> omega
  have hd : dayN F D ≤ 100000000 := by
    unfold dayN
    split <;> omega
  exact ⟨by simp only [fits]; omega, hr, hl, by simp only [fits]; omega, he, trivial⟩
theorem so143_ : SpecOk P1 gl1 143 sp143 := by
  intro vs ps r h hp
  simp only [sp143] at h
  split at h
  · cases h; exact fn143 _ _ (hp _ (.head _))
  · cases h
theorem so143 : Sp1 143 sp143 := ⟨so143_, Proofs.Tryz.f143, _, by kernel_rfl, rfl, by kernel_rfl⟩
theorem fn144 (F : Int) (D : Bool) (n : Int) (hr : RateOk F D) (hn : 0 ≤ n ∧ n < dayN F D) : Fn P1 gl1 144 [rtV F D, iV n] (.val (lbW (lab F D n))) true := by
  refine Fn.flat ?_ rfl
  refine fn_of false [(192, sp192)] [] h144 0 Proofs.Tryz.f144 ⟨so192, trivial⟩ trivial (by kernel_rfl) rfl (by kernel_rfl) rfl rfl rfl ?_
  rw [vc144]
  try simp only [splitB_iff, -eq_self]
  have hF : 24 ≤ F ∧ F ≤ 30 := by have := hr.1; omega
  have hd : dayN F D ≤ 100000000 := by
    unfold dayN
    split <;> omega
  have hday := minTo_day hr
  have h0 : minTo F D 0 = 0 := by unfold minTo; cases D <;> simp
  refine ⟨⟨0, ⟨Nat.zero_le _, by omega⟩, by omega, by simp⟩, fun g hg => ⟨by omega, by omega, fun hle => ?_, fun hlt => ?_⟩⟩
  · have hle' := of_decide_eq_true hle
    have hs := minTo_succ hr g
    have hb := minTo_bd hr g
    have hm := minN_bd hr (g : Int)
    have hg' : g < 1440 := by
      rcases Nat.lt_or_ge g 1440 with h | h
      · exact h
      · have : g = 1440 := by omega
        subst this
        omega
    exact ⟨by omega, by omega, by simp only [fits]; omega, by simp only [fits]; omega, g + 1, ⟨by omega, by omega⟩, by omega, by omega, by omega, by simp⟩
  · have hlt' := of_decide_eq_false hlt
    have hs := minTo_succ hr g
    have hb := minTo_bd hr g
    have hm := minN_bd hr (g : Int)
    have hlab := lab_min hr hn.1 hn.2 hg.2 (by omega)
    have hF0 : 0 < F := by omega
    have q0 : fits .i64 ((g : Int) / 60) := by simp only [fits]; omega
    refine ⟨fun _ => ⟨by omega, by decide⟩, fun hc => ?_, fun hc => ?_⟩
    · have hc' : D = true ∧ (g : Int) % 10 ≠ 0 := by simpa [bcond_l, bcond_r] using hc
      rw [if_pos hc'] at hlab
      have hdv := Int.ediv_le_self F (show 0 ≤ n - minTo F D g + 2 by omega)
      have hdn := Int.ediv_nonneg (show 0 ≤ n - minTo F D g + 2 by omega) (Int.le_of_lt hF0)
      rw [hlab]
      exact ⟨by simp only [fits]; omega, ⟨by omega, by decide, q0⟩, ⟨by omega, by decide⟩, ⟨by omega, hF0, by simp only [fits]; omega⟩, ⟨by omega, hF0⟩, rfl, rfl, rfl, rfl, trivial⟩
    · have hc' : ¬ (D = true ∧ (g : Int) % 10 ≠ 0) := fun q => by
        simp only [q.1, bcond_l, bcond_r, Bool.true_and, bne_eq_false_iff_eq] at hc
        exact q.2 hc
      rw [if_neg hc', Int.add_zero] at hlab
      have hdv := Int.ediv_le_self F (show 0 ≤ n - minTo F D g by omega)
      have hdn := Int.ediv_nonneg (show 0 ≤ n - minTo F D g by omega) (Int.le_of_lt hF0)
      rw [hlab]
      exact ⟨⟨by omega, by decide, q0⟩, ⟨by omega, by decide⟩, ⟨by omega, hF0, by simp only [fits]; omega⟩, ⟨by omega, hF0⟩, rfl, rfl, rfl, rfl, trivial⟩
theorem so144_ : SpecOk P1 gl1 144 sp144 := by
  intro vs ps r h hp
  simp only [sp144] at h
  split at h
  · cases h; exact fn144 _ _ _ (hp _ (.head _)) (hp _ (.tail _ (.head _)))
  · cases h
theorem so144 : Sp1 144 sp144 := ⟨so144_, Proofs.Tryz.f144, _, by kernel_rfl, rfl, by kernel_rfl⟩
theorem fn65 (F : Int) (D : Bool) (h m s f n : Int) (hr : RateOk F D) (hl : LabOk F D h m s f) (hn : 0 ≤ n ∧ n ≤ 10000000) : Fn P1 gl1 65 [rtV F D, lbV h m s f, iV n] (.val (lbW (lab F D (addN F D h m s f n)))) true := by
  refine Fn.flat ?_ rfl
  refine fn_of false [(143, sp143), (145, sp145), (144, sp144)] [] h0 0 Proofs.Tryz.f65 ⟨so143, so145, so144, trivial⟩ trivial (by kernel_rfl) rfl (by kernel_rfl) rfl rfl rfl ?_
  rw [vc65]
  try simp only [splitB_iff, -eq_self]
  have hb := frame_range hr hl
  have hd : 0 < dayN F D ∧ dayN F D ≤ 100000000 := by
    have hF : 24 ≤ F ∧ F ≤ 30 := by have := hr.1; omega
    unfold dayN
    split <;> omega
  have e : addN F D h m s f n = (frameN F D h m s f + n) % dayN F D := rfl
  have m1 := Int.emod_nonneg (frameN F D h m s f + n) (show dayN F D ≠ 0 by omega)
  have m2 := Int.emod_lt_of_pos (frameN F D h m s f + n) hd.1
  have e2 : ((frameN F D h m s f + n) % dayN F D + dayN F D) % dayN F D = (frameN F D h m s f + n) % dayN F D := by
    rw [Int.add_emod_right, Int.emod_emod_of_dvd _ (Int.dvd_refl _)]
  rw [e2, e]
  exact ⟨hr, hr, hl, by simp only [fits]; omega, ⟨by omega, hd.1⟩, by simp only [fits]; omega, ⟨by omega, hd.1⟩, hr, ⟨m1, m2⟩, rfl, rfl, rfl, rfl, trivial⟩
theorem so65_ : SpecOk P1 gl1 65 sp65 := by
  intro vs ps r h hp
  simp only [sp65] at h
  split at h
  · cases h; exact fn65 _ _ _ _ _ _ _ (hp _ (.head _)) (hp _ (.tail _ (.head _))) (hp _ (.tail _ (.tail _ (.head _))))
  · cases h
theorem so65 : Sp1 65 sp65 := ⟨so65_, Proofs.Tryz.f65, _, by kernel_rfl, rfl, by kernel_rfl⟩
theorem fn64 (l : List Int) (n : Int) (hc : chkCad l = 0) (hn : 0 ≤ n ∧ n ≤ 256) : Fn P1 gl1 64 [.one (.sl (.int .i64) l), iV n] (.val (.one (.frs p2T (pullN l n.toNat)))) true := by
  refine Fn.flat ?_ rfl
  refine fn_of false [] [] h64 0 Proofs.Tryz.f64 trivial trivial (by kernel_rfl) rfl (by kernel_rfl) rfl rfl rfl ?_
  rw [vc64]
  try simp only [splitB_iff, -eq_self]
  have hcl := chkCad_ok hc
  refine ⟨⟨0, Nat.zero_le _, rfl, by trivial, by trivial, rfl, trivial⟩, fun g hg => ⟨fun hlt => ?_, fun hge => ?_⟩⟩
  · have hlt' : (g : Int) < n := of_decide_eq_true hlt
    have em : ((g : Int) % (l.length : Int)).toNat = g % l.length := by omega
    have hl := fld_len hc g
    have hx := fld_cnt hc g
    simp only [em]
    have hm : g % l.length < l.length := Nat.mod_lt _ (by omega)
    refine ⟨⟨0, Nat.zero_le _, by trivial, by trivial, by trivial, by trivial, by simp, trivial⟩, fun j hj => ⟨⟨by omega, by omega⟩, ⟨by omega, by omega⟩, fun hjl => ?_, fun hjg => ?_⟩⟩
    · have hjl' : (j : Int) < l.getD (g % l.length) 0 := of_decide_eq_true hjl
      have hj' : j < (l.getD (g % l.length) 0).toNat := by omega
      refine ⟨by simp only [room, List.length_append, List.length_replicate]; omega, by simp only [fits]; omega, j + 1, hj', by omega, by omega, by trivial, by trivial, by trivial, ?_, trivial⟩
      rw [List.replicate_succ', List.append_assoc]
    · have hjg' : ¬ (j : Int) < l.getD (g % l.length) 0 := of_decide_eq_false hjg
      have hje : (l.getD (g % l.length) 0).toNat = j := by
        have := Nat.le_of_ble_eq_true (Nat.ble_eq_true_of_le hj)
        omega
      refine ⟨by simp only [fits]; omega, g + 1, ?_, by omega, by omega, by trivial, by trivial, ?_, trivial⟩
      · show g + 1 ≤ n.toNat
        omega
      · simp only [fldTo, hje]
  · have hge' : ¬ (g : Int) < n := of_decide_eq_false hge
    have hgn : n.toNat = g := by
      have : g ≤ n.toNat := hg
      omega
    have hl := fld_len hc g
    refine ⟨⟨0, Nat.zero_le _, rfl, rfl, rfl, trivial⟩, fun k hk => ⟨by have : k ≤ (fldTo l g).length / 2 := hk; simp only [fits]; omega, fun hlt => ?_, fun hge2 => ?_⟩⟩
    · have hlt' : ((2 * k : Nat) : Int) + 1 < ((fldTo l g).length : Int) := of_decide_eq_true hlt
      have ek : (((2 * k : Nat) : Int) + 1).toNat = 2 * k + 1 := by omega
      refine ⟨by omega, by omega, by simp only [fits]; omega, by omega, by omega, by simp only [room, prs_len]; omega, by simp only [fits]; omega, k + 1, ?_, by omega, by omega, ?_, rfl, trivial⟩
      · show k + 1 ≤ (fldTo l g).length / 2
        omega
      · rw [ek]; rfl
    · have hge2' : ¬ ((2 * k : Nat) : Int) + 1 < ((fldTo l g).length : Int) := of_decide_eq_false hge2
      have : (fldTo l g).length / 2 = k := by
        have : k ≤ (fldTo l g).length / 2 := hk
        omega
      refine ⟨?_, trivial⟩
      unfold pullN
      rw [hgn, this]
theorem so64_ : SpecOk P1 gl1 64 sp64 := by
  intro vs ps r h hp
  simp only [sp64] at h
  split at h
  · cases h; exact fn64 _ _ (hp _ (.head _)) (hp _ (.tail _ (.head _)))
  · cases h
theorem so64 : Sp1 64 sp64 := ⟨so64_, Proofs.Tryz.f64, _, by kernel_rfl, rfl, by kernel_rfl⟩
theorem fn213n (F : Int) (D : Bool) (h m s f : Int)  : Fn P1 gl1 213 [lbV h m s f, rtV F D] (.val (bV (dropB D m s f))) true := by
  refine Fn.flat ?_ rfl
  refine fn_of true [] [] h0 0 Proofs.Tryz.f213 trivial trivial (by kernel_rfl) rfl (by kernel_rfl) rfl rfl rfl ?_
  rw [vc213n]
  try simp only [splitB_iff, -eq_self]
  refine ⟨fun _ => by decide, ?_, trivial⟩
  have e : (Int.tmod m 10 != 0) = (m % 10 != 0) := by
    rw [Bool.eq_iff_iff]
    simp only [bne_iff_ne, ne_eq]
    rw [← Int.dvd_iff_tmod_eq_zero, Int.dvd_iff_emod_eq_zero]
  rw [e]
  unfold dropB
  cases D <;> cases m % 10 != 0 <;> cases s == 0 <;> simp
theorem so213n_ : SpecOk P1 gl1 213 sp213n := by
  intro vs ps r h hp
  simp only [sp213n] at h
  split at h
  · cases h
    exact fn213n _ _ _ _ _ _
  · cases h
theorem so213n : Sp1 213 sp213n := ⟨so213n_, Proofs.Tryz.f213, _, by kernel_rfl, rfl, by kernel_rfl⟩
theorem fn188n (F : Int) (D : Bool) (h m s f : Int)  : Fn P1 gl1 188 [rtV F D, lbV h m s f] (.val (iV (chkLab F D h m s f))) true := by
  refine Fn.flat ?_ rfl
  refine fn_of true [(212, sp212), (186, sp186), (183, sp183), (182, sp182), (213, sp213n)] [] h0 0 Proofs.Tryz.f188 ⟨so212, so186, so183, so182, so213n, trivial⟩ trivial (by kernel_rfl) rfl (by kernel_rfl) rfl rfl rfl ?_
  rw [vc188n]
  try simp only [splitB_iff, -eq_self]
  refine ⟨by decide, ?_, trivial⟩
  unfold chkLab
  by_cases h : chkRate F D = 0
  · have hF : F = 24 ∨ F = 25 ∨ F = 30 := by
      unfold chkRate at h
      by_cases q : F = 24 ∨ F = 25 ∨ F = 30
      · exact q
      · rw [if_neg q] at h; cases h
    have hw : IntKind.wrap .i64 (F - 1) = F - 1 := by
      rcases hF with rfl | rfl | rfl <;> rfl
    rw [hw]
  · simp only [first, if_neg h]
theorem so188n_ : SpecOk P1 gl1 188 sp188n := by
  intro vs ps r h hp
  simp only [sp188n] at h
  split at h
  · cases h
    exact fn188n _ _ _ _ _ _
  · cases h
theorem so188n : Sp1 188 sp188n := ⟨so188n_, Proofs.Tryz.f188, _, by kernel_rfl, rfl, by kernel_rfl⟩
theorem fn140n (F : Int) (D : Bool) (h m s f u : Int)  : Fn P1 gl1 140 [stV F D h m s f u] (.val (iV (chkStamp F D h m s f u))) true := by
  refine Fn.flat ?_ rfl
  refine fn_of false [(188, sp188n), (186, sp186), (182, sp182)] [] h0 0 Proofs.Tryz.f140 ⟨so188n, so186, so182, trivial⟩ trivial (by kernel_rfl) rfl (by kernel_rfl) rfl rfl rfl ?_
  rw [vc140n]
  try simp only [splitB_iff, -eq_self]
  exact ⟨by decide, rfl, trivial⟩
theorem so140n_ : SpecOk P1 gl1 140 sp140n := by
  intro vs ps r h hp
  simp only [sp140n] at h
  split at h
  · cases h
    exact fn140n _ _ _ _ _ _ _
  · cases h
theorem so140n : Sp1 140 sp140n := ⟨so140n_, Proofs.Tryz.f140, _, by kernel_rfl, rfl, by kernel_rfl⟩
theorem fn60n (R : List Rl) (L : List Ed) (x : St7) (hl : R.length ≤ 1000000000) (hR : ∀ r ∈ R, r.2.2.length ≤ 1000000) (hL : L.length ≤ 1000000000) : Fn P1 gl1 60 [.one (.sl rlT R), .one (.sl edT L), stW x] (.tup [.one (.frs lbT (bif labE R L x == 0 then labsN x (ls L) else [])), iV (labE R L x)]) true := by
  refine Fn.flat ?_ rfl
  refine fn_of false [(43, sp43), (140, sp140n), (106, sp106), (120, sp120), (141, sp141)] [] h60 0 Proofs.Tryz.f60 ⟨so43, so140n, so106, so120, so141, trivial⟩ trivial (by kernel_rfl) rfl (by kernel_rfl) rfl rfl rfl ?_
  rw [vc60n]
  try simp only [splitB_iff, -eq_self]
  obtain ⟨⟨F, D⟩, ⟨hh, m, c, f⟩, u⟩ := x
  have hE : labE R L ((F, D), (hh, m, c, f), u) = first [chkEds R L, chkStamp F D hh m c f u] := rfl
  simp only [hE]
  refine ⟨hl, hR, hL, by decide, fun h => ?_, fun h => ?_⟩
  · have h' : first [chkEds R L, chkStamp F D hh m c f u] ≠ 0 := by simpa using h
    rw [show (first [chkEds R L, chkStamp F D hh m c f u] == 0) = false from beq_eq_false_iff_ne.2 h']
    refine ⟨?_, ?_, ?_⟩ <;> first | trivial | rfl
  · have h' : first [chkEds R L, chkStamp F D hh m c f u] = 0 := by simpa using h
    have hz := (first_zero_iff _).1 h'
    have h1 := hz _ List.mem_cons_self
    have h2 := hz _ (List.mem_cons_of_mem _ List.mem_cons_self)
    obtain ⟨hr, hlab, hu⟩ := (chkStZ (x := ((F, D), (hh, m, c, f), u))).1 h2
    have hk := chkEds_zero.1 h1
    have hP : plTo L L.length = ls L := rfl
    rw [h']
    simp only [hP]
    have hlen := ls_len L
    have hll := hk.len
    refine ⟨hl, hk.eds, ⟨0, Nat.zero_le _, by trivial, by trivial, by trivial, by simp [labsN], by simp⟩, fun g hg => ⟨fun hlt => ?_, fun hge => ?_⟩⟩
    · have hlt' : g < (ls L).length := by simpa using hlt
      have hb := pl_bd hk.rs hk.len hk.ed hk.big _ (getD_mem (d := pl0) hlt')
      refine ⟨by omega, hr, hlab, by omega, by simp only [room, labsN, List.length_map, List.length_take]; omega, by simp only [fits]; omega, g + 1, hlt', by omega, by omega, by trivial, by trivial, ?_, by simp⟩
      rw [getD_of hlt', List.take_succ_eq_append_getElem hlt']
      unfold labsN
      rw [List.map_append]
      rfl
    · have hge' : ¬ g < (ls L).length := by simpa using hge
      rw [List.take_of_length_le (by omega)]
      refine ⟨?_, ?_, ?_⟩ <;> first | trivial | rfl
theorem so60n_ : SpecOk P1 gl1 60 sp60n := by
  intro vs ps r h hp
  simp only [sp60n] at h
  split at h
  · cases h
    exact fn60n _ _ ((_, _), (_, _, _, _), _) (hp _ (.head _)) (hp _ (.tail _ (.head _))) (hp _ (.tail _ (.tail _ (.head _))))
  · cases h
theorem so60n : Sp1 60 sp60n := ⟨so60n_, Proofs.Tryz.f60, _, by kernel_rfl, rfl, by kernel_rfl⟩
theorem fn7 (R : List Rl) (L : List Ed) (l : List Int) (x : St7) (hR : R.length ≤ 9223372036854775807) (hL : L.length ≤ 9223372036854775807) (hF : ∀ x ∈ L, fits .i64 x.2.2.1) (hl : l.length ≤ 9223372036854775807) : Fn P1 gl1 7 [.one (.sl rlT R), .one (.sl edT L), .agg [.one (.sl (.int .i64) l), .one (.int .i64 x.1.1), .one (.bool x.1.2), .one (.int .i64 x.2.1.1), .one (.int .i64 x.2.1.2.1), .one (.int .i64 x.2.1.2.2.1), .one (.int .i64 x.2.1.2.2.2), .one (.int .i64 x.2.2)]] (.val (bV true)) true := by
  refine Fn.flat ?_ rfl
  refine fn_of false [(17, sp17), (18, sp18), (25, sp25), (34, sp34), (59, sp59), (58, sp58), (60, sp60n), (38, sp38), (62, sp62), (61, sp61), (63, sp63), (39, sp39), (64, sp64), (65, sp65), (66, sp66n)] [] h7 0 Proofs.Tryz.f7 ⟨so17, so18, so25, so34, so59, so58, so60n, so38, so62, so61, so63, so39, so64, so65, so66n, trivial⟩ trivial (by kernel_rfl) rfl (by kernel_rfl) rfl rfl rfl ?_
  rw [vc7]
  try simp only [splitB_iff, -eq_self]
  obtain ⟨⟨F, D⟩, ⟨hh, m, c, f⟩, u⟩ := x
  have hES : labE R L ((F, D), (hh, m, c, f), u) = first [chkEds R L, chkStamp F D hh m c f u] := rfl
  dsimp only
  simp only [hES, eq_self, true_and, and_true, and_self]
  have hsh : (bif !shortB R L then true else decide (10 < (l.length : Int))) = false → (R.length ≤ 9 ∧ ∀ r ∈ R, r.2.2.length ≤ 257 ∧ r.1.length ≤ 40) ∧ L.length ≤ 17 ∧ l.length ≤ 10 := fun h => by
    rw [bcond_l, Bool.or_eq_false_iff, decide_eq_false_iff_not] at h
    obtain ⟨h, h5⟩ := h
    simp only [Bool.not_eq_false', shortB, shortE, shortR, Bool.and_eq_true, Bool.or_eq_true, List.all_eq_true, decide_eq_true_eq] at h
    obtain ⟨h1, h2, h3, h4⟩ := h
    exact ⟨⟨by omega, fun r hr => by have := h1 r hr; omega⟩, by omega, by omega⟩
  refine ⟨hR, hL, fun _ => trivial, fun h => ?_⟩
  obtain ⟨⟨hR9, hRx⟩, hL17, hl10⟩ := hsh h
  have hR2 : ∀ r ∈ R, r.2.2.length ≤ 1000000 := fun r hr => by have := hRx r hr; omega
  have hR3 : ∀ r ∈ R, r.2.2.length ≤ 1000000 ∧ r.1.length ≤ 1000000000 := fun r hr => by have := hRx r hr; omega
  clear h hsh
  have eqL : ∀ a : Lb, eqT (.pair (.int .i64) (.pair (.int .i64) (.pair (.int .i64) (.int .i64)))) (a.1, a.2.1, a.2.2.1, a.2.2.2) (a.1, a.2.1, a.2.2.1, a.2.2.2) = true := fun a => by simp [eqT]
  refine ⟨by omega, hR2, by omega, by omega, by omega, hR2, by omega, by omega, hR2, by omega, by omega, hR2, by omega, by omega, hR3, by omega, hF, by decide, by decide, fun h0 => ?_, fun h0 => ?_⟩
  · have hE : chkEds R L = 0 := by simpa using h0
    have hk := chkEds_zero.1 hE
    have hn := lenL_nn hk
    have hEC : ∀ n : Int, first [0, n] = n := fun n => by
      by_cases q : n = 0 <;> simp [first, q]
    have hcE : convE R L l = if chkCad l ≠ 0 then chkCad l else if 256 < lenL L then 5 else 0 := by
      unfold convE; rw [hE, hEC]
    have hcE1 : chkCad l ≠ 0 → convE R L l = chkCad l := fun q => by rw [hcE, if_pos q]
    have hcE2 : chkCad l = 0 → 256 < lenL L → convE R L l = 5 := fun q q2 => by rw [hcE, if_neg (fun z => z q), if_pos q2]
    have hcE3 : chkCad l = 0 → ¬ 256 < lenL L → convE R L l = 0 := fun q q2 => by rw [hcE, if_neg (fun z => z q), if_neg q2]
    have hcL : convL R L l = if chkCad l = 0 ∧ ¬ 256 < lenL L then pullN l (lenL L).toNat else [] := by
      unfold convL
      by_cases q : chkCad l = 0
      · by_cases q2 : 256 < lenL L
        · rw [hcE2 q q2, if_neg (by decide), if_neg (fun z => z.2 q2)]
        · rw [hcE3 q q2, if_pos rfl, if_pos ⟨q, q2⟩]
      · rw [hcE1 q, if_neg q, if_neg (fun z => q z.1)]
    simp only [hE, hEC]
    -- the labels
    have hSl : (startsL L).length = L.length := by simp [startsL]
    have hS : ∀ g, g < L.length → (startsL L).getD g 0 = begN L g := fun g hg => by
      unfold startsL
      rw [List.getD_eq_getElem?_getD, List.getElem?_map, List.getElem?_range hg]; rfl
    have hQ0 : chkStamp F D hh m c f u ≠ 0 → (bif chkStamp F D hh m c f u == 0 then labsN ((F, D), (hh, m, c, f), u) (ls L) else []) = [] := fun q => by
      rw [show (chkStamp F D hh m c f u == 0) = false from beq_eq_false_iff_ne.2 q]; rfl
    have hQ1 : chkStamp F D hh m c f u = 0 → (bif chkStamp F D hh m c f u == 0 then labsN ((F, D), (hh, m, c, f), u) (ls L) else []) = labsN ((F, D), (hh, m, c, f), u) (ls L) := fun q => by
      rw [q]; rfl
    have hQl : (labsN ((F, D), (hh, m, c, f), u) (ls L)).length = L.length := by unfold labsN; rw [List.length_map, ls_len]
    have hQg : ∀ g, g < L.length → (labsN ((F, D), (hh, m, c, f), u) (ls L)).getD g (0, 0, 0, 0) = lab F D (addN F D hh m c f (begN L g)) := fun g hg => by
      unfold labsN
      rw [List.getD_eq_getElem?_getD, List.getElem?_map, List.getElem?_eq_getElem (by rw [ls_len]; exact hg)]
      have := ls_get L hg
      rw [getD_of (show g < (ls L).length by rw [ls_len]; exact hg)] at this
      rw [this]
      rfl
    have hb : ∀ g, g < L.length → 0 ≤ begN L g ∧ begN L g ≤ 10000000 := fun g hg => by
      have := pl_bd hk.rs hk.len hk.ed hk.big _ (getD_mem (d := pl0) (show g < (ls L).length by rw [ls_len]; exact hg))
      rw [ls_get L hg] at this
      dsimp only at this
      omega
    -- what the repeats make
    have two : ∀ n, ∀ x ∈ pullN l n, x.length = 2 := fun n x hx => by
      unfold pullN at hx
      generalize (fldTo l n).length / 2 = k at hx
      induction k with
      | zero => cases hx
      | succ k ih =>
        simp only [prsTo] at hx
        rcases List.mem_append.1 hx with hx | hx
        · exact ih hx
        · rw [List.mem_singleton] at hx; subst hx; rfl
    have len : chkCad l = 0 → ∀ n, n ≤ 256 → (pullN l n).length ≤ 1000000 := fun q n hn => by
      unfold pullN
      rw [prs_len]
      have := fld_len q n
      omega
    have fin : ∀ {P : List (List Int)} {e : Int}, convL R L l = P → convE R L l = e → (bif bif bif decide (convL R L l = P) then convE R L l == e else false then chkStamp F D hh m c f u == chkStamp F D hh m c f u else false then true else false) = true := fun h1 h2 => by
      rw [h1, h2]; simp
    have hcl : (convL R L l).length ≤ 1000000 ∧ ∀ x ∈ convL R L l, x.length = 2 := by
      rw [hcL]
      split
      · rename_i q
        exact ⟨len q.1 _ (by omega), two _⟩
      · exact ⟨by simp, fun x hx => by cases hx⟩
    refine ⟨hk.eds, fun hM => ?_, fun hM => ⟨fun hC => ?_, fun hC => ?_⟩⟩
    · have hM' : chkCad l = 0 ∧ 256 < lenL L := by simpa [bcond_l, bcond_r] using hM
      have e1 : convL R L l = [] := by rw [hcL, if_neg (fun z => z.2 hM'.2)]
      have e2 : convE R L l = 5 := hcE2 hM'.1 hM'.2
      refine ⟨fun hS1 => ?_, fun hS1 => ?_⟩
      · rw [hQ0 (by simpa using hS1)]
        exact ⟨fun h => (by simp at h), fun _ => ⟨⟨0, Nat.le_refl _, rfl⟩, fun g _ => ⟨hcl.1, hcl.2, fin e1 e2⟩⟩⟩
      · have hS2 : chkStamp F D hh m c f u = 0 := by simpa using hS1
        obtain ⟨hr, hlab, _⟩ := (chkStZ (x := ((F, D), (hh, m, c, f), u))).1 hS2
        rw [hQ1 hS2]
        simp only [hQl, hSl]
        refine ⟨fun h => (by simp at h), fun _ => ⟨⟨0, Nat.zero_le _, rfl⟩, fun g hg => ⟨fun hlt => ?_, fun _ => ⟨hcl.1, hcl.2, fin e1 e2⟩⟩⟩⟩
        have hlt' : g < L.length := by simpa using hlt
        rw [hS g hlt', hQg g hlt']
        exact ⟨⟨by omega, by omega⟩, hlt', ⟨by omega, by omega⟩, hlt', hr, hlab, hb g hlt', fun h => (by rw [eqL] at h; cases h), fun _ => ⟨by simp only [fits]; omega, g + 1, hlt', by omega, by omega⟩⟩
    · have hC' : chkCad l = 0 := by simpa using hC
      have hM' : ¬ 256 < lenL L := fun q => by rw [hC'] at hM; simp [q] at hM
      have e1 : convL R L l = pullN l (lenL L).toNat := by rw [hcL, if_pos ⟨hC', hM'⟩]
      have e2 : convE R L l = chkCad l := by rw [hcE3 hC' hM', hC']
      refine ⟨hC', ⟨hn, by omega⟩, fun hS1 => ?_, fun hS1 => ?_⟩
      · rw [hQ0 (by simpa using hS1)]
        exact ⟨fun h => (by simp at h), fun _ => ⟨⟨0, Nat.le_refl _, rfl⟩, fun g _ => ⟨hcl.1, hcl.2, two _, fin e1 e2⟩⟩⟩
      · have hS2 : chkStamp F D hh m c f u = 0 := by simpa using hS1
        obtain ⟨hr, hlab, _⟩ := (chkStZ (x := ((F, D), (hh, m, c, f), u))).1 hS2
        rw [hQ1 hS2]
        simp only [hQl, hSl]
        refine ⟨fun h => (by simp at h), fun _ => ⟨⟨0, Nat.zero_le _, rfl⟩, fun g hg => ⟨fun hlt => ?_, fun _ => ⟨hcl.1, hcl.2, two _, fin e1 e2⟩⟩⟩⟩
        have hlt' : g < L.length := by simpa using hlt
        rw [hS g hlt', hQg g hlt']
        exact ⟨⟨by omega, by omega⟩, hlt', ⟨by omega, by omega⟩, hlt', hr, hlab, hb g hlt', fun h => (by rw [eqL] at h; cases h), fun _ => ⟨by simp only [fits]; omega, g + 1, hlt', by omega, by omega⟩⟩
    · have hC' : chkCad l ≠ 0 := by simpa using hC
      have e1 : convL R L l = [] := by rw [hcL, if_neg (fun z => hC' z.1)]
      have e2 : convE R L l = chkCad l := hcE1 hC'
      refine ⟨fun hS1 => ?_, fun hS1 => ?_⟩
      · rw [hQ0 (by simpa using hS1)]
        exact ⟨fun h => (by simp at h), fun _ => ⟨⟨0, Nat.le_refl _, rfl⟩, fun g _ => ⟨hcl.1, hcl.2, fin e1 e2⟩⟩⟩
      · have hS2 : chkStamp F D hh m c f u = 0 := by simpa using hS1
        obtain ⟨hr, hlab, _⟩ := (chkStZ (x := ((F, D), (hh, m, c, f), u))).1 hS2
        rw [hQ1 hS2]
        simp only [hQl, hSl]
        refine ⟨fun h => (by simp at h), fun _ => ⟨⟨0, Nat.zero_le _, rfl⟩, fun g hg => ⟨fun hlt => ?_, fun _ => ⟨hcl.1, hcl.2, fin e1 e2⟩⟩⟩⟩
        have hlt' : g < L.length := by simpa using hlt
        rw [hS g hlt', hQg g hlt']
        exact ⟨⟨by omega, by omega⟩, hlt', ⟨by omega, by omega⟩, hlt', hr, hlab, hb g hlt', fun h => (by rw [eqL] at h; cases h), fun _ => ⟨by simp only [fits]; omega, g + 1, hlt', by omega, by omega⟩⟩
  · have hE : chkEds R L ≠ 0 := by simpa using h0
    have hEC : ∀ n : Int, first [chkEds R L, n] = chkEds R L := fun n => by simp only [first, if_neg hE]
    have hE0 : (chkEds R L == 0) = false := beq_eq_false_iff_ne.2 hE
    have e2 : convE R L l = chkEds R L := by unfold convE; rw [hEC, if_pos hE]
    have e1 : convL R L l = [] := by unfold convL; rw [e2, if_neg hE]
    simp only [hEC, hE0, e1, e2, cond_false]
    refine ⟨fun h => (by cases h), fun _ => ⟨fun h => (by cases h), fun _ => ⟨fun _ => ⟨fun h => (by simp at h), fun _ => ⟨⟨0, Nat.le_refl _, rfl⟩, fun g _ => ⟨by simp, fun x hx => (by cases hx), by simp⟩⟩⟩, fun h => absurd (by simpa using h) hE⟩⟩⟩

end Go.Sx
