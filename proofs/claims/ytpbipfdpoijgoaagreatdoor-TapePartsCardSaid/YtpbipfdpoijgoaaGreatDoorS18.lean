/- A verified symbolic run of functions, part 18: lemmas, no claim of their own. -/
import Derived.Test.YtpbipfdpoijgoaaGreatDoorS17
/- What the engine asks, written out (printed by a program). -/
namespace Go.Sx
open U
theorem vc151 (n d : Int) : exF (env false [] []) h151 0 151 Proofs.Tryz.f151 [iV n, iV d] (.val (iV (Nat.gcd n.toNat d.toNat : Int))) = ((∃ (g : Nat × Nat), ((0 : Nat) < g.1 ∧ Nat.gcd g.1 g.2 = Nat.gcd (Int.toNat n) (Int.toNat d)) ∧ n = (↑g.1 : Int) ∧ d = (↑g.2 : Int) ∧ True) ∧ ∀ (g : Nat × Nat), (0 : Nat) < g.1 ∧ Nat.gcd g.1 g.2 = Nat.gcd (Int.toNat n) (Int.toNat d) → splitB ((↑g.2 : Int) != (0 : Int)) (((0 : Int) ≤ (↑g.1 : Int) ∧ (0 : Int) < (↑g.2 : Int)) ∧ ∃ (g' : Nat × Nat), ((0 : Nat) < g'.1 ∧ Nat.gcd g'.1 g'.2 = Nat.gcd (Int.toNat n) (Int.toNat d)) ∧ g'.2 < g.2 ∧ (↑g.2 : Int) = (↑g'.1 : Int) ∧ (↑g.1 : Int) % (↑g.2 : Int) = (↑g'.2 : Int) ∧ True) ((↑g.1 : Int) = (↑(Nat.gcd (Int.toNat n) (Int.toNat d)) : Int) ∧ True)) := by
  kernel_rfl
theorem vc127 (n d : Int) : exF (env false [(151, sp151)] []) h0 0 127 Proofs.Tryz.f127 [iV n, iV d] (.val (.agg [.one (.int .i64 (lowN n d).1), .one (.int .i64 (lowN n d).2)])) = (let q0 := (↑(Nat.gcd (Int.toNat ((0 : Int) - n)) (Int.toNat ((0 : Int) - d))) : Int); let q1 := (↑(Nat.gcd (Int.toNat n) (Int.toNat d)) : Int); splitB (decide (d < (0 : Int))) (fits IntKind.i64 ((0 : Int) - n) ∧ fits IntKind.i64 ((0 : Int) - d) ∧ (0 : Int) < (0 : Int) - n ∧ (0 : Int) < (0 : Int) - d ∧ ((0 : Int) - n ≤ (1000000 : Int) ∧ (0 : Int) - d ≤ (1000000 : Int)) ∧ ((0 : Int) ≤ (0 : Int) - n ∧ (0 : Int) < q0 ∧ fits IntKind.i64 (((0 : Int) - n) / q0)) ∧ ((0 : Int) ≤ (0 : Int) - d ∧ (0 : Int) < q0 ∧ fits IntKind.i64 (((0 : Int) - d) / q0)) ∧ ((0 : Int) - n) / q0 = (lowN n d).1 ∧ ((0 : Int) - d) / q0 = (lowN n d).2 ∧ True) ((0 : Int) < n ∧ (0 : Int) < d ∧ (n ≤ (1000000 : Int) ∧ d ≤ (1000000 : Int)) ∧ ((0 : Int) ≤ n ∧ (0 : Int) < q1 ∧ fits IntKind.i64 (n / q1)) ∧ ((0 : Int) ≤ d ∧ (0 : Int) < q1 ∧ fits IntKind.i64 (d / q1)) ∧ n / q1 = (lowN n d).1 ∧ d / q1 = (lowN n d).2 ∧ True)) := by
  kernel_rfl
theorem vc40 (L : List Ed) (fr : Int) : exF (env false [(39, sp39), (127, sp127)] []) h40 0 40 Proofs.Tryz.f40 [.one (.sl edT L), iV fr] (.val (.one (.sl tkT (takesN (ls L) fr)))) = (let q7 := (List.length L); EdsIn L ∧ (∃ (g : Nat), Nat.le g q7 ∧ (0 : Int) = (↑g : Int) ∧ (0 : Int) = (↑(atN L fr g) : Int) ∧ L = L ∧ fr = fr ∧ startsL L = startsL L ∧ True) ∧ ∀ (g : Nat), let q0 := (List.getD L (atN L fr g) e0); let q1 := (fr - List.getD (startsL L) (atN L fr g) (0 : Int)); let q3 := (↑(atN L fr g) : Int); let q2 := ((0 : Int) ≤ q3 ∧ q3 < (↑q7 : Int)); let q4 := (fr - List.getD (startsL L) (atN L fr g) (0 : Int) + (1 : Int)); let q5 := (q0.2.2.2.1 + (1 : Int)); let q6 := (List.getD L (Int.toNat (q3 - (1 : Int))) e0); let q8 := ((0 : Int) ≤ q3 - (1 : Int) ∧ q3 - (1 : Int) < (↑q7 : Int)); Nat.le g q7 → splitB (decide ((↑g : Int) < (↑q7 : Int))) (((0 : Int) ≤ (↑g : Int) ∧ (↑g : Int) < (↑(List.length (startsL L)) : Int)) ∧ g < List.length (startsL L) ∧ splitB (decide (List.getD (startsL L) g (0 : Int) ≤ fr)) (fits IntKind.i64 ((↑g : Int) + (1 : Int)) ∧ ∃ (g' : Nat), Nat.le g' q7 ∧ List.length L - g' < List.length L - g ∧ (↑g : Int) + (1 : Int) = (↑g' : Int) ∧ (↑g : Int) = (↑(atN L fr g') : Int) ∧ L = L ∧ fr = fr ∧ startsL L = startsL L ∧ True) (fits IntKind.i64 ((↑g : Int) + (1 : Int)) ∧ ∃ (g' : Nat), Nat.le g' q7 ∧ List.length L - g' < List.length L - g ∧ (↑g : Int) + (1 : Int) = (↑g' : Int) ∧ q3 = (↑(atN L fr g') : Int) ∧ L = L ∧ fr = fr ∧ startsL L = startsL L ∧ True)) (((0 : Int) ≤ q3 ∧ q3 < (↑(List.length (startsL L)) : Int)) ∧ atN L fr g < List.length (startsL L) ∧ fits IntKind.i64 q1 ∧ q2 ∧ q2 ∧ fits IntKind.i64 (q0.2.1 + q1) ∧ q2 ∧ splitB (decide (q0.2.2.2.1 ≤ fr - List.getD (startsL L) (atN L fr g) (0 : Int))) ([(q0.1, q0.2.1 + q1, (1 : Int), (1 : Int))] = takesN (ls L) fr ∧ True) (fits IntKind.i64 q4 ∧ q2 ∧ fits IntKind.i64 q5 ∧ (0 : Int) < fr - List.getD (startsL L) (atN L fr g) (0 : Int) + (1 : Int) ∧ (0 : Int) < q0.2.2.2.1 + (1 : Int) ∧ (fr - List.getD (startsL L) (atN L fr g) (0 : Int) + (1 : Int) ≤ (1000000 : Int) ∧ q0.2.2.2.1 + (1 : Int) ≤ (1000000 : Int)) ∧ fits IntKind.i64 (q3 - (1 : Int)) ∧ q8 ∧ fits IntKind.i64 (q3 - (1 : Int)) ∧ q8 ∧ fits IntKind.i64 (q6.2.2.1 + q1) ∧ q2 ∧ fits IntKind.i64 (q0.2.2.2.1 - q1) ∧ q2 ∧ fits IntKind.i64 q5 ∧ (0 : Int) < q0.2.2.2.1 - q1 ∧ (0 : Int) < q0.2.2.2.1 + (1 : Int) ∧ (q0.2.2.2.1 - q1 ≤ (1000000 : Int) ∧ q0.2.2.2.1 + (1 : Int) ≤ (1000000 : Int)) ∧ [(q6.1, q6.2.2.1 + q1, (lowN (q0.2.2.2.1 - q1) q5).1, (lowN (q0.2.2.2.1 - q1) q5).2), (q0.1, q0.2.1 + q1, (lowN q4 q5).1, (lowN q4 q5).2)] = takesN (ls L) fr ∧ True))) := by
  kernel_rfl
theorem vc41 (L : List Ed) (fr : Int) : exF (env false [(39, sp39), (126, sp126)] []) h0 0 41 Proofs.Tryz.f41 [.one (.sl edT L), iV fr] (.val (tkV (soundN (ls L) fr))) = (EdsIn L ∧ EdsIn L ∧ (∀ (x : Ed), x ∈ L → (-100 : Int) ≤ Prod.snd (Prod.snd (Prod.snd (Prod.snd x))) ∧ Prod.snd (Prod.snd (Prod.snd (Prod.snd x))) ≤ (100 : Int)) ∧ ((0 : Int) ≤ sndI L fr (List.length L) ∧ sndI L fr (List.length L) < (↑(List.length L) : Int)) ∧ ((0 : Int) ≤ sndI L fr (List.length L) ∧ sndI L fr (List.length L) < (↑(List.length L) : Int)) ∧ fits IntKind.i64 (Prod.fst (Prod.snd (List.getD L (Int.toNat (sndI L fr (List.length L))) e0)) + fr) ∧ ((0 : Int) ≤ sndI L fr (List.length L) ∧ sndI L fr (List.length L) < (↑(List.length (startsL L)) : Int)) ∧ Int.toNat (sndI L fr (List.length L)) < List.length (startsL L) ∧ fits IntKind.i64 (Prod.fst (Prod.snd (List.getD L (Int.toNat (sndI L fr (List.length L))) e0)) + fr - List.getD (startsL L) (Int.toNat (sndI L fr (List.length L))) (0 : Int)) ∧ Prod.fst (List.getD L (Int.toNat (sndI L fr (List.length L))) e0) = Prod.fst (soundN (ls L) fr) ∧ Prod.fst (Prod.snd (List.getD L (Int.toNat (sndI L fr (List.length L))) e0)) + fr - List.getD (startsL L) (Int.toNat (sndI L fr (List.length L))) (0 : Int) = Prod.fst (Prod.snd (soundN (ls L) fr)) ∧ (1 : Int) = Prod.fst (Prod.snd (Prod.snd (soundN (ls L) fr))) ∧ (1 : Int) = Prod.snd (Prod.snd (Prod.snd (soundN (ls L) fr))) ∧ True) := by
  kernel_rfl
theorem vc85 (A B : List Ed) : exF (env false [(39, sp39), (40, sp40), (47, sp47), (41, sp41)] []) h85 0 85 Proofs.Tryz.f85 [.one (.sl edT A), .one (.sl edT B)] (.val (.one (.frs snT (diffTo A B (max (lenL A) (lenL B)).toNat)))) = (let q2 := (max (lenL A) (lenL B)); let q11 := (Int.toNat q2); let q12 := (Ty.pair Ty.str (Ty.pair (Ty.int IntKind.i64) (Ty.pair (Ty.int IntKind.i64) (Ty.int IntKind.i64)))); EdsIn A ∧ EdsIn B ∧ (∃ (g : Nat), Nat.le g q11 ∧ (0 : Int) = (↑g : Int) ∧ false = befD A B g ∧ lenL B = lenL B ∧ lenL A = lenL A ∧ A = A ∧ B = B ∧ diffTo A B g = [] ∧ startsL B = startsL B ∧ startsL A = startsL A ∧ True) ∧ ∀ (g : Nat), let q8 := (soundN (ls A) (↑g : Int)); let q9 := (soundN (ls B) (↑g : Int)); let q3 := (takesN (ls A) (↑g : Int) = takesN (ls B) (↑g : Int)); let q0 := (bif !decide q3 then true else !eqT q12 (q8.1, q8.2.1, q8.2.2.1, q8.2.2.2) (q9.1, q9.2.1, q9.2.2.1, q9.2.2.2)); let q6 := (diffTo A B g ++ [((↑g : Int), (↑g : Int))]); let q1 := (↑(List.length q6) : Int); let q17 := (diffTo A B g); let q4 := (↑(List.length q17) : Int); let q5 := (bif decide (lenL A ≤ (↑g : Int)) then true else decide (lenL B ≤ (↑g : Int))); let q7 := ((↑g : Int) + (1 : Int)); let q16 := (q4 - (1 : Int)); let q10 := ((List.getD q17 (Int.toNat q16) ((0 : Int), (0 : Int))).1, (↑g : Int) + (1 : Int)); let q15 := (q1 - (1 : Int)); let q13 := ((List.getD q6 (Int.toNat q15) ((0 : Int), (0 : Int))).1, (↑g : Int) + (1 : Int)); let q14 := ((!decide q3) = false → (0 : Int) ≤ (↑g : Int) ∧ (↑g : Int) ≤ (100000 : Int)); let q18 := ((0 : Int) ≤ (↑g : Int) ∧ (↑g : Int) ≤ (100000 : Int)); let q19 := ((0 : Int) ≤ q1 - (1 : Int) ∧ q1 - (1 : Int) < q1); let q20 := ((0 : Int) ≤ q4 - (1 : Int) ∧ q4 - (1 : Int) < q4); Nat.le g q11 → splitB (decide ((↑g : Int) < max (lenL A) (lenL B))) (splitB (!bif decide (lenL A ≤ (↑g : Int)) then true else decide (lenL B ≤ (↑g : Int))) (EdsIn A ∧ PlsOk (ls A) ∧ q18 ∧ EdsIn B ∧ PlsOk (ls B) ∧ q18 ∧ List.length (takesN (ls A) (↑g : Int)) ≤ (1000000 : Nat) ∧ ((!decide q3) = false → EdsIn A) ∧ ((!decide q3) = false → PlsOk (ls A)) ∧ q14 ∧ ((!decide q3) = false → (List.getD A (0 : Nat) e0).2.2.2.2 = (0 : Int)) ∧ ((!decide q3) = false → EdsIn B) ∧ ((!decide q3) = false → PlsOk (ls B)) ∧ q14 ∧ ((!decide q3) = false → (List.getD B (0 : Nat) e0).2.2.2.2 = (0 : Int)) ∧ splitB (bif bif !decide q3 then true else !eqT q12 (q8.1, q8.2.1, q8.2.2.1, q8.2.2.2) (q9.1, q9.2.1, q9.2.2.1, q9.2.2.2) then !befD A B g else false) (room (List.length q17 + (1 : Nat)) (16 : Nat) ∧ splitB q0 (fits IntKind.i64 q15 ∧ fits IntKind.i64 q7 ∧ q19 ∧ Int.toNat q15 < List.length q6 ∧ fits IntKind.i64 q7 ∧ ∃ (g' : Nat), Nat.le g' q11 ∧ Int.toNat q2 - g' < Int.toNat q2 - g ∧ (↑g : Int) + (1 : Int) = (↑g' : Int) ∧ q0 = befD A B g' ∧ lenL B = lenL B ∧ lenL A = lenL A ∧ A = A ∧ B = B ∧ List.set q6 (Int.toNat q15) q13 = diffTo A B g' ∧ startsL B = startsL B ∧ startsL A = startsL A ∧ True) (fits IntKind.i64 q7 ∧ ∃ (g' : Nat), Nat.le g' q11 ∧ Int.toNat q2 - g' < Int.toNat q2 - g ∧ (↑g : Int) + (1 : Int) = (↑g' : Int) ∧ q0 = befD A B g' ∧ lenL B = lenL B ∧ lenL A = lenL A ∧ A = A ∧ B = B ∧ diffTo A B g ++ [((↑g : Int), (↑g : Int))] = diffTo A B g' ∧ startsL B = startsL B ∧ startsL A = startsL A ∧ True)) (splitB q0 (fits IntKind.i64 q16 ∧ fits IntKind.i64 q7 ∧ q20 ∧ Int.toNat q16 < List.length q17 ∧ fits IntKind.i64 q7 ∧ ∃ (g' : Nat), Nat.le g' q11 ∧ Int.toNat q2 - g' < Int.toNat q2 - g ∧ (↑g : Int) + (1 : Int) = (↑g' : Int) ∧ q0 = befD A B g' ∧ lenL B = lenL B ∧ lenL A = lenL A ∧ A = A ∧ B = B ∧ List.set q17 (Int.toNat q16) q10 = diffTo A B g' ∧ startsL B = startsL B ∧ startsL A = startsL A ∧ True) (fits IntKind.i64 q7 ∧ ∃ (g' : Nat), Nat.le g' q11 ∧ Int.toNat q2 - g' < Int.toNat q2 - g ∧ (↑g : Int) + (1 : Int) = (↑g' : Int) ∧ q0 = befD A B g' ∧ lenL B = lenL B ∧ lenL A = lenL A ∧ A = A ∧ B = B ∧ diffTo A B g = diffTo A B g' ∧ startsL B = startsL B ∧ startsL A = startsL A ∧ True))) (splitB (bif bif decide (lenL A ≤ (↑g : Int)) then true else decide (lenL B ≤ (↑g : Int)) then !befD A B g else false) (room (List.length q17 + (1 : Nat)) (16 : Nat) ∧ splitB q5 (fits IntKind.i64 q15 ∧ fits IntKind.i64 q7 ∧ q19 ∧ Int.toNat q15 < List.length q6 ∧ fits IntKind.i64 q7 ∧ ∃ (g' : Nat), Nat.le g' q11 ∧ Int.toNat q2 - g' < Int.toNat q2 - g ∧ (↑g : Int) + (1 : Int) = (↑g' : Int) ∧ q5 = befD A B g' ∧ lenL B = lenL B ∧ lenL A = lenL A ∧ A = A ∧ B = B ∧ List.set q6 (Int.toNat q15) q13 = diffTo A B g' ∧ startsL B = startsL B ∧ startsL A = startsL A ∧ True) (fits IntKind.i64 q7 ∧ ∃ (g' : Nat), Nat.le g' q11 ∧ Int.toNat q2 - g' < Int.toNat q2 - g ∧ (↑g : Int) + (1 : Int) = (↑g' : Int) ∧ q5 = befD A B g' ∧ lenL B = lenL B ∧ lenL A = lenL A ∧ A = A ∧ B = B ∧ diffTo A B g ++ [((↑g : Int), (↑g : Int))] = diffTo A B g' ∧ startsL B = startsL B ∧ startsL A = startsL A ∧ True)) (splitB q5 (fits IntKind.i64 q16 ∧ fits IntKind.i64 q7 ∧ q20 ∧ Int.toNat q16 < List.length q17 ∧ fits IntKind.i64 q7 ∧ ∃ (g' : Nat), Nat.le g' q11 ∧ Int.toNat q2 - g' < Int.toNat q2 - g ∧ (↑g : Int) + (1 : Int) = (↑g' : Int) ∧ q5 = befD A B g' ∧ lenL B = lenL B ∧ lenL A = lenL A ∧ A = A ∧ B = B ∧ List.set q17 (Int.toNat q16) q10 = diffTo A B g' ∧ startsL B = startsL B ∧ startsL A = startsL A ∧ True) (fits IntKind.i64 q7 ∧ ∃ (g' : Nat), Nat.le g' q11 ∧ Int.toNat q2 - g' < Int.toNat q2 - g ∧ (↑g : Int) + (1 : Int) = (↑g' : Int) ∧ q5 = befD A B g' ∧ lenL B = lenL B ∧ lenL A = lenL A ∧ A = A ∧ B = B ∧ diffTo A B g = diffTo A B g' ∧ startsL B = startsL B ∧ startsL A = startsL A ∧ True)))) (diffTo A B g = diffTo A B q11 ∧ True)) := by
  kernel_rfl
theorem vc89 (a b : List (Int × Int)) : exF (env false [] []) (hSame 89 snT sp0) 0 89 Proofs.Tryz.f89 [.one (.sl snT a), .one (.sl snT b)] (.val (bV (decide (a = b)))) = (let q0 := ((0 : Int), (0 : Int)); splitB ((↑(List.length a) : Int) != (↑(List.length b) : Int)) (false = decide (a = b) ∧ True) ((∃ (g : Nat), (g ≤ List.length a ∧ ∀ (j : Nat), j < g → List.getD a j sp0 = List.getD b j sp0) ∧ (0 : Int) = (↑g : Int) ∧ a = a ∧ b = b ∧ True) ∧ ∀ (g : Nat), (g ≤ List.length a ∧ ∀ (j : Nat), j < g → List.getD a j sp0 = List.getD b j sp0) → splitB (decide ((↑g : Int) < (↑(List.length a) : Int))) (((0 : Int) ≤ (↑g : Int) ∧ (↑g : Int) < (↑(List.length a) : Int)) ∧ ((0 : Int) ≤ (↑g : Int) ∧ (↑g : Int) < (↑(List.length b) : Int)) ∧ splitB (!eqT (Ty.pair (Ty.int IntKind.i64) (Ty.int IntKind.i64)) ((List.getD a g q0).1, (List.getD a g q0).2) ((List.getD b g q0).1, (List.getD b g q0).2)) (false = decide (a = b) ∧ True) (fits IntKind.i64 ((↑g : Int) + (1 : Int)) ∧ ∃ (g' : Nat), (g' ≤ List.length a ∧ ∀ (j : Nat), j < g' → List.getD a j sp0 = List.getD b j sp0) ∧ List.length a - g' < List.length a - g ∧ (↑g : Int) + (1 : Int) = (↑g' : Int) ∧ a = a ∧ b = b ∧ True)) (true = decide (a = b) ∧ True))) := by
  kernel_rfl
theorem vc136 (L : List Ed) : exF (env false [] []) h0 0 136 Proofs.Tryz.f136 [.one (.sl edT L)] (.val (.one (.frs edT L))) = (room ((0 : Nat) + List.length L) (48 : Nat) ∧ L = L ∧ True) := by
  kernel_rfl
theorem vc86 (R : List Rl) (A B : List Ed) : exF (env false [(136, sp136), (38, sp38)] [fb137]) h0 3 86 Proofs.Tryz.f86 [.one (.sl rlT R), .one (.sl edT A), .one (.sl edT B)] (.tup [.one (.frs edT (rjL R A B)), iV (rjE R A B)]) = (fits IntKind.i64 ((↑(List.length A) : Int) + (↑(List.length B) : Int)) ∧ splitB (decide ((16 : Int) < (↑(List.length A) : Int) + (↑(List.length B) : Int))) (rjL R A B = [] ∧ (5 : Int) = rjE R A B ∧ True) (List.length A ≤ (1000000 : Nat) ∧ room (List.length A + List.length B) (48 : Nat) ∧ List.length R ≤ (1000000000 : Nat) ∧ (∀ (r : Rl), r ∈ R → List.length r.2.2 ≤ (1000000 : Nat) ∧ List.length r.1 ≤ (1000000000 : Nat)) ∧ List.length (A ++ B) ≤ (1000000000 : Nat) ∧ (∀ (x : Ed), x ∈ A ++ B → fits IntKind.i64 x.2.2.1) ∧ splitB (chkEds R (A ++ B) != (0 : Int)) (rjL R A B = [] ∧ chkEds R (A ++ B) = rjE R A B ∧ True) (A ++ B = rjL R A B ∧ (0 : Int) = rjE R A B ∧ True))) := by
  kernel_rfl
theorem vc88 (R : List Rl) (L : List Ed) (t : Int) : exF (env false [(39, sp39), (38, sp38)] []) h88 0 88 Proofs.Tryz.f88 [.one (.sl rlT R), .one (.sl edT L), iV t] (.tup [.one (.frs edT (partL R L t).1), .one (.frs edT (partL R L t).2), iV (partE R L t)]) = (let q3 := (↑(List.length (startsL L)) : Int); let q6 := (List.length L); let q8 := (1000000000 : Nat); EdsIn L ∧ (∃ (g : Nat), (g ≤ List.length L ∧ upTo (fun (j : Nat) => tornE (List.getD (ls L) j pl0) t) g = (0 : Int)) ∧ (0 : Int) = (↑g : Int) ∧ lenL L = lenL L ∧ R = R ∧ L = L ∧ t = t ∧ startsL L = startsL L ∧ True) ∧ ∀ (g : Nat), let q1 := (List.getD (startsL L) g (0 : Int) < t); let q7 := (List.getD L g e0); let q2 := (t < List.getD (startsL L) g (0 : Int) + q7.2.2.2.1); let q9 := (t ≤ List.getD (startsL L) g (0 : Int) + q7.2.2.2.2); let q5 := (bif bif decide q1 then decide q2 else false then true else bif decide q1 then decide q9 else false); g ≤ List.length L ∧ upTo (fun (j : Nat) => tornE (List.getD (ls L) j pl0) t) g = (0 : Int) → splitB (decide ((↑g : Int) < (↑q6 : Int))) (((0 : Int) ≤ (↑g : Int) ∧ (↑g : Int) < q3) ∧ g < List.length (startsL L) ∧ ((0 : Int) ≤ (↑g : Int) ∧ (↑g : Int) < (↑q6 : Int)) ∧ fits IntKind.i64 (List.getD (startsL L) g (0 : Int) + q7.2.2.2.2) ∧ ((0 : Int) ≤ (↑g : Int) ∧ (↑g : Int) < q3) ∧ g < List.length (startsL L) ∧ (decide q1 = true → (0 : Int) ≤ (↑g : Int) ∧ (↑g : Int) < q3) ∧ (decide q1 = true → g < List.length (startsL L)) ∧ (decide q1 = true → (0 : Int) ≤ (↑g : Int) ∧ (↑g : Int) < (↑q6 : Int)) ∧ (decide q1 = true → fits IntKind.i64 (List.getD (startsL L) g (0 : Int) + q7.2.2.2.1)) ∧ ((bif decide q1 then decide q2 else false) = false → (0 : Int) ≤ (↑g : Int) ∧ (↑g : Int) < q3) ∧ ((bif decide q1 then decide q2 else false) = false → g < List.length (startsL L)) ∧ (q5 = false → (0 : Int) ≤ (↑g : Int) ∧ (↑g : Int) < q3) ∧ (q5 = false → g < List.length (startsL L)) ∧ splitB (bif bif bif decide q1 then decide q2 else false then true else bif decide q1 then decide q9 else false then true else bif decide (t ≤ List.getD (startsL L) g (0 : Int)) then decide (List.getD (startsL L) g (0 : Int) + q7.2.2.2.2 < t) else false) ((partL R L t).1 = [] ∧ (partL R L t).2 = [] ∧ (22 : Int) = partE R L t ∧ True) (fits IntKind.i64 ((↑g : Int) + (1 : Int)) ∧ ∃ (g' : Nat), (g' ≤ List.length L ∧ upTo (fun (j : Nat) => tornE (List.getD (ls L) j pl0) t) g' = (0 : Int)) ∧ List.length L - g' < List.length L - g ∧ (↑g : Int) + (1 : Int) = (↑g' : Int) ∧ lenL L = lenL L ∧ R = R ∧ L = L ∧ t = t ∧ startsL L = startsL L ∧ True)) ((∃ (g : Nat), Nat.le g q6 ∧ (0 : Int) = (↑g : Int) ∧ lenL L = lenL L ∧ R = R ∧ L = L ∧ t = t ∧ asN (ls L) t g = [] ∧ bsN (ls L) t g = [] ∧ startsL L = startsL L ∧ True) ∧ ∀ (g : Nat), let q0 := (List.getD L g e0); let q4 := (List.getD (startsL L) g (0 : Int) + q0.2.2.1 - q0.2.1 - t); let q10 := (bsN (ls L) t g); let q11 := (asN (ls L) t g); let q12 := (q0.1, q0.2.1, q0.2.2.1, q0.2.2.2.1, q0.2.2.2.2); Nat.le g q6 → splitB (decide ((↑g : Int) < (↑q6 : Int))) (((0 : Int) ≤ (↑g : Int) ∧ (↑g : Int) < (↑q6 : Int)) ∧ ((0 : Int) ≤ (↑g : Int) ∧ (↑g : Int) < q3) ∧ g < List.length (startsL L) ∧ splitB (decide (t ≤ List.getD (startsL L) g (0 : Int))) (room (List.length q10 + (1 : Nat)) (48 : Nat) ∧ fits IntKind.i64 ((↑g : Int) + (1 : Int)) ∧ ∃ (g' : Nat), Nat.le g' q6 ∧ List.length L - g' < List.length L - g ∧ (↑g : Int) + (1 : Int) = (↑g' : Int) ∧ lenL L = lenL L ∧ R = R ∧ L = L ∧ t = t ∧ asN (ls L) t g = asN (ls L) t g' ∧ bsN (ls L) t g ++ [q12] = bsN (ls L) t g' ∧ startsL L = startsL L ∧ True) (((0 : Int) ≤ (↑g : Int) ∧ (↑g : Int) < q3) ∧ g < List.length (startsL L) ∧ fits IntKind.i64 (List.getD (startsL L) g (0 : Int) + q0.2.2.1) ∧ fits IntKind.i64 (List.getD (startsL L) g (0 : Int) + q0.2.2.1 - q0.2.1) ∧ splitB (decide (t < List.getD (startsL L) g (0 : Int) + q0.2.2.1 - q0.2.1)) (fits IntKind.i64 q4 ∧ fits IntKind.i64 (q0.2.2.1 - q4) ∧ room (List.length q11 + (1 : Nat)) (48 : Nat) ∧ room (List.length q10 + (1 : Nat)) (48 : Nat) ∧ fits IntKind.i64 ((↑g : Int) + (1 : Int)) ∧ ∃ (g' : Nat), Nat.le g' q6 ∧ List.length L - g' < List.length L - g ∧ (↑g : Int) + (1 : Int) = (↑g' : Int) ∧ lenL L = lenL L ∧ R = R ∧ L = L ∧ t = t ∧ asN (ls L) t g ++ [(q0.1, q0.2.1, q0.2.2.1 - q4, q0.2.2.2.1, q0.2.2.2.2)] = asN (ls L) t g' ∧ bsN (ls L) t g ++ [(q0.1, q0.2.2.1 - q4, q0.2.2.1, (0 : Int), (0 : Int))] = bsN (ls L) t g' ∧ startsL L = startsL L ∧ True) (room (List.length q11 + (1 : Nat)) (48 : Nat) ∧ fits IntKind.i64 ((↑g : Int) + (1 : Int)) ∧ ∃ (g' : Nat), Nat.le g' q6 ∧ List.length L - g' < List.length L - g ∧ (↑g : Int) + (1 : Int) = (↑g' : Int) ∧ lenL L = lenL L ∧ R = R ∧ L = L ∧ t = t ∧ asN (ls L) t g ++ [q12] = asN (ls L) t g' ∧ bsN (ls L) t g = bsN (ls L) t g' ∧ startsL L = startsL L ∧ True))) (List.length R ≤ q8 ∧ (∀ (r : Rl), r ∈ R → List.length r.2.2 ≤ (1000000 : Nat) ∧ List.length r.1 ≤ q8) ∧ List.length q11 ≤ q8 ∧ (∀ (x : Ed), x ∈ asN (ls L) t g → fits IntKind.i64 x.2.2.1) ∧ splitB (chkEds R q11 != (0 : Int)) ((partL R L t).1 = [] ∧ (partL R L t).2 = [] ∧ chkEds R q11 = partE R L t ∧ True) (List.length R ≤ q8 ∧ (∀ (r : Rl), r ∈ R → List.length r.2.2 ≤ (1000000 : Nat) ∧ List.length r.1 ≤ q8) ∧ List.length q10 ≤ q8 ∧ (∀ (x : Ed), x ∈ bsN (ls L) t g → fits IntKind.i64 x.2.2.1) ∧ splitB (chkEds R q10 != (0 : Int)) ((partL R L t).1 = [] ∧ (partL R L t).2 = [] ∧ chkEds R q10 = partE R L t ∧ True) (asN (ls L) t g = (partL R L t).1 ∧ bsN (ls L) t g = (partL R L t).2 ∧ (0 : Int) = partE R L t ∧ True))))) := by
  kernel_rfl
theorem vc12 (R : List Rl) (A B : List Ed) (t : Int) : exF (env false [(17, sp17), (82, sp82), (18, sp18), (25, sp25), (34, sp34), (57, sp57), (83, sp83), (84, sp84), (78, sp78), (38, sp38), (61, sp61), (85, sp85), (86, sp86), (39, sp39), (87, sp87), (88, sp88), (56, sp56), (89, sp89)] []) h0 0 12 Proofs.Tryz.f12 [.one (.sl rlT R), .agg [.one (.sl edT A), .one (.sl edT B), .one (.int .i64 t)]] (.val (bV true)) = (let q17 := (joinL R A B = []); let q2 := (1000000 : Nat); let q0 := ((bif decide q17 then joinE R A B == first [chkEds R A, chkEds R B] else false) = true → List.length (partL R A t).1 ≤ q2); let q12 := (joinL R A B = rjL R A B); let q1 := ((bif decide q12 then joinE R A B == rjE R A B else false) = true → List.length (partL R A t).1 ≤ q2); let q14 := ((partL R A t).1 = (partL R A t).1); let q3 := ((bif bif decide q17 then joinE R A B == first [chkEds R A, chkEds R B] else false then decide q14 else false) = true → List.length (partL R A t).2 ≤ q2); let q13 := ((partL R A t).1 = []); let q4 := ((bif bif decide q17 then joinE R A B == first [chkEds R A, chkEds R B] else false then decide q13 else false) = true → List.length (partL R A t).2 ≤ q2); let q5 := ((bif bif decide q12 then joinE R A B == rjE R A B else false then decide q14 else false) = true → List.length (partL R A t).2 ≤ q2); let q6 := ((bif bif decide q12 then joinE R A B == rjE R A B else false then decide q13 else false) = true → List.length (partL R A t).2 ≤ q2); let q16 := (diffN R A B = diffTo A B (Int.toNat (max (lenL A) (lenL B)))); let q18 := ((partL R A t).2 = (partL R A t).2); let q7 := (bif bif bif bif bif bif bif decide q12 then joinE R A B == rjE R A B else false then decide q14 else false then decide q18 else false then partE R A t == partE R A t else false then decide q16 else false then bothE R A B == first [chkEds R A, chkEds R B] else false then true else false); let q8 := (bif bif bif bif bif bif bif decide q17 then joinE R A B == first [chkEds R A, chkEds R B] else false then decide q14 else false then decide q18 else false then partE R A t == partE R A t else false then decide (diffN R A B = []) else false then bothE R A B == first [chkEds R A, chkEds R B] else false then true else false); let q9 := (1000000000 : Nat); let q10 := ((bif bif bif bif decide q17 then joinE R A B == first [chkEds R A, chkEds R B] else false then decide q14 else false then decide q18 else false then partE R A t == partE R A t else false) = true → List.length (diffN R A B) ≤ q2); let q11 := ((bif bif bif bif decide q12 then joinE R A B == rjE R A B else false then decide q14 else false then decide q18 else false then partE R A t == partE R A t else false) = true → List.length (diffN R A B) ≤ q2); let q15 := ((partL R A t).2 = []); let q19 := ((0 : Int) ≤ t ∧ t ≤ lenL A); let q20 := (chkEds R A == (0 : Int)); let q21 := (9223372036854775807 : Nat); List.length R ≤ q21 ∧ List.length A ≤ q21 ∧ ((!shortB R A) = false → List.length B ≤ q21) ∧ splitB (bif !shortB R A then true else !shortE B) (true = true ∧ True) (List.length R ≤ q2 ∧ (∀ (r : Rl), r ∈ R → List.length r.2.2 ≤ q2) ∧ List.length A ≤ q2 ∧ List.length B ≤ q2 ∧ List.length R ≤ q9 ∧ (∀ (r : Rl), r ∈ R → List.length r.2.2 ≤ q2) ∧ List.length A ≤ (100000 : Nat) ∧ List.length B ≤ (100000 : Nat) ∧ List.length R ≤ q2 ∧ (∀ (r : Rl), r ∈ R → List.length r.2.2 ≤ q2) ∧ List.length A ≤ q2 ∧ List.length R ≤ q9 ∧ (∀ (r : Rl), r ∈ R → List.length r.2.2 ≤ q2) ∧ List.length A ≤ q9 ∧ List.length R ≤ q2 ∧ (∀ (r : Rl), r ∈ R → List.length r.2.2 ≤ q2) ∧ List.length A ≤ q2 ∧ List.length B ≤ q2 ∧ List.length R ≤ q9 ∧ (∀ (r : Rl), r ∈ R → List.length r.2.2 ≤ q2) ∧ List.length A ≤ q9 ∧ List.length B ≤ q9 ∧ List.length R ≤ q9 ∧ (∀ (r : Rl), r ∈ R → List.length r.2.2 ≤ q2 ∧ List.length r.1 ≤ q9) ∧ List.length A ≤ q9 ∧ (∀ (x : Ed), x ∈ A → fits IntKind.i64 x.2.2.1) ∧ List.length R ≤ q9 ∧ (∀ (r : Rl), r ∈ R → List.length r.2.2 ≤ q2 ∧ List.length r.1 ≤ q9) ∧ List.length B ≤ q9 ∧ (∀ (x : Ed), x ∈ B → fits IntKind.i64 x.2.2.1) ∧ (2 : Nat) ≤ q9 ∧ splitB (first [chkEds R A, chkEds R B] == (0 : Int)) (LOk A ∧ LOk B ∧ List.length R ≤ q9 ∧ (∀ (r : Rl), r ∈ R → List.length r.2.2 ≤ q2 ∧ List.length r.1 ≤ q9) ∧ List.length A ≤ (100000 : Nat) ∧ List.length B ≤ (100000 : Nat) ∧ (∀ (x : Ed), x ∈ A ++ B → fits IntKind.i64 x.2.2.1) ∧ splitB q20 (EdsIn A ∧ splitB (within t (0 : Int) (lenL A) == (0 : Int)) (List.length R ≤ q9 ∧ (∀ (r : Rl), r ∈ R → List.length r.2.2 ≤ q2 ∧ List.length r.1 ≤ q9) ∧ ListOk R A ∧ q19 ∧ List.length (joinL R A B) ≤ q2 ∧ List.length (joinL R A B) ≤ q2 ∧ q1 ∧ q1 ∧ q5 ∧ q5 ∧ q11 ∧ q7 = true ∧ True) (List.length (joinL R A B) ≤ q2 ∧ List.length (joinL R A B) ≤ q2 ∧ q1 ∧ q1 ∧ q6 ∧ q6 ∧ ((bif bif bif bif decide q12 then joinE R A B == rjE R A B else false then decide q13 else false then decide q15 else false then partE R A t == within t (0 : Int) (lenL A) else false) = true → List.length (diffN R A B) ≤ q2) ∧ (bif bif bif bif bif bif bif decide q12 then joinE R A B == rjE R A B else false then decide q13 else false then decide q15 else false then partE R A t == within t (0 : Int) (lenL A) else false then decide q16 else false then bothE R A B == first [chkEds R A, chkEds R B] else false then true else false) = true ∧ True)) (splitB q20 (List.length R ≤ q9 ∧ (∀ (r : Rl), r ∈ R → List.length r.2.2 ≤ q2 ∧ List.length r.1 ≤ q9) ∧ ListOk R A ∧ q19 ∧ List.length (joinL R A B) ≤ q2 ∧ List.length (joinL R A B) ≤ q2 ∧ q1 ∧ q1 ∧ q5 ∧ q5 ∧ q11 ∧ q7 = true ∧ True) (List.length (joinL R A B) ≤ q2 ∧ List.length (joinL R A B) ≤ q2 ∧ q1 ∧ q1 ∧ q6 ∧ q6 ∧ ((bif bif bif bif decide q12 then joinE R A B == rjE R A B else false then decide q13 else false then decide q15 else false then partE R A t == chkEds R A else false) = true → List.length (diffN R A B) ≤ q2) ∧ (bif bif bif bif bif bif bif decide q12 then joinE R A B == rjE R A B else false then decide q13 else false then decide q15 else false then partE R A t == chkEds R A else false then decide q16 else false then bothE R A B == first [chkEds R A, chkEds R B] else false then true else false) = true ∧ True))) (splitB q20 (EdsIn A ∧ splitB (within t (0 : Int) (lenL A) == (0 : Int)) (List.length R ≤ q9 ∧ (∀ (r : Rl), r ∈ R → List.length r.2.2 ≤ q2 ∧ List.length r.1 ≤ q9) ∧ ListOk R A ∧ q19 ∧ List.length (joinL R A B) ≤ q2 ∧ List.length (joinL R A B) ≤ q2 ∧ q0 ∧ q0 ∧ q3 ∧ q3 ∧ q10 ∧ q8 = true ∧ True) (List.length (joinL R A B) ≤ q2 ∧ List.length (joinL R A B) ≤ q2 ∧ q0 ∧ q0 ∧ q4 ∧ q4 ∧ ((bif bif bif bif decide q17 then joinE R A B == first [chkEds R A, chkEds R B] else false then decide q13 else false then decide q15 else false then partE R A t == within t (0 : Int) (lenL A) else false) = true → List.length (diffN R A B) ≤ q2) ∧ (bif bif bif bif bif bif bif decide q17 then joinE R A B == first [chkEds R A, chkEds R B] else false then decide q13 else false then decide q15 else false then partE R A t == within t (0 : Int) (lenL A) else false then decide (diffN R A B = []) else false then bothE R A B == first [chkEds R A, chkEds R B] else false then true else false) = true ∧ True)) (splitB q20 (List.length R ≤ q9 ∧ (∀ (r : Rl), r ∈ R → List.length r.2.2 ≤ q2 ∧ List.length r.1 ≤ q9) ∧ ListOk R A ∧ q19 ∧ List.length (joinL R A B) ≤ q2 ∧ List.length (joinL R A B) ≤ q2 ∧ q0 ∧ q0 ∧ q3 ∧ q3 ∧ q10 ∧ q8 = true ∧ True) (List.length (joinL R A B) ≤ q2 ∧ List.length (joinL R A B) ≤ q2 ∧ q0 ∧ q0 ∧ q4 ∧ q4 ∧ ((bif bif bif bif decide q17 then joinE R A B == first [chkEds R A, chkEds R B] else false then decide q13 else false then decide q15 else false then partE R A t == chkEds R A else false) = true → List.length (diffN R A B) ≤ q2) ∧ (bif bif bif bif bif bif bif decide q17 then joinE R A B == first [chkEds R A, chkEds R B] else false then decide q13 else false then decide q15 else false then partE R A t == chkEds R A else false then decide (diffN R A B = []) else false then bothE R A B == first [chkEds R A, chkEds R B] else false then true else false) = true ∧ True))))) := by
  kernel_rfl
end Go.Sx

/- Contracts. -/
namespace Go.Sx
open U
theorem startsL_get (L : List Ed) {g : Nat} (hg : g < L.length) : (startsL L).getD g 0 = begN L g := by
  unfold startsL
  rw [List.getD_eq_getElem?_getD, List.getElem?_map, List.getElem?_range hg]; rfl
theorem startsL_len (L : List Ed) : (startsL L).length = L.length := by simp [startsL]
theorem sndI_last {L : List Ed} {fr : Int} (h0 : 0 ≤ fr) (hz : (L.getD 0 e0).2.2.2.2 = 0) : ∀ n, 0 < n → n ≤ L.length → sndI L fr n = (lastTo sndN (ls L) fr n : Int)
  | n + 1, _, hn => by
    have e : sndN ((ls L).getD n pl0) = begN L n + (L.getD n e0).2.2.2.2 := sndN_ls (by omega)
    simp only [sndI, lastTo, e]
    split
    · rfl
    · rename_i hc
      cases n with
      | zero => rw [hz] at hc; simp only [begN] at hc; omega
      | succ n => exact sndI_last h0 hz (n + 1) (by omega) (by omega)
theorem fn151 (n d : Int) (hn : 0 < n) (hd : 0 < d) (hf : n ≤ 1000000 ∧ d ≤ 1000000) : Fn P1 gl1 151 [iV n, iV d] (.val (iV (Nat.gcd n.toNat d.toNat : Int))) true := by
  refine Fn.flat ?_ rfl
  refine fn_of false [] [] h151 0 Proofs.Tryz.f151 trivial trivial (by kernel_rfl) rfl (by kernel_rfl) rfl rfl rfl ?_
  rw [vc151]
  try simp only [splitB_iff, -eq_self]
  refine ⟨⟨(n.toNat, d.toNat), ⟨by dsimp only; omega, rfl⟩, by dsimp only; omega, by dsimp only; omega, trivial⟩, fun g hg => ⟨fun h => ?_, fun h => ?_⟩⟩
  · have h' : g.2 ≠ 0 := by simpa using h
    refine ⟨⟨by omega, by omega⟩, (g.2, g.1 % g.2), ⟨by dsimp only; omega, ?_⟩, by dsimp only; exact Nat.mod_lt _ (by omega), rfl, by dsimp only; omega, trivial⟩
    dsimp only
    rw [Nat.gcd_comm, ← Nat.gcd_rec, Nat.gcd_comm]
    exact hg.2
  · have h' : g.2 = 0 := by simpa using h
    have hg2 := hg.2
    rw [h', Nat.gcd_zero_right] at hg2
    exact ⟨by rw [hg2], trivial⟩
theorem so151_ : SpecOk P1 gl1 151 sp151 := by
  intro vs ps r h hp
  simp only [sp151] at h
  split at h
  · cases h; exact fn151 _ _ (hp _ (.head _)) (hp _ (.tail _ (.head _))) (hp _ (.tail _ (.tail _ (.head _))))
  · cases h
theorem so151 : Sp1 151 sp151 := ⟨so151_, Proofs.Tryz.f151, _, by kernel_rfl, rfl, by kernel_rfl⟩
theorem fn127 (n d : Int) (hn : 0 < n) (hd : 0 < d) (hf : n ≤ 1000000 ∧ d ≤ 1000000) : Fn P1 gl1 127 [iV n, iV d] (.val (.agg [.one (.int .i64 (lowN n d).1), .one (.int .i64 (lowN n d).2)])) true := by
  refine Fn.flat ?_ rfl
  refine fn_of false [(151, sp151)] [] h0 0 Proofs.Tryz.f127 ⟨so151, trivial⟩ trivial (by kernel_rfl) rfl (by kernel_rfl) rfl rfl rfl ?_
  rw [vc127]
  try simp only [splitB_iff, -eq_self]
  have hpos : 0 < Nat.gcd n.toNat d.toNat := Nat.gcd_pos_of_pos_left _ (by omega)
  have b2 := Int.ediv_le_self (a := n) (Nat.gcd n.toNat d.toNat : Int) (by omega)
  have b1 := Int.ediv_nonneg (a := n) (b := (Nat.gcd n.toNat d.toNat : Int)) (by omega) (by omega)
  have b3 := Int.ediv_nonneg (a := d) (b := (Nat.gcd n.toNat d.toNat : Int)) (by omega) (by omega)
  have b4 := Int.ediv_le_self (a := d) (Nat.gcd n.toNat d.toNat : Int) (by omega)
  exact ⟨fun h => by have := of_decide_eq_true h; omega, fun _ => ⟨hn, hd, hf, ⟨by omega, by omega, by simp only [fits]; omega⟩, ⟨by omega, by omega, by simp only [fits]; omega⟩, rfl, rfl, trivial⟩⟩
theorem so127_ : SpecOk P1 gl1 127 sp127 := by
  intro vs ps r h hp
  simp only [sp127] at h
  split at h
  · cases h; exact fn127 _ _ (hp _ (.head _)) (hp _ (.tail _ (.head _))) (hp _ (.tail _ (.tail _ (.head _))))
  · cases h
theorem so127 : Sp1 127 sp127 := ⟨so127_, Proofs.Tryz.f127, _, by kernel_rfl, rfl, by kernel_rfl⟩
theorem fn40 (L : List Ed) (fr : Int) (hL : EdsIn L) (hp : PlsOk (ls L)) (hf : 0 ≤ fr ∧ fr ≤ 100000) : Fn P1 gl1 40 [.one (.sl edT L), iV fr] (.val (.one (.sl tkT (takesN (ls L) fr)))) false := by
  refine fn_of false [(39, sp39), (127, sp127)] [] h40 0 Proofs.Tryz.f40 ⟨so39, so127, trivial⟩ trivial (by kernel_rfl) rfl (by kernel_rfl) rfl rfl rfl ?_
  rw [vc40]
  try simp only [splitB_iff, -eq_self]
  obtain ⟨h0, h16, hx, hb0, hf0⟩ := hp
  rw [ls_len] at h0 h16
  rw [ls_get L h0] at hb0 hf0
  dsimp only at hb0 hf0
  simp only [startsL_len]
  refine ⟨hL, ⟨0, Nat.zero_le _, rfl, rfl, by trivial, by trivial, by trivial, trivial⟩, fun g hg => ⟨fun hlt => ?_, fun hge => ?_⟩⟩
  · have hlt' : g < L.length := by have := of_decide_eq_true hlt; omega
    have e : atN L fr (g + 1) = if begN L g ≤ fr then g else atN L fr g := by
      show (if begP ((ls L).getD g pl0) ≤ fr then g else _) = _
      rw [ls_get L hlt']; rfl
    rw [startsL_get L hlt']
    refine ⟨by omega, hlt', fun h => ⟨by simp only [fits]; omega, g + 1, hlt', by omega, by omega, ?_, by trivial, by trivial, by trivial, trivial⟩, fun h => ⟨by simp only [fits]; omega, g + 1, hlt', by omega, by omega, ?_, by trivial, by trivial, by trivial, trivial⟩⟩
    · rw [e, if_pos (of_decide_eq_true h)]
    · rw [e, if_neg (of_decide_eq_false h)]
  · have hgL : g = L.length := by have := of_decide_eq_false hge; have : g ≤ L.length := hg; omega
    subst hgL
    have hl : atN L fr L.length < L.length := lastTo_lt begP (ls L) fr L.length h0
    have hle : begP ((ls L).getD (atN L fr L.length) pl0) ≤ fr := lastTo_le (g := begP) (p := ls L) (fr := fr) (by rw [ls_get L h0]; show begN L 0 ≤ fr; omega) L.length
    have hT : takesN (ls L) fr = takesE (L.getD (atN L fr L.length) e0) (L.getD (atN L fr L.length - 1) e0) (fr - begN L (atN L fr L.length)) := by
      unfold takesN
      rw [ls_len]
      show takesE ((ls L).getD (atN L fr L.length) pl0).1 ((ls L).getD (atN L fr L.length - 1) pl0).1 (fr - ((ls L).getD (atN L fr L.length) pl0).2) = _
      rw [ls_get L hl, ls_get L (show atN L fr L.length - 1 < L.length by omega)]
    have hk := hx _ (getD_mem (d := pl0) (show atN L fr L.length < (ls L).length by rw [ls_len]; exact hl))
    have hb := hx _ (getD_mem (d := pl0) (show atN L fr L.length - 1 < (ls L).length by rw [ls_len]; omega))
    rw [ls_get L hl] at hk hle
    rw [ls_get L (show atN L fr L.length - 1 < L.length by omega)] at hb
    have hle : begN L (atN L fr L.length) ≤ fr := hle
    rw [hT, startsL_get L hl]
    generalize atN L fr L.length = k at *
    dsimp only at hk hb
    refine ⟨by omega, hl, by simp only [fits]; omega, by omega, by omega, by simp only [fits]; omega, by omega, fun h => ?_, fun h => ?_⟩
    · unfold takesE; rw [if_pos (of_decide_eq_true h)]; exact ⟨rfl, trivial⟩
    · have h' := of_decide_eq_false h
      have hk1 : 0 < k := by
        apply Nat.pos_of_ne_zero
        rintro rfl
        rw [hf0] at h'
        simp only [begN] at h'
        omega
      have e1 : ((k : Int) - 1).toNat = k - 1 := by omega
      rw [e1]
      unfold takesE
      rw [if_neg h']
      repeat' (first | exact trivial | refine And.intro ?_ ?_)
      all_goals first | omega | (simp only [fits]; omega) | rfl
theorem so40_ : SpecOk P1 gl1 40 sp40 := by
  intro vs ps r h hp
  simp only [sp40] at h
  split at h
  · cases h; exact fn40 _ _ (hp _ (.head _)) (hp _ (.tail _ (.head _))) (hp _ (.tail _ (.tail _ (.head _))))
  · cases h
theorem so40 : Sp1 40 sp40 := ⟨so40_, Proofs.Tryz.f40, _, by kernel_rfl, rfl, by kernel_rfl⟩
theorem fn41 (L : List Ed) (fr : Int) (hL : EdsIn L) (hp : PlsOk (ls L)) (hf : 0 ≤ fr ∧ fr ≤ 100000) (hz : (L.getD 0 e0).2.2.2.2 = 0) : Fn P1 gl1 41 [.one (.sl edT L), iV fr] (.val (tkV (soundN (ls L) fr))) true := by
  refine Fn.flat ?_ rfl
  refine fn_of false [(39, sp39), (126, sp126)] [] h0 0 Proofs.Tryz.f41 ⟨so39, so126, trivial⟩ trivial (by kernel_rfl) rfl (by kernel_rfl) rfl rfl rfl ?_
  rw [vc41]
  try simp only [splitB_iff, -eq_self]
  obtain ⟨h0, h16, hx, hb0, hf0⟩ := hp
  rw [ls_len] at h0 h16
  have hs := sndI_last hf.1 hz L.length h0 (Nat.le_refl _)
  have hl := lastTo_lt sndN (ls L) fr L.length h0
  have hk := hx _ (getD_mem (d := pl0) (show lastTo sndN (ls L) fr L.length < (ls L).length by rw [ls_len]; exact hl))
  have hT : soundN (ls L) fr = ((L.getD (lastTo sndN (ls L) fr L.length) e0).1, (L.getD (lastTo sndN (ls L) fr L.length) e0).2.1 + fr - begN L (lastTo sndN (ls L) fr L.length), 1, 1) := by
    unfold soundN
    rw [ls_len, ls_get L hl]
  have hsd : ∀ x : Ed, x ∈ L → -100 ≤ x.2.2.2.2 ∧ x.2.2.2.2 ≤ 100 := fun x hxL => by
    obtain ⟨i, hi, rfl⟩ := mem_getD e0 hxL
    have := hx _ (getD_mem (d := pl0) (show i < (ls L).length by rw [ls_len]; exact hi))
    rw [ls_get L hi] at this
    exact this.2.2.2.1
  rw [ls_get L hl] at hk
  rw [hT, hs]
  simp only [startsL_len, Int.toNat_natCast]
  rw [startsL_get L hl]
  generalize lastTo sndN (ls L) fr L.length = k at *
  dsimp only at hk
  exact ⟨hL, hL, hsd, by omega, by omega, by simp only [fits]; omega, by omega, hl, by simp only [fits]; omega, by trivial, by trivial, by trivial, by trivial, trivial⟩
theorem so41_ : SpecOk P1 gl1 41 sp41 := by
  intro vs ps r h hp
  simp only [sp41] at h
  split at h
  · cases h; exact fn41 _ _ (hp _ (.head _)) (hp _ (.tail _ (.head _))) (hp _ (.tail _ (.tail _ (.head _)))) (hp _ (.tail _ (.tail _ (.tail _ (.head _)))))
  · cases h
theorem so41 : Sp1 41 sp41 := ⟨so41_, Proofs.Tryz.f41, _, by kernel_rfl, rfl, by kernel_rfl⟩
theorem spTo_end (is : Int → Bool) (a : Int) : ∀ j, (∀ x ∈ spTo is a j, x.2 ≤ a + (j : Int)) ∧ ∀ (_ : 0 < j), (is (a + (j : Int) - 1) = true → 0 < (spTo is a j).length ∧ ((spTo is a j).getD ((spTo is a j).length - 1) sp0).2 = a + (j : Int)) ∧
    (is (a + (j : Int) - 1) = false → 0 < (spTo is a j).length → ((spTo is a j).getD ((spTo is a j).length - 1) sp0).2 < a + (j : Int))
  | 0 => ⟨fun x hx => (by cases hx), fun h => absurd h (by omega)⟩
  | j + 1 => by
    obtain ⟨ih, _⟩ := spTo_end is a j
    have e : a + ((j + 1 : Nat) : Int) - 1 = a + (j : Int) := by omega
    rw [e]
    have hlast : ∀ (o : List (Int × Int)), 0 < o.length → o.getD (o.length - 1) sp0 ∈ o := fun o ho => getD_mem (by omega)
    by_cases h : is (a + (j : Int)) = true
    · have hs : spTo is a (j + 1) = addSp (spTo is a j) (a + (j : Int)) := by simp only [spTo]; rw [if_pos h]
      rw [hs]
      refine ⟨fun x hx => ?_, fun _ => ⟨fun _ => ?_, fun h2 => by rw [h] at h2; cases h2⟩⟩
      · unfold addSp at hx
        split at hx
        · rename_i hc
          rcases List.mem_or_eq_of_mem_set hx with hx | hx
          · have := ih x hx; omega
          · rw [hx]; dsimp only; omega
        · rcases List.mem_append.1 hx with hx | hx
          · have := ih x hx; omega
          · rw [List.mem_singleton] at hx; subst hx; dsimp only; omega
      · unfold addSp
        split
        · rename_i hc
          rw [List.length_set, List.getD_eq_getElem?_getD, List.getElem?_set_self (by omega)]
          exact ⟨hc.1, by show (List.getD _ _ sp0).2 + 1 = _; omega⟩
        · rw [List.length_append]
          refine ⟨by simp, ?_⟩
          simp only [List.length_cons, List.length_nil]
          rw [List.getD_eq_getElem?_getD, List.getElem?_append_right (by omega)]
          simp
          omega
    · have h' : is (a + (j : Int)) = false := by simpa using h
      have hs : spTo is a (j + 1) = spTo is a j := by simp only [spTo]; rw [if_neg h]
      rw [hs]
      refine ⟨fun x hx => by have := ih x hx; omega, fun _ => ⟨fun h2 => absurd h2 h, fun _ hp => ?_⟩⟩
      have := ih _ (hlast _ hp)
      omega
theorem fn85 (A B : List Ed) (hA : LOk A) (hB : LOk B) : Fn P1 gl1 85 [.one (.sl edT A), .one (.sl edT B)] (.val (.one (.frs snT (diffTo A B (max (lenL A) (lenL B)).toNat)))) true := by
  refine Fn.flat ?_ rfl
  refine fn_of false [(39, sp39), (40, sp40), (47, sp47), (41, sp41)] [] h85 0 Proofs.Tryz.f85 ⟨so39, so40, so47, so41, trivial⟩ trivial (by kernel_rfl) rfl (by kernel_rfl) rfl rfl rfl ?_
  rw [vc85]
  try simp only [splitB_iff, -eq_self]
  obtain ⟨RA, hkA⟩ := hA
  obtain ⟨RB, hkB⟩ := hB
  have hnA := lenL_nn hkA
  have hnB := lenL_nn hkB
  have hbA := hkA.big
  have hbB := hkB.big
  have hz : ∀ {R : List Rl} {L : List Ed}, ListOk R L → PlsOk (ls L) → (L.getD 0 e0).2.2.2.2 = 0 := fun {R L} h hp => by
    have h1 := hp.1
    rw [ls_len] at h1
    exact ((chkEd_ok (h.ed 0 h1)).first rfl).2
  have hM : (max (lenL A) (lenL B)).toNat ≤ 1024 := by omega
  simp only [eq_self, true_and, and_true, and_self]
  refine ⟨hkA.eds, hkB.eds, ⟨0, Nat.zero_le _, rfl, rfl, rfl⟩, fun g hg => ⟨fun hlt => ?_, fun hge => ?_⟩⟩
  · have hlt' : (g : Int) < max (lenL A) (lenL B) := of_decide_eq_true hlt
    have hg1 : g + 1 ≤ (max (lenL A) (lenL B)).toNat := by omega
    have hbef : befD A B (g + 1) = diffB (ls A) (ls B) (lenL A) (lenL B) (g : Int) := rfl
    have hS1 : diffB (ls A) (ls B) (lenL A) (lenL B) (g : Int) = true → diffTo A B (g + 1) = addSp (diffTo A B g) (g : Int) := fun h => by
      have := spTo_h (is := diffB (ls A) (ls B) (lenL A) (lenL B)) (a := 0) (j := g) (by rw [Int.zero_add]; exact h)
      rw [Int.zero_add] at this
      exact this
    have hS0 : diffB (ls A) (ls B) (lenL A) (lenL B) (g : Int) = false → diffTo A B (g + 1) = diffTo A B g := fun h => spTo_m (is := diffB (ls A) (ls B) (lenL A) (lenL B)) (a := 0) (j := g) (by rw [Int.zero_add]; exact h)
    have hSl : (diffTo A B g).length ≤ g := sp_len _ _ _
    obtain ⟨hend, hend2⟩ := spTo_end (diffB (ls A) (ls B) (lenL A) (lenL B)) 0 g
    have hb1 : befD A B g = true → 0 < (diffTo A B g).length ∧ ((diffTo A B g).getD ((diffTo A B g).length - 1) sp0).2 = (g : Int) := fun q => by
      cases g with
      | zero => cases q
      | succ j =>
        have q' : diffB (ls A) (ls B) (lenL A) (lenL B) (j : Int) = true := q
        have h2 := (hend2 (by omega)).1 (by rw [show (0 : Int) + ((j + 1 : Nat) : Int) - 1 = (j : Int) by omega]; exact q')
        exact ⟨h2.1, by have := h2.2; rw [Int.zero_add] at this; exact this⟩
    have hb0 : befD A B g = false → 0 < (diffTo A B g).length → ((diffTo A B g).getD ((diffTo A B g).length - 1) sp0).2 ≠ (g : Int) := fun q hp => by
      cases g with
      | zero => simp [diffTo, spTo] at hp
      | succ j =>
        have q' : diffB (ls A) (ls B) (lenL A) (lenL B) (j : Int) = false := q
        have := (hend2 (by omega)).2 (by rw [show (0 : Int) + ((j + 1 : Nat) : Int) - 1 = (j : Int) by omega]; exact q') hp
        rw [Int.zero_add] at this
        intro e
        have e' : ((spTo (diffB (ls A) (ls B) (lenL A) (lenL B)) 0 (j + 1)).getD ((spTo (diffB (ls A) (ls B) (lenL A) (lenL B)) 0 (j + 1)).length - 1) sp0).2 = ((j + 1 : Nat) : Int) := e
        omega
    refine ⟨fun hq => ?_, fun hq => ?_⟩
    have hq' : (bif decide (lenL A ≤ (g : Int)) then true else decide (lenL B ≤ (g : Int))) = false := bnot_t hq
    rw [bcond_l, Bool.or_eq_false_iff] at hq'
    have hgA : ¬ lenL A ≤ (g : Int) := of_decide_eq_false hq'.1
    have hgB : ¬ lenL B ≤ (g : Int) := of_decide_eq_false hq'.2
    have pA := hkA.pls' (t := (g : Int)) (by omega) (by omega)
    have pB := hkB.pls' (t := (g : Int)) (by omega) (by omega)
    have zA := hz hkA pA
    have zB := hz hkB pB
    have ht := takes_len2 (ls A) (g : Int)
    have hc : (bif !decide (takesN (ls A) (g : Int) = takesN (ls B) (g : Int)) then true else !eqT tkT (soundN (ls A) (g : Int)) (soundN (ls B) (g : Int))) = diffB (ls A) (ls B) (lenL A) (lenL B) (g : Int) := by
      unfold diffB
      rw [decide_eq_false (show ¬ min (lenL A) (lenL B) ≤ (g : Int) by omega), bcond_l, eq_tk, Bool.false_or, Bool.or_comm]
    refine ⟨hkA.eds, pA, by omega, hkB.eds, pB, by omega, by omega, fun _ => hkA.eds, fun _ => pA, fun _ => by omega, fun _ => zA, fun _ => hkB.eds, fun _ => pB, fun _ => by omega, fun _ => zB, ?_⟩
    generalize hc0 : (bif !decide (takesN (ls A) (g : Int) = takesN (ls B) (g : Int)) then true else !eqT (.pair .str (.pair (.int .i64) (.pair (.int .i64) (.int .i64)))) ((soundN (ls A) (g : Int)).1, (soundN (ls A) (g : Int)).2.1, (soundN (ls A) (g : Int)).2.2.1, (soundN (ls A) (g : Int)).2.2.2) ((soundN (ls B) (g : Int)).1, (soundN (ls B) (g : Int)).2.1, (soundN (ls B) (g : Int)).2.2.1, (soundN (ls B) (g : Int)).2.2.2)) = c
    have hcc : c = diffB (ls A) (ls B) (lenL A) (lenL B) (g : Int) := hc0.symm.trans hc
    clear hq hq' hc hc0 ht
    rotate_left
    have hq' : (bif decide (lenL A ≤ (g : Int)) then true else decide (lenL B ≤ (g : Int))) = true := bnot_f hq
    have hc : (bif decide (lenL A ≤ (g : Int)) then true else decide (lenL B ≤ (g : Int))) = diffB (ls A) (ls B) (lenL A) (lenL B) (g : Int) := by
      rw [hq']
      unfold diffB
      rw [bcond_l, Bool.or_eq_true, decide_eq_true_eq, decide_eq_true_eq] at hq'
      rw [decide_eq_true (show min (lenL A) (lenL B) ≤ (g : Int) by omega)]
      rfl
    generalize hc0 : (bif decide (lenL A ≤ (g : Int)) then true else decide (lenL B ≤ (g : Int))) = c
    have hcc : c = diffB (ls A) (ls B) (lenL A) (lenL B) (g : Int) := hc0.symm.trans hc
    clear hq hq' hc hc0
    all_goals
      refine ⟨fun hc => ?_, fun hc => ?_⟩
      · rw [bcond_r, Bool.and_eq_true, Bool.not_eq_true'] at hc
        have hT := hcc.symm.trans hc.1
        have hS := hS1 hT
        rw [addSp_n (hb0 hc.2)] at hS
        have hsl := fun y => set_lastJ (d := ((0 : Int), (0 : Int))) (diffTo A B g) ((g : Int), (g : Int)) y
        have hlen : (((diffTo A B g ++ [((g : Int), (g : Int))]).length : Nat) : Int) = ((diffTo A B g).length : Int) + 1 := by rw [List.length_append]; simp
        refine ⟨by simp only [room]; omega, fun _ => ?_, fun hc2 => by rw [hc.1] at hc2; cases hc2⟩
        refine ⟨by rw [hlen]; simp only [fits]; omega, by simp only [fits]; omega, ⟨by rw [hlen]; omega, by omega⟩, by rw [← Int.ofNat_lt, hlen]; omega, by simp only [fits]; omega, g + 1, hg1, by omega, by omega, ?_, ?_⟩
        · rw [hcc, hbef]
        · rw [(hsl (0, 0)).2, (hsl _).1, hS]
      · rw [bcond_r, Bool.and_eq_false_iff] at hc
        refine ⟨fun hc2 => ?_, fun hc2 => ?_⟩
        · have hb : befD A B g = true := by
            rcases hc with hc | hc
            · rw [hc] at hc2; cases hc2
            · simpa using hc
          obtain ⟨hpos, hle⟩ := hb1 hb
          have hS := hS1 (hcc.symm.trans hc2)
          rw [addSp_o hpos hle] at hS
          have hix : (((diffTo A B g).length : Int) - 1).toNat = (diffTo A B g).length - 1 := by omega
          rw [hix]
          exact ⟨by simp only [fits]; omega, by simp only [fits]; omega, ⟨by omega, by omega⟩, by omega, by simp only [fits]; omega, g + 1, hg1, by omega, by omega, by rw [hcc, hbef], by rw [hS]; rfl⟩
        · have hS := hS0 (hcc.symm.trans hc2)
          exact ⟨by simp only [fits]; omega, g + 1, hg1, by omega, by omega, by rw [hcc, hbef], by rw [hS]⟩
  · have hge' : ¬ (g : Int) < max (lenL A) (lenL B) := of_decide_eq_false hge
    have hgM : g = (max (lenL A) (lenL B)).toNat := by
      have h4 : g ≤ (max (lenL A) (lenL B)).toNat := hg
      omega
    rw [← hgM]
theorem so85_ : SpecOk P1 gl1 85 sp85 := by
  intro vs ps r h hp
  simp only [sp85] at h
  split at h
  · cases h; exact fn85 _ _ (hp _ (.head _)) (hp _ (.tail _ (.head _)))
  · cases h
theorem so85 : Sp1 85 sp85 := ⟨so85_, Proofs.Tryz.f85, _, by kernel_rfl, rfl, by kernel_rfl⟩
theorem fn89 (a b : List (Int × Int)) (hl : a.length ≤ 1000000) : Fn P1 gl1 89 [.one (.sl snT a), .one (.sl snT b)] (.val (bV (decide (a = b)))) true := by
  refine Fn.flat ?_ rfl
  refine fn_of false [] [] (hSame 89 snT sp0) 0 Proofs.Tryz.f89 trivial trivial (by kernel_rfl) rfl (by kernel_rfl) rfl rfl rfl ?_
  rw [vc89]
  try simp only [splitB_iff, -eq_self]
  have heq : ∀ x y : Int × Int, eqT snT x y = true ↔ x = y := fun x y => by simp [eqT, Prod.ext_iff]
  simp only [same_len]
  refine ⟨fun h => ⟨(decide_eq_false fun e => ?_).symm, trivial⟩, fun h => ?_⟩
  · rw [e] at h; simp at h
  · have h' : a.length = b.length := by simpa using h
    refine ⟨⟨0, ⟨Nat.zero_le _, fun j hj => absurd hj (Nat.not_lt_zero _)⟩, rfl, by trivial, by trivial, trivial⟩, fun g hg => ⟨fun hlt => ?_, fun hge => ?_⟩⟩
    · have hlt' : g < a.length := by have := of_decide_eq_true hlt; omega
      refine ⟨by omega, by omega, fun hne => ⟨(decide_eq_false fun e => ?_).symm, trivial⟩, fun hq => ⟨by simp only [fits]; omega, g + 1, ⟨hlt', fun j hj => ?_⟩, by omega, by omega, by trivial, by trivial, trivial⟩⟩
      · subst e
        have hne' : (!eqT snT (a.getD g sp0) (a.getD g sp0)) = true := hne
        rw [(heq _ _).2 rfl] at hne'
        cases hne'
      · by_cases ej : j = g
        · subst ej
          have hq' : (!eqT snT (a.getD j sp0) (b.getD j sp0)) = false := hq
          exact (heq _ _).1 (by simpa using hq')
        · exact hg.2 j (by omega)
    · exact ⟨(decide_eq_true (same_all sp0 h' fun j hj => hg.2 j (by have := of_decide_eq_false hge; omega))).symm, trivial⟩
theorem so89_ : SpecOk P1 gl1 89 sp89 := by
  intro vs ps r h hp
  simp only [sp89] at h
  split at h
  · cases h; exact fn89 _ _ (hp _ (.head _))
  · cases h; exact Fn.args (fn89 _ [] (hp _ (.head _))) fun H vs d => by
      obtain ⟨v0, r0, rfl, h0, v1, r1, rfl, h1, hz⟩ := d
      exact ⟨_, _, rfl, h0, _, _, rfl, nil_sl h1, hz⟩
  · cases h
theorem so89 : Sp1 89 sp89 := ⟨so89_, Proofs.Tryz.f89, _, by kernel_rfl, rfl, by kernel_rfl⟩
theorem fn136 (L : List Ed) (hl : L.length ≤ 1000000) : Fn P1 gl1 136 [.one (.sl edT L)] (.val (.one (.frs edT L))) true := by
  refine Fn.flat ?_ rfl
  refine fn_of false [] [] h0 0 Proofs.Tryz.f136 trivial trivial (by kernel_rfl) rfl (by kernel_rfl) rfl rfl rfl ?_
  rw [vc136]
  try simp only [splitB_iff, -eq_self]
  exact ⟨by simp only [room]; omega, by trivial, trivial⟩
theorem so136_ : SpecOk P1 gl1 136 sp136 := by
  intro vs ps r h hp
  simp only [sp136] at h
  split at h
  · cases h; exact fn136 _ (hp _ (.head _))
  · cases h
theorem so136 : Sp1 136 sp136 := ⟨so136_, Proofs.Tryz.f136, _, by kernel_rfl, rfl, by kernel_rfl⟩
theorem fn86 (R : List Rl) (A B : List Ed) (hl : R.length ≤ 1000000000) (hR : ∀ r ∈ R, r.2.2.length ≤ 1000000 ∧ r.1.length ≤ 1000000000) (hA : A.length ≤ 100000) (hB : B.length ≤ 100000) (hF : ∀ x ∈ A ++ B, fits .i64 x.2.2.1) : Fn P1 gl1 86 [.one (.sl rlT R), .one (.sl edT A), .one (.sl edT B)] (.tup [.one (.frs edT (rjL R A B)), iV (rjE R A B)]) true := by
  refine Fn.flat ?_ rfl
  refine fn_of false [(136, sp136), (38, sp38)] [fb137] h0 3 Proofs.Tryz.f86 ⟨so136, so38, trivial⟩ ⟨⟨by kernel_rfl, by kernel_rfl, _, rfl, by kernel_rfl⟩, trivial⟩ (by kernel_rfl) rfl (by kernel_rfl) rfl rfl rfl ?_
  rw [vc86]
  try simp only [splitB_iff, -eq_self]
  simp only [and_true, List.length_append]
  refine ⟨by simp only [fits]; omega, fun h => ?_, fun h => ?_⟩
  · have h' : 16 < (A.length : Int) + (B.length : Int) := of_decide_eq_true h
    have e : rjE R A B = 5 := by unfold rjE; rw [if_pos h']
    unfold rjL
    rw [e]
    exact ⟨rfl, rfl⟩
  · have h' : ¬ 16 < (A.length : Int) + (B.length : Int) := of_decide_eq_false h
    have e : rjE R A B = chkEds R (A ++ B) := by unfold rjE; rw [if_neg h']
    unfold rjL
    rw [e]
    refine ⟨by omega, by simp only [room]; omega, hl, hR, by omega, hF, fun h2 => ?_, fun h2 => ?_⟩
    · have h2' : chkEds R (A ++ B) ≠ 0 := by simpa using h2
      rw [if_neg h2']
      exact ⟨rfl, rfl⟩
    · have h2' : chkEds R (A ++ B) = 0 := by simpa using h2
      rw [if_pos h2', h2']
      exact ⟨rfl, rfl⟩
theorem so86_ : SpecOk P1 gl1 86 sp86 := by
  intro vs ps r h hp
  simp only [sp86] at h
  split at h
  · cases h; exact fn86 _ _ _ (hp _ (.head _)) (hp _ (.tail _ (.head _))) (hp _ (.tail _ (.tail _ (.head _)))) (hp _ (.tail _ (.tail _ (.tail _ (.head _))))) (hp _ (.tail _ (.tail _ (.tail _ (.tail _ (.head _))))))
  · cases h
theorem so86 : Sp1 86 sp86 := ⟨so86_, Proofs.Tryz.f86, _, by kernel_rfl, rfl, by kernel_rfl⟩
theorem fn88 (R : List Rl) (L : List Ed) (t : Int) (hl : R.length ≤ 1000000000) (hR : ∀ r ∈ R, r.2.2.length ≤ 1000000 ∧ r.1.length ≤ 1000000000) (hk : ListOk R L) (ht : 0 ≤ t ∧ t ≤ lenL L) : Fn P1 gl1 88 [.one (.sl rlT R), .one (.sl edT L), iV t] (.tup [.one (.frs edT (partL R L t).1), .one (.frs edT (partL R L t).2), iV (partE R L t)]) true := by
  refine Fn.flat ?_ rfl
  refine fn_of false [(39, sp39), (38, sp38)] [] h88 0 Proofs.Tryz.f88 ⟨so39, so38, trivial⟩ trivial (by kernel_rfl) rfl (by kernel_rfl) rfl rfl rfl ?_
  rw [vc88]
  try simp only [splitB_iff, -eq_self]
  have hE0 := chkEds_zero.2 hk
  have hW : within t 0 (lenL L) = 0 := within_zero.2 ht
  have hE : partE R L t = if upTo (fun j => tornE ((ls L).getD j pl0) t) L.length ≠ 0 then 22 else first [chkEds R (asN (ls L) t L.length), chkEds R (bsN (ls L) t L.length)] := by
    unfold partE; rw [if_neg (by rw [hE0]; decide), if_neg (by rw [hW]; decide)]
  have bad : ∀ {e : Int}, partE R L t = e → e ≠ 0 → (partL R L t).1 = [] ∧ (partL R L t).2 = [] ∧ e = partE R L t := fun he h => by
    obtain ⟨h1, h2, h3, _⟩ := part_bad he h
    exact ⟨h1, h2, h3⟩
  have hbig := hk.big
  have h16 := hk.len
  have hb := pl_bd hk.rs hk.len hk.ed hk.big
  have la : ∀ i, (asN (ls L) t i).length ≤ i := sum_len fun _ => partA_len _ _
  have lb : ∀ i, (bsN (ls L) t i).length ≤ i := sum_len fun _ => partB_len _ _
  have hbd : ∀ i, i < L.length → ((0 ≤ (L.getD i e0).2.1 ∧ (L.getD i e0).2.1 ≤ 10000000) ∧ (0 ≤ (L.getD i e0).2.2.1 ∧ (L.getD i e0).2.2.1 ≤ 10000000) ∧ (0 ≤ (L.getD i e0).2.2.2.1 ∧ (L.getD i e0).2.2.2.1 ≤ 1024) ∧ (-100 ≤ (L.getD i e0).2.2.2.2 ∧ (L.getD i e0).2.2.2.2 ≤ 100) ∧ (0 ≤ begN L i ∧ begN L i ≤ 1024)) := fun i hi => by
    have := hb _ (getD_mem (d := pl0) (show i < (ls L).length by rw [ls_len]; exact hi))
    rw [ls_get L hi] at this
    exact this
  have bdA : ∀ i, i ≤ L.length → ∀ x ∈ asN (ls L) t i, -20000000 ≤ x.2.2.1 ∧ x.2.2.1 ≤ 20000000 := by
    intro i
    induction i with
    | zero => intro _ x hx; cases hx
    | succ i ih =>
      intro hi x hx
      rcases List.mem_append.1 (show x ∈ asN (ls L) t i ++ partA ((ls L).getD i pl0) t from hx) with h | h
      · exact ih (by omega) x h
      · have h1 := hbd i (by omega)
        rw [ls_get L (by omega)] at h
        unfold partA at h
        split at h
        · split at h
          · rw [List.mem_singleton] at h; subst h; dsimp only; omega
          · rw [List.mem_singleton] at h; subst h; dsimp only; omega
        · cases h
  have bdB : ∀ i, i ≤ L.length → ∀ x ∈ bsN (ls L) t i, -20000000 ≤ x.2.2.1 ∧ x.2.2.1 ≤ 20000000 := by
    intro i
    induction i with
    | zero => intro _ x hx; cases hx
    | succ i ih =>
      intro hi x hx
      rcases List.mem_append.1 (show x ∈ bsN (ls L) t i ++ partB ((ls L).getD i pl0) t from hx) with h | h
      · exact ih (by omega) x h
      · have h1 := hbd i (by omega)
        rw [ls_get L (by omega)] at h
        unfold partB at h
        split at h
        · split at h
          · cases h
          · rw [List.mem_singleton] at h; subst h; dsimp only; omega
        · rw [List.mem_singleton] at h; subst h; dsimp only; omega
  simp only [eq_self, true_and, and_true, and_self, startsL_len]
  refine ⟨hk.eds, ⟨0, ⟨Nat.zero_le _, rfl⟩, rfl⟩, fun g hg => ⟨fun hlt => ?_, fun hge => ?_⟩⟩
  · have hlt' : g < L.length := by have := of_decide_eq_true hlt; omega
    have hx := hbd g hlt'
    have htn : tornE ((ls L).getD g pl0) t = whenE ((decide (begN L g < t) && decide (t < begN L g + (L.getD g e0).2.2.2.1)) || (decide (begN L g < t) != decide (begN L g + (L.getD g e0).2.2.2.2 < t))) 22 := by
      rw [ls_get L hlt']; rfl
    rw [startsL_get L hlt']
    have hcond : (bif bif bif decide (begN L g < t) then decide (t < begN L g + (L.getD g e0).2.2.2.1) else false then true else bif decide (begN L g < t) then decide (t ≤ begN L g + (L.getD g e0).2.2.2.2) else false then true else bif decide (t ≤ begN L g) then decide (begN L g + (L.getD g e0).2.2.2.2 < t) else false) = ((decide (begN L g < t) && decide (t < begN L g + (L.getD g e0).2.2.2.1)) || (decide (begN L g < t) != decide (begN L g + (L.getD g e0).2.2.2.2 < t))) := by
      simp only [bcond_l, bcond_r]
      rw [Bool.or_assoc]
      congr 1
      by_cases h1 : begN L g < t <;> by_cases h2 : begN L g + (L.getD g e0).2.2.2.2 < t
      · rw [decide_eq_true h1, decide_eq_true h2, decide_eq_false (show ¬ t ≤ begN L g + (L.getD g e0).2.2.2.2 by omega), decide_eq_false (show ¬ t ≤ begN L g by omega)]; rfl
      · rw [decide_eq_true h1, decide_eq_false h2, decide_eq_true (show t ≤ begN L g + (L.getD g e0).2.2.2.2 by omega)]; rfl
      · rw [decide_eq_false h1, decide_eq_true h2, decide_eq_true (show t ≤ begN L g by omega)]; rfl
      · rw [decide_eq_false h1, decide_eq_false h2]; simp
    rw [hcond]
    refine ⟨by omega, by omega, by omega, by simp only [fits]; omega, by omega, by omega, fun _ => by omega, fun _ => by omega, fun _ => by omega, fun _ => by simp only [fits]; omega, fun _ => by omega, fun _ => by omega, fun _ => by omega, fun _ => by omega, fun h3 => ?_, fun h3 => ?_⟩
    · have e22 : tornE ((ls L).getD g pl0) t = 22 := by rw [htn, h3]; rfl
      have := upTo_eq (f := fun j => tornE ((ls L).getD j pl0) t) hg.2 (by show tornE _ t ≠ 0; rw [e22]; decide) hlt'
      exact bad (by rw [hE, if_pos (by rw [this, e22]; decide)]) (by decide)
    · have ez : tornE ((ls L).getD g pl0) t = 0 := by rw [htn, h3]; rfl
      exact ⟨by simp only [fits]; omega, g + 1, ⟨hlt', upTo_succ (f := fun j => tornE ((ls L).getD j pl0) t) hg.2 ez⟩, by omega, by omega⟩
  · have hge' : ¬ g < L.length := by have := of_decide_eq_false hge; omega
    have hgl : g = L.length := by have := hg.1; omega
    subst hgl
    have hE2 := hE.trans (if_neg (by rw [hg.2]; decide))
    clear hge hge'
    refine ⟨⟨0, Nat.zero_le _, rfl, rfl, rfl⟩, fun g hg => ⟨fun hlt => ?_, fun hge => ?_⟩⟩
    · have hlt' : g < L.length := by have := of_decide_eq_true hlt; omega
      have hx := hbd g hlt'
      have ea : asN (ls L) t (g + 1) = asN (ls L) t g ++ partA (L.getD g e0, begN L g) t := by
        rw [← ls_get L hlt']; rfl
      have eb : bsN (ls L) t (g + 1) = bsN (ls L) t g ++ partB (L.getD g e0, begN L g) t := by
        rw [← ls_get L hlt']; rfl
      have la := la g
      have lb := lb g
      rw [startsL_get L hlt']
      generalize hy : L.getD g e0 = y at *
      generalize begN L g = b at *
      obtain ⟨nm, i, o, f, sd⟩ := y
      dsimp only at *
      refine ⟨by omega, by omega, by omega, fun h4 => ?_, fun h4 => ⟨by omega, by omega, by simp only [fits]; omega, by simp only [fits]; omega, fun h5 => ?_, fun h5 => ?_⟩⟩
      · have h4' : ¬ b < t := by have := of_decide_eq_true h4; omega
        refine ⟨by simp only [room]; omega, by simp only [fits]; omega, g + 1, hlt', by omega, by omega, ?_, ?_⟩
        · rw [ea]; unfold partA; rw [if_neg h4', List.append_nil]
        · rw [eb]; unfold partB; rw [if_neg h4']
      · have h4' : b < t := by have := of_decide_eq_false h4; omega
        have h5' : ¬ b + (o - i) ≤ t := by have := of_decide_eq_true h5; omega
        have e1 : o - (b + o - i - t) = i + t - b := by omega
        rw [e1]
        refine ⟨by simp only [fits]; omega, by simp only [fits]; omega, by simp only [room]; omega, by simp only [room]; omega, by simp only [fits]; omega, g + 1, hlt', by omega, by omega, ?_, ?_⟩
        · rw [ea]; unfold partA; rw [if_pos h4', if_neg h5']
        · rw [eb]; unfold partB; rw [if_pos h4', if_neg h5']
      · have h4' : b < t := by have := of_decide_eq_false h4; omega
        have h5' : b + (o - i) ≤ t := by have := of_decide_eq_false h5; omega
        refine ⟨by simp only [room]; omega, by simp only [fits]; omega, g + 1, hlt', by omega, by omega, ?_, ?_⟩
        · rw [ea]; unfold partA; rw [if_pos h4', if_pos h5']
        · rw [eb]; unfold partB; rw [if_pos h4', if_pos h5', List.append_nil]
    · have hgl : g = L.length := by have := of_decide_eq_false hge; have : g ≤ L.length := hg; omega
      subst hgl
      have la := la L.length
      have lb := lb L.length
      refine ⟨hl, hR, by omega, ed_fits (bdA _ (Nat.le_refl _)), fun h3 => ?_, fun h3 => ⟨hl, hR, by omega, ed_fits (bdB _ (Nat.le_refl _)), fun h4 => ?_, fun h4 => ?_⟩⟩
      · have h3' : chkEds R (asN (ls L) t L.length) ≠ 0 := by simpa using h3
        exact bad (hE2.trans (by simp [first, h3'])) h3'
      · have h3' : chkEds R (asN (ls L) t L.length) = 0 := by simpa using h3
        have h4' : chkEds R (bsN (ls L) t L.length) ≠ 0 := by simpa using h4
        exact bad (hE2.trans (by simp [first, h3', h4'])) h4'
      · have h3' : chkEds R (asN (ls L) t L.length) = 0 := by simpa using h3
        have h4' : chkEds R (bsN (ls L) t L.length) = 0 := by simpa using h4
        have hz : partE R L t = 0 := hE2.trans (by simp [first, h3', h4'])
        unfold partL
        rw [if_pos hz, hz]
        exact ⟨rfl, rfl, rfl⟩
theorem so88_ : SpecOk P1 gl1 88 sp88 := by
  intro vs ps r h hp
  simp only [sp88] at h
  split at h
  · cases h; exact fn88 _ _ _ (hp _ (.head _)) (hp _ (.tail _ (.head _))) (hp _ (.tail _ (.tail _ (.head _)))) (hp _ (.tail _ (.tail _ (.tail _ (.head _)))))
  · cases h
theorem so88 : Sp1 88 sp88 := ⟨so88_, Proofs.Tryz.f88, _, by kernel_rfl, rfl, by kernel_rfl⟩
theorem fn12 (R : List Rl) (A B : List Ed) (t : Int) (hl : R.length ≤ 9223372036854775807) (hA : A.length ≤ 9223372036854775807) (hB : B.length ≤ 9223372036854775807) (hFA : ∀ x ∈ A, fits .i64 x.2.2.1) (hFB : ∀ x ∈ B, fits .i64 x.2.2.1) : Fn P1 gl1 12 [.one (.sl rlT R), .agg [.one (.sl edT A), .one (.sl edT B), .one (.int .i64 t)]] (.val (bV true)) true := by
  refine Fn.flat ?_ rfl
  refine fn_of false [(17, sp17), (82, sp82), (18, sp18), (25, sp25), (34, sp34), (57, sp57), (83, sp83), (84, sp84), (78, sp78), (38, sp38), (61, sp61), (85, sp85), (86, sp86), (39, sp39), (87, sp87), (88, sp88), (56, sp56), (89, sp89)] [] h0 0 Proofs.Tryz.f12 ⟨so17, so82, so18, so25, so34, so57, so83, so84, so78, so38, so61, so85, so86, so39, so87, so88, so56, so89, trivial⟩ trivial (by kernel_rfl) rfl (by kernel_rfl) rfl rfl rfl ?_
  rw [vc12]
  try simp only [splitB_iff, -eq_self]
  have hbo : first [chkEds R A, chkEds R B] = bothE R A B := rfl
  simp only [eq_self, and_true, and_self, hbo]
  refine ⟨hl, hA, fun _ => hB, fun _ => trivial, fun h => ?_⟩
  have hsh : ((R.length ≤ 9 ∧ ∀ r ∈ R, r.2.2.length ≤ 257 ∧ r.1.length ≤ 40) ∧ A.length ≤ 17) ∧ B.length ≤ 17 := by
    rw [bcond_l, Bool.or_eq_false_iff] at h
    obtain ⟨h, h'⟩ := h
    simp only [Bool.not_eq_false', shortB, shortE, shortR, Bool.and_eq_true, Bool.or_eq_true, List.all_eq_true, decide_eq_true_eq] at h h'
    obtain ⟨h1, h2, h3, h4⟩ := h
    exact ⟨⟨⟨by omega, fun r hr => by have := h1 r hr; omega⟩, by omega⟩, by omega⟩
  obtain ⟨⟨⟨hR9, hRx⟩, hA17⟩, hB17⟩ := hsh
  clear h
  have hR2 : ∀ r ∈ R, r.2.2.length ≤ 1000000 := fun r hr => by have := hRx r hr; omega
  have hR3 : ∀ r ∈ R, r.2.2.length ≤ 1000000 ∧ r.1.length ≤ 1000000000 := fun r hr => by have := hRx r hr; omega
  have hFAB : ∀ x ∈ A ++ B, fits .i64 x.2.2.1 := fun x hx => by
    rcases List.mem_append.1 hx with h | h
    · exact hFA x h
    · exact hFB x h
  have lJ : (joinL R A B).length ≤ 1000000 := by
    unfold joinL
    split
    · rw [List.length_append]; omega
    · exact Nat.zero_le _
  have la : ∀ i, (asN (ls A) t i).length ≤ i := sum_len fun _ => partA_len _ _
  have lb : ∀ i, (bsN (ls A) t i).length ≤ i := sum_len fun _ => partB_len _ _
  have lP1 : (partL R A t).1.length ≤ 1000000 := by
    unfold partL
    split
    · exact Nat.le_trans (la _) (by omega)
    · exact Nat.zero_le _
  have lP2 : (partL R A t).2.length ≤ 1000000 := by
    unfold partL
    split
    · exact Nat.le_trans (lb _) (by omega)
    · exact Nat.zero_le _
  have lD : (diffN R A B).length ≤ 1000000 := by
    unfold diffN
    split
    · rename_i h
      obtain ⟨hkA, hkB⟩ := bothE_zero.1 h
      have h1 := hkA.big
      have h2 := hkB.big
      exact Nat.le_trans (sp_len _ _ _) (by omega)
    · exact Nat.zero_le _
  have hP : ∀ {e : Int}, partE R A t = e → e ≠ 0 → (partL R A t).1 = [] ∧ (partL R A t).2 = [] := fun he h => by
    obtain ⟨h1, h2, _⟩ := part_bad he h
    exact ⟨h1, h2⟩
  refine ⟨by omega, hR2, by omega, by omega, by omega, hR2, by omega, by omega, by omega, hR2, by omega, by omega, hR2, by omega, by omega, hR2, by omega, by omega, by omega, hR2, by omega, by omega, by omega, hR3, by omega, hFA, by omega, hR3, by omega, hFB, by decide, fun h0 => ?_, fun h0 => ?_⟩
  · have hz : bothE R A B = 0 := by simpa using h0
    obtain ⟨hkA, hkB⟩ := bothE_zero.1 hz
    have hEA := chkEds_zero.2 hkA
    have hj : joinC R A B = whenE (decide (16 < (A.length : Int) + (B.length : Int))) 5 := by
      unfold joinC first
      rw [hz]
      unfold first
      by_cases h : 16 < (A.length : Int) + (B.length : Int)
      · rw [decide_eq_true h]; rfl
      · rw [decide_eq_false h]; rfl
    have hje : joinE R A B = rjE R A B := by
      unfold joinE rjE
      rw [hj]
      by_cases h : 16 < (A.length : Int) + (B.length : Int)
      · rw [if_pos h, decide_eq_true h, if_pos (by decide)]; rfl
      · rw [if_neg h, decide_eq_false h, if_neg (by decide)]
    have hjl : joinL R A B = rjL R A B := by unfold joinL rjL; rw [hje]
    have hd : diffN R A B = diffTo A B (max (lenL A) (lenL B)).toNat := by unfold diffN; rw [if_pos hz]
    refine ⟨⟨R, hkA⟩, ⟨R, hkB⟩, by omega, hR3, by omega, by omega, hFAB, fun h1 => ⟨hkA.eds, fun h2 => ?_, fun h2 => ?_⟩, fun h1 => (by rw [hEA] at h1; cases h1)⟩
    · have h2' : within t 0 (lenL A) = 0 := by simpa using h2
      refine ⟨by omega, hR3, hkA, within_zero.1 h2', lJ, lJ, fun _ => lP1, fun _ => lP1, fun _ => lP2, fun _ => lP2, fun _ => lD, ?_⟩
      rw [hje, hjl, hd]; simp
    · have h2' : within t 0 (lenL A) ≠ 0 := by simpa using h2
      have hpe : partE R A t = within t 0 (lenL A) := by unfold partE; rw [if_neg (by rw [hEA]; decide), if_pos h2']
      obtain ⟨p1, p2⟩ := hP hpe h2'
      refine ⟨lJ, lJ, fun _ => lP1, fun _ => lP1, fun _ => lP2, fun _ => lP2, fun _ => lD, ?_⟩
      rw [hje, hjl, hd, p1, p2, hpe]; simp
  · have hz : bothE R A B ≠ 0 := by simpa using h0
    have hj : joinC R A B = bothE R A B := by unfold joinC first; rw [if_neg hz]
    have hje : joinE R A B = bothE R A B := by unfold joinE; rw [hj, if_pos hz]
    have hjl : joinL R A B = [] := by unfold joinL; rw [hje, if_neg hz]
    have hd : diffN R A B = [] := by unfold diffN; rw [if_neg hz]
    refine ⟨fun h1 => ?_, fun h1 => ⟨fun h2 => (by rw [h1] at h2; cases h2), fun _ => ?_⟩⟩
    · have hEA : chkEds R A = 0 := by simpa using h1
      have hkA := chkEds_zero.1 hEA
      refine ⟨hkA.eds, fun h2 => ?_, fun h2 => ?_⟩
      · have h2' : within t 0 (lenL A) = 0 := by simpa using h2
        refine ⟨by omega, hR3, hkA, within_zero.1 h2', lJ, lJ, fun _ => lP1, fun _ => lP1, fun _ => lP2, fun _ => lP2, fun _ => lD, ?_⟩
        rw [hje, hjl, hd]; simp
      · have h2' : within t 0 (lenL A) ≠ 0 := by simpa using h2
        have hpe : partE R A t = within t 0 (lenL A) := by unfold partE; rw [if_neg (by rw [hEA]; decide), if_pos h2']
        obtain ⟨p1, p2⟩ := hP hpe h2'
        refine ⟨lJ, lJ, fun _ => lP1, fun _ => lP1, fun _ => lP2, fun _ => lP2, fun _ => lD, ?_⟩
        rw [hje, hjl, hd, p1, p2, hpe]; simp
    · have hEA : chkEds R A ≠ 0 := by simpa using h1
      have hpe : partE R A t = chkEds R A := by unfold partE; rw [if_pos hEA]
      obtain ⟨p1, p2⟩ := hP hpe hEA
      refine ⟨lJ, lJ, fun _ => lP1, fun _ => lP1, fun _ => lP2, fun _ => lP2, fun _ => lD, ?_⟩
      rw [hje, hjl, hd, p1, p2, hpe]; simp

end Go.Sx
