/- A verified symbolic run of functions, part 16: lemmas, no claim of their own. -/
import Derived.Test.YtpbipfdpoijgoaaGreatDoorS15
/- What the engine asks, written out (printed by a program). -/
namespace Go.Sx
open U
theorem vc49 (R : List Rl) (L : List Ed) (i by_ : Int) : exF (env false [(43, sp43), (107, sp107), (109, sp109), (106, sp106)] [fb132, fb133, fb179, fb156]) h0 3 49 Proofs.Tryz.f49 [.one (.sl rlT R), .one (.sl edT L), iV i, iV by_] (.tup [.one (.frs edT (chgL R L i by_ 0 trimL)), iV (chgE R L i by_ 0 trimL)]) = (let q3 := (List.replicate (List.length L) e0); let q0 := (copyL (0 : Nat) (List.length q3) q3 L); let q2 := (List.getD q0 (Int.toNat i) e0); let q1 := (q2.1, q2.2.1, q2.2.2.1 + by_, q2.2.2.2.1, q2.2.2.2.2); let q4 := (bif decide (i < (0 : Int)) then true else decide ((↑(List.length L) : Int) ≤ i)); let q5 := (1000000000 : Nat); let q6 := (List.set q0 (Int.toNat i) q1); let q7 := ((0 : Int) ≤ i ∧ i < (↑(List.length q0) : Int)); List.length R ≤ q5 ∧ (∀ (r : Rl), r ∈ R → List.length r.2.2 ≤ (1000000 : Nat)) ∧ List.length L ≤ q5 ∧ splitB (chkEds R L != (0 : Int)) (chgL R L i by_ (0 : Int) trimL = [] ∧ chkEds R L = chgE R L i by_ (0 : Int) trimL ∧ True) ((3 : Nat) ≤ q5 ∧ splitB (first [whenE q4 (10 : Int), within by_ (-10000000 : Int) (10000000 : Int), whenE (decide (i < (0 : Int))) (21 : Int)] != (0 : Int)) (chgL R L i by_ (0 : Int) trimL = [] ∧ first [whenE q4 (10 : Int), within by_ (-10000000 : Int) (10000000 : Int), whenE (decide (i < (0 : Int))) (21 : Int)] = chgE R L i by_ (0 : Int) trimL ∧ True) ((0 : Int) ≤ (↑(List.length L) : Int) ∧ room (List.length L) (48 : Nat) ∧ (0 : Nat) + List.length q3 ≤ List.length q3 ∧ q7 ∧ Int.toNat i < List.length q0 ∧ fits IntKind.i64 (q2.2.2.1 + by_) ∧ q7 ∧ Int.toNat i < List.length q0 ∧ List.length R ≤ q5 ∧ (∀ (r : Rl), r ∈ R → List.length r.2.2 ≤ (1000000 : Nat)) ∧ List.length q6 ≤ q5 ∧ splitB (chkEds R q6 != (0 : Int)) (chgL R L i by_ (0 : Int) trimL = [] ∧ chkEds R q6 = chgE R L i by_ (0 : Int) trimL ∧ True) (List.set q0 (Int.toNat i) q1 = chgL R L i by_ (0 : Int) trimL ∧ (0 : Int) = chgE R L i by_ (0 : Int) trimL ∧ True)))) := by
  kernel_rfl
theorem vc51 (R : List Rl) (L : List Ed) (i by_ : Int) : exF (env false [(43, sp43), (107, sp107), (109, sp109), (106, sp106)] [fb132, fb135, fb181, fb156]) h0 3 51 Proofs.Tryz.f51 [.one (.sl rlT R), .one (.sl edT L), iV i, iV by_] (.tup [.one (.frs edT (chgL R L i by_ 0 slipL)), iV (chgE R L i by_ 0 slipL)]) = (let q5 := (List.replicate (List.length L) e0); let q1 := (copyL (0 : Nat) (List.length q5) q5 L); let q3 := (List.getD q1 (Int.toNat i) e0); let q0 := (List.set q1 (Int.toNat i) (q3.1, q3.2.1 + by_, q3.2.2.1, q3.2.2.2.1, q3.2.2.2.2)); let q4 := (List.getD q0 (Int.toNat i) e0); let q2 := (q4.1, q4.2.1, q4.2.2.1 + by_, q4.2.2.2.1, q4.2.2.2.2); let q6 := (bif decide (i < (0 : Int)) then true else decide ((↑(List.length L) : Int) ≤ i)); let q7 := (1000000000 : Nat); let q8 := (List.set q0 (Int.toNat i) q2); let q9 := ((0 : Int) ≤ i ∧ i < (↑(List.length q1) : Int)); let q10 := ((0 : Int) ≤ i ∧ i < (↑(List.length q0) : Int)); List.length R ≤ q7 ∧ (∀ (r : Rl), r ∈ R → List.length r.2.2 ≤ (1000000 : Nat)) ∧ List.length L ≤ q7 ∧ splitB (chkEds R L != (0 : Int)) (chgL R L i by_ (0 : Int) slipL = [] ∧ chkEds R L = chgE R L i by_ (0 : Int) slipL ∧ True) ((3 : Nat) ≤ q7 ∧ splitB (first [whenE q6 (10 : Int), within by_ (-10000000 : Int) (10000000 : Int), whenE (decide (i < (0 : Int))) (21 : Int)] != (0 : Int)) (chgL R L i by_ (0 : Int) slipL = [] ∧ first [whenE q6 (10 : Int), within by_ (-10000000 : Int) (10000000 : Int), whenE (decide (i < (0 : Int))) (21 : Int)] = chgE R L i by_ (0 : Int) slipL ∧ True) ((0 : Int) ≤ (↑(List.length L) : Int) ∧ room (List.length L) (48 : Nat) ∧ (0 : Nat) + List.length q5 ≤ List.length q5 ∧ q9 ∧ Int.toNat i < List.length q1 ∧ fits IntKind.i64 (q3.2.1 + by_) ∧ q9 ∧ Int.toNat i < List.length q1 ∧ q10 ∧ Int.toNat i < List.length q0 ∧ fits IntKind.i64 (q4.2.2.1 + by_) ∧ q10 ∧ Int.toNat i < List.length q0 ∧ List.length R ≤ q7 ∧ (∀ (r : Rl), r ∈ R → List.length r.2.2 ≤ (1000000 : Nat)) ∧ List.length q8 ≤ q7 ∧ splitB (chkEds R q8 != (0 : Int)) (chgL R L i by_ (0 : Int) slipL = [] ∧ chkEds R q8 = chgE R L i by_ (0 : Int) slipL ∧ True) (List.set q0 (Int.toNat i) q2 = chgL R L i by_ (0 : Int) slipL ∧ (0 : Int) = chgE R L i by_ (0 : Int) slipL ∧ True)))) := by
  kernel_rfl
theorem vc152 (R : List Rl) (A B : List Ed) : exF (env false [(43, sp43), (106, sp106)] []) h0 0 152 Proofs.Tryz.f152 [.one (.sl rlT R), .one (.sl edT A), .one (.sl edT B)] (.val (iV (first [chkEds R A, chkEds R B]))) = (List.length R ≤ (1000000000 : Nat) ∧ (∀ (r : Rl), r ∈ R → List.length (Prod.snd (Prod.snd r)) ≤ (1000000 : Nat)) ∧ List.length A ≤ (1000000000 : Nat) ∧ List.length R ≤ (1000000000 : Nat) ∧ (∀ (r : Rl), r ∈ R → List.length (Prod.snd (Prod.snd r)) ≤ (1000000 : Nat)) ∧ List.length B ≤ (1000000000 : Nat) ∧ (2 : Nat) ≤ (1000000000 : Nat) ∧ first [chkEds R A, chkEds R B] = first [chkEds R A, chkEds R B] ∧ True) := by
  kernel_rfl
theorem vc84 (R : List Rl) (L : List Ed) (t : Int) : exF (env false [(43, sp43), (120, sp120), (109, sp109), (130, sp130), (158, sp158), (152, sp152)] []) h84 0 84 Proofs.Tryz.f84 [.one (.sl rlT R), .one (.sl edT L), iV t] (.tup [.one (.frs edT (partL R L t).1), .one (.frs edT (partL R L t).2), iV (partE R L t)]) = (let q2 := (List.length L); let q0 := (plTo L q2); let q3 := (↑(List.length q0) : Int); let q4 := (List.length R); let q5 := (1000000000 : Nat); List.length R ≤ q5 ∧ (∀ (r : Rl), r ∈ R → List.length r.2.2 ≤ (1000000 : Nat)) ∧ List.length L ≤ q5 ∧ splitB (chkEds R L != (0 : Int)) ((partL R L t).1 = [] ∧ (partL R L t).2 = [] ∧ chkEds R L = partE R L t ∧ True) (List.length R ≤ q5 ∧ EdsIn L ∧ splitB (within t (0 : Int) (begN L q2) != (0 : Int)) ((partL R L t).1 = [] ∧ (partL R L t).2 = [] ∧ within t (0 : Int) (begN L q2) = partE R L t ∧ True) ((∃ (g : Nat), (g ≤ List.length q0 ∧ upTo (fun (j : Nat) => tornE (List.getD q0 j pl0) t) g = (0 : Int)) ∧ (0 : Int) = (↑g : Int) ∧ q3 = q3 ∧ plTo L q2 = plTo L q2 ∧ R = R ∧ L = L ∧ t = t ∧ asN q0 t g = [] ∧ bsN q0 t g = [] ∧ plTo L q2 = plTo L q2 ∧ begN L q2 = begN L q2 ∧ mapR R q4 = mapR R q4 ∧ True) ∧ ∀ (g : Nat), let q1 := (List.getD q0 g pl0); let q6 := (q1.1.1, q1.1.2.1, q1.1.2.2.1, q1.1.2.2.2.1, q1.1.2.2.2.2); g ≤ List.length q0 ∧ upTo (fun (j : Nat) => tornE (List.getD q0 j pl0) t) g = (0 : Int) → splitB (decide ((↑g : Int) < q3)) (((0 : Int) ≤ (↑g : Int) ∧ (↑g : Int) < q3) ∧ (decide (q1.2 < t) = true → fits IntKind.i64 (q1.2 + q1.1.2.2.2.1)) ∧ ((bif decide (q1.2 < t) then decide (t < q1.2 + q1.1.2.2.2.1) else false) = false → fits IntKind.i64 (q1.2 + q1.1.2.2.2.2)) ∧ splitB (bif bif decide (q1.2 < t) then decide (t < q1.2 + q1.1.2.2.2.1) else false then true else decide (q1.2 < t) != decide (q1.2 + q1.1.2.2.2.2 < t)) ((partL R L t).1 = [] ∧ (partL R L t).2 = [] ∧ (22 : Int) = partE R L t ∧ True) (splitB (!decide (q1.2 < t)) (room (List.length (bsN q0 t g) + (1 : Nat)) (48 : Nat) ∧ fits IntKind.i64 ((↑g : Int) + (1 : Int)) ∧ ∃ (g' : Nat), (g' ≤ List.length q0 ∧ upTo (fun (j : Nat) => tornE (List.getD q0 j pl0) t) g' = (0 : Int)) ∧ List.length q0 - g' < List.length q0 - g ∧ (↑g : Int) + (1 : Int) = (↑g' : Int) ∧ q3 = q3 ∧ plTo L q2 = plTo L q2 ∧ R = R ∧ L = L ∧ t = t ∧ asN q0 t g = asN q0 t g' ∧ bsN q0 t g ++ [q6] = bsN q0 t g' ∧ plTo L q2 = plTo L q2 ∧ begN L q2 = begN L q2 ∧ mapR R q4 = mapR R q4 ∧ True) (fits IntKind.i64 (q1.1.2.2.1 - q1.1.2.1) ∧ fits IntKind.i64 (q1.2 + (q1.1.2.2.1 - q1.1.2.1)) ∧ splitB (decide (q1.2 + (q1.1.2.2.1 - q1.1.2.1) ≤ t)) (room (List.length (asN q0 t g) + (1 : Nat)) (48 : Nat) ∧ fits IntKind.i64 ((↑g : Int) + (1 : Int)) ∧ ∃ (g' : Nat), (g' ≤ List.length q0 ∧ upTo (fun (j : Nat) => tornE (List.getD q0 j pl0) t) g' = (0 : Int)) ∧ List.length q0 - g' < List.length q0 - g ∧ (↑g : Int) + (1 : Int) = (↑g' : Int) ∧ q3 = q3 ∧ plTo L q2 = plTo L q2 ∧ R = R ∧ L = L ∧ t = t ∧ asN q0 t g ++ [q6] = asN q0 t g' ∧ bsN q0 t g = bsN q0 t g' ∧ plTo L q2 = plTo L q2 ∧ begN L q2 = begN L q2 ∧ mapR R q4 = mapR R q4 ∧ True) (fits IntKind.i64 (q1.1.2.1 + t) ∧ fits IntKind.i64 (q1.1.2.1 + t - q1.2) ∧ room (List.length (asN q0 t g) + (1 : Nat)) (48 : Nat) ∧ room (List.length (bsN q0 t g) + (1 : Nat)) (48 : Nat) ∧ fits IntKind.i64 ((↑g : Int) + (1 : Int)) ∧ ∃ (g' : Nat), (g' ≤ List.length q0 ∧ upTo (fun (j : Nat) => tornE (List.getD q0 j pl0) t) g' = (0 : Int)) ∧ List.length q0 - g' < List.length q0 - g ∧ (↑g : Int) + (1 : Int) = (↑g' : Int) ∧ q3 = q3 ∧ plTo L q2 = plTo L q2 ∧ R = R ∧ L = L ∧ t = t ∧ asN q0 t g ++ [(q1.1.1, q1.1.2.1, q1.1.2.1 + t - q1.2, q1.1.2.2.2.1, q1.1.2.2.2.2)] = asN q0 t g' ∧ bsN q0 t g ++ [(q1.1.1, q1.1.2.1 + t - q1.2, q1.1.2.2.1, (0 : Int), (0 : Int))] = bsN q0 t g' ∧ plTo L q2 = plTo L q2 ∧ begN L q2 = begN L q2 ∧ mapR R q4 = mapR R q4 ∧ True)))) (List.length R ≤ q5 ∧ (∀ (r : Rl), r ∈ R → List.length r.2.2 ≤ (1000000 : Nat)) ∧ List.length (asN q0 t g) ≤ q5 ∧ List.length (bsN q0 t g) ≤ q5 ∧ splitB (first [chkEds R (asN q0 t g), chkEds R (bsN q0 t g)] != (0 : Int)) ((partL R L t).1 = [] ∧ (partL R L t).2 = [] ∧ first [chkEds R (asN q0 t g), chkEds R (bsN q0 t g)] = partE R L t ∧ True) (asN q0 t g = (partL R L t).1 ∧ bsN q0 t g = (partL R L t).2 ∧ (0 : Int) = partE R L t ∧ True))))) := by
  kernel_rfl
theorem vc197 (x : Ed) : exF (env false [] []) h0 0 197 Proofs.Tryz.f197 [edV x] (.val (.one (.frs (.int .i64) (numsE x)))) = ([Prod.fst (Prod.snd x), Prod.fst (Prod.snd (Prod.snd x)), Prod.fst (Prod.snd (Prod.snd (Prod.snd x))), Prod.snd (Prod.snd (Prod.snd (Prod.snd x)))] = numsE x ∧ True) := by
  kernel_rfl
theorem vc202 (l : List Int) : exF (env false [(203, sp203)] []) h202 0 202 Proofs.Tryz.f202 [.one (.sl (.int .i64) l), .one (.fn 203 [] [])] (.val (.one (.frs .str (l.map Lib.itoa)))) = (let q0 := (↑(List.length l) : Int); (∃ (g : Nat), Nat.le g (List.length l) ∧ (0 : Int) = (↑g : Int) ∧ q0 = q0 ∧ l = l ∧ List.map Lib.itoa (List.take g l) = [] ∧ True) ∧ ∀ (g : Nat), Nat.le g (List.length l) → splitB (decide ((↑g : Int) < q0)) (((0 : Int) ≤ (↑g : Int) ∧ (↑g : Int) < q0) ∧ fits IntKind.i64 (List.getD l g (0 : Int)) ∧ room (List.length (List.map Lib.itoa (List.take g l)) + (1 : Nat)) (16 : Nat) ∧ fits IntKind.i64 ((↑g : Int) + (1 : Int)) ∧ ∃ (g' : Nat), Nat.le g' (List.length l) ∧ List.length l - g' < List.length l - g ∧ (↑g : Int) + (1 : Int) = (↑g' : Int) ∧ q0 = q0 ∧ l = l ∧ List.map Lib.itoa (List.take g l) ++ [Lib.itoa (List.getD l g (0 : Int))] = List.map Lib.itoa (List.take g' l) ∧ True) (List.map Lib.itoa (List.take g l) = List.map Lib.itoa l ∧ True)) := by
  kernel_rfl
theorem vc162 (x : Ed) : exF (env false [(197, sp197), (202, sp202), (160, sp160)] []) h0 0 162 Proofs.Tryz.f162 [edV x] (.val (sV (lineE x))) = (List.length (numsE (Prod.fst x, Prod.fst (Prod.snd x), Prod.fst (Prod.snd (Prod.snd x)), Prod.fst (Prod.snd (Prod.snd (Prod.snd x))), Prod.snd (Prod.snd (Prod.snd (Prod.snd x))))) ≤ (1000000 : Nat) ∧ (∀ (n : Int), n ∈ numsE (Prod.fst x, Prod.fst (Prod.snd x), Prod.fst (Prod.snd (Prod.snd x)), Prod.fst (Prod.snd (Prod.snd (Prod.snd x))), Prod.snd (Prod.snd (Prod.snd (Prod.snd x)))) → fits IntKind.i64 n) ∧ room ((2 : Nat) + List.length (List.map Lib.itoa (numsE (Prod.fst x, Prod.fst (Prod.snd x), Prod.fst (Prod.snd (Prod.snd x)), Prod.fst (Prod.snd (Prod.snd (Prod.snd x))), Prod.snd (Prod.snd (Prod.snd (Prod.snd x))))))) (16 : Nat) ∧ List.length ([Array.toList (ByteArray.data { data := #[(101 : UInt8), (100 : UInt8), (105 : UInt8), (116 : UInt8)] }), Prod.fst x] ++ List.map Lib.itoa (numsE (Prod.fst x, Prod.fst (Prod.snd x), Prod.fst (Prod.snd (Prod.snd x)), Prod.fst (Prod.snd (Prod.snd (Prod.snd x))), Prod.snd (Prod.snd (Prod.snd (Prod.snd x)))))) ≤ (1000000 : Nat) ∧ List.length (Lib.join ([Array.toList (ByteArray.data { data := #[(101 : UInt8), (100 : UInt8), (105 : UInt8), (116 : UInt8)] }), Prod.fst x] ++ List.map Lib.itoa (numsE (Prod.fst x, Prod.fst (Prod.snd x), Prod.fst (Prod.snd (Prod.snd x)), Prod.fst (Prod.snd (Prod.snd (Prod.snd x))), Prod.snd (Prod.snd (Prod.snd (Prod.snd x)))))) (Array.toList (ByteArray.data { data := #[(32 : UInt8)] }))) ≤ (140737488355328 : Nat) ∧ List.length (Lib.join ([Array.toList (ByteArray.data { data := #[(101 : UInt8), (100 : UInt8), (105 : UInt8), (116 : UInt8)] }), Prod.fst x] ++ List.map Lib.itoa (numsE (Prod.fst x, Prod.fst (Prod.snd x), Prod.fst (Prod.snd (Prod.snd x)), Prod.fst (Prod.snd (Prod.snd (Prod.snd x))), Prod.snd (Prod.snd (Prod.snd (Prod.snd x)))))) (Array.toList (ByteArray.data { data := #[(32 : UInt8)] }))) + List.length (Array.toList (ByteArray.data { data := #[(10 : UInt8)] })) ≤ (9223372036854775807 : Nat) ∧ Lib.join ([Array.toList (ByteArray.data { data := #[(101 : UInt8), (100 : UInt8), (105 : UInt8), (116 : UInt8)] }), Prod.fst x] ++ List.map Lib.itoa (numsE (Prod.fst x, Prod.fst (Prod.snd x), Prod.fst (Prod.snd (Prod.snd x)), Prod.fst (Prod.snd (Prod.snd (Prod.snd x))), Prod.snd (Prod.snd (Prod.snd (Prod.snd x)))))) (Array.toList (ByteArray.data { data := #[(32 : UInt8)] })) ++ Array.toList (ByteArray.data { data := #[(10 : UInt8)] }) = lineE x ∧ True) := by
  kernel_rfl
theorem vc161 (L : List Ed) : exF (env false [(162, sp162)] []) h161 0 161 Proofs.Tryz.f161 [.one (.sl edT L), .one (.fn 162 [] [])] (.val (.one (.frs .str (L.map lineE)))) = (let q1 := (↑(List.length L) : Int); (∃ (g : Nat), Nat.le g (List.length L) ∧ (0 : Int) = (↑g : Int) ∧ q1 = q1 ∧ L = L ∧ List.map lineE (List.take g L) = [] ∧ True) ∧ ∀ (g : Nat), let q0 := (List.getD L g e0); let q2 := (q0.1, q0.2.1, q0.2.2.1, q0.2.2.2.1, q0.2.2.2.2); Nat.le g (List.length L) → splitB (decide ((↑g : Int) < q1)) (((0 : Int) ≤ (↑g : Int) ∧ (↑g : Int) < q1) ∧ (∀ (n : Int), n ∈ numsE q2 → fits IntKind.i64 n) ∧ List.length q0.1 ≤ (1000000 : Nat) ∧ room (List.length (List.map lineE (List.take g L)) + (1 : Nat)) (16 : Nat) ∧ fits IntKind.i64 ((↑g : Int) + (1 : Int)) ∧ ∃ (g' : Nat), Nat.le g' (List.length L) ∧ List.length L - g' < List.length L - g ∧ (↑g : Int) + (1 : Int) = (↑g' : Int) ∧ q1 = q1 ∧ L = L ∧ List.map lineE (List.take g L) ++ [lineE q2] = List.map lineE (List.take g' L) ∧ True) (List.map lineE (List.take g L) = List.map lineE L ∧ True)) := by
  kernel_rfl
theorem vc110 (l : List Int) : exF (env false [(109, sp109)] [fb198]) hMapTx 3 110 Proofs.Tryz.f110 [.one (.sl (.int .i64) l), .one (.fn 198 [] [])] (.val (.one (.frs (.int .i64) (l.map fun n => within n (-999999999) 999999999)))) = (let q0 := (↑(List.length l) : Int); let q1 := (-999999999 : Int); let q2 := (999999999 : Int); (∃ (g : Nat), Nat.le g (List.length l) ∧ (0 : Int) = (↑g : Int) ∧ q0 = q0 ∧ l = l ∧ List.map (fun (n : Int) => within n q1 q2) (List.take g l) = [] ∧ True) ∧ ∀ (g : Nat), Nat.le g (List.length l) → splitB (decide ((↑g : Int) < q0)) (((0 : Int) ≤ (↑g : Int) ∧ (↑g : Int) < q0) ∧ room (List.length (List.map (fun (n : Int) => within n q1 q2) (List.take g l)) + (1 : Nat)) (8 : Nat) ∧ fits IntKind.i64 ((↑g : Int) + (1 : Int)) ∧ ∃ (g' : Nat), Nat.le g' (List.length l) ∧ List.length l - g' < List.length l - g ∧ (↑g : Int) + (1 : Int) = (↑g' : Int) ∧ q0 = q0 ∧ l = l ∧ List.map (fun (n : Int) => within n q1 q2) (List.take g l) ++ [within (List.getD l g (0 : Int)) q1 q2] = List.map (fun (n : Int) => within n q1 q2) (List.take g' l) ∧ True) (List.map (fun (n : Int) => within n q1 q2) (List.take g l) = List.map (fun (n : Int) => within n q1 q2) l ∧ True)) := by
  kernel_rfl
theorem vc159 (L : List Ed) : exF (env false [(108, sp108), (197, sp197), (110, sp110), (106, sp106)] []) h159 0 159 Proofs.Tryz.f159 [.one (.sl edT L)] (.val (iV (chkText L))) = (let q1 := (↑(List.length L) : Int); splitB (decide ((16 : Int) < q1)) ((5 : Int) = chkText L ∧ True) ((∃ (g : Nat), (g ≤ List.length L ∧ upTo (fun (j : Nat) => chkTx (List.getD L j e0)) g = (0 : Int)) ∧ (0 : Int) = (↑g : Int) ∧ q1 = q1 ∧ L = L ∧ True) ∧ ∀ (g : Nat), let q2 := (List.getD L g e0); let q0 := (numsE (q2.1, q2.2.1, q2.2.2.1, q2.2.2.2.1, q2.2.2.2.2)); g ≤ List.length L ∧ upTo (fun (j : Nat) => chkTx (List.getD L j e0)) g = (0 : Int) → splitB (decide ((↑g : Int) < q1)) (((0 : Int) ≤ (↑g : Int) ∧ (↑g : Int) < q1) ∧ splitB (!isName q2.1) ((8 : Int) = chkText L ∧ True) (List.length q0 ≤ (1000000 : Nat) ∧ List.length (List.map (fun (n : Int) => within n (-999999999 : Int) (999999999 : Int)) q0) ≤ (1000000000 : Nat) ∧ splitB (first (List.map (fun (n : Int) => within n (-999999999 : Int) (999999999 : Int)) q0) != (0 : Int)) (first (List.map (fun (n : Int) => within n (-999999999 : Int) (999999999 : Int)) q0) = chkText L ∧ True) (fits IntKind.i64 ((↑g : Int) + (1 : Int)) ∧ ∃ (g' : Nat), (g' ≤ List.length L ∧ upTo (fun (j : Nat) => chkTx (List.getD L j e0)) g' = (0 : Int)) ∧ List.length L - g' < List.length L - g ∧ (↑g : Int) + (1 : Int) = (↑g' : Int) ∧ q1 = q1 ∧ L = L ∧ True))) ((0 : Int) = chkText L ∧ True))) := by
  kernel_rfl
theorem vc90 (L : List Ed) : exF (env false [(159, sp159), (161, sp161), (160, sp160)] []) h0 0 90 Proofs.Tryz.f90 [.one (.sl edT L)] (.tup [sV (printN L), iV (chkText L)]) = (let q0 := (ByteArray.data { data := #[] }); List.length L ≤ (1000000000 : Nat) ∧ splitB (chkText L != (0 : Int)) (Array.toList q0 = printN L ∧ chkText L = chkText L ∧ True) (List.length L ≤ (1000000 : Nat) ∧ (∀ (x : Ed), x ∈ L → (∀ (n : Int), n ∈ numsE x → fits IntKind.i64 n) ∧ List.length x.1 ≤ (1000000 : Nat)) ∧ List.length (List.map lineE L) ≤ (1000000 : Nat) ∧ List.length (Lib.join (List.map lineE L) (Array.toList q0)) ≤ (140737488355328 : Nat) ∧ Lib.join (List.map lineE L) (Array.toList q0) = printN L ∧ (0 : Int) = chkText L ∧ True)) := by
  kernel_rfl
end Go.Sx

/- Contracts. -/
namespace Go.Sx
open U
theorem so203 : Sp1 203 sp203 := by
  refine ⟨fun vs ps r h hp => ?_, Proofs.Tryz.f203, _, by kernel_rfl, rfl, by kernel_rfl⟩
  simp only [sp203] at h
  split at h
  · cases h; exact itoa1 _ (hp _ (by simp))
  · cases h
theorem so160 : Sp1 160 sp160 := by
  refine ⟨fun vs ps r h hp => ?_, Proofs.Tryz.f160, _, by kernel_rfl, rfl, by kernel_rfl⟩
  simp only [sp160] at h
  split at h
  · cases h; exact join1 _ _ (hp _ (by simp)) (hp _ (by simp))
  · cases h
theorem nd_le : ∀ (k u : Nat), u < 10 ^ (k + 1) → Lib.nDigits u ≤ k + 1
  | 0, u, h => by rw [Lib.nDigits_small (by simpa using h)]; omega
  | k + 1, u, h => by
    by_cases h1 : u < 10
    · rw [Lib.nDigits_small h1]; omega
    · rw [Lib.nDigits_big h1]
      have := nd_le k (u / 10) (by rw [Nat.pow_succ] at h; omega)
      omega
theorem itoa_len {n : Int} (h : fits .i64 n) : (Lib.itoa n).length ≤ 20 := by
  simp only [fits] at h
  have h1 : ∀ u : Nat, u < 10 ^ 19 → (Lib.decDigits u).length ≤ 19 := fun u hu => by rw [Lib.decDigits_length]; exact nd_le 18 u hu
  unfold Lib.itoa
  split
  · have := h1 n.natAbs (by omega)
    simp only [List.length_cons]; omega
  · have := h1 n.toNat (by omega)
    omega
theorem line_len {x : Ed} (hb : ∀ n ∈ numsE x, fits .i64 n) : (Lib.join ([[101, 100, 105, 116], x.1] ++ (numsE x).map Lib.itoa) [32]).length ≤ x.1.length + 200 := by
  have h1 := itoa_len (hb x.2.1 (by simp [numsE]))
  have h2 := itoa_len (hb x.2.2.1 (by simp [numsE]))
  have h3 := itoa_len (hb x.2.2.2.1 (by simp [numsE]))
  have h4 := itoa_len (hb x.2.2.2.2 (by simp [numsE]))
  have e : [[101, 100, 105, 116], x.1] ++ (numsE x).map Lib.itoa = [101, 100, 105, 116] :: [x.1, Lib.itoa x.2.1, Lib.itoa x.2.2.1, Lib.itoa x.2.2.2.1, Lib.itoa x.2.2.2.2] := rfl
  rw [e, Lib.join_length]
  simp only [Lib.lens, List.map_cons, List.map_nil, List.sum_cons, List.sum_nil, List.length_cons, List.length_nil]
  omega
theorem join_len (B : Nat) : ∀ (xs : List (List UInt8)), (∀ y ∈ xs, y.length ≤ B) → (Lib.join xs []).length ≤ xs.length * B
  | [], _ => by simp [Lib.join_nil]
  | x :: r, h => by
    rw [Lib.join_length]
    have : ∀ (l : List (List UInt8)), (∀ y ∈ l, y.length ≤ B) → Lib.lens l ≤ l.length * B := by
      intro l
      induction l with
      | nil => intro _; simp [Lib.lens]
      | cons y l ih =>
        intro h
        have h1 := h y List.mem_cons_self
        have h2 := ih fun z hz => h z (List.mem_cons_of_mem _ hz)
        simp only [Lib.lens, List.map_cons, List.sum_cons, List.length_cons, Nat.succ_mul] at h2 ⊢
        omega
    have := this _ h
    simpa using this
theorem sum_len {α : Type} {f : Nat → List α} (h : ∀ i, (f i).length ≤ 1) : ∀ i, (sumTo f i).length ≤ i
  | 0 => by simp [sumTo]
  | i + 1 => by
    have := sum_len h i
    have := h i
    simp only [sumTo, List.length_append]; omega
theorem partA_len (x : Pl) (t : Int) : (partA x t).length ≤ 1 := by unfold partA; split <;> (try split) <;> simp
theorem partB_len (x : Pl) (t : Int) : (partB x t).length ≤ 1 := by unfold partB; split <;> (try split) <;> simp
theorem part_bad {R : List Rl} {L : List Ed} {t e : Int} (he : partE R L t = e) (h : e ≠ 0) : (partL R L t).1 = [] ∧ (partL R L t).2 = [] ∧ e = partE R L t ∧ True := by
  have : partL R L t = ([], []) := by unfold partL; rw [he, if_neg h]
  rw [this, he]
  exact ⟨rfl, rfl, rfl, trivial⟩
theorem fn49 (R : List Rl) (L : List Ed) (i by_ : Int) (hl : R.length ≤ 1000000000) (hR : ∀ r ∈ R, r.2.2.length ≤ 1000000) (hL : L.length ≤ 1000000000) : Fn P1 gl1 49 [.one (.sl rlT R), .one (.sl edT L), iV i, iV by_] (.tup [.one (.frs edT (chgL R L i by_ 0 trimL)), iV (chgE R L i by_ 0 trimL)]) true := by
  refine Fn.flat ?_ rfl
  refine fn_of false [(43, sp43), (107, sp107), (109, sp109), (106, sp106)] [fb132, fb133, fb179, fb156] h0 3 Proofs.Tryz.f49 ⟨so43, so107, so109, so106, trivial⟩ ⟨⟨by kernel_rfl, by kernel_rfl, _, rfl, by kernel_rfl⟩, ⟨by kernel_rfl, by kernel_rfl, _, rfl, by kernel_rfl⟩, ⟨by kernel_rfl, by kernel_rfl, _, rfl, by kernel_rfl⟩, ⟨by kernel_rfl, by kernel_rfl, _, rfl, by kernel_rfl⟩, trivial⟩ (by kernel_rfl) rfl (by kernel_rfl) rfl rfl rfl ?_
  rw [vc49]
  try simp only [splitB_iff, -eq_self]
  simp only [U.copyL_all (show L.length = L.length from rfl)]
  simp only [trim_fold]
  refine ⟨hl, hR, hL, fun h => ?_, fun h => ?_⟩
  · have := chg_bad (i := i) (b := by_) (least := 0) (g := trimL) (show chkEds R L ≠ 0 by simpa using h)
    exact ⟨this.1, this.2, trivial⟩
  · have h' : chkEds R L = 0 := by simpa using h
    rw [chkCh_eq h']
    refine ⟨by decide, fun h2 => ?_, fun h2 => ?_⟩
    · have := chg_err (g := trimL) (show chkCh R L i by_ 0 ≠ 0 by simpa using h2)
      exact ⟨this.1, this.2, trivial⟩
    · have h2' : chkCh R L i by_ 0 = 0 := by simpa using h2
      obtain ⟨hk, hi, hb⟩ := chkCh_zero (by decide) h2'
      obtain ⟨k1, k2⟩ := chg_ok (g := trimL) h2'
      have hlen := hk.len
      have g2 := hk.eds.2 _ (getD_mem (d := e0) (show i.toNat < L.length by omega))
      simp only [trimL_len]
      refine ⟨by omega, by simp only [room]; omega, by simp, by omega, by omega, by simp only [fits]; omega, by omega, by omega, hl, hR, by omega, fun h3 => ?_, fun h3 => ?_⟩
      · have := k1 (by simpa using h3)
        exact ⟨this.1, this.2, trivial⟩
      · have := k2 (by simpa using h3)
        exact ⟨this.1, this.2, trivial⟩
theorem so49_ : SpecOk P1 gl1 49 sp49 := by
  intro vs ps r h hp
  simp only [sp49] at h
  split at h
  · cases h; exact fn49 _ _ _ _ (hp _ (.head _)) (hp _ (.tail _ (.head _))) (hp _ (.tail _ (.tail _ (.head _))))
  · cases h
theorem so49 : Sp1 49 sp49 := ⟨so49_, Proofs.Tryz.f49, _, by kernel_rfl, rfl, by kernel_rfl⟩
theorem fn51 (R : List Rl) (L : List Ed) (i by_ : Int) (hl : R.length ≤ 1000000000) (hR : ∀ r ∈ R, r.2.2.length ≤ 1000000) (hL : L.length ≤ 1000000000) : Fn P1 gl1 51 [.one (.sl rlT R), .one (.sl edT L), iV i, iV by_] (.tup [.one (.frs edT (chgL R L i by_ 0 slipL)), iV (chgE R L i by_ 0 slipL)]) true := by
  refine Fn.flat ?_ rfl
  refine fn_of false [(43, sp43), (107, sp107), (109, sp109), (106, sp106)] [fb132, fb135, fb181, fb156] h0 3 Proofs.Tryz.f51 ⟨so43, so107, so109, so106, trivial⟩ ⟨⟨by kernel_rfl, by kernel_rfl, _, rfl, by kernel_rfl⟩, ⟨by kernel_rfl, by kernel_rfl, _, rfl, by kernel_rfl⟩, ⟨by kernel_rfl, by kernel_rfl, _, rfl, by kernel_rfl⟩, ⟨by kernel_rfl, by kernel_rfl, _, rfl, by kernel_rfl⟩, trivial⟩ (by kernel_rfl) rfl (by kernel_rfl) rfl rfl rfl ?_
  rw [vc51]
  try simp only [splitB_iff, -eq_self]
  simp only [U.copyL_all (show L.length = L.length from rfl)]
  simp only [trim_fold, front_fold]
  refine ⟨hl, hR, hL, fun h => ?_, fun h => ?_⟩
  · have := chg_bad (i := i) (b := by_) (least := 0) (g := slipL) (show chkEds R L ≠ 0 by simpa using h)
    exact ⟨this.1, this.2, trivial⟩
  · have h' : chkEds R L = 0 := by simpa using h
    rw [chkCh_eq h']
    refine ⟨by decide, fun h2 => ?_, fun h2 => ?_⟩
    · have := chg_err (g := slipL) (show chkCh R L i by_ 0 ≠ 0 by simpa using h2)
      exact ⟨this.1, this.2, trivial⟩
    · have h2' : chkCh R L i by_ 0 = 0 := by simpa using h2
      obtain ⟨hk, hi, hb⟩ := chkCh_zero (by decide) h2'
      obtain ⟨k1, k2⟩ := chg_ok (g := slipL) h2'
      have hlen := hk.len
      have g2 := hk.eds.2 _ (getD_mem (d := e0) (show i.toNat < L.length by omega))
      have g3 : (frontL L i.toNat by_).getD i.toNat e0 = ((L.getD i.toNat e0).1, (L.getD i.toNat e0).2.1 + by_, (L.getD i.toNat e0).2.2.1, (L.getD i.toNat e0).2.2.2.1, (L.getD i.toNat e0).2.2.2.2) := by
        rw [frontL_get _ _ _ _ (by omega), if_pos rfl]
      simp only [slip_fold, frontL_len, slipL_len, g3]
      refine ⟨by omega, by simp only [room]; omega, by simp, by omega, by omega, by simp only [fits]; omega, by omega, by omega, by omega, by omega, by simp only [fits]; omega, by omega, by omega, hl, hR, by omega, fun h3 => ?_, fun h3 => ?_⟩
      · have := k1 (by simpa using h3)
        exact ⟨this.1, this.2, trivial⟩
      · have := k2 (by simpa using h3)
        exact ⟨this.1, this.2, trivial⟩
theorem so51_ : SpecOk P1 gl1 51 sp51 := by
  intro vs ps r h hp
  simp only [sp51] at h
  split at h
  · cases h; exact fn51 _ _ _ _ (hp _ (.head _)) (hp _ (.tail _ (.head _))) (hp _ (.tail _ (.tail _ (.head _))))
  · cases h
theorem so51 : Sp1 51 sp51 := ⟨so51_, Proofs.Tryz.f51, _, by kernel_rfl, rfl, by kernel_rfl⟩
theorem fn152 (R : List Rl) (A B : List Ed) (hl : R.length ≤ 1000000000) (hR : ∀ r ∈ R, r.2.2.length ≤ 1000000) (hA : A.length ≤ 1000000000) (hB : B.length ≤ 1000000000) : Fn P1 gl1 152 [.one (.sl rlT R), .one (.sl edT A), .one (.sl edT B)] (.val (iV (first [chkEds R A, chkEds R B]))) true := by
  refine Fn.flat ?_ rfl
  refine fn_of false [(43, sp43), (106, sp106)] [] h0 0 Proofs.Tryz.f152 ⟨so43, so106, trivial⟩ trivial (by kernel_rfl) rfl (by kernel_rfl) rfl rfl rfl ?_
  rw [vc152]
  try simp only [splitB_iff, -eq_self]
  exact ⟨hl, hR, hA, hl, hR, hB, by decide, rfl, trivial⟩
theorem so152_ : SpecOk P1 gl1 152 sp152 := by
  intro vs ps r h hp
  simp only [sp152] at h
  split at h
  · cases h; exact fn152 _ _ _ (hp _ (.head _)) (hp _ (.tail _ (.head _))) (hp _ (.tail _ (.tail _ (.head _)))) (hp _ (.tail _ (.tail _ (.tail _ (.head _)))))
  · cases h
theorem so152 : Sp1 152 sp152 := ⟨so152_, Proofs.Tryz.f152, _, by kernel_rfl, rfl, by kernel_rfl⟩
theorem fn84 (R : List Rl) (L : List Ed) (t : Int) (hl : R.length ≤ 1000000000) (hR : ∀ r ∈ R, r.2.2.length ≤ 1000000) (hL : L.length ≤ 1000000000) : Fn P1 gl1 84 [.one (.sl rlT R), .one (.sl edT L), iV t] (.tup [.one (.frs edT (partL R L t).1), .one (.frs edT (partL R L t).2), iV (partE R L t)]) true := by
  refine Fn.flat ?_ rfl
  refine fn_of false [(43, sp43), (120, sp120), (109, sp109), (130, sp130), (158, sp158), (152, sp152)] [] h84 0 Proofs.Tryz.f84 ⟨so43, so120, so109, so130, so158, so152, trivial⟩ trivial (by kernel_rfl) rfl (by kernel_rfl) rfl rfl rfl ?_
  rw [vc84]
  try simp only [splitB_iff, -eq_self]
  have hN : begN L L.length = lenL L := rfl
  have hP : plTo L L.length = ls L := rfl
  simp only [hN, hP, ls_len]
  refine ⟨hl, hR, hL, fun h => ?_, fun h => ?_⟩
  · have h' : chkEds R L ≠ 0 := by simpa using h
    exact part_bad (if_pos h') h'
  · have h' : chkEds R L = 0 := by simpa using h
    have hk := chkEds_zero.1 h'
    have h16 := hk.len
    refine ⟨hl, hk.eds, fun h2 => ?_, fun h2 => ?_⟩
    · have h2' : within t 0 (lenL L) ≠ 0 := by simpa using h2
      exact part_bad (by unfold partE; rw [if_neg (by simpa using h'), if_pos h2']) h2'
    · have h2' : within t 0 (lenL L) = 0 := by simpa using h2
      have ht := within_zero.1 h2'
      have hE : partE R L t = if upTo (fun j => tornE ((ls L).getD j pl0) t) L.length ≠ 0 then 22 else first [chkEds R (asN (ls L) t L.length), chkEds R (bsN (ls L) t L.length)] := by
        unfold partE; rw [if_neg (by simpa using h'), if_neg (by simpa using h2')]
      have hbig := hk.big
      have hb := pl_bd hk.rs hk.len hk.ed hk.big
      have la : ∀ i, (asN (ls L) t i).length ≤ i := sum_len fun _ => partA_len _ _
      have lb : ∀ i, (bsN (ls L) t i).length ≤ i := sum_len fun _ => partB_len _ _
      refine ⟨⟨0, ⟨Nat.zero_le _, rfl⟩, rfl, by trivial, by trivial, by trivial, by trivial, by trivial, rfl, rfl, by trivial, by trivial, by trivial, trivial⟩, fun g hg => ⟨fun hlt => ?_, fun hge => ?_⟩⟩
      · have hlt' : g < L.length := by simpa using hlt
        have hx := hb _ (getD_mem (d := pl0) (show g < (ls L).length by rw [ls_len]; exact hlt'))
        have ea : asN (ls L) t (g + 1) = asN (ls L) t g ++ partA ((ls L).getD g pl0) t := rfl
        have eb : bsN (ls L) t (g + 1) = bsN (ls L) t g ++ partB ((ls L).getD g pl0) t := rfl
        have la := la g
        have lb := lb g
        refine ⟨by omega, fun _ => by simp only [fits]; omega, fun _ => by simp only [fits]; omega, fun h3 => ?_, fun h3 => ?_⟩
        · have e22 : tornE ((ls L).getD g pl0) t = 22 := by
            simp only [bcond_l, bcond_r] at h3
            unfold tornE sndN; rw [h3]; rfl
          have := upTo_eq (f := fun j => tornE ((ls L).getD j pl0) t) hg.2 (by show tornE _ t ≠ 0; rw [e22]; decide) hlt'
          exact part_bad (by rw [hE, if_pos (by rw [this, e22]; decide)]) (by decide)
        · have ez : tornE ((ls L).getD g pl0) t = 0 := by
            simp only [bcond_l, bcond_r] at h3
            unfold tornE sndN; rw [h3]; rfl
          have hup := upTo_succ (f := fun j => tornE ((ls L).getD j pl0) t) hg.2 ez
          refine ⟨fun h4 => ?_, fun h4 => ⟨by simp only [fits]; omega, by simp only [fits]; omega, fun h5 => ?_, fun h5 => ?_⟩⟩
          · have h4' : ¬ ((ls L).getD g pl0).2 < t := by simpa using h4
            refine ⟨by simp only [room]; omega, by simp only [fits]; omega, g + 1, ⟨hlt', hup⟩, by omega, by simp, by trivial, by trivial, by trivial, by trivial, by trivial, ?_, ?_, by trivial, by trivial, by trivial, trivial⟩
            · rw [ea]; unfold partA; rw [if_neg h4', List.append_nil]
            · rw [eb]; unfold partB; rw [if_neg h4']
          · have h4' : ((ls L).getD g pl0).2 < t := by simpa using h4
            have h5' := of_decide_eq_true h5
            refine ⟨by simp only [room]; omega, by simp only [fits]; omega, g + 1, ⟨hlt', hup⟩, by omega, by simp, by trivial, by trivial, by trivial, by trivial, by trivial, ?_, ?_, by trivial, by trivial, by trivial, trivial⟩
            · rw [ea]; unfold partA; rw [if_pos h4', if_pos h5']
            · rw [eb]; unfold partB; rw [if_pos h4', if_pos h5', List.append_nil]
          · have h4' : ((ls L).getD g pl0).2 < t := by simpa using h4
            have h5' := of_decide_eq_false h5
            refine ⟨by simp only [fits]; omega, by simp only [fits]; omega, by simp only [room]; omega, by simp only [room]; omega, by simp only [fits]; omega, g + 1, ⟨hlt', hup⟩, by omega, by simp, by trivial, by trivial, by trivial, by trivial, by trivial, ?_, ?_, by trivial, by trivial, by trivial, trivial⟩
            · rw [ea]; unfold partA; rw [if_pos h4', if_neg h5']
            · rw [eb]; unfold partB; rw [if_pos h4', if_neg h5']
      · have hge' : ¬ g < L.length := by simpa using hge
        have hgl : g = L.length := by omega
        subst hgl
        have la := la L.length
        have lb := lb L.length
        have hE2 := hE.trans (if_neg (by simpa using hg.2))
        refine ⟨hl, hR, by omega, by omega, fun h3 => ?_, fun h3 => ?_⟩
        · exact part_bad hE2 (by simpa using h3)
        · have hz : partE R L t = 0 := hE2.trans (by simpa using h3)
          unfold partL
          rw [if_pos hz, hz]
          exact ⟨rfl, rfl, rfl, trivial⟩
theorem so84_ : SpecOk P1 gl1 84 sp84 := by
  intro vs ps r h hp
  simp only [sp84] at h
  split at h
  · cases h; exact fn84 _ _ _ (hp _ (.head _)) (hp _ (.tail _ (.head _))) (hp _ (.tail _ (.tail _ (.head _))))
  · cases h
theorem so84 : Sp1 84 sp84 := ⟨so84_, Proofs.Tryz.f84, _, by kernel_rfl, rfl, by kernel_rfl⟩
theorem fn197 (x : Ed)  : Fn P1 gl1 197 [edV x] (.val (.one (.frs (.int .i64) (numsE x)))) true := by
  refine Fn.flat ?_ rfl
  refine fn_of false [] [] h0 0 Proofs.Tryz.f197 trivial trivial (by kernel_rfl) rfl (by kernel_rfl) rfl rfl rfl ?_
  rw [vc197]
  try simp only [splitB_iff, -eq_self]
  trivial
theorem so197_ : SpecOk P1 gl1 197 sp197 := by
  intro vs ps r h _
  simp only [sp197] at h
  split at h
  · cases h; exact fn197 (_, _, _, _, _) 
  · cases h
theorem so197 : Sp1 197 sp197 := ⟨so197_, Proofs.Tryz.f197, _, by kernel_rfl, rfl, by kernel_rfl⟩
theorem fn202 (l : List Int) (hl : l.length ≤ 1000000) (hb : ∀ n ∈ l, fits .i64 n) : Fn P1 gl1 202 [.one (.sl (.int .i64) l), .one (.fn 203 [] [])] (.val (.one (.frs .str (l.map Lib.itoa)))) true := by
  refine Fn.flat ?_ rfl
  refine fn_of false [(203, sp203)] [] h202 0 Proofs.Tryz.f202 ⟨so203, trivial⟩ trivial (by kernel_rfl) rfl (by kernel_rfl) rfl rfl rfl ?_
  rw [vc202]
  try simp only [splitB_iff, -eq_self]
  refine ⟨⟨0, Nat.zero_le _, rfl, by trivial, by trivial, by simp⟩, fun g hg => ⟨fun hlt => ?_, fun hge => ?_⟩⟩
  · have hlt' : g < l.length := by simpa using hlt
    refine ⟨by omega, hb _ (getD_mem (d := 0) hlt'), by simp only [room, List.length_map, List.length_take]; omega, by simp only [fits]; omega, g + 1, hlt', by omega, by simp, by trivial, by trivial, ?_, trivial⟩
    rw [getD_of hlt', List.take_succ_eq_append_getElem hlt', List.map_append]
    rfl
  · have hge' : ¬ g < l.length := by simpa using hge
    rw [List.take_of_length_le (by omega)]
    exact ⟨rfl, trivial⟩
theorem so202_ : SpecOk P1 gl1 202 sp202 := by
  intro vs ps r h hp
  simp only [sp202] at h
  split at h
  · cases h; exact fn202 _ (hp _ (.head _)) (hp _ (.tail _ (.head _)))
  · cases h
theorem so202 : Sp1 202 sp202 := ⟨so202_, Proofs.Tryz.f202, _, by kernel_rfl, rfl, by kernel_rfl⟩
theorem fn162 (x : Ed) (hb : ∀ n ∈ numsE x, fits .i64 n) (hn : x.1.length ≤ 1000000) : Fn P1 gl1 162 [edV x] (.val (sV (lineE x))) true := by
  refine Fn.flat ?_ rfl
  refine fn_of false [(197, sp197), (202, sp202), (160, sp160)] [] h0 0 Proofs.Tryz.f162 ⟨so197, so202, so160, trivial⟩ trivial (by kernel_rfl) rfl (by kernel_rfl) rfl rfl rfl ?_
  rw [vc162]
  try simp only [-eq_self]
  have hj := line_len hb
  have e : ([[101, 100, 105, 116], x.1] ++ (numsE x).map Lib.itoa).length = 6 := rfl
  exact ⟨by simp [numsE], hb, (by simp [room] : room 6 16), by show _ ≤ _; rw [show _ = 6 from e]; decide, by show List.length (Lib.join ([[101, 100, 105, 116], x.1] ++ (numsE x).map Lib.itoa) [32]) ≤ _; omega, by show List.length (Lib.join ([[101, 100, 105, 116], x.1] ++ (numsE x).map Lib.itoa) [32]) + 1 ≤ _; omega, rfl, trivial⟩
theorem so162_ : SpecOk P1 gl1 162 sp162 := by
  intro vs ps r h hp
  simp only [sp162] at h
  split at h
  · cases h; exact fn162 (_, _, _, _, _) (hp _ (.head _)) (hp _ (.tail _ (.head _)))
  · cases h
theorem so162 : Sp1 162 sp162 := ⟨so162_, Proofs.Tryz.f162, _, by kernel_rfl, rfl, by kernel_rfl⟩
theorem fn161 (L : List Ed) (hl : L.length ≤ 1000000) (hb : ∀ x ∈ L, (∀ n ∈ numsE x, fits .i64 n) ∧ x.1.length ≤ 1000000) : Fn P1 gl1 161 [.one (.sl edT L), .one (.fn 162 [] [])] (.val (.one (.frs .str (L.map lineE)))) true := by
  refine Fn.flat ?_ rfl
  refine fn_of false [(162, sp162)] [] h161 0 Proofs.Tryz.f161 ⟨so162, trivial⟩ trivial (by kernel_rfl) rfl (by kernel_rfl) rfl rfl rfl ?_
  rw [vc161]
  try simp only [splitB_iff, -eq_self]
  refine ⟨⟨0, Nat.zero_le _, rfl, by trivial, by trivial, by simp⟩, fun g hg => ⟨fun hlt => ?_, fun hge => ?_⟩⟩
  · have hlt' : g < L.length := by simpa using hlt
    refine ⟨by omega, (hb _ (getD_mem (d := e0) hlt')).1, (hb _ (getD_mem (d := e0) hlt')).2, by simp only [room, List.length_map, List.length_take]; omega, by simp only [fits]; omega, g + 1, hlt', by omega, by simp, by trivial, by trivial, ?_, trivial⟩
    rw [getD_of hlt', List.take_succ_eq_append_getElem hlt', List.map_append]
    rfl
  · have hge' : ¬ g < L.length := by simpa using hge
    rw [List.take_of_length_le (by omega)]
    exact ⟨rfl, trivial⟩
theorem so161_ : SpecOk P1 gl1 161 sp161 := by
  intro vs ps r h hp
  simp only [sp161] at h
  split at h
  · cases h; exact fn161 _ (hp _ (.head _)) (hp _ (.tail _ (.head _)))
  · cases h
theorem so161 : Sp1 161 sp161 := ⟨so161_, Proofs.Tryz.f161, _, by kernel_rfl, rfl, by kernel_rfl⟩
theorem fn110 (l : List Int) (hl : l.length ≤ 1000000) : Fn P1 gl1 110 [.one (.sl (.int .i64) l), .one (.fn 198 [] [])] (.val (.one (.frs (.int .i64) (l.map fun n => within n (-999999999) 999999999)))) true := by
  refine Fn.flat ?_ rfl
  refine fn_of false [(109, sp109)] [fb198] hMapTx 3 Proofs.Tryz.f110 ⟨so109, trivial⟩ ⟨⟨by kernel_rfl, by kernel_rfl, _, rfl, by kernel_rfl⟩, trivial⟩ (by kernel_rfl) rfl (by kernel_rfl) rfl rfl rfl ?_
  rw [vc110]
  try simp only [splitB_iff, -eq_self]
  refine ⟨⟨0, Nat.zero_le _, rfl, by trivial, by trivial, by simp⟩, fun g hg => ⟨fun hlt => ?_, fun hge => ?_⟩⟩
  · have hlt' : g < l.length := by simpa using hlt
    refine ⟨by omega, by simp only [room, List.length_map, List.length_take]; omega, by simp only [fits]; omega, g + 1, hlt', by omega, by simp, by trivial, by trivial, ?_, trivial⟩
    rw [getD_of hlt', List.take_succ_eq_append_getElem hlt', List.map_append]
    rfl
  · have hge' : ¬ g < l.length := by simpa using hge
    rw [List.take_of_length_le (by omega)]
    exact ⟨rfl, trivial⟩
theorem so110_ : SpecOk P1 gl1 110 sp110 := by
  intro vs ps r h hp
  simp only [sp110] at h
  split at h
  · cases h; exact fn110 _ (hp _ (.head _))
  · cases h
theorem so110 : Sp1 110 sp110 := ⟨so110_, Proofs.Tryz.f110, _, by kernel_rfl, rfl, by kernel_rfl⟩
theorem fn159 (L : List Ed) (hl : L.length ≤ 1000000000) : Fn P1 gl1 159 [.one (.sl edT L)] (.val (iV (chkText L))) true := by
  refine Fn.flat ?_ rfl
  refine fn_of false [(108, sp108), (197, sp197), (110, sp110), (106, sp106)] [] h159 0 Proofs.Tryz.f159 ⟨so108, so197, so110, so106, trivial⟩ trivial (by kernel_rfl) rfl (by kernel_rfl) rfl rfl rfl ?_
  rw [vc159]
  try simp only [splitB_iff, -eq_self]
  refine ⟨fun h => ?_, fun h => ⟨⟨0, ⟨Nat.zero_le _, rfl⟩, rfl, by trivial, by trivial, trivial⟩, fun g hg => ⟨fun hlt => ?_, fun hge => ?_⟩⟩⟩
  · exact ⟨(if_pos (by have := of_decide_eq_true h; omega)).symm, trivial⟩
  · have h16 : ¬ 16 < L.length := by have := of_decide_eq_false h; omega
    have hC : chkText L = upTo (fun i => chkTx (L.getD i e0)) L.length := if_neg h16
    have hlt' : g < L.length := by simpa using hlt
    refine ⟨by omega, fun h2 => ?_, fun h2 => ⟨by simp [numsE], by simp [numsE], fun h3 => ?_, fun h3 => ?_⟩⟩
    · have e : chkTx (L.getD g e0) = 8 := by unfold chkTx; rw [if_neg (by simpa using h2)]
      have := upTo_eq (f := fun i => chkTx (L.getD i e0)) hg.2 (by show chkTx _ ≠ 0; rw [e]; decide) hlt'
      rw [hC, this, e]; exact ⟨rfl, trivial⟩
    · have e : chkTx (L.getD g e0) = first ((numsE (L.getD g e0)).map fun n => within n (-999999999) 999999999) := by unfold chkTx; rw [if_pos (by simpa using h2)]
      have h3' : first ((numsE (L.getD g e0)).map fun n => within n (-999999999) 999999999) ≠ 0 := by simpa using h3
      have := upTo_eq (f := fun i => chkTx (L.getD i e0)) hg.2 (by show chkTx _ ≠ 0; rw [e]; exact h3') hlt'
      rw [hC, this, e]; exact ⟨rfl, trivial⟩
    · have e : chkTx (L.getD g e0) = first ((numsE (L.getD g e0)).map fun n => within n (-999999999) 999999999) := by unfold chkTx; rw [if_pos (by simpa using h2)]
      have h3' : first ((numsE (L.getD g e0)).map fun n => within n (-999999999) 999999999) = 0 := by simpa using h3
      exact ⟨by simp only [fits]; omega, g + 1, ⟨hlt', upTo_succ (f := fun i => chkTx (L.getD i e0)) hg.2 (e.trans h3')⟩, by omega, by simp, by trivial, by trivial, trivial⟩
  · have h16 : ¬ 16 < L.length := by have := of_decide_eq_false h; omega
    have hge' : ¬ g < L.length := by simpa using hge
    have hgl : g = L.length := by omega
    subst hgl
    exact ⟨((if_neg h16).trans hg.2).symm, trivial⟩
theorem so159_ : SpecOk P1 gl1 159 sp159 := by
  intro vs ps r h hp
  simp only [sp159] at h
  split at h
  · cases h; exact fn159 _ (hp _ (.head _))
  · cases h
theorem so159 : Sp1 159 sp159 := ⟨so159_, Proofs.Tryz.f159, _, by kernel_rfl, rfl, by kernel_rfl⟩
theorem fn90 (L : List Ed) (hl : L.length ≤ 1000000) (hn : ∀ x ∈ L, (∀ n ∈ numsE x, fits .i64 n) ∧ x.1.length ≤ 1000) : Fn P1 gl1 90 [.one (.sl edT L)] (.tup [sV (printN L), iV (chkText L)]) true := by
  refine Fn.flat ?_ rfl
  refine fn_of false [(159, sp159), (161, sp161), (160, sp160)] [] h0 0 Proofs.Tryz.f90 ⟨so159, so161, so160, trivial⟩ trivial (by kernel_rfl) rfl (by kernel_rfl) rfl rfl rfl ?_
  rw [vc90]
  try simp only [splitB_iff, -eq_self]
  refine ⟨by omega, fun h => ?_, fun h => ?_⟩
  · have h' : chkText L ≠ 0 := by simpa using h
    exact ⟨(if_neg h').symm, rfl, trivial⟩
  · have h' : chkText L = 0 := by simpa using h
    have h16 : L.length ≤ 16 := by
      apply Classical.byContradiction
      intro hn
      have : chkText L = 5 := if_pos (by omega)
      omega
    have hb : ∀ x ∈ L, (∀ n ∈ numsE x, fits .i64 n) ∧ x.1.length ≤ 1000000 := fun x hx => ⟨(hn x hx).1, by have := (hn x hx).2; omega⟩
    have hj := join_len 2000 (L.map lineE) (fun y hy => by
      obtain ⟨x, hx, rfl⟩ := List.mem_map.1 hy
      have h1 := line_len (hn x hx).1
      have h2 := (hn x hx).2
      unfold lineE
      rw [List.length_append]
      simp only [List.length_cons, List.length_nil]
      omega)
    rw [List.length_map] at hj
    exact ⟨hl, hb, by rw [List.length_map]; omega, by show (Lib.join (L.map lineE) []).length ≤ _; omega, (if_pos h').symm, h'.symm, trivial⟩
theorem so90_ : SpecOk P1 gl1 90 sp90 := by
  intro vs ps r h hp
  simp only [sp90] at h
  split at h
  · cases h; exact fn90 _ (hp _ (.head _)) (hp _ (.tail _ (.head _)))
  · cases h
theorem so90 : Sp1 90 sp90 := ⟨so90_, Proofs.Tryz.f90, _, by kernel_rfl, rfl, by kernel_rfl⟩
end Go.Sx

/- Plain functions and hints. -/
namespace Go.Sx.U
abbrev Nd := List UInt8 × Int × Int
def nd0 : Nd := ([], 0, 0)
end Go.Sx.U
namespace Go.Sx
open U
def hCopyP (u : Ty) (s : St) : Option LInv := match listAs s 6 u with
  | some xs => some ⟨Nat, fun i => ⟨[tI 8 i, (3, .val (.one (.own s.nx)))] ++ keepT [6, 7] s.tm, (s.nx, some (.row u (List.take i xs))) :: lessO s [3], s.nx + 1, s.lr⟩, fun i => i ≤ List.length xs, fun i => List.length xs - i⟩
  | _ => none
def hCopy (f : Nat) (u : Ty) : Hints := ⟨fun f' k s => match Nat.beq f' f, k with
  | true, 3 => hCopyP u s
  | _, _ => none, 0⟩
def hSame (f : Nat) (u : Ty) (d : u.T) : Hints := ⟨fun f' k s => match Nat.beq f' f, k with
  | true, 4 => match listAs s 0 u, listAs s 1 u with
    | some a, some b => hCt s [0, 1] 5 (List.length a) fun i => ∀ j, j < i → List.getD a j d = List.getD b j d
    | _, _ => none
  | _, _ => none, 0⟩
end Go.Sx
namespace Go.Sx
open U
def sp59 : FSpec := ⟨fun vs => match vs with
  | [.one (.sl (.int .i64) l)] => some ([List.length l ≤ 1000000], .val (.one (.frs (.int .i64) l)))
  | _ => none, true⟩
def sp28 : FSpec := ⟨fun vs => match vs with
  | [.one (.sl (.int .u8) l)] => some ([List.length l ≤ 1000000], .val (.one (.frs (.int .u8) l)))
  | _ => none, true⟩
def sp20 : FSpec := ⟨fun vs => match vs with
  | [.agg [.one (.str nm), .one (.int .i64 f), .one (.sl (.int .i64) l)]] => some ([List.length l ≤ 1000000], .val (rV nm f l))
  | _ => none, true⟩
def sp25 : FSpec := ⟨fun vs => match vs with
  | [.one (.sl (.pair .str (.pair (.int .i64) (.sl (.int .i64)))) R)] => some ([List.length R ≤ 1000000, ∀ r ∈ (show List Rl from R), List.length r.2.2 ≤ 1000000], .val (.one (.sl rlT R)))
  | _ => none, false⟩
def sp34 : FSpec := ⟨fun vs => match vs with
  | [.one (.sl (.pair .str (.pair (.int .i64) (.pair (.int .i64) (.pair (.int .i64) (.int .i64))))) L)] => some ([List.length L ≤ 1000000], .val (.one (.frs edT L)))
  | _ => none, true⟩
def sp57 : FSpec := ⟨fun vs => match vs with
  | [.one (.sl (.pair .str (.pair (.int .i64) (.pair (.int .i64) (.pair (.int .i64) (.int .i64))))) L)] => some ([List.length L ≤ 1000000], .val (.one (.frs edT L)))
  | _ => none, true⟩
def sp48 : FSpec := ⟨fun vs => match vs with
  | [.one (.sl (.pair .str (.pair (.int .i64) (.pair (.int .i64) (.int .i64)))) L)] => some ([List.length L ≤ 1000000], .val (.one (.frs tkT L)))
  | _ => none, true⟩
def sp74 : FSpec := ⟨fun vs => match vs with
  | [.one (.sl (.pair .str (.pair (.int .i64) (.int .i64))) L)] => some ([List.length L ≤ 1000000], .val (.one (.frs ndT L)))
  | _ => none, true⟩
def sp56 : FSpec := ⟨fun vs => match vs with
  | [.one (.sl (.pair .str (.pair (.int .i64) (.pair (.int .i64) (.pair (.int .i64) (.int .i64))))) a), .one (.sl (.pair .str (.pair (.int .i64) (.pair (.int .i64) (.pair (.int .i64) (.int .i64))))) b)] => some ([List.length a ≤ 1000000], .val (bV (decide ((show List Ed from a) = b))))
  | [.one (.sl (.pair .str (.pair (.int .i64) (.pair (.int .i64) (.pair (.int .i64) (.int .i64))))) a), .one .nils] => some ([List.length a ≤ 1000000], .val (bV (decide ((show List Ed from a) = []))))
  | _ => none, true⟩
def sp47 : FSpec := ⟨fun vs => match vs with
  | [.one (.sl (.pair .str (.pair (.int .i64) (.pair (.int .i64) (.int .i64)))) a), .one (.sl (.pair .str (.pair (.int .i64) (.pair (.int .i64) (.int .i64)))) b)] => some ([List.length a ≤ 1000000], .val (bV (decide ((show List Tk from a) = b))))
  | [.one (.sl (.pair .str (.pair (.int .i64) (.pair (.int .i64) (.int .i64)))) a), .one .nils] => some ([List.length a ≤ 1000000], .val (bV (decide ((show List Tk from a) = []))))
  | _ => none, true⟩
def sp73 : FSpec := ⟨fun vs => match vs with
  | [.one (.sl (.pair .str (.pair (.int .i64) (.int .i64))) a), .one (.sl (.pair .str (.pair (.int .i64) (.int .i64))) b)] => some ([List.length a ≤ 1000000], .val (bV (decide ((show List Nd from a) = b))))
  | [.one (.sl (.pair .str (.pair (.int .i64) (.int .i64))) a), .one .nils] => some ([List.length a ≤ 1000000], .val (bV (decide ((show List Nd from a) = []))))
  | _ => none, true⟩
def sp32 : FSpec := ⟨fun vs => match vs with
  | [.agg [.one (.str n1), .one (.int .i64 f1), .one (.sl (.int .i64) l1)], .agg [.one (.str n2), .one (.int .i64 f2), .one (.sl (.int .i64) l2)]] => some ([List.length l1 ≤ 1000000], .val (bV (decide ((n1, f1, l1) = (n2, f2, l2)))))
  | _ => none, true⟩
end Go.Sx

/- What the engine asks, written out (printed by a program). -/
namespace Go.Sx
open U
theorem vc59 (l : List Int) : exF (env false [] []) h0 0 59 Proofs.Tryz.f59 [.one (.sl (.int .i64) l)] (.val (.one (.frs (.int .i64) l))) = (room ((0 : Nat) + List.length l) (8 : Nat) ∧ l = l ∧ True) := by
  kernel_rfl
theorem vc28 (l : List Int) : exF (env false [] []) h0 0 28 Proofs.Tryz.f28 [.one (.sl (.int .u8) l)] (.val (.one (.frs (.int .u8) l))) = (room ((0 : Nat) + List.length l) (1 : Nat) ∧ l = l ∧ True) := by
  kernel_rfl
theorem vc20 (nm : List UInt8) (f : Int) (l : List Int) : exFr (env false [(59, sp59)] []) h0 0 20 Proofs.Tryz.f20 [rV nm f l] (.val (rV nm f l)) = (List.length l ≤ (1000000 : Nat) ∧ nm = nm ∧ f = f ∧ l = l ∧ True) := by
  kernel_rfl
theorem vc25 (R : List Rl) : exF (env false [(20, sp20)] []) (hCopy 25 rlT) 0 25 Proofs.Tryz.f25 [.one (.sl rlT R)] (.val (.one (.sl rlT R))) = (let q0 := (↑(List.length R) : Int); (∃ (g : Nat), Nat.le g (List.length R) ∧ (0 : Int) = (↑g : Int) ∧ q0 = q0 ∧ R = R ∧ List.take g R = [] ∧ True) ∧ ∀ (g : Nat), let q1 := (List.getD R g r0); Nat.le g (List.length R) → splitB (decide ((↑g : Int) < q0)) (((0 : Int) ≤ (↑g : Int) ∧ (↑g : Int) < q0) ∧ List.length q1.2.2 ≤ (1000000 : Nat) ∧ room (List.length (List.take g R) + (1 : Nat)) (48 : Nat) ∧ fits IntKind.i64 ((↑g : Int) + (1 : Int)) ∧ ∃ (g' : Nat), Nat.le g' (List.length R) ∧ List.length R - g' < List.length R - g ∧ (↑g : Int) + (1 : Int) = (↑g' : Int) ∧ q0 = q0 ∧ R = R ∧ List.take g R ++ [(q1.1, q1.2.1, q1.2.2)] = List.take g' R ∧ True) (List.take g R = R ∧ True)) := by
  kernel_rfl
theorem vc34 (L : List Ed) : exF (env false [] []) (hCopy 34 edT) 0 34 Proofs.Tryz.f34 [.one (.sl edT L)] (.val (.one (.frs edT L))) = (let q0 := (↑(List.length L) : Int); (∃ (g : Nat), Nat.le g (List.length L) ∧ (0 : Int) = (↑g : Int) ∧ q0 = q0 ∧ L = L ∧ List.take g L = [] ∧ True) ∧ ∀ (g : Nat), let q1 := (List.getD L g e0); Nat.le g (List.length L) → splitB (decide ((↑g : Int) < q0)) (((0 : Int) ≤ (↑g : Int) ∧ (↑g : Int) < q0) ∧ room (List.length (List.take g L) + (1 : Nat)) (48 : Nat) ∧ fits IntKind.i64 ((↑g : Int) + (1 : Int)) ∧ ∃ (g' : Nat), Nat.le g' (List.length L) ∧ List.length L - g' < List.length L - g ∧ (↑g : Int) + (1 : Int) = (↑g' : Int) ∧ q0 = q0 ∧ L = L ∧ List.take g L ++ [(q1.1, q1.2.1, q1.2.2.1, q1.2.2.2.1, q1.2.2.2.2)] = List.take g' L ∧ True) (List.take g L = L ∧ True)) := by
  kernel_rfl
theorem vc57 (L : List Ed) : exF (env false [] []) (hCopy 57 edT) 0 57 Proofs.Tryz.f57 [.one (.sl edT L)] (.val (.one (.frs edT L))) = (let q0 := (↑(List.length L) : Int); (∃ (g : Nat), Nat.le g (List.length L) ∧ (0 : Int) = (↑g : Int) ∧ q0 = q0 ∧ L = L ∧ List.take g L = [] ∧ True) ∧ ∀ (g : Nat), let q1 := (List.getD L g e0); Nat.le g (List.length L) → splitB (decide ((↑g : Int) < q0)) (((0 : Int) ≤ (↑g : Int) ∧ (↑g : Int) < q0) ∧ room (List.length (List.take g L) + (1 : Nat)) (48 : Nat) ∧ fits IntKind.i64 ((↑g : Int) + (1 : Int)) ∧ ∃ (g' : Nat), Nat.le g' (List.length L) ∧ List.length L - g' < List.length L - g ∧ (↑g : Int) + (1 : Int) = (↑g' : Int) ∧ q0 = q0 ∧ L = L ∧ List.take g L ++ [(q1.1, q1.2.1, q1.2.2.1, q1.2.2.2.1, q1.2.2.2.2)] = List.take g' L ∧ True) (List.take g L = L ∧ True)) := by
  kernel_rfl
theorem vc48 (L : List Tk) : exF (env false [] []) (hCopy 48 tkT) 0 48 Proofs.Tryz.f48 [.one (.sl tkT L)] (.val (.one (.frs tkT L))) = (let q0 := (↑(List.length L) : Int); (∃ (g : Nat), Nat.le g (List.length L) ∧ (0 : Int) = (↑g : Int) ∧ q0 = q0 ∧ L = L ∧ List.take g L = [] ∧ True) ∧ ∀ (g : Nat), let q1 := (List.getD L g tk0); Nat.le g (List.length L) → splitB (decide ((↑g : Int) < q0)) (((0 : Int) ≤ (↑g : Int) ∧ (↑g : Int) < q0) ∧ room (List.length (List.take g L) + (1 : Nat)) (40 : Nat) ∧ fits IntKind.i64 ((↑g : Int) + (1 : Int)) ∧ ∃ (g' : Nat), Nat.le g' (List.length L) ∧ List.length L - g' < List.length L - g ∧ (↑g : Int) + (1 : Int) = (↑g' : Int) ∧ q0 = q0 ∧ L = L ∧ List.take g L ++ [(q1.1, q1.2.1, q1.2.2.1, q1.2.2.2)] = List.take g' L ∧ True) (List.take g L = L ∧ True)) := by
  kernel_rfl
theorem vc74 (L : List Nd) : exF (env false [] []) (hCopy 74 ndT) 0 74 Proofs.Tryz.f74 [.one (.sl ndT L)] (.val (.one (.frs ndT L))) = (let q0 := (↑(List.length L) : Int); (∃ (g : Nat), Nat.le g (List.length L) ∧ (0 : Int) = (↑g : Int) ∧ q0 = q0 ∧ L = L ∧ List.take g L = [] ∧ True) ∧ ∀ (g : Nat), let q1 := (List.getD L g ([], (0 : Int), (0 : Int))); Nat.le g (List.length L) → splitB (decide ((↑g : Int) < q0)) (((0 : Int) ≤ (↑g : Int) ∧ (↑g : Int) < q0) ∧ room (List.length (List.take g L) + (1 : Nat)) (32 : Nat) ∧ fits IntKind.i64 ((↑g : Int) + (1 : Int)) ∧ ∃ (g' : Nat), Nat.le g' (List.length L) ∧ List.length L - g' < List.length L - g ∧ (↑g : Int) + (1 : Int) = (↑g' : Int) ∧ q0 = q0 ∧ L = L ∧ List.take g L ++ [(q1.1, q1.2.1, q1.2.2)] = List.take g' L ∧ True) (List.take g L = L ∧ True)) := by
  kernel_rfl
theorem vc56 (a b : List Ed) : exF (env false [] []) (hSame 56 edT e0) 0 56 Proofs.Tryz.f56 [.one (.sl edT a), .one (.sl edT b)] (.val (bV (decide (a = b)))) = (let q2 := (Ty.int IntKind.i64); splitB ((↑(List.length a) : Int) != (↑(List.length b) : Int)) (false = decide (a = b) ∧ True) ((∃ (g : Nat), (g ≤ List.length a ∧ ∀ (j : Nat), j < g → List.getD a j e0 = List.getD b j e0) ∧ (0 : Int) = (↑g : Int) ∧ a = a ∧ b = b ∧ True) ∧ ∀ (g : Nat), let q0 := (List.getD a g e0); let q1 := (List.getD b g e0); (g ≤ List.length a ∧ ∀ (j : Nat), j < g → List.getD a j e0 = List.getD b j e0) → splitB (decide ((↑g : Int) < (↑(List.length a) : Int))) (((0 : Int) ≤ (↑g : Int) ∧ (↑g : Int) < (↑(List.length a) : Int)) ∧ ((0 : Int) ≤ (↑g : Int) ∧ (↑g : Int) < (↑(List.length b) : Int)) ∧ splitB (!eqT (Ty.pair Ty.str (Ty.pair q2 (Ty.pair q2 (Ty.pair q2 q2)))) (q0.1, q0.2.1, q0.2.2.1, q0.2.2.2.1, q0.2.2.2.2) (q1.1, q1.2.1, q1.2.2.1, q1.2.2.2.1, q1.2.2.2.2)) (false = decide (a = b) ∧ True) (fits IntKind.i64 ((↑g : Int) + (1 : Int)) ∧ ∃ (g' : Nat), (g' ≤ List.length a ∧ ∀ (j : Nat), j < g' → List.getD a j e0 = List.getD b j e0) ∧ List.length a - g' < List.length a - g ∧ (↑g : Int) + (1 : Int) = (↑g' : Int) ∧ a = a ∧ b = b ∧ True)) (true = decide (a = b) ∧ True))) := by
  kernel_rfl
theorem vc47 (a b : List Tk) : exF (env false [] []) (hSame 47 tkT tk0) 0 47 Proofs.Tryz.f47 [.one (.sl tkT a), .one (.sl tkT b)] (.val (bV (decide (a = b)))) = (splitB ((↑(List.length a) : Int) != (↑(List.length b) : Int)) (false = decide (a = b) ∧ True) ((∃ (g : Nat), (g ≤ List.length a ∧ ∀ (j : Nat), j < g → List.getD a j tk0 = List.getD b j tk0) ∧ (0 : Int) = (↑g : Int) ∧ a = a ∧ b = b ∧ True) ∧ ∀ (g : Nat), let q0 := (List.getD a g tk0); let q1 := (List.getD b g tk0); (g ≤ List.length a ∧ ∀ (j : Nat), j < g → List.getD a j tk0 = List.getD b j tk0) → splitB (decide ((↑g : Int) < (↑(List.length a) : Int))) (((0 : Int) ≤ (↑g : Int) ∧ (↑g : Int) < (↑(List.length a) : Int)) ∧ ((0 : Int) ≤ (↑g : Int) ∧ (↑g : Int) < (↑(List.length b) : Int)) ∧ splitB (!eqT (Ty.pair Ty.str (Ty.pair (Ty.int IntKind.i64) (Ty.pair (Ty.int IntKind.i64) (Ty.int IntKind.i64)))) (q0.1, q0.2.1, q0.2.2.1, q0.2.2.2) (q1.1, q1.2.1, q1.2.2.1, q1.2.2.2)) (false = decide (a = b) ∧ True) (fits IntKind.i64 ((↑g : Int) + (1 : Int)) ∧ ∃ (g' : Nat), (g' ≤ List.length a ∧ ∀ (j : Nat), j < g' → List.getD a j tk0 = List.getD b j tk0) ∧ List.length a - g' < List.length a - g ∧ (↑g : Int) + (1 : Int) = (↑g' : Int) ∧ a = a ∧ b = b ∧ True)) (true = decide (a = b) ∧ True))) := by
  kernel_rfl
theorem vc73 (a b : List Nd) : exF (env false [] []) (hSame 73 ndT nd0) 0 73 Proofs.Tryz.f73 [.one (.sl ndT a), .one (.sl ndT b)] (.val (bV (decide (a = b)))) = (let q0 := ([], (0 : Int), (0 : Int)); splitB ((↑(List.length a) : Int) != (↑(List.length b) : Int)) (false = decide (a = b) ∧ True) ((∃ (g : Nat), (g ≤ List.length a ∧ ∀ (j : Nat), j < g → List.getD a j nd0 = List.getD b j nd0) ∧ (0 : Int) = (↑g : Int) ∧ a = a ∧ b = b ∧ True) ∧ ∀ (g : Nat), (g ≤ List.length a ∧ ∀ (j : Nat), j < g → List.getD a j nd0 = List.getD b j nd0) → splitB (decide ((↑g : Int) < (↑(List.length a) : Int))) (((0 : Int) ≤ (↑g : Int) ∧ (↑g : Int) < (↑(List.length a) : Int)) ∧ ((0 : Int) ≤ (↑g : Int) ∧ (↑g : Int) < (↑(List.length b) : Int)) ∧ splitB (!eqT (Ty.pair Ty.str (Ty.pair (Ty.int IntKind.i64) (Ty.int IntKind.i64))) ((List.getD a g q0).1, (List.getD a g q0).2.1, (List.getD a g q0).2.2) ((List.getD b g q0).1, (List.getD b g q0).2.1, (List.getD b g q0).2.2)) (false = decide (a = b) ∧ True) (fits IntKind.i64 ((↑g : Int) + (1 : Int)) ∧ ∃ (g' : Nat), (g' ≤ List.length a ∧ ∀ (j : Nat), j < g' → List.getD a j nd0 = List.getD b j nd0) ∧ List.length a - g' < List.length a - g ∧ (↑g : Int) + (1 : Int) = (↑g' : Int) ∧ a = a ∧ b = b ∧ True)) (true = decide (a = b) ∧ True))) := by
  kernel_rfl
theorem vc32 (n1 : List UInt8) (f1 : Int) (l1 : List Int) (n2 : List UInt8) (f2 : Int) (l2 : List Int) : exF (env false [(44, sp44)] []) h0 0 32 Proofs.Tryz.f32 [rV n1 f1 l1, rV n2 f2 l2] (.val (bV (decide ((n1, f1, l1) = (n2, f2, l2))))) = (((bif n1 == n2 then f1 == f2 else false) = true → List.length l1 ≤ (1000000000 : Nat)) ∧ (bif bif n1 == n2 then f1 == f2 else false then decide (l1 = l2) else false) = decide ((n1, f1, l1) = (n2, f2, l2)) ∧ True) := by
  kernel_rfl
end Go.Sx

/- Contracts. -/
namespace Go.Sx
open U
theorem copied {α : Type} {xs : List α} {g : Nat} {d : α} (h : g < xs.length) : xs.take g ++ [xs.getD g d] = xs.take (g + 1) := by
  rw [List.take_succ_eq_append_getElem h, getD_of h]
theorem same_len {α : Type} (a b : List α) : ((a.length : Int) != (b.length : Int)) = !decide (a.length = b.length) := by
  by_cases h : a.length = b.length
  · simp [h]
  · have : ¬ (a.length : Int) = (b.length : Int) := by omega
    simp [h]
    exact this
theorem same_all {α : Type} (d : α) {a b : List α} (h : a.length = b.length) (hj : ∀ j, j < a.length → a.getD j d = b.getD j d) : a = b :=
  List.ext_getElem h fun i h1 h2 => by
    have := hj i h1
    rwa [getD_of h1, getD_of h2] at this
theorem fn59 (l : List Int) (hl : l.length ≤ 1000000) : Fn P1 gl1 59 [.one (.sl (.int .i64) l)] (.val (.one (.frs (.int .i64) l))) true := by
  refine Fn.flat ?_ rfl
  refine fn_of false [] [] h0 0 Proofs.Tryz.f59 trivial trivial (by kernel_rfl) rfl (by kernel_rfl) rfl rfl rfl ?_
  rw [vc59]
  try simp only [splitB_iff, -eq_self]
  exact ⟨by simp only [room]; omega, by trivial, trivial⟩
theorem so59_ : SpecOk P1 gl1 59 sp59 := by
  intro vs ps r h hp
  simp only [sp59] at h
  split at h
  · cases h; exact fn59 _ (hp _ (.head _))
  · cases h
theorem so59 : Sp1 59 sp59 := ⟨so59_, Proofs.Tryz.f59, _, by kernel_rfl, rfl, by kernel_rfl⟩
theorem fn28 (l : List Int) (hl : l.length ≤ 1000000) : Fn P1 gl1 28 [.one (.sl (.int .u8) l)] (.val (.one (.frs (.int .u8) l))) true := by
  refine Fn.flat ?_ rfl
  refine fn_of false [] [] h0 0 Proofs.Tryz.f28 trivial trivial (by kernel_rfl) rfl (by kernel_rfl) rfl rfl rfl ?_
  rw [vc28]
  try simp only [splitB_iff, -eq_self]
  exact ⟨by simp only [room]; omega, by trivial, trivial⟩
theorem so28_ : SpecOk P1 gl1 28 sp28 := by
  intro vs ps r h hp
  simp only [sp28] at h
  split at h
  · cases h; exact fn28 _ (hp _ (.head _))
  · cases h
theorem so28 : Sp1 28 sp28 := ⟨so28_, Proofs.Tryz.f28, _, by kernel_rfl, rfl, by kernel_rfl⟩
theorem fn20 (nm : List UInt8) (f : Int) (l : List Int) (hl : l.length ≤ 1000000) : Fn P1 gl1 20 [rV nm f l] (.val (rV nm f l)) true := by
  refine fn_ofr false [(59, sp59)] [] h0 0 Proofs.Tryz.f20 ⟨so59, trivial⟩ trivial (by kernel_rfl) rfl (by kernel_rfl) rfl rfl rfl ?_
  rw [vc20]
  try simp only [splitB_iff, -eq_self]
  exact ⟨hl, by trivial, by trivial, by trivial, trivial⟩
theorem so20_ : SpecOk P1 gl1 20 sp20 := by
  intro vs ps r h hp
  simp only [sp20] at h
  split at h
  · cases h; exact fn20 _ _ _ (hp _ (.head _))
  · cases h
theorem so20 : Sp1 20 sp20 := ⟨so20_, Proofs.Tryz.f20, _, by kernel_rfl, rfl, by kernel_rfl⟩
theorem fn25 (R : List Rl) (hl : R.length ≤ 1000000) (hR : ∀ r ∈ R, r.2.2.length ≤ 1000000) : Fn P1 gl1 25 [.one (.sl rlT R)] (.val (.one (.sl rlT R))) false := by
  refine fn_of false [(20, sp20)] [] (hCopy 25 rlT) 0 Proofs.Tryz.f25 ⟨so20, trivial⟩ trivial (by kernel_rfl) rfl (by kernel_rfl) rfl rfl rfl ?_
  rw [vc25]
  try simp only [splitB_iff, -eq_self]
  refine ⟨⟨0, Nat.zero_le _, rfl, by trivial, by trivial, by simp⟩, fun g hg => ⟨fun hlt => ?_, fun hge => ?_⟩⟩
  · have hlt' : g < R.length := by simpa using hlt
    exact ⟨by omega, hR _ (getD_mem (d := r0) hlt'), by simp only [room, List.length_take]; omega, by simp only [fits]; omega, g + 1, hlt', by omega, by simp, by trivial, by trivial, copied hlt', trivial⟩
  · have hge' : ¬ g < R.length := by simpa using hge
    exact ⟨List.take_of_length_le (by omega), trivial⟩
theorem so25_ : SpecOk P1 gl1 25 sp25 := by
  intro vs ps r h hp
  simp only [sp25] at h
  split at h
  · cases h; exact fn25 _ (hp _ (.head _)) (hp _ (.tail _ (.head _)))
  · cases h
theorem so25 : Sp1 25 sp25 := ⟨so25_, Proofs.Tryz.f25, _, by kernel_rfl, rfl, by kernel_rfl⟩
theorem fn34 (L : List Ed) (hl : L.length ≤ 1000000) : Fn P1 gl1 34 [.one (.sl edT L)] (.val (.one (.frs edT L))) true := by
  refine Fn.flat ?_ rfl
  refine fn_of false [] [] (hCopy 34 edT) 0 Proofs.Tryz.f34 trivial trivial (by kernel_rfl) rfl (by kernel_rfl) rfl rfl rfl ?_
  rw [vc34]
  try simp only [splitB_iff, -eq_self]
  refine ⟨⟨0, Nat.zero_le _, rfl, by trivial, by trivial, by simp⟩, fun g hg => ⟨fun hlt => ?_, fun hge => ?_⟩⟩
  · have hlt' : g < L.length := by simpa using hlt
    exact ⟨by omega, by simp only [room, List.length_take]; omega, by simp only [fits]; omega, g + 1, hlt', by omega, by simp, by trivial, by trivial, copied hlt', trivial⟩
  · have hge' : ¬ g < L.length := by simpa using hge
    exact ⟨List.take_of_length_le (by omega), trivial⟩
theorem so34_ : SpecOk P1 gl1 34 sp34 := by
  intro vs ps r h hp
  simp only [sp34] at h
  split at h
  · cases h; exact fn34 _ (hp _ (.head _))
  · cases h
theorem so34 : Sp1 34 sp34 := ⟨so34_, Proofs.Tryz.f34, _, by kernel_rfl, rfl, by kernel_rfl⟩
theorem fn57 (L : List Ed) (hl : L.length ≤ 1000000) : Fn P1 gl1 57 [.one (.sl edT L)] (.val (.one (.frs edT L))) true := by
  refine Fn.flat ?_ rfl
  refine fn_of false [] [] (hCopy 57 edT) 0 Proofs.Tryz.f57 trivial trivial (by kernel_rfl) rfl (by kernel_rfl) rfl rfl rfl ?_
  rw [vc57]
  try simp only [splitB_iff, -eq_self]
  refine ⟨⟨0, Nat.zero_le _, rfl, by trivial, by trivial, by simp⟩, fun g hg => ⟨fun hlt => ?_, fun hge => ?_⟩⟩
  · have hlt' : g < L.length := by simpa using hlt
    exact ⟨by omega, by simp only [room, List.length_take]; omega, by simp only [fits]; omega, g + 1, hlt', by omega, by simp, by trivial, by trivial, copied hlt', trivial⟩
  · have hge' : ¬ g < L.length := by simpa using hge
    exact ⟨List.take_of_length_le (by omega), trivial⟩
theorem so57_ : SpecOk P1 gl1 57 sp57 := by
  intro vs ps r h hp
  simp only [sp57] at h
  split at h
  · cases h; exact fn57 _ (hp _ (.head _))
  · cases h
theorem so57 : Sp1 57 sp57 := ⟨so57_, Proofs.Tryz.f57, _, by kernel_rfl, rfl, by kernel_rfl⟩
theorem fn48 (L : List Tk) (hl : L.length ≤ 1000000) : Fn P1 gl1 48 [.one (.sl tkT L)] (.val (.one (.frs tkT L))) true := by
  refine Fn.flat ?_ rfl
  refine fn_of false [] [] (hCopy 48 tkT) 0 Proofs.Tryz.f48 trivial trivial (by kernel_rfl) rfl (by kernel_rfl) rfl rfl rfl ?_
  rw [vc48]
  try simp only [splitB_iff, -eq_self]
  refine ⟨⟨0, Nat.zero_le _, rfl, by trivial, by trivial, by simp⟩, fun g hg => ⟨fun hlt => ?_, fun hge => ?_⟩⟩
  · have hlt' : g < L.length := by simpa using hlt
    exact ⟨by omega, by simp only [room, List.length_take]; omega, by simp only [fits]; omega, g + 1, hlt', by omega, by simp, by trivial, by trivial, copied hlt', trivial⟩
  · have hge' : ¬ g < L.length := by simpa using hge
    exact ⟨List.take_of_length_le (by omega), trivial⟩
theorem so48_ : SpecOk P1 gl1 48 sp48 := by
  intro vs ps r h hp
  simp only [sp48] at h
  split at h
  · cases h; exact fn48 _ (hp _ (.head _))
  · cases h
theorem so48 : Sp1 48 sp48 := ⟨so48_, Proofs.Tryz.f48, _, by kernel_rfl, rfl, by kernel_rfl⟩
theorem fn74 (L : List Nd) (hl : L.length ≤ 1000000) : Fn P1 gl1 74 [.one (.sl ndT L)] (.val (.one (.frs ndT L))) true := by
  refine Fn.flat ?_ rfl
  refine fn_of false [] [] (hCopy 74 ndT) 0 Proofs.Tryz.f74 trivial trivial (by kernel_rfl) rfl (by kernel_rfl) rfl rfl rfl ?_
  rw [vc74]
  try simp only [splitB_iff, -eq_self]
  refine ⟨⟨0, Nat.zero_le _, rfl, by trivial, by trivial, by simp⟩, fun g hg => ⟨fun hlt => ?_, fun hge => ?_⟩⟩
  · have hlt' : g < L.length := by simpa using hlt
    exact ⟨by omega, by simp only [room, List.length_take]; omega, by simp only [fits]; omega, g + 1, hlt', by omega, by simp, by trivial, by trivial, copied hlt', trivial⟩
  · have hge' : ¬ g < L.length := by simpa using hge
    exact ⟨List.take_of_length_le (by omega), trivial⟩
theorem so74_ : SpecOk P1 gl1 74 sp74 := by
  intro vs ps r h hp
  simp only [sp74] at h
  split at h
  · cases h; exact fn74 _ (hp _ (.head _))
  · cases h
theorem so74 : Sp1 74 sp74 := ⟨so74_, Proofs.Tryz.f74, _, by kernel_rfl, rfl, by kernel_rfl⟩
theorem fn56 (a b : List Ed) (hl : a.length ≤ 1000000) : Fn P1 gl1 56 [.one (.sl edT a), .one (.sl edT b)] (.val (bV (decide (a = b)))) true := by
  refine Fn.flat ?_ rfl
  refine fn_of false [] [] (hSame 56 edT e0) 0 Proofs.Tryz.f56 trivial trivial (by kernel_rfl) rfl (by kernel_rfl) rfl rfl rfl ?_
  rw [vc56]
  try simp only [splitB_iff, -eq_self]
  have heq : ∀ x y : Ed, eqT edT x y = true ↔ x = y := fun x y => by simp [eqT, Prod.ext_iff]
  simp only [same_len]
  refine ⟨fun h => ⟨(decide_eq_false fun e => ?_).symm, trivial⟩, fun h => ?_⟩
  · rw [e] at h; simp at h
  · have h' : a.length = b.length := by simpa using h
    refine ⟨⟨0, ⟨Nat.zero_le _, fun j hj => absurd hj (Nat.not_lt_zero _)⟩, rfl, by trivial, by trivial, trivial⟩, fun g hg => ⟨fun hlt => ?_, fun hge => ?_⟩⟩
    · have hlt' : g < a.length := by have := of_decide_eq_true hlt; omega
      refine ⟨by omega, by omega, fun hne => ⟨(decide_eq_false fun e => ?_).symm, trivial⟩, fun hq => ⟨by simp only [fits]; omega, g + 1, ⟨hlt', fun j hj => ?_⟩, by omega, by omega, by trivial, by trivial, trivial⟩⟩
      · subst e
        have hne' : (!eqT edT (a.getD g e0) (a.getD g e0)) = true := hne
        rw [(heq _ _).2 rfl] at hne'
        cases hne'
      · by_cases ej : j = g
        · subst ej
          have hq' : (!eqT edT (a.getD j e0) (b.getD j e0)) = false := hq
          exact (heq _ _).1 (by simpa using hq')
        · exact hg.2 j (by omega)
    · exact ⟨(decide_eq_true (same_all e0 h' fun j hj => hg.2 j (by have := of_decide_eq_false hge; omega))).symm, trivial⟩
theorem so56_ : SpecOk P1 gl1 56 sp56 := by
  intro vs ps r h hp
  simp only [sp56] at h
  split at h
  · cases h; exact fn56 _ _ (hp _ (.head _))
  · cases h; exact Fn.args (fn56 _ [] (hp _ (.head _))) fun H vs d => by
      obtain ⟨v0, r0, rfl, h0, v1, r1, rfl, h1, hz⟩ := d
      exact ⟨_, _, rfl, h0, _, _, rfl, nil_sl h1, hz⟩
  · cases h
theorem so56 : Sp1 56 sp56 := ⟨so56_, Proofs.Tryz.f56, _, by kernel_rfl, rfl, by kernel_rfl⟩
theorem fn47 (a b : List Tk) (hl : a.length ≤ 1000000) : Fn P1 gl1 47 [.one (.sl tkT a), .one (.sl tkT b)] (.val (bV (decide (a = b)))) true := by
  refine Fn.flat ?_ rfl
  refine fn_of false [] [] (hSame 47 tkT tk0) 0 Proofs.Tryz.f47 trivial trivial (by kernel_rfl) rfl (by kernel_rfl) rfl rfl rfl ?_
  rw [vc47]
  try simp only [splitB_iff, -eq_self]
  have heq : ∀ x y : Tk, eqT tkT x y = true ↔ x = y := fun x y => by simp [eqT, Prod.ext_iff]
  simp only [same_len]
  refine ⟨fun h => ⟨(decide_eq_false fun e => ?_).symm, trivial⟩, fun h => ?_⟩
  · rw [e] at h; simp at h
  · have h' : a.length = b.length := by simpa using h
    refine ⟨⟨0, ⟨Nat.zero_le _, fun j hj => absurd hj (Nat.not_lt_zero _)⟩, rfl, by trivial, by trivial, trivial⟩, fun g hg => ⟨fun hlt => ?_, fun hge => ?_⟩⟩
    · have hlt' : g < a.length := by have := of_decide_eq_true hlt; omega
      refine ⟨by omega, by omega, fun hne => ⟨(decide_eq_false fun e => ?_).symm, trivial⟩, fun hq => ⟨by simp only [fits]; omega, g + 1, ⟨hlt', fun j hj => ?_⟩, by omega, by omega, by trivial, by trivial, trivial⟩⟩
      · subst e
        have hne' : (!eqT tkT (a.getD g tk0) (a.getD g tk0)) = true := hne
        rw [(heq _ _).2 rfl] at hne'
        cases hne'
      · by_cases ej : j = g
        · subst ej
          have hq' : (!eqT tkT (a.getD j tk0) (b.getD j tk0)) = false := hq
          exact (heq _ _).1 (by simpa using hq')
        · exact hg.2 j (by omega)
    · exact ⟨(decide_eq_true (same_all tk0 h' fun j hj => hg.2 j (by have := of_decide_eq_false hge; omega))).symm, trivial⟩
theorem so47_ : SpecOk P1 gl1 47 sp47 := by
  intro vs ps r h hp
  simp only [sp47] at h
  split at h
  · cases h; exact fn47 _ _ (hp _ (.head _))
  · cases h; exact Fn.args (fn47 _ [] (hp _ (.head _))) fun H vs d => by
      obtain ⟨v0, r0, rfl, h0, v1, r1, rfl, h1, hz⟩ := d
      exact ⟨_, _, rfl, h0, _, _, rfl, nil_sl h1, hz⟩
  · cases h
theorem so47 : Sp1 47 sp47 := ⟨so47_, Proofs.Tryz.f47, _, by kernel_rfl, rfl, by kernel_rfl⟩
theorem fn73 (a b : List Nd) (hl : a.length ≤ 1000000) : Fn P1 gl1 73 [.one (.sl ndT a), .one (.sl ndT b)] (.val (bV (decide (a = b)))) true := by
  refine Fn.flat ?_ rfl
  refine fn_of false [] [] (hSame 73 ndT nd0) 0 Proofs.Tryz.f73 trivial trivial (by kernel_rfl) rfl (by kernel_rfl) rfl rfl rfl ?_
  rw [vc73]
  try simp only [splitB_iff, -eq_self]
  have heq : ∀ x y : Nd, eqT ndT x y = true ↔ x = y := fun x y => by simp [eqT, Prod.ext_iff]
  simp only [same_len]
  refine ⟨fun h => ⟨(decide_eq_false fun e => ?_).symm, trivial⟩, fun h => ?_⟩
  · rw [e] at h; simp at h
  · have h' : a.length = b.length := by simpa using h
    refine ⟨⟨0, ⟨Nat.zero_le _, fun j hj => absurd hj (Nat.not_lt_zero _)⟩, rfl, by trivial, by trivial, trivial⟩, fun g hg => ⟨fun hlt => ?_, fun hge => ?_⟩⟩
    · have hlt' : g < a.length := by have := of_decide_eq_true hlt; omega
      refine ⟨by omega, by omega, fun hne => ⟨(decide_eq_false fun e => ?_).symm, trivial⟩, fun hq => ⟨by simp only [fits]; omega, g + 1, ⟨hlt', fun j hj => ?_⟩, by omega, by omega, by trivial, by trivial, trivial⟩⟩
      · subst e
        have hne' : (!eqT ndT (a.getD g nd0) (a.getD g nd0)) = true := hne
        rw [(heq _ _).2 rfl] at hne'
        cases hne'
      · by_cases ej : j = g
        · subst ej
          have hq' : (!eqT ndT (a.getD j nd0) (b.getD j nd0)) = false := hq
          exact (heq _ _).1 (by simpa using hq')
        · exact hg.2 j (by omega)
    · exact ⟨(decide_eq_true (same_all nd0 h' fun j hj => hg.2 j (by have := of_decide_eq_false hge; omega))).symm, trivial⟩
theorem so73_ : SpecOk P1 gl1 73 sp73 := by
  intro vs ps r h hp
  simp only [sp73] at h
  split at h
  · cases h; exact fn73 _ _ (hp _ (.head _))
  · cases h; exact Fn.args (fn73 _ [] (hp _ (.head _))) fun H vs d => by
      obtain ⟨v0, r0, rfl, h0, v1, r1, rfl, h1, hz⟩ := d
      exact ⟨_, _, rfl, h0, _, _, rfl, nil_sl h1, hz⟩
  · cases h
theorem so73 : Sp1 73 sp73 := ⟨so73_, Proofs.Tryz.f73, _, by kernel_rfl, rfl, by kernel_rfl⟩
theorem fn32 (n1 : List UInt8) (f1 : Int) (l1 : List Int) (n2 : List UInt8) (f2 : Int) (l2 : List Int) (hl : l1.length ≤ 1000000) : Fn P1 gl1 32 [rV n1 f1 l1, rV n2 f2 l2] (.val (bV (decide ((n1, f1, l1) = (n2, f2, l2))))) true := by
  refine Fn.flat ?_ rfl
  refine fn_of false [(44, sp44)] [] h0 0 Proofs.Tryz.f32 ⟨so44, trivial⟩ trivial (by kernel_rfl) rfl (by kernel_rfl) rfl rfl rfl ?_
  rw [vc32]
  try simp only [splitB_iff, -eq_self]
  refine ⟨fun _ => by omega, ?_, trivial⟩
  rw [Bool.eq_iff_iff]
  simp only [bcond_r, Bool.and_eq_true, decide_eq_true_eq, beq_iff_eq, Prod.mk.injEq]
  exact and_assoc
theorem so32_ : SpecOk P1 gl1 32 sp32 := by
  intro vs ps r h hp
  simp only [sp32] at h
  split at h
  · cases h; exact fn32 _ _ _ _ _ _ (hp _ (.head _))
  · cases h
theorem so32 : Sp1 32 sp32 := ⟨so32_, Proofs.Tryz.f32, _, by kernel_rfl, rfl, by kernel_rfl⟩
end Go.Sx

/- Plain functions and hints. -/
namespace Go.Sx.U
noncomputable def hide {α : Type} (a : α) : α := Classical.choose (⟨a, rfl⟩ : ∃ f : α, f = a)
theorem hide_eq {α : Type} (a : α) : hide a = a := Classical.choose_spec (⟨a, rfl⟩ : ∃ f : α, f = a)
def bothL : List Rl := [([97], 10, [0, 100, 200, 300, 400, 500]), ([98], 50, [40, 50, 60, 70])]
def editsL (n : Int) : List Ed := [([97], 11, 14, 0, 0), ([98], n, 53, 1, -1), ([97], 15, 16, 0, 0)]
def strmL : List UInt8 := [82, 69, 69, 76, 1, 99, 0, 0, 0, 1, 70, 1, 2, 9, 126, 69, 0, 1, 1, 2]
noncomputable def aR : List Rl := hide bothL
noncomputable def aL (n : Int) : List Ed := hide (editsL n)
noncomputable def aS : List UInt8 := hide strmL
end Go.Sx.U
namespace Go.Sx
open U
end Go.Sx
namespace Go.Sx
open U
noncomputable def sp97 : FSpec := ⟨fun vs => match vs with
  | [] => some ([], .val (.one (.sl rlT aR)))
  | _ => none, false⟩
noncomputable def sp98 : FSpec := ⟨fun vs => match vs with
  | [.one (.int .i64 n)] => some ([], .val (.one (.sl edT (aL n))))
  | _ => none, false⟩
noncomputable def sp96 : FSpec := ⟨fun vs => match vs with
  | [] => some ([], .val (sV aS))
  | _ => none, true⟩
def sp18 : FSpec := ⟨fun vs => match vs with
  | [] => some ([], .val (bV true))
  | _ => none, true⟩
end Go.Sx
