/- A verified symbolic run of functions, part 16: lemmas, no claim of their own. -/
import Derived.Test.YtpbipfdpoijgoaaGreatDoorS15
/- What the engine asks, written out (printed by a program). -/
namespace Go.Sx
open U
theorem vc49 (R : List Rl) (L : List Ed) (i by_ : Int) : exF (env false [(43, sp43), (107, sp107), (109, sp109), (106, sp106)] [fb132, fb133, fb179, fb156]) h0 3 49 Proofs.Tryz.f49 [.one (.sl rlT R), .one (.sl edT L), iV i, iV by_] (.tup [.one (.frs edT (chgL R L i by_ 0 trimL)), iV (chgE R L i by_ 0 trimL)]) = (let q3 := (List.replicate (List.length L) e0); let q0 := (copyL (0 : Nat) (List.length q3) q3 L); let q2 := (List.getD q0 (Int.toNat i) e0); let q1 := (q2.1, q2.2.1, q2.2.2.1 + by_, q2.2.2.2.1, q2.2.2.2.2); let q4 := (bif decide (i < (0 : Int)) then true else decide ((↑(List.length L) : Int) ≤ i)); let q5 := (1000000000 : Nat); let q6 := (List.set q0 (Int.toNat i) q1); let q7 := ((0 : Int) ≤ i ∧ i < (↑(List.length q0) : Int)); List.length R ≤ q5 ∧ (∀ (r : Rl), r ∈ R → List.length r.2.2 ≤ (1000000 : Nat)) ∧ List.length L ≤ q5 ∧ splitB (chkEds R L != (0 : Int)) (chgL R L i by_ (0 : Int) trimL = [] ∧ chkEds R L = chgE R L i by_ (0 : Int) trimL ∧ True) ((3 : Nat) ≤ q5 ∧ splitB (first [whenE q4 (10 : Int), within by_ (-10000000 : Int) (10000000 : Int), whenE (decide (i < (0 : Int))) (21 : Int)] != (0 : Int)) (chgL R L i by_ (0 : Int) trimL = [] ∧ first [whenE q4 (10 : Int), within by_ (-10000000 : Int) (10000000 : Int), whenE (decide (i < (0 : Int))) (21 : Int)] = chgE R L i by_ (0 : Int) trimL ∧ True) ((0 : Int) ≤ (↑(List.length L) : Int) ∧ room (List.length L) (48 : Nat) ∧ (0 : Nat) + List.length q3 ≤ List.length q3 ∧ q7 ∧ Int.toNat i < List.length q0 ∧ fits IntKind.i64 (q2.2.2.1 + by_) ∧ q7 ∧ Int.toNat i < List.length q0 ∧ List.length R ≤ q5 ∧ (∀ (r : Rl), r ∈ R → List.length r.2.2 ≤ (1000000 : Nat)) ∧ List.length q6 ≤ q5 ∧ splitB (chkEds R q6 != (0 : Int)) (chgL R L i by_ (0 : Int) trimL = [] ∧ chkEds R q6 = chgE R L i by_ (0 : Int) trimL ∧ True) (List.set q0 (Int.toNat i) q1 = chgL R L i by_ (0 : Int) trimL ∧ (0 : Int) = chgE R L i by_ (0 : Int) trimL ∧ True)))) := by
  kernel_rfl
theorem vc51 (R : List Rl) (L : List Ed) (i by_ : Int) : exF (env false [(43, sp43), (107, sp107), (109, sp109), (106, sp106)] [fb132, fb135, fb181, fb156]) h0 3 51 Proofs.Tryz.f51 [.one (.sl rlT R), .one (.sl edT L), iV i, iV by_] (.tup [.one (.frs edT (chgL R L i by_ 0 slipL)), iV (chgE R L i by_ 0 slipL)]) = (let q5 := (List.replicate (List.length L) e0); let q1 := (copyL (0 : Nat) (List.length q5) q5 L); let q3 := (List.getD q1 (Int.toNat i) e0); let q0 := (List.set q1 (Int.toNat i) (q3.1, q3.2.1 + by_, q3.2.2.1, q3.2.2.2.1, q3.2.2.2.2)); let q4 := (List.getD q0 (Int.toNat i) e0); let q2 := (q4.1, q4.2.1, q4.2.2.1 + by_, q4.2.2.2.1, q4.2.2.2.2); let q6 := (bif decide (i < (0 : Int)) then true else decide ((↑(List.length L) : Int) ≤ i)); let q7 := (1000000000 : Nat); let q8 := (List.set q0 (Int.toNat i) q2); let q9 := ((0 : Int) ≤ i ∧ i < (↑(List.length q1) : Int)); let q10 := ((0 : Int) ≤ i ∧ i < (↑(List.length q0) : Int)); List.length R ≤ q7 ∧ (∀ (r : Rl), r ∈ R → List.length r.2.2 ≤ (1000000 : Nat)) ∧ List.length L ≤ q7 ∧ splitB (chkEds R L != (0 : Int)) (chgL R L i by_ (0 : Int) slipL = [] ∧ chkEds R L = chgE R L i by_ (0 : Int) slipL ∧ True) ((3 : Nat) ≤ q7 ∧ splitB (first [whenE q6 (10 : Int), within by_ (-10000000 : Int) (10000000 : Int), whenE (decide (i < (0 : Int))) (21 : Int)] != (0 : Int)) (chgL R L i by_ (0 : Int) slipL = [] ∧ first [whenE q6 (10 : Int), within by_ (-10000000 : Int) (10000000 : Int), whenE (decide (i < (0 : Int))) (21 : Int)] = chgE R L i by_ (0 : Int) slipL ∧ True) ((0 : Int) ≤ (↑(List.length L) : Int) ∧ room (List.length L) (48 : Nat) ∧ (0 : Nat) + List.length q5 ≤ List.length q5 ∧ q9 ∧ Int.toNat i < List.length q1 ∧ fits IntKind.i64 (q3.2.1 + by_) ∧ q9 ∧ Int.toNat i < List.length q1 ∧ q10 ∧ Int.toNat i < List.length q0 ∧ fits IntKind.i64 (q4.2.2.1 + by_) ∧ q10 ∧ Int.toNat i < List.length q0 ∧ List.length R ≤ q7 ∧ (∀ (r : Rl), r ∈ R → List.length r.2.2 ≤ (1000000 : Nat)) ∧ List.length q8 ≤ q7 ∧ splitB (chkEds R q8 != (0 : Int)) (chgL R L i by_ (0 : Int) slipL = [] ∧ chkEds R q8 = chgE R L i by_ (0 : Int) slipL ∧ True) (List.set q0 (Int.toNat i) q2 = chgL R L i by_ (0 : Int) slipL ∧ (0 : Int) = chgE R L i by_ (0 : Int) slipL ∧ True)))) := by
  kernel_rfl
theorem vc152 (R : List Rl) (A B : List Ed) : exF (env false [(43, sp43), (106, sp106)] []) h0 0 152 Proofs.Tryz.f152 [.one (.sl rlT R), .one (.sl edT A), .one (.sl edT B)] (.val (iV (first [chkEds R A, chkEds R B]))) = (List.length R ≤ (1000000000 : Nat) ∧ (∀ (r : Rl), r ∈ R → List.length (Prod.snd (Prod.snd r)) ≤ (1000000 : Nat)) ∧ List.length A ≤ (1000000000 : Nat) ∧ List.length R ≤ (1000000000 : Nat) ∧ (∀ (r : Rl), r ∈ R → List.length (Prod.snd (Prod.snd r)) ≤ (1000000 : Nat)) ∧ List.length B ≤ (1000000000 : Nat) ∧ (2 : Nat) ≤ (1000000000 : Nat) ∧ first [chkEds R A, chkEds R B] = first [chkEds R A, chkEds R B] ∧ True) := by
  kernel_rfl
theorem vc84 (R : List Rl) (L : List Ed) (t : Int) : exF (env false [(43, sp43), (120, sp120), (109, sp109), (130, sp130), (158, sp158), (152, sp152)] []) h84 0 84 Proofs.Tryz.f84 [.one (.sl rlT R), .one (.sl edT L), iV t] (.tup [.one (.frs edT (partL R L t).1), .one (.frs edT (partL R L t).2), iV (partE R L t)]) = (let q2 := (List.length L); let q0 := (plTo L q2); let q3 := (↑(List.length q0) : Int); let q4 := (List.length R); let q5 := (1000000000 : Nat); List.length R ≤ q5 ∧ (∀ (r : Rl), r ∈ R → List.length r.2.2 ≤ (1000000 : Nat)) ∧ List.length L ≤ q5 ∧ splitB (chkEds R L != (0 : Int)) ((partL R L t).1 = [] ∧ (partL R L t).2 = [] ∧ chkEds R L = partE R L t ∧ True) (List.length R ≤ q5 ∧ EdsIn L ∧ splitB (within t (0 : Int) (begN L q2) != (0 : Int)) ((partL R L t).1 = [] ∧ (partL R L t).2 = [] ∧ within t (0 : Int) (begN L q2) = partE R L t ∧ True) ((∃ (g : Nat), (g ≤ List.length q0 ∧ upTo (fun (j : Nat) => tornE (List.getD q0 j pl0) t) g = (0 : Int)) ∧ (0 : Int) = (↑g : Int) ∧ q3 = q3 ∧ plTo L q2 = plTo L q2 ∧ R = R ∧ L = L ∧ t = t ∧ asN q0 t g = [] ∧ bsN q0 t g = [] ∧ plTo L q2 = plTo L q2 ∧ begN L q2 = begN L q2 ∧ mapR R q4 = mapR R q4 ∧ True) ∧ ∀ (g : Nat), let q1 := (List.getD q0 g pl0); let q6 := (q1.1.1, q1.1.2.1, q1.1.2.2.1, q1.1.2.2.2.1, q1.1.2.2.2.2); g ≤ List.length q0 ∧ upTo (fun (j : Nat) => tornE (List.getD q0 j pl0) t) g = (0 : Int) → splitB (decide ((↑g : Int) < q3)) (((0 : Int) ≤ (↑g : Int) ∧ (↑g : Int) < q3) ∧ (decide (q1.2 < t) = true → fits IntKind.i64 (q1.2 + q1.1.2.2.2.1)) ∧ ((bif decide (q1.2 < t) then decide (t < q1.2 + q1.1.2.2.2.1) else false) = false → fits IntKind.i64 (q1.2 + q1.1.2.2.2.2)) ∧ splitB (bif bif decide (q1.2 < t) then decide (t < q1.2 + q1.1.2.2.2.1) else false then true else decide (q1.2 < t) != decide (q1.2 + q1.1.2.2.2.2 < t)) ((partL R L t).1 = [] ∧ (partL R L t).2 = [] ∧ (22 : Int) = partE R L t ∧ True) (splitB (!decide (q1.2 < t)) (room (List.length (bsN q0 t g) + (1 : Nat)) (48 : Nat) ∧ fits IntKind.i64 ((↑g : Int) + (1 : Int)) ∧ ∃ (g' : Nat), (g' ≤ List.length q0 ∧ upTo (fun (j : Nat) => tornE (List.getD q0 j pl0) t) g' = (0 : Int)) ∧ List.length q0 - g' < List.length q0 - g ∧ (↑g : Int) + (1 : Int) = (↑g' : Int) ∧ q3 = q3 ∧ plTo L q2 = plTo L q2 ∧ R = R ∧ L = L ∧ t = t ∧ asN q0 t g = asN q0 t g' ∧ bsN q0 t g ++ [q6] = bsN q0 t g' ∧ plTo L q2 = plTo L q2 ∧ begN L q2 = begN L q2 ∧ mapR R q4 = mapR R q4 ∧ True) (fits IntKind.i64 (q1.1.2.2.1 - q1.1.2.1) ∧ fits IntKind.i64 (q1.2 + (q1.1.2.2.1 - q1.1.2.1)) ∧ splitB (decide (q1.2 + (q1.1.2.2.1 - q1.1.2.1) ≤ t)) (room (List.length (asN q0 t g) + (1 : Nat)) (48 : Nat) ∧ fits IntKind.i64 ((↑g : Int) + (1 : Int)) ∧ ∃ (g' : Nat), (g' ≤ List.length q0 ∧ upTo (fun (j : Nat) => tornE (List.getD q0 j pl0) t) g' = (0 : Int)) ∧ List.length q0 - g' < List.length q0 - g ∧ (↑g : Int) + (1 : Int) = (↑g' : Int) ∧ q3 = q3 ∧ plTo L q2 = plTo L q2 ∧ R = R ∧ L = L ∧ t = t ∧ asN q0 t g ++ [q6] = asN q0 t g' ∧ bsN q0 t g = bsN q0 t g' ∧ plTo L q2 = plTo L q2 ∧ begN L q2 = begN L q2 ∧ mapR R q4 = mapR R q4 ∧ True) (fits IntKind.i64 (q1.1.2.1 + t) ∧ fits IntKind.i64 (q1.1.2.1 + t - q1.2) ∧ room (List.length (asN q0 t g) + (1 : Nat)) (48 : Nat) ∧ room (List.length (bsN q0 t g) + (1 : Nat)) (48 : Nat) ∧ fits IntKind.i64 ((↑g : Int) + (1 : Int)) ∧ ∃ (g' : Nat), (g' ≤ List.length q0 ∧ upTo (fun (j : Nat) => tornE (List.getD q0 j pl0) t) g' = (0 : Int)) ∧ List.length q0 - g' < List.length q0 - g ∧ (↑g : Int) + (1 : Int) = (↑g' : Int) ∧ q3 = q3 ∧ plTo L q2 = plTo L q2 ∧ R = R ∧ L = L ∧ t = t ∧ asN q0 t g ++ [(q1.1.1, q1.1.2.1, q1.1.2.1 + t - q1.2, q1.1.2.2.2.1, q1.1.2.2.2.2)] = asN q0 t g' ∧ bsN q0 t g ++ [(q1.1.1, q1.1.2.1 + t - q1.2, q1.1.2.2.1, (0 : Int), (0 : Int))] = bsN q0 t g' ∧ plTo L q2 = plTo L q2 ∧ begN L q2 = begN L q2 ∧ mapR R q4 = mapR R q4 ∧ True)))) (List.length R ≤ q5 ∧ (∀ (r : Rl), r ∈ R → List.length r.2.2 ≤ (1000000 : Nat)) ∧ List.length (asN q0 t g) ≤ q5 ∧ List.length (bsN q0 t g) ≤ q5 ∧ splitB (first [chkEds R (asN q0 t g), chkEds R (bsN q0 t g)] != (0 : Int)) ((partL R L t).1 = [] ∧ (partL R L t).2 = [] ∧ first [chkEds R (asN q0 t g), chkEds R (bsN q0 t g)] = partE R L t ∧ True) (asN q0 t g = (partL R L t).1 ∧ bsN q0 t g = (partL R L t).2 ∧ (0 : Int) = partE R L t ∧ True))))) := by
  kernel_rfl
theorem vc197 (x : Ed) : exF (env false [] []) h0 0 197 Proofs.Tryz.f197 [edV x] (.val (.one (.frs (.int .i64) (numsE x)))) = ([Prod.fst (Prod.snd x), Prod.fst (Prod.snd (Prod.snd x)), Prod.fst (Prod.snd (Prod.snd (Prod.snd x))), Prod.snd (Prod.snd (Prod.snd (Prod.snd x)))] = numsE x ∧ True) := by
  kernel_rfl
theorem vc202 (l : List Int) : exF (env false [(203, sp203)] []) h202 0 202 Proofs.Tryz.f202 [.one (.sl (.int .i64) l), .one (.fn 203 [] [])] (.val (.one (.frs .str (l.map Lib.itoa)))) = (let q0 := (↑(List.length l) : Int); (∃ (g : Nat), Nat.le g (List.length l) ∧ (0 : Int) = (↑g : Int) ∧ q0 = q0 ∧ l = l ∧ List.map Lib.itoa (List.take g l) = [] ∧ True) ∧ ∀ (g : Nat), Nat.le g (List.length l) → splitB (decide ((↑g : Int) < q0)) (((0 : Int) ≤ (↑g : Int) ∧ (↑g : Int) < q0) ∧ fits IntKind.i64 (List.getD l g (0 : Int)) ∧ room (List.length (List.map Lib.itoa (List.take g l)) + (1 : Nat)) (16 : Nat) ∧ fits IntKind.i64 ((↑g : Int) + (1 : Int)) ∧ ∃ (g' : Nat), Nat.le g' (List.length l) ∧ List.length l - g' < List.length l - g ∧ (↑g : Int) + (1 : Int) = (↑g' : Int) ∧ q0 = q0 ∧ l = l ∧ List.map Lib.itoa (List.take g l) ++ [Lib.itoa (List.getD l g (0 : Int))] = List.map Lib.itoa (List.take g' l) ∧ True) (List.map Lib.itoa (List.take g l) = List.map Lib.itoa l ∧ True)) := by
  kernel_rfl
theorem vc162 (x : Ed) : exF (env false [(197, sp197), (202, sp202), (160, sp160)] []) h0 0 162 Proofs.Tryz.f162 [edV x] (.val (sV (lineE x))) = (List.length (numsE (Prod.fst x, Prod.fst (Prod.snd x), Prod.fst (Prod.snd (Prod.snd x)), Prod.fst (Prod.snd (Prod.snd (Prod.snd x))), Prod.snd (Prod.snd (Prod.snd (Prod.snd x))))) ≤ (1000000 : Nat) ∧ (∀ (n : Int), n ∈ numsE (Prod.fst x, Prod.fst (Prod.snd x), Prod.fst (Prod.snd (Prod.snd x)), Prod.fst (Prod.snd (Prod.snd (Prod.snd x))), Prod.snd (Prod.snd (Prod.snd (Prod.snd x)))) → fits IntKind.i64 n) ∧ room ((2 : Nat) + List.length (List.map Lib.itoa (numsE (Prod.fst x, Prod.fst (Prod.snd x), Prod.fst (Prod.snd (Prod.snd x)), Prod.fst (Prod.snd (Prod.snd (Prod.snd x))), Prod.snd (Prod.snd (Prod.snd (Prod.snd x))))))) (16 : Nat) ∧ List.length ([Array.toList (ByteArray.data { data := #[(101 : UInt8), (100 : UInt8), (105 : UInt8), (116 : UInt8)] }), Prod.fst x] ++ List.map Lib.itoa (numsE (Prod.fst x, Prod.fst (Prod.snd x), Prod.fst (Prod.snd (Prod.snd x)), Prod.fst (Prod.snd (Prod.snd (Prod.snd x))), Prod.snd (Prod.snd (Prod.snd (Prod.snd x)))))) ≤ (1000000 : Nat) ∧ List.length (Lib.join ([Array.toList (ByteArray.data { data := #[(101 : UInt8), (100 : UInt8), (105 : UInt8), (116 : UInt8)] }), Prod.fst x] ++ List.map Lib.itoa (numsE (Prod.fst x, Prod.fst (Prod.snd x), Prod.fst (Prod.snd (Prod.snd x)), Prod.fst (Prod.snd (Prod.snd (Prod.snd x))), Prod.snd (Prod.snd (Prod.snd (Prod.snd x)))))) (Array.toList (ByteArray.data { data := #[(32 : UInt8)] }))) ≤ (140737488355328 : Nat) ∧ List.length (Lib.join ([Array.toList (ByteArray.data { data := #[(101 : UInt8), (100 : UInt8), (105 : UInt8), (116 : UInt8)] }), Prod.fst x] ++ List.map Lib.itoa (numsE (Prod.fst x, Prod.fst (Prod.snd x), Prod.fst (Prod.snd (Prod.snd x)), Prod.fst (Prod.snd (Prod.snd (Prod.snd x))), Prod.snd (Prod.snd (Prod.snd (Prod.snd x)))))) (Array.toList (ByteArray.data { data := #[(32 : UInt8)] }))) + List.length (Array.toList (ByteArray.data { data := #[(10 : UInt8)] })) ≤ (9223372036854775807 : Nat) ∧ Lib.join ([Array.toList (ByteArray.data { data := #[(101 : UInt8), (100 : UInt8), (105 : UInt8), (116 : UInt8)] }), Prod.fst x] ++ List.map Lib.itoa (numsE (Prod.fst x, Prod.fst (Prod.snd x), Prod.fst (Prod.snd (Prod.snd x)), Prod.fst (Prod.snd (Prod.snd (Prod.snd x))), Prod.snd (Prod.snd (Prod.snd (Prod.snd x)))))) (Array.toList (ByteArray.data { data := #[(32 : UInt8)] })) ++ Array.toList (ByteArray.data { data := #[(10 : UInt8)] }) = lineE x ∧ True) := by
  kernel_rfl
theorem vc161 (L : List Ed) : exF (env false [(162, sp162)] []) h161 0 161 Proofs.Tryz.f161 [.one (.sl edT L), .one (.fn 162 [] [])] (.val (.one (.frs .str (L.map lineE)))) = (let q1 := (↑(List.length L) : Int); (∃ (g : Nat), Nat.le g (List.length L) ∧ (0 : Int) = (↑g : Int) ∧ q1 = q1 ∧ L = L ∧ List.map lineE (List.take g L) = [] ∧ True) ∧ ∀ (g : Nat), let q0 := (List.getD L g e0); let q2 := (q0.1, q0.2.1, q0.2.2.1, q0.2.2.2.1, q0.2.2.2.2); Nat.le g (List.length L) → splitB (decide ((↑g : Int) < q1)) (((0 : Int) ≤ (↑g : Int) ∧ (↑g : Int) < q1) ∧ (∀ (n : Int), n ∈ numsE q2 → fits IntKind.i64 n) ∧ List.length q0.1 ≤ (1000000 : Nat) ∧ room (List.length (List.map lineE (List.take g L)) + (1 : Nat)) (16 : Nat) ∧ fits IntKind.i64 ((↑g : Int) + (1 : Int)) ∧ ∃ (g' : Nat), Nat.le g' (List.length L) ∧ List.length L - g' < List.length L - g ∧ (↑g : Int) + (1 : Int) = (↑g' : Int) ∧ q1 = q1 ∧ L = L ∧ List.map lineE (List.take g L) ++ [lineE q2] = List.map lineE (List.take g' L) ∧ True) (List.map lineE (List.take g L) = List.map lineE L ∧ True)) := by
  kernel_rfl
theorem vc110 (l : List Int) : exF (env false [(109, sp109)] [fb198]) hMapTx 3 110 Proofs.Tryz.f110 [.one (.sl (.int .i64) l), .one (.fn 198 [] [])] (.val (.one (.frs (.int .i64) (l.map fun n => within n (-999999999) 999999999)))) = (let q0 := (↑(List.length l) : Int); let q1 := (-999999999 : Int); let q2 := (999999999 : Int); (∃ (g : Nat), Nat.le g (List.length l) ∧ (0 : Int) = (↑g : Int) ∧ q0 = q0 ∧ l = l ∧ List.map (fun (n : Int) => within n q1 q2) (List.take g l) = [] ∧ True) ∧ ∀ (g : Nat), Nat.le g (List.length l) → splitB (decide ((↑g : Int) < q0)) (((0 : Int) ≤ (↑g : Int) ∧ (↑g : Int) < q0) ∧ room (List.length (List.map (fun (n : Int) => within n q1 q2) (List.take g l)) + (1 : Nat)) (8 : Nat) ∧ fits IntKind.i64 ((↑g : Int) + (1 : Int)) ∧ ∃ (g' : Nat), Nat.le g' (List.length l) ∧ List.length l - g' < List.length l - g ∧ (↑g : Int) + (1 : Int) = (↑g' : Int) ∧ q0 = q0 ∧ l = l ∧ List.map (fun (n : Int) => within n q1 q2) (List.take g l) ++ [within (List.getD l g (0 : Int)) q1 q2] = List.map (fun (n : Int) => within n q1 q2) (List.take g' l) ∧ True) (List.map (fun (n : Int) => within n q1 q2) (List.take g l) = List.map (fun (n : Int) => within n q1 q2) l ∧ True)) := by
  kernel_rfl
theorem vc159 (L : List Ed) : exF (env false [(108, sp108), (197, sp197), (110, sp110), (106, sp106)] []) h159 0 159 Proofs.Tryz.f159 [.one (.sl edT L)] (.val (iV (chkText L))) = (let q1 := (↑(List.length L) : Int); splitB (decide ((16 : Int) < q1)) ((5 : Int) = chkText L ∧ True) ((∃ (g : Nat), (g ≤ List.length L ∧ upTo (fun (j : Nat) => chkTx (List.getD L j e0)) g = (0 : Int)) ∧ (0 : Int) = (↑g : Int) ∧ q1 = q1 ∧ L = L ∧ True) ∧ ∀ (g : Nat), let q2 := (List.getD L g e0); let q0 := (numsE (q2.1, q2.2.1, q2.2.2.1, q2.2.2.2.1, q2.2.2.2.2)); g ≤ List.length L ∧ upTo (fun (j : Nat) => chkTx (List.getD L j e0)) g = (0 : Int) → splitB (decide ((↑g : Int) < q1)) (((0 : Int) ≤ (↑g : Int) ∧ (↑g : Int) < q1) ∧ splitB (!isName q2.1) ((8 : Int) = chkText L ∧ True) (List.length q0 ≤ (1000000 : Nat) ∧ List.length (List.map (fun (n : Int) => within n (-999999999 : Int) (999999999 : Int)) q0) ≤ (1000000000 : Nat) ∧ splitB (first (List.map (fun (n : Int) => within n (-999999999 : Int) (999999999 : Int)) q0) != (0 : Int)) (first (List.map (fun (n : Int) => within n (-999999999 : Int) (999999999 : Int)) q0) = chkText L ∧ True) (fits IntKind.i64 ((↑g : Int) + (1 : Int)) ∧ ∃ (g' : Nat), (g' ≤ List.length L ∧ upTo (fun (j : Nat) => chkTx (List.getD L j e0)) g' = (0 : Int)) ∧ List.length L - g' < List.length L - g ∧ (↑g : Int) + (1 : Int) = (↑g' : Int) ∧ q1 = q1 ∧ L = L ∧ True))) ((0 : Int) = chkText L ∧ True))) := by
  kernel_rfl
theorem vc90 (L : List Ed) : exF (env false [(159, sp159), (161, sp161), (160, sp160)] []) h0 0 90 Proofs.Tryz.f90 [.one (.sl edT L)] (.tup [sV (printN L), iV (chkText L)]) = (let q0 := (ByteArray.data { data := #[] }); List.length L ≤ (1000000000 : Nat) ∧ splitB (chkText L != (0 : Int)) (Array.toList q0 = printN L ∧ chkText L = chkText L ∧ True) (List.length L ≤ (1000000 : Nat) ∧ (∀ (x : Ed), x ∈ L → (∀ (n : Int), n ∈ numsE x → fits IntKind.i64 n) ∧ List.length x.1 ≤ (1000000 : Nat)) ∧ List.length (List.map lineE L) ≤ (1000000 : Nat) ∧ List.length (Lib.join (List.map lineE L) (Array.toList q0)) ≤ (140737488355328 : Nat) ∧ Lib.join (List.map lineE L) (Array.toList q0) = printN L ∧ (0 : Int) = chkText L ∧ True)) := by
  kernel_rfl
end Go.Sx

/- Contracts. -/
namespace Go.Sx
open U

theorem so203 : Sp1 203 sp203 := by
  refine ⟨fun vs ps r h hp => ?_, Proofs.Tryz.f203, _, by kernel_rfl, rfl, by kernel_rfl⟩
  simp only [sp203] at h
  split at h
  · cases h; exact itoa1 _ (hp _ (by simp))
  · cases h
theorem so160 : Sp1 160 sp160 := by
  refine ⟨fun vs ps r h hp => ?_, Proofs.Tryz.f160, _, by kernel_rfl, rfl, by kernel_rfl⟩
  simp only [sp160] at h
  split at h
  · cases h; exact join1 _ _ (hp _ (by simp)) (hp _ (by simp))
  · cases h
theorem nd_le : ∀ (k u : Nat), u < 10 ^ (k + 1) → Lib.nDigits u ≤ k + 1
  | 0, u, h => by rw [Lib.nDigits_small (by simpa using h)]; omega
  | k + 1, u, h => by
    by_cases h1 : u < 10
    · rw [Lib.nDigits_small h1]; omega
    · rw [Lib.nDigits_big h1]
      have := nd_le k (u / 10) (by rw [Nat.pow_succ] at h; omega)
      omega
theorem itoa_len {n : Int} (h : fits .i64 n) : (Lib.itoa n).length ≤ 20 := by
  simp only [fits] at h
  have h1 : ∀ u : Nat, u < 10 ^ 19 → (Lib.decDigits u).length ≤ 19 := fun u hu => by rw [Lib.decDigits_length]; exact nd_le 18 u hu
  unfold Lib.itoa
  split
  · have := h1 n.natAbs (by omega)
    simp only [List.length_cons]; omega
  · have := h1 n.toNat (by omega)
    omega
theorem line_len {x : Ed} (hb : ∀ n ∈ numsE x, fits .i64 n) : (Lib.join ([[101, 100, 105, 116], x.1] ++ (numsE x).map Lib.itoa) [32]).length ≤ x.1.length + 200 := by
  have h1 := itoa_len (hb x.2.1 (by simp [numsE]))
  have h2 := itoa_len (hb x.2.2.1 (by simp [numsE]))
  have h3 := itoa_len (hb x.2.2.2.1 (by simp [numsE]))
  have h4 := itoa_len (hb x.2.2.2.2 (by simp [numsE]))
  have e : [[101, 100, 105, 116], x.1] ++ (numsE x).map Lib.itoa = [101, 100, 105, 116] :: [x.1, Lib.itoa x.2.1, Lib.itoa x.2.2.1, Lib.itoa x.2.2.2.1, Lib.itoa x.2.2.2.2] := rfl
  rw [e, Lib.join_length]
  simp only [Lib.lens, List.map_cons, List.map_nil, List.sum_cons, List.sum_nil, List.length_cons, List.length_nil]
  omega
theorem join_len (B : Nat) : ∀ (xs : List (List UInt8)), (∀ y ∈ xs, y.length ≤ B) → (Lib.join xs []).length ≤ xs.length * B
  | [], _ => by simp [Lib.join_nil]
  | x :: r, h => by
    rw [Lib.join_length]
    have : ∀ (l : List (List UInt8)), (∀ y ∈ l, y.length ≤ B) → Lib.lens l ≤ l.length * B := by
      intro l
      induction l with
      | nil => intro _; simp [Lib.lens]
      | cons y l ih =>
        intro h
        have h1 := h y List.mem_cons_self
        have h2 := ih fun z hz => h z (List.mem_cons_of_mem _ hz)
        simp only [Lib.lens, List.map_cons, List.sum_cons, List.length_cons, Nat.succ_mul] at h2 ⊢
        omega
    have := this _ h
    simpa using this
theorem sum_len {α : Type} {f : Nat → List α} (h : ∀ i, (f i).length ≤ 1) : ∀ i, (sumTo f i).length ≤ i
  | 0 => by simp [sumTo]
  | i + 1 => by
    have := sum_len h i
    have := h i
    simp only [sumTo, List.length_append]; omega
theorem partA_len (x : Pl) (t : Int) : (partA x t).length ≤ 1 := by unfold partA; split <;> (try split) <;> simp
theorem partB_len (x : Pl) (t : Int) : (partB x t).length ≤ 1 := by unfold partB; split <;> (try split) <;> simp
theorem part_bad {R : List Rl} {L : List Ed} {t e : Int} (he : partE R L t = e) (h : e ≠ 0) : (partL R L t).1 = [] ∧ (partL R L t).2 = [] ∧ e = partE R L t ∧ True := by
  have : partL R L t = ([], []) := by unfold partL; rw [he, if_neg h]
  rw [this, he]
  exact ⟨rfl, rfl, rfl, trivial⟩
theorem fn49 (R : List Rl) (L : List Ed) (i by_ : Int) (hl : R.length ≤ 1000000000) (hR : ∀ r ∈ R, r.2.2.length ≤ 1000000) (hL : L.length ≤ 1000000000) : Fn P1 gl1 49 [.one (.sl rlT R), .one (.sl edT L), iV i, iV by_] (.tup [.one (.frs edT (chgL R L i by_ 0 trimL)), iV (chgE R L i by_ 0 trimL)]) true := by
  refine Fn.flat ?_ rfl
  refine fn_of false [(43, sp43), (107, sp107), (109, sp109), (106, sp106)] [fb132, fb133, fb179, fb156] h0 3 Proofs.Tryz.f49 ⟨so43, so107, so109, so106, trivial⟩ ⟨⟨by kernel_rfl, by kernel_rfl, _, rfl, by kernel_rfl⟩, ⟨by kernel_rfl, by kernel_rfl, _, rfl, by kernel_rfl⟩, ⟨by kernel_rfl, by kernel_rfl, _, rfl, by kernel_rfl⟩, ⟨by kernel_rfl, by kernel_rfl, _, rfl, by kernel_rfl⟩, trivial⟩ (by kernel_rfl) rfl (by kernel_rfl) rfl rfl rfl ?_
  rw [vc49]
  try simp only [splitB_iff, -eq_self]
  simp only [U.copyL_all (show L.length = L.length from rfl)]
  simp only [trim_fold]
  refine ⟨hl, hR, hL, fun h => ?_, fun h => ?_⟩
  · have := chg_bad (i := i) (b := by_) (least := 0) (g := trimL) (show chkEds R L ≠ 0 by simpa using h)
    exact ⟨this.1, this.2, trivial⟩
  · have h' : chkEds R L = 0 := by simpa using h
    rw [chkCh_eq h']
    refine ⟨by decide, fun h2 => ?_, fun h2 => ?_⟩
    · have := chg_err (g := trimL) (show chkCh R L i by_ 0 ≠ 0 by simpa using h2)
      exact ⟨this.1, this.2, trivial⟩
    · have h2' : chkCh R L i by_ 0 = 0 := by simpa using h2
      obtain ⟨hk, hi, hb⟩ := chkCh_zero (by decide) h2'
      obtain ⟨k1, k2⟩ := chg_ok (g := trimL) h2'
      have hlen := hk.len
      have g2 := hk.eds.2 _ (getD_mem (d := e0) (show i.toNat < L.length by omega))
      simp only [trimL_len]
      refine ⟨by omega, by simp only [room]; omega, by simp, by omega, by omega, by simp only [fits]; omega, by omega, by omega, hl, hR, by omega, fun h3 => ?_, fun h3 => ?_⟩
      · have := k1 (by simpa using h3)
        exact ⟨this.1, this.2, trivial⟩
      · have := k2 (by simpa using h3)
        exact ⟨this.1, this.2, trivial⟩
theorem so49_ : SpecOk P1 gl1 49 sp49 := by
  intro vs ps r h hp
  simp only [sp49] at h
  split at h
  · cases h; exact fn49 _ _ _ _ (hp _ (.head _)) (hp _ (.tail _ (.head _))) (hp _ (.tail _ (.tail _ (.head _))))
  · cases h
theorem so49 : Sp1 49 sp49 := ⟨so49_, Proofs.Tryz.f49, _, by kernel_rfl, rfl, by kernel_rfl⟩
theorem fn51 (R : List Rl) (L : List Ed) (i by_ : Int) (hl : R.length ≤ 1000000000) (hR : ∀ r ∈ R, r.2.2.length ≤ 1000000) (hL : L.length ≤ 1000000000) : Fn P1 gl1 51 [.one (.sl rlT R), .one (.sl edT L), iV i, iV by_] (.tup [.one (.frs edT (chgL R L i by_ 0 slipL)), iV (chgE R L i by_ 0 slipL)]) true := by
  refine Fn.flat ?_ rfl
  refine fn_of false [(43, sp43), (107, sp107), (109, sp109), (106, sp106)] [fb132, fb135, fb181, fb156] h0 3 Proofs.Tryz.f51 ⟨so43, so107, so109, so106, trivial⟩ ⟨⟨by kernel_rfl, by kernel_rfl, _, rfl, by kernel_rfl⟩, ⟨by kernel_rfl, by kernel_rfl, _, rfl, by kernel_rfl⟩, ⟨by kernel_rfl, by kernel_rfl, _, rfl, by kernel_rfl⟩, ⟨by kernel_rfl, by kernel_rfl, _, rfl, by kernel_rfl⟩, trivial⟩ (by kernel_rfl) rfl (by kernel_rfl) rfl rfl rfl ?_
  rw [vc51]
  try simp only [splitB_iff, -eq_self]
  simp only [U.copyL_all (show L.length = L.length from rfl)]
  simp only [trim_fold, front_fold]
  refine ⟨hl, hR, hL, fun h => ?_, fun h => ?_⟩
  · have := chg_bad (i := i) (b := by_) (least := 0) (g := slipL) (show chkEds R L ≠ 0 by simpa using h)
    exact ⟨this.1, this.2, trivial⟩
  · have h' : chkEds R L = 0 := by simpa using h
    rw [chkCh_eq h']
    refine ⟨by decide, fun h2 => ?_, fun h2 => ?_⟩
    · have := chg_err (g := slipL) (show chkCh R L i by_ 0 ≠ 0 by simpa using h2)
      exact ⟨this.1, this.2, trivial⟩
    · have h2' : chkCh R L i by_ 0 = 0 := by simpa using h2
      obtain ⟨hk, hi, hb⟩ := chkCh_zero (by decide) h2'
      obtain ⟨k1, k2⟩ := chg_ok (g := slipL) h2'
      have hlen := hk.len
      have g2 := hk.eds.2 _ (getD_mem (d := e0) (show i.toNat < L.length by omega))
      have g3 : (frontL L i.toNat by_).getD i.toNat e0 = ((L.getD i.toNat e0).1, (L.getD i.toNat e0).2.1 + by_, (L.getD i.toNat e0).2.2.1, (L.getD i.toNat e0).2.2.2.1, (L.getD i.toNat e0).2.2.2.2) := by
        rw [frontL_get _ _ _ _ (by omega), if_pos rfl]
      simp only [slip_fold, frontL_len, slipL_len, g3]
      refine ⟨by omega, by simp only [room]; omega, by simp, by omega, by omega, by simp only [fits]; omega, by omega, by omega, by omega, by omega, by simp only [fits]; omega, by omega, by omega, hl, hR, by omega, fun h3 => ?_, fun h3 => ?_⟩
      · have := k1 (by simpa using h3)
        exact ⟨this.1, this.2, trivial⟩
      · have := k2 (by simpa using h3)
        exact ⟨this.1, this.2, trivial⟩
theorem so51_ : SpecOk P1 gl1 51 sp51 := by
  intro vs ps r h hp
  simp only [sp51] at h
  split at h
  · cases h; exact fn51 _ _ _ _ (hp _ (.head _)) (hp _ (.tail _ (.head _))) (hp _ (.tail _ (.tail _ (.head _))))
  · cases h
theorem so51 : Sp1 51 sp51 := ⟨so51_, Proofs.Tryz.f51, _, by kernel_rfl, rfl, by kernel_rfl⟩
theorem fn152 (R : List Rl) (A B : List Ed) (hl : R.length ≤ 1000000000) (hR : ∀ r ∈ R, r.2.2.length ≤ 1000000) (hA : A.length ≤ 1000000000) (hB : B.length ≤ 1000000000) : Fn P1 gl1 152 [.one (.sl rlT R), .one (.sl edT A), .one (.sl edT B)] (.val (iV (first [chkEds R A, chkEds R B]))) true := by
  refine Fn.flat ?_ rfl
  refine fn_of false [(43, sp43), (106, sp106)] [] h0 0 Proofs.Tryz.f152 ⟨so43, so106, trivial⟩ trivial (by kernel_rfl) rfl (by kernel_rfl) rfl rfl rfl ?_
  rw [vc152]
  try simp only [splitB_iff, -eq_self]
  exact ⟨hl, hR, hA, hl, hR, hB, by decide, rfl, trivial⟩
theorem so152_ : SpecOk P1 gl1 152 sp152 := by
  intro vs ps r h hp
  simp only [sp152] at h
  split at h
  · cases h; exact fn152 _ _ _ (hp _ (.head _)) (hp _ (.tail _ (.head _))) (hp _ (.tail _ (.tail _ (.head _)))) (hp _ (.tail _ (.tail _ (.tail _ (.head _)))))
  · cases h
theorem so152 : Sp1 152 sp152 := ⟨so152_, Proofs.Tryz.f152, _, by kernel_rfl, rfl, by kernel_rfl⟩
theorem fn84 (R : List Rl) (L : List Ed) (t : Int) (hl : R.length ≤ 1000000000) (hR : ∀ r ∈ R, r.2.2.length ≤ 1000000) (hL : L.length ≤ 1000000000) : Fn P1 gl1 84 [.one (.sl rlT R), .one (.sl edT L), iV t] (.tup [.one (.frs edT (partL R L t).1), .one (.frs edT (partL R L t).2), iV (partE R L t)]) true := by
  refine Fn.flat ?_ rfl
  refine fn_of false [(43, sp43), (120, sp120), (109, sp109), (130, sp130), (158, sp158), (152, sp152)] [] h84 0 Proofs.Tryz.f84 ⟨so43, so120, so109, so130, so158, so152, trivial⟩ trivial (by kernel_rfl) rfl (by kernel_rfl) rfl rfl rfl ?_
  rw [vc84]
  try simp only [splitB_iff, -eq_self]
  have hN : begN L L.length = lenL L := rfl
  have hP : plTo L L.length = ls L := rfl
  simp only [hN, hP, ls_len]
  refine ⟨hl, hR, hL, fun h => ?_, fun h => ?_⟩
  · have h' : chkEds R L ≠ 0 := by simpa using h
    exact part_bad (if_pos h') h'
  · have h' : chkEds R L = 0 := by simpa using h
    have hk := chkEds_zero.1 h'
    have h16 := hk.len
    refine ⟨hl, hk.eds, fun h2 => ?_, fun h2 => ?_⟩
    · have h2' : within t 0 (lenL L) ≠ 0 := by simpa using h2
      exact part_bad (by unfold partE; rw [if_neg (by simpa using h'), if_pos h2']) h2'
    · have h2' : within t 0 (lenL L) = 0 := by simpa using h2
      have ht := within_zero.1 h2'
      have hE : partE R L t = if upTo (fun j => tornE ((ls L).getD j pl0) t) L.length ≠ 0 then 22 else first [chkEds R (asN (ls L) t L.length), chkEds R (bsN (ls L) t L.length)] := by
        unfold partE; rw [if_neg (by simpa using h'), if_neg (by simpa using h2')]
      have hbig := hk.big
      have hb := pl_bd hk.rs hk.len hk.ed hk.big
      have la : ∀ i, (asN (ls L) t i).length ≤ i := sum_len fun _ => partA_len _ _
      have lb : ∀ i, (bsN (ls L) t i).length ≤ i := sum_len fun _ => partB_len _ _
      refine ⟨⟨0, ⟨Nat.zero_le _, rfl⟩, rfl, by trivial, by trivial, by trivial, by trivial, by trivial, rfl, rfl, by trivial, by trivial, by trivial, trivial⟩, fun g hg => ⟨fun hlt => ?_, fun hge => ?_⟩⟩
      · have hlt' : g < L.length := by simpa using hlt
        have hx := hb _ (getD_mem (d := pl0) (show g < (ls L).length by rw [ls_len]; exact hlt'))
        have ea : asN (ls L) t (g + 1) = asN (ls L) t g ++ partA ((ls L).getD g pl0) t := rfl
        have eb : bsN (ls L) t (g + 1) = bsN (ls L) t g ++ partB ((ls L).getD g pl0) t := rfl
        have la := la g
        have lb := lb g
        refine ⟨by omega, fun _ => by simp only [fits]; omega, fun _ => by simp only [fits]; omega, fun h3 => ?_, fun h3 => ?_⟩
        · have e22 : tornE ((ls L).getD g pl0) t = 22 := by
            simp only [bcond_l, bcond_r] at h3
            unfold tornE sndN; rw [h3]; rfl
          have := upTo_eq (f := fun j => tornE ((ls L).getD j pl0) t) hg.2 (by show tornE _ t ≠ 0; rw [e22]; decide) hlt'
          exact part_bad (by rw [hE, if_pos (by rw [this, e22]; decide)]) (by decide)
        · have ez : tornE ((ls L).getD g pl0) t = 0 := by
            simp only [bcond_l, bcond_r] at h3
            unfold tornE sndN; rw [h3]; rfl
          have hup := upTo_succ (f := fun j => tornE ((ls L).getD j pl0) t) hg.2 ez
          refine ⟨fun h4 => ?_, fun h4 => ⟨by simp only [fits]; omega, by simp only [fits]; omega, fun h5 => ?_, fun h5 => ?_⟩⟩
          · have h4' : ¬ ((ls L).getD g pl0).2 < t := by simpa using h4
            refine ⟨by simp only [room]; omega, by simp only [fits]; omega, g + 1, ⟨hlt', hup⟩, by omega, by simp, by trivial, by trivial, by trivial, by trivial, by trivial, ?_, ?_, by trivial, by trivial, by trivial, trivial⟩
            · rw [ea]; unfold partA; rw [if_neg h4', List.append_nil]
            · rw [eb]; unfold partB; rw [if_neg h4']
          · have h4' : ((ls L).getD g pl0).2 < t := by simpa using h4
            have h5' := of_decide_eq_true h5
            refine ⟨by simp only [room]; omega, by simp only [fits]; omega, g + 1, ⟨hlt', hup⟩, by omega, by simp, by trivial, by trivial, by trivial, by trivial, by trivial, ?_, ?_, by trivial, by trivial, by trivial, trivial⟩
            · rw [ea]; unfold partA; rw [if_pos h4', if_pos h5']
            · rw [eb]; unfold partB; rw [if_pos h4', if_pos h5', List.append_nil]
          · have h4' : ((ls L).getD g pl0).2 < t := by simpa using h4
            have h5' := of_decide_eq_false h5
            refine ⟨by simp only [fits]; omega, by simp only [fits]; omega, by simp only [room]; omega, by simp only [room]; omega, by simp only [fits]; omega, g + 1, ⟨hlt', hup⟩, by omega, by simp, by trivial, by trivial, by trivial, by trivial, by trivial, ?_, ?_, by trivial, by trivial, by trivial, trivial⟩
            · rw [ea]; unfold partA; rw [if_pos h4', if_neg h5']
            · rw [eb]; unfold partB; rw [if_pos h4', if_neg h5']
      · have hge' : ¬ g < L.length := by simpa using hge
        have hgl : g = L.length := by omega
        subst hgl
        have la := la L.length
        have lb := lb L.length
        have hE2 := hE.trans (if_neg (by simpa using hg.2))
        refine ⟨hl, hR, by omega, by omega, fun h3 => ?_, fun h3 => ?_⟩
        · exact part_bad hE2 (by simpa using h3)
        · have hz : partE R L t = 0 := hE2.trans (by simpa using h3)
          unfold partL
          rw [if_pos hz, hz]
          exact ⟨rfl, rfl, rfl, trivial⟩
theorem so84_ : SpecOk P1 gl1 84 sp84 := by
  intro vs ps r h hp
  simp only [sp84] at h
  split at h
  · cases h; exact fn84 _ _ _ (hp _ (.head _)) (hp _ (.tail _ (.head _))) (hp _ (.tail _ (.tail _ (.head _))))
  · cases h
theorem so84 : Sp1 84 sp84 := ⟨so84_, Proofs.Tryz.f84, _, by kernel_rfl, rfl, by kernel_rfl⟩
theorem fn197 (x : Ed)  : Fn P1 gl1 197 [edV x] (.val (.one (.frs (.int .i64) (numsE x)))) true := by
  refine Fn.flat ?_ rfl
  refine fn_of false [] [] h0 0 Proofs.Tryz.f197 trivial trivial (by kernel_rfl) rfl (by kernel_rfl) rfl rfl rfl ?_
  rw [vc197]
  try simp only [splitB_iff, -eq_self]
  trivial
theorem so197_ : SpecOk P1 gl1 197 sp197 := by
  intro vs ps r h _
  simp only [sp197] at h
  split at h
  · cases h; exact fn197 (_, _, _, _, _) 
  · cases h
theorem so197 : Sp1 197 sp197 := ⟨so197_, Proofs.Tryz.f197, _, by kernel_rfl, rfl, by kernel_rfl⟩
theorem fn202 (l : List Int) (hl : l.length ≤ 1000000) (hb : ∀ n ∈ l, fits .i64 n) : Fn P1 gl1 202 [.one (.sl (.int .i64) l), .one (.fn 203 [] [])] (.val (.one (.frs .str (l.map Lib.itoa)))) true := by
  refine Fn.flat ?_ rfl
  refine fn_of false [(203, sp203)] [] h202 0 Proofs.Tryz.f202 ⟨so203, trivial⟩ trivial (by kernel_rfl) rfl (by kernel_rfl) rfl rfl rfl ?_
  rw [vc202]
  try simp only [splitB_iff, -eq_self]
  refine ⟨⟨0, Nat.zero_le _, rfl, by trivial, by trivial, by simp⟩, fun g hg => ⟨fun hlt => ?_, fun hge => ?_⟩⟩
  · have hlt' : g < l.length := by simpa using hlt
    refine ⟨by omega, hb _ (getD_mem (d := 0) hlt'), by simp only [room, List.length_map, List.length_take]; omega, by simp only [fits]; omega, g + 1, hlt', by omega, by simp, by trivial, by trivial, ?_, trivial⟩
    rw [getD_of hlt', List.take_succ_eq_append_getElem hlt', List.map_append]
    rfl
  · have hge' : ¬ g < l.length := by simpa using hge
    rw [List.take_of_length_le (by omega)]
    exact ⟨rfl, trivial⟩
theorem so202_ : SpecOk P1 gl1 202 sp202 := by
  intro vs ps r h hp
  simp only [sp202] at h
  split at h
  · cases h; exact fn202 _ (hp _ (.head _)) (hp _ (.tail _ (.head _)))
  · cases h
theorem so202 : Sp1 202 sp202 := ⟨so202_, Proofs.Tryz.f202, _, by kernel_rfl, rfl, by kernel_rfl⟩
theorem fn162 (x : Ed) (hb : ∀ n ∈ numsE x, fits .i64 n) (hn : x.1.length ≤ 1000000) : Fn P1 gl1 162 [edV x] (.val (sV (lineE x))) true := by
  refine Fn.flat ?_ rfl
  refine fn_of false [(197, sp197), (202, sp202), (160, sp160)] [] h0 0 Proofs.Tryz.f162 ⟨so197, so202, so160, trivial⟩ trivial (by kernel_rfl) rfl (by kernel_rfl) rfl rfl rfl ?_
  rw [vc162]
  try simp only [-eq_self]
  have hj := line_len hb
  have e : ([[101, 100, 105, 116], x.1] ++ (numsE x).map Lib.itoa).length = 6 := rfl
  exact ⟨by simp [numsE], hb, (by simp [room] : room 6 16), by show _ ≤ _; rw [show _ = 6 from e]; decide, by show List.length (Lib.join ([[101, 100, 105, 116], x.1] ++ (numsE x).map Lib.itoa) [32]) ≤ _; omega, by show List.length (Lib.join ([[101, 100, 105, 116], x.1] ++ (numsE x).map Lib.itoa) [32]) + 1 ≤ _; omega, rfl, trivial⟩
theorem so162_ : SpecOk P1 gl1 162 sp162 := by
  intro vs ps r h hp
  simp only [sp162] at h
  split at h
  · cases h; exact fn162 (_, _, _, _, _) (hp _ (.head _)) (hp _ (.tail _ (.head _)))
  · cases h
theorem so162 : Sp1 162 sp162 := ⟨so162_, Proofs.Tryz.f162, _, by kernel_rfl, rfl, by kernel_rfl⟩
theorem fn161 (L : List Ed) (hl : L.length ≤ 1000000) (hb : ∀ x ∈ L, (∀ n ∈ numsE x, fits .i64 n) ∧ x.1.length ≤ 1000000) : Fn P1 gl1 161 [.one (.sl edT L), .one (.fn 162 [] [])] (.val (.one (.frs .str (L.map lineE)))) true := by
  refine Fn.flat ?_ rfl
  refine fn_of false [(162, sp162)] [] h161 0 Proofs.Tryz.f161 ⟨so162, trivial⟩ trivial (by kernel_rfl) rfl (by kernel_rfl) rfl rfl rfl ?_
  rw [vc161]
  try simp only [splitB_iff, -eq_self]
  refine ⟨⟨0, Nat.zero_le _, rfl, by trivial, by trivial, by simp⟩, fun g hg => ⟨fun hlt => ?_, fun hge => ?_⟩⟩
  · have hlt' : g < L.length := by simpa using hlt
    refine ⟨by omega, (hb _ (getD_mem (d := e0) hlt')).1, (hb _ (getD_mem (d := e0) hlt')).2, by simp only [room, List.length_map, List.length_take]; omega, by simp only [fits]; omega, g + 1, hlt', by omega, by simp, by trivial, by trivial, ?_, trivial⟩
    rw [getD_of hlt', List.take_succ_eq_append_getElem hlt', List.map_append]
    rfl
  · have hge' : ¬ g < L.length := by simpa using hge
    rw [List.take_of_length_le (by omega)]
    exact ⟨rfl, trivial⟩
theorem so161_ : SpecOk P1 gl1 161 sp161 := by
  intro vs ps r h hp
  simp only [sp161] at h
  split at h
  · cases h; exact fn161 _ (hp _ (.head _)) (hp _ (.tail _ (.head _)))
  · cases h
theorem so161 : Sp1 161 sp161 := ⟨so161_, Proofs.Tryz.f161, _, by kernel_rfl, rfl, by kernel_rfl⟩
theorem fn110 (l : List Int) (hl : l.length ≤ 1000000) : Fn P1 gl1 110 [.one (.sl (.int .i64) l), .one (.fn 198 [] [])] (.val (.one (.frs (.int .i64) (l.map fun n => within n (-999999999) 999999999)))) true := by
  refine Fn.flat ?_ rfl
  refine fn_of false [(109, sp109)] [fb198] hMapTx 3 Proofs.Tryz.f110 ⟨so109, trivial⟩ ⟨⟨by kernel_rfl, by kernel_rfl, _, rfl, by kernel_rfl⟩, trivial⟩ (by kernel_rfl) rfl (by kernel_rfl) rfl rfl rfl ?_
  rw [vc110]
  try simp only [splitB_iff, -eq_self]
  refine ⟨⟨0, Nat.zero_le _, rfl, by trivial, by trivial, by simp⟩, fun g hg => ⟨fun hlt => ?_, fun hge => ?_⟩⟩
  · have hlt' : g < l.length := by simpa using hlt
    refine ⟨by omega, by simp only [room, List.length_map, List.length_take]; omega, by simp only [fits]; omega, g + 1, hlt', by omega, by simp, by trivial, by trivial, ?_, trivial⟩
    rw [getD_of hlt', List.take_succ_eq_append_getElem hlt', List.map_append]
    rfl
  · have hge' : ¬ g < l.length := by simpa using hge
    rw [List.take_of_length_le (by omega)]
    exact ⟨rfl, trivial⟩
theorem so110_ : SpecOk P1 gl1 110 sp110 := by
  intro vs ps r h hp
  simp only [sp110] at h
  split at h
  · cases h; exact fn110 _ (hp _ (.head _))
  · cases h
theorem so110 : Sp1 110 sp110 := ⟨so110_, Proofs.Tryz.f110, _, by kernel_rfl, rfl, by kernel_rfl⟩
theorem fn159 (L : List Ed) (hl : L.length ≤ 1000000000) : Fn P1 gl1 159 [.one (.sl edT L)] (.val (iV (chkText L))) true := by
  refine Fn.flat ?_ rfl
  refine fn_of false [(108, sp108), (197, sp197), (110, sp110), (106, sp106)] [] h159 0 Proofs.Tryz.f159 ⟨so108, so197, so110, so106, trivial⟩ trivial (by kernel_rfl) rfl (by kernel_rfl) rfl rfl rfl ?_
  rw [vc159]
  try simp only [splitB_iff, -eq_self]
  refine ⟨fun h => ?_, fun h => ⟨⟨0, ⟨Nat.zero_le _, rfl⟩, rfl, by trivial, by trivial, trivial⟩, fun g hg => ⟨fun hlt => ?_, fun hge => ?_⟩⟩⟩
  · exact ⟨(if_pos (by have := of_decide_eq_true h; omega)).symm, trivial⟩
  · have h16 : ¬ 16 < L.length := by have := of_decide_eq_false h; omega
    have hC : chkText L = upTo (fun i => chkTx (L.getD i e0)) L.length := if_neg h16
    have hlt' : g < L.length := by simpa using hlt
    refine ⟨by omega, fun h2 => ?_, fun h2 => ⟨by simp [numsE], by simp [numsE], fun h3 => ?_, fun h3 => ?_⟩⟩
    · have e : chkTx (L.getD g e0) = 8 := by unfold chkTx; rw [if_neg (by simpa using h2)]
      have := upTo_eq (f := fun i => chkTx (L.getD i e0)) hg.2 (by show chkTx _ ≠ 0; rw [e]; decide) hlt'
      rw [hC, this, e]; exact ⟨rfl, trivial⟩
    · have e : chkTx (L.getD g e0) = first ((numsE (L.getD g e0)).map fun n => within n (-999999999) 999999999) := by unfold chkTx; rw [if_pos (by simpa using h2)]
      have h3' : first ((numsE (L.getD g e0)).map fun n => within n (-999999999) 999999999) ≠ 0 := by simpa using h3
      have := upTo_eq (f := fun i => chkTx (L.getD i e0)) hg.2 (by show chkTx _ ≠ 0; rw [e]; exact h3') hlt'
      rw [hC, this, e]; exact ⟨rfl, trivial⟩
    · have e : chkTx (L.getD g e0) = first ((numsE (L.getD g e0)).map fun n => within n (-999999999) 999999999) := by unfold chkTx; rw [if_pos (by simpa using h2)]
      have h3' : first ((numsE (L.getD g e0)).map fun n => within n (-999999999) 999999999) = 0 := by simpa using h3
      exact ⟨by simp only [fits]; omega, g + 1, ⟨hlt', upTo_succ (f := fun i => chkTx (L.getD i e0)) hg.2 (e.trans h3')⟩, by omega, by simp, by trivial, by trivial, trivial⟩
  · have h16 : ¬ 16 < L.length := by have := of_decide_eq_false h; omega
    have hge' : ¬ g < L.length := by simpa using hge
    have hgl : g = L.length := by omega
    subst hgl
    exact ⟨((if_neg h16).trans hg.2).symm, trivial⟩
theorem so159_ : SpecOk P1 gl1 159 sp159 := by
  intro vs ps r h hp
  simp only [sp159] at h
  split at h
  · cases h; exact fn159 _ (hp _ (.head _))
  · cases h
theorem so159 : Sp1 159 sp159 := ⟨so159_, Proofs.Tryz.f159, _, by kernel_rfl, rfl, by kernel_rfl⟩
theorem fn90 (L : List Ed) (hl : L.length ≤ 1000000) (hn : ∀ x ∈ L, (∀ n ∈ numsE x, fits .i64 n) ∧ x.1.length ≤ 1000) : Fn P1 gl1 90 [.one (.sl edT L)] (.tup [sV (printN L), iV (chkText L)]) true := by
  refine Fn.flat ?_ rfl
  refine fn_of false [(159, sp159), (161, sp161), (160, sp160)] [] h0 0 Proofs.Tryz.f90 ⟨so159, so161, so160, trivial⟩ trivial (by kernel_rfl) rfl (by kernel_rfl) rfl rfl rfl ?_
  rw [vc90]
  try simp only [splitB_iff, -eq_self]
  refine ⟨by omega, fun h => ?_, fun h => ?_⟩
  · have h' : chkText L ≠ 0 := by simpa using h
    exact ⟨(if_neg h').symm, rfl, trivial⟩
  · have h' : chkText L = 0 := by simpa using h
    have h16 : L.length ≤ 16 := by
      apply Classical.byContradiction
      intro hn
      have : chkText L = 5 := if_pos (by omega)
      omega
    have hb : ∀ x ∈ L, (∀ n ∈ numsE x, fits .i64 n) ∧ x.1.length ≤ 1000000 := fun x hx => ⟨(hn x hx).1, by have := (hn x hx).2; omega⟩
    have hj := join_len 2000 (L.map lineE) (fun y hy => by
      obtain ⟨x, hx, rfl⟩ := List.mem_map.1 hy
      have h1 := line_len (hn x hx).1
      have h2 := (hn x hx).2
      unfold lineE
      rw [List.length_append]
      simp only [List.length_cons, List.length_nil]
      omega)
    rw [List.length_map] at hj
    exact ⟨hl, hb, by rw [List.length_map]; omega, by show (Lib.join (L.map lineE) []).length ≤ _; omega, (if_pos h').symm, h'.symm, trivial⟩
theorem so90_ : SpecOk P1 gl1 90 sp90 := by
  intro vs ps r h hp
  simp only [sp90] at h
  split at h
  · cases h; exact fn90 _ (hp _ (.head _)) (hp _ (.tail _ (.head _)))
  · cases h
theorem so90 : Sp1 90 sp90 := ⟨so90_, Proofs.Tryz.f90, _, by kernel_rfl, rfl, by kernel_rfl⟩

end Go.Sx

/- Plain functions and hints. -/
namespace Go.Sx.U
noncomputable def hide {α : Type} (a : α) : α := Classical.choose (⟨a, rfl⟩ : ∃ f : α, f = a)
theorem hide_eq {α : Type} (a : α) : hide a = a := Classical.choose_spec (⟨a, rfl⟩ : ∃ f : α, f = a)
def bothL : List Rl := [([97], 10, [0, 100, 200, 300, 400, 500]), ([98], 50, [40, 50, 60, 70])]
def editsL (n : Int) : List Ed := [([97], 11, 14, 0, 0), ([98], n, 53, 1, -1), ([97], 15, 16, 0, 0)]
def strmL : List UInt8 := [82, 69, 69, 76, 1, 99, 0, 0, 0, 1, 70, 1, 2, 9, 126, 69, 0, 1, 1, 2]
noncomputable def aR : List Rl := hide bothL
noncomputable def aL (n : Int) : List Ed := hide (editsL n)
noncomputable def aS : List UInt8 := hide strmL
end Go.Sx.U
namespace Go.Sx
open U
end Go.Sx
namespace Go.Sx
open U
noncomputable def sp97 : FSpec := ⟨fun vs => match vs with
  | [] => some ([], .val (.one (.sl rlT aR)))
  | _ => none, false⟩
noncomputable def sp98 : FSpec := ⟨fun vs => match vs with
  | [.one (.int .i64 n)] => some ([], .val (.one (.sl edT (aL n))))
  | _ => none, false⟩
noncomputable def sp96 : FSpec := ⟨fun vs => match vs with
  | [] => some ([], .val (sV aS))
  | _ => none, true⟩
def sp18 : FSpec := ⟨fun vs => match vs with
  | [] => some ([], .val (bV true))
  | _ => none, true⟩
end Go.Sx

/- What the engine asks, written out (printed by a program). -/
namespace Go.Sx
open U
theorem vc97 (_u : Unit) : exF (env false [] []) h0 0 97 Proofs.Tryz.f97 [] (.val (.one (.sl rlT aR))) = ([(Array.toList (ByteArray.data { data := #[(97 : UInt8)] }), (10 : Int), [(0 : Int), (100 : Int), (200 : Int), (300 : Int), (400 : Int), (500 : Int)]), (Array.toList (ByteArray.data { data := #[(98 : UInt8)] }), (50 : Int), [(40 : Int), (50 : Int), (60 : Int), (70 : Int)])] = aR ∧ True) := by
  kernel_rfl
theorem vc98 (n : Int) : exF (env false [] []) h0 0 98 Proofs.Tryz.f98 [iV n] (.val (.one (.sl edT (aL n)))) = ([(Array.toList (ByteArray.data { data := #[(97 : UInt8)] }), (11 : Int), (14 : Int), (0 : Int), (0 : Int)), (Array.toList (ByteArray.data { data := #[(98 : UInt8)] }), n, (53 : Int), (1 : Int), (-1 : Int)), (Array.toList (ByteArray.data { data := #[(97 : UInt8)] }), (15 : Int), (16 : Int), (0 : Int), (0 : Int))] = aL n ∧ True) := by
  kernel_rfl
theorem vc96 (_u : Unit) : exF (env false [] []) h0 0 96 Proofs.Tryz.f96 [] (.val (sV aS)) = (List.length (Array.toList (ByteArray.data { data := #[(82 : UInt8), (69 : UInt8), (69 : UInt8), (76 : UInt8), (1 : UInt8), (99 : UInt8), (0 : UInt8), (0 : UInt8), (0 : UInt8), (1 : UInt8)] })) + List.length (bytesOf [(70 : Int), (1 : Int), (2 : Int), (9 : Int), (126 : Int), (69 : Int), (0 : Int), (1 : Int), (1 : Int), (2 : Int)]) ≤ (9223372036854775807 : Nat) ∧ Array.toList (ByteArray.data { data := #[(82 : UInt8), (69 : UInt8), (69 : UInt8), (76 : UInt8), (1 : UInt8), (99 : UInt8), (0 : UInt8), (0 : UInt8), (0 : UInt8), (1 : UInt8)] }) ++ bytesOf [(70 : Int), (1 : Int), (2 : Int), (9 : Int), (126 : Int), (69 : Int), (0 : Int), (1 : Int), (1 : Int), (2 : Int)] = aS ∧ True) := by
  kernel_rfl
theorem vc18 (_u : Unit) : exF (env false [(19, sp19), (29, sp29), (27, sp27), (43, sp43), (33, sp33), (37, sp37), (35, sp35), (36, sp36), (69, sp69), (49, sp49), (50, sp50), (51, sp51), (84, sp84), (58, sp58), (60, sp60), (90, sp90), (97, sp97), (98, sp98), (96, sp96), (48, sp48), (74, sp74), (57, sp57), (32, sp32), (47, sp47), (73, sp73), (56, sp56), (44, sp44), (66, sp66)] []) h0 0 18 Proofs.Tryz.f18 [] (.val (bV true)) = (let q1 := (aL (51 : Int)); let q36 := (((25 : Int), false), ((0 : Int), (0 : Int), (0 : Int), (23 : Int)), (0 : Int)); let q0 := (if chkEds aR q1 = (0 : Int) then labsN q36 (ls q1) else []); let q25 := (ByteArray.data { data := #[(98 : UInt8)] }); let q21 := (ByteArray.data { data := #[(97 : UInt8)] }); let q22 := (chgL aR q1 (2 : Int) (-1 : Int) (1 : Int) rollL); let q2 := (List.drop (1 : Nat) q22 = [(Array.toList q25, (51 : Int), (52 : Int), (1 : Int), (-1 : Int)), (Array.toList q21, (14 : Int), (16 : Int), (0 : Int), (0 : Int))]); let q11 := (chgL aR q1 (0 : Int) (1 : Int) (0 : Int) trimL); let q16 := (List.getD q11 (0 : Nat) ([], (0 : Int), (0 : Int), (0 : Int), (0 : Int))); let q27 := (↑(List.length (partL aR q1 (5 : Int)).1) : Int); let q28 := (aL (50 : Int)); let q29 := (↑(List.length q11) : Int); let q14 := ((partL aR q1 (5 : Int)).2 = [(Array.toList q21, (15 : Int), (16 : Int), (0 : Int), (0 : Int))]); let q3 := (bif bif bif bif bif bif bif chgE aR q1 (0 : Int) (1 : Int) (0 : Int) trimL + chgE aR q1 (2 : Int) (-1 : Int) (1 : Int) rollL + partE aR q1 (5 : Int) + convE aR q1 [(1 : Int), (1 : Int)] + chkEds aR q1 + chkText q28 == (0 : Int) then chgE aR q1 (2 : Int) (1 : Int) (0 : Int) slipL == (14 : Int) else false then partE aR q1 (3 : Int) == (22 : Int) else false then q29 == (3 : Int) else false then q16.2.2.1 == (15 : Int) else false then decide q2 else false then q27 == (2 : Int) else false then decide q14 else false); let q33 := (↑(List.length q0) : Int); let q12 := (List.getD q0 (1 : Nat) ((0 : Int), (0 : Int), (0 : Int), (0 : Int))); let q37 := (Ty.int IntKind.i64); let q23 := (Ty.pair q37 (Ty.pair q37 (Ty.pair q37 q37))); let q24 := (convL aR q1 [(1 : Int), (1 : Int)] = [[(0 : Int), (1 : Int)], [(2 : Int), (3 : Int)], [(4 : Int), (5 : Int)]]); let q4 := (bif bif bif bif bif bif bif bif bif bif chgE aR q1 (0 : Int) (1 : Int) (0 : Int) trimL + chgE aR q1 (2 : Int) (-1 : Int) (1 : Int) rollL + partE aR q1 (5 : Int) + convE aR q1 [(1 : Int), (1 : Int)] + chkEds aR q1 + chkText q28 == (0 : Int) then chgE aR q1 (2 : Int) (1 : Int) (0 : Int) slipL == (14 : Int) else false then partE aR q1 (3 : Int) == (22 : Int) else false then q29 == (3 : Int) else false then q16.2.2.1 == (15 : Int) else false then decide q2 else false then q27 == (2 : Int) else false then decide q14 else false then decide q24 else false then q33 == (3 : Int) else false then eqT q23 (q12.1, q12.2.1, q12.2.2.1, q12.2.2.2) ((0 : Int), (0 : Int), (1 : Int), (1 : Int)) else false); let q5 := (bif bif bif bif chgE aR q1 (0 : Int) (1 : Int) (0 : Int) trimL + chgE aR q1 (2 : Int) (-1 : Int) (1 : Int) rollL + partE aR q1 (5 : Int) + convE aR q1 [(1 : Int), (1 : Int)] + chkEds aR q1 + chkText q28 == (0 : Int) then chgE aR q1 (2 : Int) (1 : Int) (0 : Int) slipL == (14 : Int) else false then partE aR q1 (3 : Int) == (22 : Int) else false then q29 == (3 : Int) else false then q16.2.2.1 == (15 : Int) else false); let q6 := (soundsN aR q1 = [(Array.toList q21, (11 : Int), (1 : Int), (1 : Int)), (Array.toList q21, (12 : Int), (1 : Int), (1 : Int)), (Array.toList q25, (50 : Int), (1 : Int), (1 : Int)), (Array.toList q25, (51 : Int), (1 : Int), (1 : Int)), (Array.toList q25, (52 : Int), (1 : Int), (1 : Int)), (Array.toList q21, (15 : Int), (1 : Int), (1 : Int))]); let q7 := (bif bif bif bif bif bif bif bif bif chgE aR q1 (0 : Int) (1 : Int) (0 : Int) trimL + chgE aR q1 (2 : Int) (-1 : Int) (1 : Int) rollL + partE aR q1 (5 : Int) + convE aR q1 [(1 : Int), (1 : Int)] + chkEds aR q1 + chkText q28 == (0 : Int) then chgE aR q1 (2 : Int) (1 : Int) (0 : Int) slipL == (14 : Int) else false then partE aR q1 (3 : Int) == (22 : Int) else false then q29 == (3 : Int) else false then q16.2.2.1 == (15 : Int) else false then decide q2 else false then q27 == (2 : Int) else false then decide q14 else false then decide q24 else false then q33 == (3 : Int) else false); let q8 := (List.getD (confN aR q1) (3 : Nat) [] = [(Array.toList q21, (14 : Int), (1 : Int), (2 : Int)), (Array.toList q25, (51 : Int), (1 : Int), (2 : Int))]); let q9 := (strNs (List.take (19 : Nat) aS)); let q19 := (1000000 : Nat); let q10 := ((bif bif bif bif bif bif chgE aR q1 (0 : Int) (1 : Int) (0 : Int) trimL + chgE aR q1 (2 : Int) (-1 : Int) (1 : Int) rollL + partE aR q1 (5 : Int) + convE aR q1 [(1 : Int), (1 : Int)] + chkEds aR q1 + chkText q28 == (0 : Int) then chgE aR q1 (2 : Int) (1 : Int) (0 : Int) slipL == (14 : Int) else false then partE aR q1 (3 : Int) == (22 : Int) else false then q29 == (3 : Int) else false then q16.2.2.1 == (15 : Int) else false then decide q2 else false then q27 == (2 : Int) else false) = true → List.length (partL aR q1 (5 : Int)).2 ≤ q19); let q13 := (bif bif bif chgE aR q1 (0 : Int) (1 : Int) (0 : Int) trimL + chgE aR q1 (2 : Int) (-1 : Int) (1 : Int) rollL + partE aR q1 (5 : Int) + convE aR q1 [(1 : Int), (1 : Int)] + chkEds aR q1 + chkText q28 == (0 : Int) then chgE aR q1 (2 : Int) (1 : Int) (0 : Int) slipL == (14 : Int) else false then partE aR q1 (3 : Int) == (22 : Int) else false then q29 == (3 : Int) else false); let q15 := (1000000000 : Nat); let q35 := (ByteArray.data { data := #[(99 : UInt8)] }); let q17 := (((rebuilt q9).1.1, (rebuilt q9).1.2.1, (rebuilt q9).1.2.2) = (Array.toList q35, (1 : Int), [(258 : Int)])); let q18 := (↑(List.length (confN aR q1)) : Int); let q20 := (stream (Array.toList q35) (1 : Int) [(258 : Int)]); let q26 := (List.getD q0 (2 : Nat) ((0 : Int), (0 : Int), (0 : Int), (0 : Int))); let q30 := ((bif bif q18 != (6 : Int) then true else !decide q8 then true else !decide q6) = false → List.length (needN aR q1) ≤ q19); let q31 := ((bif q18 != (6 : Int) then true else !decide q8) = false → List.length (soundsN aR q1) ≤ q19); let q32 := ((0 : Int) ≤ (0 : Int) ∧ (0 : Int) ≤ (19 : Int) ∧ (19 : Int) ≤ (↑(List.length aS) : Int)); let q34 := ((q18 != (6 : Int)) = false → List.length (List.getD (confN aR q1) (3 : Nat) []) ≤ q19); let q38 := (startsN aR q1 = [(0 : Int), (3 : Int), (5 : Int)]); let q39 := (↑(List.length q22) : Int); ReelOk (Array.toList q35) (1 : Int) [(258 : Int)] ∧ q32 ∧ (List.length q9 ≤ q19 ∧ Bytes q9) ∧ q32 ∧ (List.length q9 ≤ q19 ∧ Bytes q9) ∧ List.length aR ≤ q15 ∧ (∀ (r : Rl), r ∈ aR → List.length r.2.2 ≤ q19) ∧ List.length q28 ≤ q15 ∧ List.length aR ≤ q15 ∧ (∀ (r : Rl), r ∈ aR → List.length r.2.2 ≤ q19) ∧ List.length q1 ≤ q15 ∧ List.length aR ≤ q15 ∧ (∀ (r : Rl), r ∈ aR → List.length r.2.2 ≤ q19) ∧ List.length q1 ≤ q15 ∧ List.length aR ≤ q15 ∧ (∀ (r : Rl), r ∈ aR → List.length r.2.2 ≤ q19) ∧ List.length q1 ≤ q15 ∧ List.length aR ≤ q15 ∧ (∀ (r : Rl), r ∈ aR → List.length r.2.2 ≤ q19) ∧ List.length q1 ≤ q15 ∧ List.length aR ≤ q15 ∧ (∀ (r : Rl), r ∈ aR → List.length r.2.2 ≤ q19) ∧ List.length q1 ≤ q15 ∧ fits IntKind.i64 ((0 : Int) + (rebuilt q9).2.2) ∧ fits IntKind.i64 ((0 : Int) + (rebuilt q9).2.2 + chkEds aR q1) ∧ fits IntKind.i64 ((0 : Int) + (rebuilt q9).2.2 + chkEds aR q1 + chkEds aR q1) ∧ fits IntKind.i64 ((0 : Int) + (rebuilt q9).2.2 + chkEds aR q1 + chkEds aR q1 + chkEds aR q1) ∧ fits IntKind.i64 ((0 : Int) + (rebuilt q9).2.2 + chkEds aR q1 + chkEds aR q1 + chkEds aR q1 + chkEds aR q1) ∧ fits IntKind.i64 ((0 : Int) + (rebuilt q9).2.2 + chkEds aR q1 + chkEds aR q1 + chkEds aR q1 + chkEds aR q1 + chkEds aR q1) ∧ ((bif bif bif (0 : Int) + (rebuilt q9).2.2 + chkEds aR q1 + chkEds aR q1 + chkEds aR q1 + chkEds aR q1 + chkEds aR q1 != (0 : Int) then true else (readS q9).2 != (28 : Int) then true else chkEds aR q28 != (16 : Int) then true else bytesOf q20 != aS) = false → List.length (rebuilt q9).1.2.2 ≤ q19) ∧ ((bif bif bif bif bif (0 : Int) + (rebuilt q9).2.2 + chkEds aR q1 + chkEds aR q1 + chkEds aR q1 + chkEds aR q1 + chkEds aR q1 != (0 : Int) then true else (readS q9).2 != (28 : Int) then true else chkEds aR q28 != (16 : Int) then true else bytesOf q20 != aS then true else !decide q17 then true else (rebuilt q9).2.1) = false → List.length (startsN aR q1) ≤ q15) ∧ ((bif bif bif bif bif bif bif (0 : Int) + (rebuilt q9).2.2 + chkEds aR q1 + chkEds aR q1 + chkEds aR q1 + chkEds aR q1 + chkEds aR q1 != (0 : Int) then true else (readS q9).2 != (28 : Int) then true else chkEds aR q28 != (16 : Int) then true else bytesOf q20 != aS then true else !decide q17 then true else (rebuilt q9).2.1 then true else !decide q38 then true else lenN aR q1 != (6 : Int)) = false → List.length (playN aR q1) ≤ q15) ∧ splitB (bif bif bif bif bif bif bif bif (0 : Int) + (rebuilt q9).2.2 + chkEds aR q1 + chkEds aR q1 + chkEds aR q1 + chkEds aR q1 + chkEds aR q1 != (0 : Int) then true else (readS q9).2 != (28 : Int) then true else chkEds aR q28 != (16 : Int) then true else bytesOf q20 != aS then true else !decide q17 then true else (rebuilt q9).2.1 then true else !decide q38 then true else lenN aR q1 != (6 : Int) then true else !decide (playN aR q1 = [(100 : Int), (200 : Int), (300 : Int), (225 : Int), (60 : Int), (500 : Int)])) (false = true ∧ True) (((q18 != (6 : Int)) = false → (0 : Int) ≤ (3 : Int) ∧ (3 : Int) < q18) ∧ ((q18 != (6 : Int)) = false → (3 : Nat) < List.length (confN aR q1)) ∧ q34 ∧ q34 ∧ q31 ∧ q31 ∧ q30 ∧ q30 ∧ splitB (bif bif bif q18 != (6 : Int) then true else !decide q8 then true else !decide q6 then true else !decide (needN aR q1 = [(Array.toList q21, (11 : Int), (16 : Int)), (Array.toList q25, (50 : Int), (53 : Int))])) (false = true ∧ True) (List.length aR ≤ q15 ∧ (∀ (r : Rl), r ∈ aR → List.length r.2.2 ≤ q19) ∧ List.length q1 ≤ q15 ∧ List.length aR ≤ q15 ∧ (∀ (r : Rl), r ∈ aR → List.length r.2.2 ≤ q19) ∧ List.length q1 ≤ q15 ∧ List.length aR ≤ q15 ∧ (∀ (r : Rl), r ∈ aR → List.length r.2.2 ≤ q19) ∧ List.length q1 ≤ q15 ∧ List.length aR ≤ q15 ∧ (∀ (r : Rl), r ∈ aR → List.length r.2.2 ≤ q19) ∧ List.length q1 ≤ q15 ∧ List.length aR ≤ q15 ∧ (∀ (r : Rl), r ∈ aR → List.length r.2.2 ≤ q19) ∧ List.length q1 ≤ q15 ∧ List.length aR ≤ q15 ∧ (∀ (r : Rl), r ∈ aR → List.length r.2.2 ≤ q19) ∧ List.length q1 ≤ q15 ∧ List.length aR ≤ q15 ∧ (∀ (r : Rl), r ∈ aR → List.length r.2.2 ≤ q19) ∧ List.length q1 ≤ q15 ∧ StOk q36 ∧ List.length q28 ≤ q19 ∧ (∀ (x : Ed), x ∈ aL (50 : Int) → (∀ (n : Int), n ∈ numsE x → fits IntKind.i64 n) ∧ List.length x.1 ≤ (1000 : Nat)) ∧ fits IntKind.i64 (chgE aR q1 (0 : Int) (1 : Int) (0 : Int) trimL + chgE aR q1 (2 : Int) (-1 : Int) (1 : Int) rollL) ∧ fits IntKind.i64 (chgE aR q1 (0 : Int) (1 : Int) (0 : Int) trimL + chgE aR q1 (2 : Int) (-1 : Int) (1 : Int) rollL + partE aR q1 (5 : Int)) ∧ fits IntKind.i64 (chgE aR q1 (0 : Int) (1 : Int) (0 : Int) trimL + chgE aR q1 (2 : Int) (-1 : Int) (1 : Int) rollL + partE aR q1 (5 : Int) + convE aR q1 [(1 : Int), (1 : Int)]) ∧ fits IntKind.i64 (chgE aR q1 (0 : Int) (1 : Int) (0 : Int) trimL + chgE aR q1 (2 : Int) (-1 : Int) (1 : Int) rollL + partE aR q1 (5 : Int) + convE aR q1 [(1 : Int), (1 : Int)] + chkEds aR q1) ∧ fits IntKind.i64 (chgE aR q1 (0 : Int) (1 : Int) (0 : Int) trimL + chgE aR q1 (2 : Int) (-1 : Int) (1 : Int) rollL + partE aR q1 (5 : Int) + convE aR q1 [(1 : Int), (1 : Int)] + chkEds aR q1 + chkText q28) ∧ (q13 = true → (0 : Int) ≤ (0 : Int) ∧ (0 : Int) < q29) ∧ (q13 = true → (0 : Nat) < List.length q11) ∧ (q5 = true → List.length q22 ≤ q19) ∧ (q5 = true → (0 : Int) ≤ (1 : Int) ∧ (1 : Int) ≤ q39 ∧ q39 ≤ q39) ∧ (q5 = true → List.length (List.drop (1 : Nat) q22) ≤ q19) ∧ q10 ∧ q10 ∧ (q3 = true → List.length (convL aR q1 [(1 : Int), (1 : Int)]) ≤ q19) ∧ (q3 = true → ∀ (x : List Int), x ∈ convL aR q1 [(1 : Int), (1 : Int)] → List.length x = (2 : Nat)) ∧ (q3 = true → ∀ (x : List Int), x ∈ [[(0 : Int), (1 : Int)], [(2 : Int), (3 : Int)], [(4 : Int), (5 : Int)]] → List.length x = (2 : Nat)) ∧ (q7 = true → (0 : Int) ≤ (1 : Int) ∧ (1 : Int) < q33) ∧ (q7 = true → (1 : Nat) < List.length q0) ∧ (q4 = true → (0 : Int) ≤ (2 : Int) ∧ (2 : Int) < q33) ∧ (q4 = true → (2 : Nat) < List.length q0) ∧ (bif bif bif bif bif bif bif bif bif bif bif bif chgE aR q1 (0 : Int) (1 : Int) (0 : Int) trimL + chgE aR q1 (2 : Int) (-1 : Int) (1 : Int) rollL + partE aR q1 (5 : Int) + convE aR q1 [(1 : Int), (1 : Int)] + chkEds aR q1 + chkText q28 == (0 : Int) then chgE aR q1 (2 : Int) (1 : Int) (0 : Int) slipL == (14 : Int) else false then partE aR q1 (3 : Int) == (22 : Int) else false then q29 == (3 : Int) else false then q16.2.2.1 == (15 : Int) else false then decide q2 else false then q27 == (2 : Int) else false then decide q14 else false then decide q24 else false then q33 == (3 : Int) else false then eqT q23 (q12.1, q12.2.1, q12.2.2.1, q12.2.2.2) ((0 : Int), (0 : Int), (1 : Int), (1 : Int)) else false then eqT q23 (q26.1, q26.2.1, q26.2.2.1, q26.2.2.2) ((0 : Int), (0 : Int), (1 : Int), (3 : Int)) else false then printN q28 == Array.toList (ByteArray.data { data := #[(101 : UInt8), (100 : UInt8), (105 : UInt8), (116 : UInt8), (32 : UInt8), (97 : UInt8), (32 : UInt8), (49 : UInt8), (49 : UInt8), (32 : UInt8), (49 : UInt8), (52 : UInt8), (32 : UInt8), (48 : UInt8), (32 : UInt8), (48 : UInt8), (10 : UInt8), (101 : UInt8), (100 : UInt8), (105 : UInt8), (116 : UInt8), (32 : UInt8), (98 : UInt8), (32 : UInt8), (53 : UInt8), (48 : UInt8), (32 : UInt8), (53 : UInt8), (51 : UInt8), (32 : UInt8), (49 : UInt8), (32 : UInt8), (45 : UInt8), (49 : UInt8), (10 : UInt8), (101 : UInt8), (100 : UInt8), (105 : UInt8), (116 : UInt8), (32 : UInt8), (97 : UInt8), (32 : UInt8), (49 : UInt8), (53 : UInt8), (32 : UInt8), (49 : UInt8), (54 : UInt8), (32 : UInt8), (48 : UInt8), (32 : UInt8), (48 : UInt8), (10 : UInt8)] }) else false) = true ∧ True))) := by
  kernel_rfl
end Go.Sx

/- Contracts. -/
namespace Go.Sx
open U
theorem fn97   : Fn P1 gl1 97 [] (.val (.one (.sl rlT aR))) false := by
  refine fn_of false [] [] h0 0 Proofs.Tryz.f97 trivial trivial (by kernel_rfl) rfl (by kernel_rfl) rfl rfl rfl ?_
  rw [vc97 ()]
  try simp only [-eq_self]
  exact ⟨(hide_eq bothL).symm, trivial⟩
theorem so97_ : SpecOk P1 gl1 97 sp97 := by
  intro vs ps r h _
  simp only [sp97] at h
  split at h
  · cases h; exact fn97  
  · cases h
theorem so97 : Sp1 97 sp97 := ⟨so97_, Proofs.Tryz.f97, _, by kernel_rfl, rfl, by kernel_rfl⟩
theorem fn98 (n : Int)  : Fn P1 gl1 98 [iV n] (.val (.one (.sl edT (aL n)))) false := by
  refine fn_of false [] [] h0 0 Proofs.Tryz.f98 trivial trivial (by kernel_rfl) rfl (by kernel_rfl) rfl rfl rfl ?_
  rw [vc98]
  try simp only [-eq_self]
  exact ⟨(hide_eq (editsL n)).symm, trivial⟩
theorem so98_ : SpecOk P1 gl1 98 sp98 := by
  intro vs ps r h _
  simp only [sp98] at h
  split at h
  · cases h; exact fn98 _ 
  · cases h
theorem so98 : Sp1 98 sp98 := ⟨so98_, Proofs.Tryz.f98, _, by kernel_rfl, rfl, by kernel_rfl⟩
theorem fn96   : Fn P1 gl1 96 [] (.val (sV aS)) true := by
  refine Fn.flat ?_ rfl
  refine fn_of false [] [] h0 0 Proofs.Tryz.f96 trivial trivial (by kernel_rfl) rfl (by kernel_rfl) rfl rfl rfl ?_
  rw [vc96 ()]
  try simp only [-eq_self]
  exact ⟨by decide, (hide_eq strmL).symm, trivial⟩
theorem so96_ : SpecOk P1 gl1 96 sp96 := by
  intro vs ps r h _
  simp only [sp96] at h
  split at h
  · cases h; exact fn96  
  · cases h
theorem so96 : Sp1 96 sp96 := ⟨so96_, Proofs.Tryz.f96, _, by kernel_rfl, rfl, by kernel_rfl⟩
theorem fn18   : Fn P1 gl1 18 [] (.val (bV true)) true := by
  refine Fn.flat ?_ rfl
  refine fn_of false [(19, sp19), (29, sp29), (27, sp27), (43, sp43), (33, sp33), (37, sp37), (35, sp35), (36, sp36), (69, sp69), (49, sp49), (50, sp50), (51, sp51), (84, sp84), (58, sp58), (60, sp60), (90, sp90), (97, sp97), (98, sp98), (96, sp96), (48, sp48), (74, sp74), (57, sp57), (32, sp32), (47, sp47), (73, sp73), (56, sp56), (44, sp44), (66, sp66)] [] h0 0 Proofs.Tryz.f18 ⟨so19, so29, so27, so43, so33, so37, so35, so36, so69, so49, so50, so51, so84, so58, so60, so90, so97, so98, so96, so48, so74, so57, so32, so47, so73, so56, so44, so66, trivial⟩ trivial (by kernel_rfl) rfl (by kernel_rfl) rfl rfl rfl ?_
  rw [vc18 ()]
  try simp only [splitB_iff, -eq_self]
  have hR : aR = bothL := hide_eq bothL
  have hL : aL 51 = editsL 51 := hide_eq (editsL 51)
  have hM : aL 50 = editsL 50 := hide_eq (editsL 50)
  have hS : aS = strmL := hide_eq strmL
  have s1 : strNs (List.take 19 aS) = [82, 69, 69, 76, 1, 99, 0, 0, 0, 1, 70, 1, 2, 9, 126, 69, 0, 1, 1] := by rw [hS]; decide +kernel
  have s2 : rebuilt [82, 69, 69, 76, 1, 99, 0, 0, 0, 1, 70, 1, 2, 9, 126, 69, 0, 1, 1] = (([99], 1, [258]), false, 0) := by decide +kernel
  have s3 : (readS [82, 69, 69, 76, 1, 99, 0, 0, 0, 1, 70, 1, 2, 9, 126, 69, 0, 1, 1]).2 = 28 := by decide +kernel
  have s4 : bytesOf (stream [99] 1 [258]) = aS := by rw [hS]; decide +kernel
  have s5 : Bytes [82, 69, 69, 76, 1, 99, 0, 0, 0, 1, 70, 1, 2, 9, 126, 69, 0, 1, 1] := by unfold Bytes; decide
  have s6 : List.length aS = 20 := by rw [hS]; rfl
  have s7 : ReelOk [99] 1 [258] := checkReel_zero.1 (by decide +kernel)
  have s8 : StOk ((25, false), (0, 0, 0, 23), 0) := chkStZ.1 (by decide +kernel)
  have c1 : chkEds aR (aL 50) = 16 := by rw [hR, hM]; decide +kernel
  have c2 : chkEds aR (aL 51) = 0 := by rw [hR, hL]; decide +kernel
  have c3 : startsN aR (aL 51) = [0, 3, 5] := by rw [hR, hL]; decide +kernel
  have c4 : lenN aR (aL 51) = 6 := by rw [hR, hL]; decide +kernel
  have c5 : playN aR (aL 51) = [100, 200, 300, 225, 60, 500] := by rw [hR, hL]; decide +kernel
  have c6 : confN aR (aL 51) = [[([97], 11, 1, 1)], [([97], 12, 1, 1)], [([97], 13, 1, 1)], [([97], 14, 1, 2), ([98], 51, 1, 2)], [([98], 52, 1, 1)], [([97], 15, 1, 1)]] := by rw [hR, hL]; decide +kernel
  have c7 : soundsN aR (aL 51) = [([97], 11, 1, 1), ([97], 12, 1, 1), ([98], 50, 1, 1), ([98], 51, 1, 1), ([98], 52, 1, 1), ([97], 15, 1, 1)] := by rw [hR, hL]; decide +kernel
  have c8 : needN aR (aL 51) = [([97], 11, 16), ([98], 50, 53)] := by rw [hR, hL]; decide +kernel
  have d1 : chgL aR (aL 51) 0 1 0 trimL = [([97], 11, 15, 0, 0), ([98], 51, 53, 1, -1), ([97], 15, 16, 0, 0)] := by rw [hR, hL]; decide +kernel
  have d2 : chgE aR (aL 51) 0 1 0 trimL = 0 := by rw [hR, hL]; decide +kernel
  have d3 : chgL aR (aL 51) 2 (-1) 1 rollL = [([97], 11, 14, 0, 0), ([98], 51, 52, 1, -1), ([97], 14, 16, 0, 0)] := by rw [hR, hL]; decide +kernel
  have d4 : chgE aR (aL 51) 2 (-1) 1 rollL = 0 := by rw [hR, hL]; decide +kernel
  have d5 : chgE aR (aL 51) 2 1 0 slipL = 14 := by rw [hR, hL]; decide +kernel
  have d6 : partL aR (aL 51) 5 = ([([97], 11, 14, 0, 0), ([98], 51, 53, 1, -1)], [([97], 15, 16, 0, 0)]) := by rw [hR, hL]; exact Prod.ext (by decide +kernel) (by decide +kernel)
  have d7 : partE aR (aL 51) 5 = 0 := by rw [hR, hL]; decide +kernel
  have d8 : partE aR (aL 51) 3 = 22 := by rw [hR, hL]; decide +kernel
  have d9 : convL aR (aL 51) [1, 1] = [[0, 1], [2, 3], [4, 5]] := by rw [hR, hL]; decide +kernel
  have f1 : convE aR (aL 51) [1, 1] = 0 := by rw [hR, hL]; decide +kernel
  have f2 : labsN ((25, false), (0, 0, 0, 23), 0) (ls (aL 51)) = [(0, 0, 0, 23), (0, 0, 1, 1), (0, 0, 1, 3)] := by rw [hL]; decide +kernel
  have f3 : printN (aL 50) = [101, 100, 105, 116, 32, 97, 32, 49, 49, 32, 49, 52, 32, 48, 32, 48, 10, 101, 100, 105, 116, 32, 98, 32, 53, 48, 32, 53, 51, 32, 49, 32, 45, 49, 10, 101, 100, 105, 116, 32, 97, 32, 49, 53, 32, 49, 54, 32, 48, 32, 48, 10] := by rw [hM]; decide +kernel
  have f4 : chkText (aL 50) = 0 := by rw [hM]; decide +kernel
  have g1 : List.length aR = 2 := by rw [hR]; rfl
  have g2 : ∀ r : Rl, r ∈ aR → List.length r.2.2 ≤ 1000000 := by rw [hR]; decide
  have g3 : List.length (aL 51) = 3 := by rw [hL]; rfl
  have g4 : List.length (aL 50) = 3 := by rw [hM]; rfl
  have g5 : ∀ x : Ed, x ∈ aL 50 → (∀ n : Int, n ∈ numsE x → fits .i64 n) ∧ List.length x.1 ≤ 1000 := by rw [hM]; simp only [fits]; decide
  have g6 : ∀ x : List Int, x ∈ [[0, 1], [2, 3], [4, 5]] → List.length x = 2 := by decide
  have k9 : Array.toList (ByteArray.data { data := #[(99 : UInt8)] }) = [99] := rfl
  simp only [s1, s2, s3, s4, s6, c1, c2, c3, c4, c5, c6, c7, c8, d1, d2, d3, d4, d5, d6, d7, d8, d9, f1, f2, f3, f4, g1, g3, g4, if_true]
  simp only [hS, eq_true s5, eq_true s7, eq_true s8, eq_true g2, eq_true g5, eq_true g6]
  simp only [fits]
  repeat' (first | exact trivial | refine And.intro ?_ ?_ | intro _)
  all_goals first | decide +kernel | (rename_i h; exact absurd h (by decide +kernel))
theorem so18_ : SpecOk P1 gl1 18 sp18 := by
  intro vs ps r h _
  simp only [sp18] at h
  split at h
  · cases h; exact fn18  
  · cases h
theorem so18 : Sp1 18 sp18 := ⟨so18_, Proofs.Tryz.f18, _, by kernel_rfl, rfl, by kernel_rfl⟩

end Go.Sx

/- Plain functions and hints. -/
namespace Go.Sx.U
/-- What the reference reads at a place. -/
def recS (s : List Int) (at_ : Int) (l : List Int) : Int × Bool × Int := rdRec (s.drop at_.toNat) l
def hdAt (s : List Int) : Int := 9 + s.getD 4 0
end Go.Sx.U
namespace Go.Sx
open U
@[reducible] def rnV (nm : List UInt8) (f : Int) : V := .agg [.one (.str nm), .one (.int .i64 f), .one .nils]
def h105 : Hints := ⟨fun f k s => match f, k with
  | 105, 3 => match listAs s 0 (.int .i64) with
    | some l => some ⟨Nat, fun i => s.at [0] [tI 4 i, tI 3 (isum (List.take i l) % 65521)], fun i => i ≤ List.length l, fun i => List.length l - i⟩
    | _ => none
  | _, _ => none, 0⟩
def h30 : Hints := ⟨fun f k s => match f, k with
  | 30, 4 => match boxAt s 4, boxAt s 2, listAs s 0 (.int .u8), intOfT s 5 with
    | some (i4, [.one (.str nm), .one (.int .i64 f), _]), some (i2, c2), some r, some a => some ⟨Nat, fun i => ⟨tI 5 (a + 5 * (i : Int)) :: keepT [0, 2, 4] s.tm, [(i2, some (.box c2)), (i4, some (.box [.one (.str nm), .one (.int .i64 f), .one (.own s.nx)])), (s.nx, some (.row (.int .i64) (chks (List.drop a.toNat r) i)))], s.nx + 1, s.lr⟩,
        fun i => 5 * i ≤ List.length (List.drop a.toNat r) ∧ i ≤ 256 ∧ rdAt (List.drop a.toNat r) nm f i, fun i => List.length (List.drop a.toNat r) - 5 * i⟩
    | _, _, _, _ => none
  | _, _ => none, 0⟩
def h31 : Hints := ⟨fun f k s => match f, k with
  | 31, 4 => match boxAt s 5, boxAt s 2, listAs s 0 (.int .u8), intOfT s 6 with
    | some (i4, [.one (.str nm), .one (.int .i64 f), _]), some (i2, c2), some r, some a => some ⟨Nat, fun i => ⟨tI 6 (a + 5 * (i : Int)) :: keepT [0, 2, 5] s.tm, [(i2, some (.box c2)), (i4, some (.box [.one (.str nm), .one (.int .i64 f), .one (.own s.nx)])), (s.nx, some (.row (.int .i64) (chks (List.drop a.toNat r) i)))], s.nx + 1, s.lr⟩,
        fun i => 5 * i ≤ List.length (List.drop a.toNat r) ∧ i ≤ 256 ∧ rbAt (List.drop a.toNat r) nm f i, fun i => List.length (List.drop a.toNat r) - 5 * i⟩
    | _, _, _, _ => none
  | _, _ => none, 0⟩
def h118 : Hints := ⟨fun _ _ _ => none, 5⟩
end Go.Sx
namespace Go.Sx
open U
def sp103 : FSpec := ⟨fun vs => match vs with
  | [.one (.int .i64 n)] => some ([0 ≤ n ∧ n ≤ 65535], .val (.one (.frs (.int .u8) [n / 256 % 256, n % 256])))
  | _ => none, true⟩
def sp104 : FSpec := ⟨fun vs => match vs with
  | [.one (.int .i64 n), .one (.int .i64 c)] => some ([0 ≤ n ∧ n ≤ 1000, 0 ≤ c ∧ c ≤ 65535], .val (.one (.frs (.int .u8) (tframe n c))))
  | _ => none, true⟩
def sp105 : FSpec := ⟨fun vs => match vs with
  | [.one (.sl (.int .i64) l)] => some ([List.length l ≤ 65535, W16 l], .val (.one (.frs (.int .u8) (tlast l))))
  | _ => none, true⟩
def sp119 : FSpec := ⟨fun vs => match vs with
  | [.one (.sl (.int .u8) s), .one (.int .i64 a), .agg [.one (.str _nm), .one (.int .i64 _f), .one (.sl (.int .i64) l)]] => some ([List.length s ≤ 1000000, Bytes s, 0 ≤ a ∧ a ≤ 1000000, List.length l ≤ 256, W16 l], .tup [iV (if (recS s a l).1 = 0 then (recS s a l).2.2 else 0), bV (if (recS s a l).1 = 0 then (recS s a l).2.1 else false), iV (recS s a l).1])
  | _ => none, true⟩
def sp118 : FSpec := ⟨fun vs => match vs with
  | [.one (.sl (.int .u8) s)] => some ([List.length s ≤ 1000000, Bytes s], .tup [rnV (if (rdBegin s).1 = 0 then (rdBegin s).2.1 else []) (if (rdBegin s).1 = 0 then (rdBegin s).2.2.1 else 0), iV (if (rdBegin s).1 = 0 then hdAt s else 0), iV (rdBegin s).1])
  | _ => none, true⟩
def sp30 : FSpec := ⟨fun vs => match vs with
  | [.one (.sl (.int .u8) s)] => some ([List.length s ≤ 100000, Bytes s], .tup [rV (readS s).1.1 (readS s).1.2.1 (readS s).1.2.2, iV (readS s).2])
  | _ => none, true⟩
def sp31 : FSpec := ⟨fun vs => match vs with
  | [.one (.sl (.int .u8) s)] => some ([List.length s ≤ 100000, Bytes s], .tup [rV (rebuilt s).1.1 (rebuilt s).1.2.1 (rebuilt s).1.2.2, bV (rebuilt s).2.1, iV (rebuilt s).2.2])
  | _ => none, true⟩
end Go.Sx

/- What the engine asks, written out (printed by a program). -/
namespace Go.Sx
open U
theorem vc103 (n : Int) : exF (env false [] []) h0 0 103 Proofs.Tryz.f103 [iV n] (.val (.one (.frs (.int .u8) [n / 256 % 256, n % 256]))) = (((0 : Int) ≤ n ∧ (0 : Int) < (256 : Int) ∧ fits IntKind.i64 (n / (256 : Int))) ∧ ((0 : Int) ≤ n ∧ (0 : Int) < (256 : Int)) ∧ [n / (256 : Int) % (256 : Int), n % (256 : Int) % (256 : Int)] = [n / (256 : Int) % (256 : Int), n % (256 : Int)] ∧ True) := by
  kernel_rfl
theorem vc104 (n c : Int) : exF (env false [(103, sp103)] []) h0 0 104 Proofs.Tryz.f104 [iV n, iV c] (.val (.one (.frs (.int .u8) (tframe n c)))) = (((0 : Int) ≤ c ∧ c ≤ (65535 : Int)) ∧ room (3 : Nat) (1 : Nat) ∧ fits IntKind.i64 ((263 : Int) * n) ∧ fits IntKind.i64 ((263 : Int) * n + c) ∧ fits IntKind.i64 ((263 : Int) * ((263 : Int) * n + c)) ∧ fits IntKind.i64 ((263 : Int) * ((263 : Int) * n + c) + (97 : Int)) ∧ ((0 : Int) ≤ (263 : Int) * ((263 : Int) * n + c) + (97 : Int) ∧ (0 : Int) < (65521 : Int)) ∧ ((0 : Int) ≤ ((263 : Int) * ((263 : Int) * n + c) + (97 : Int)) % (65521 : Int) ∧ ((263 : Int) * ((263 : Int) * n + c) + (97 : Int)) % (65521 : Int) ≤ (65535 : Int)) ∧ room (List.length ([(70 : Int)] ++ [c / (256 : Int) % (256 : Int), c % (256 : Int)]) + (2 : Nat)) (1 : Nat) ∧ [(70 : Int)] ++ [c / (256 : Int) % (256 : Int), c % (256 : Int)] ++ [((263 : Int) * ((263 : Int) * n + c) + (97 : Int)) % (65521 : Int) / (256 : Int) % (256 : Int), ((263 : Int) * ((263 : Int) * n + c) + (97 : Int)) % (65521 : Int) % (256 : Int)] = tframe n c ∧ True) := by
  kernel_rfl
theorem vc105 (l : List Int) : exF (env false [(103, sp103)] []) h105 0 105 Proofs.Tryz.f105 [.one (.sl (.int .i64) l)] (.val (.one (.frs (.int .u8) (tlast l)))) = (let q0 := (↑(List.length l) : Int); (∃ (g : Nat), Nat.le g (List.length l) ∧ (0 : Int) = (↑g : Int) ∧ (0 : Int) = isum (List.take g l) % (65521 : Int) ∧ l = l ∧ True) ∧ ∀ (g : Nat), let q1 := (List.take g l); let q2 := (isum q1 % (65521 : Int) + List.getD l g (0 : Int)); Nat.le g (List.length l) → splitB (decide ((↑g : Int) < q0)) (((0 : Int) ≤ (↑g : Int) ∧ (↑g : Int) < q0) ∧ fits IntKind.i64 q2 ∧ ((0 : Int) ≤ isum q1 % (65521 : Int) + List.getD l g (0 : Int) ∧ (0 : Int) < (65521 : Int)) ∧ fits IntKind.i64 ((↑g : Int) + (1 : Int)) ∧ ∃ (g' : Nat), Nat.le g' (List.length l) ∧ List.length l - g' < List.length l - g ∧ (↑g : Int) + (1 : Int) = (↑g' : Int) ∧ q2 % (65521 : Int) = isum (List.take g' l) % (65521 : Int) ∧ l = l ∧ True) (((0 : Int) ≤ q0 ∧ q0 ≤ (65535 : Int)) ∧ room (3 : Nat) (1 : Nat) ∧ ((0 : Int) ≤ isum q1 % (65521 : Int) ∧ isum q1 % (65521 : Int) ≤ (65535 : Int)) ∧ room (List.length ([(69 : Int)] ++ [q0 / (256 : Int) % (256 : Int), q0 % (256 : Int)]) + (2 : Nat)) (1 : Nat) ∧ [(69 : Int)] ++ [q0 / (256 : Int) % (256 : Int), q0 % (256 : Int)] ++ [isum q1 % (65521 : Int) / (256 : Int) % (256 : Int), isum q1 % (65521 : Int) % (256 : Int)] = tlast l ∧ True)) := by
  kernel_rfl
theorem vc119 (s : List Int) (a : Int) (nm : List UInt8) (f : Int) (l : List Int) : exF (env false [(104, sp104), (105, sp105)] []) h0 0 119 Proofs.Tryz.f119 [.one (.sl (.int .u8) s), iV a, rV nm f l] (.tup [iV (if (recS s a l).1 = 0 then (recS s a l).2.2 else 0), bV (if (recS s a l).1 = 0 then (recS s a l).2.1 else false), iV (recS s a l).1]) = (let q3 := (↑(List.length s) : Int); let q8 := ((0 : Int) ≤ a ∧ a < q3); let q11 := (List.getD s (Int.toNat a) (0 : Int) == (69 : Int)); let q4 := (Int.toNat (a + (1 : Int))); let q5 := (Int.toNat (a + (2 : Int))); let q0 := (q8 ∧ ((256 : Int) * List.getD s q4 (0 : Int) + List.getD s q5 (0 : Int) = if (recS s a l).1 = (0 : Int) then (recS s a l).2.2 else (0 : Int)) ∧ (q11 = if (recS s a l).1 = (0 : Int) then (recS s a l).2.1 else false) ∧ (0 : Int) = (recS s a l).1 ∧ True); let q1 := ((0 : Int) = if (recS s a l).1 = (0 : Int) then (recS s a l).2.2 else (0 : Int)); let q2 := (false = if (recS s a l).1 = (0 : Int) then (recS s a l).2.1 else false); let q6 := (List.take (Int.toNat (a + (5 : Int)) - Int.toNat a) (List.drop (Int.toNat a) s)); let q7 := ((256 : Int) * List.getD s q4 (0 : Int) + List.getD s q5 (0 : Int)); let q9 := (↑(List.length l) : Int); let q10 := ((0 : Int) ≤ a ∧ a ≤ a + (5 : Int) ∧ a + (5 : Int) ≤ q3); let q12 := (q1 ∧ q2 ∧ (28 : Int) = (recS s a l).1 ∧ True); let q13 := (q1 ∧ q2 ∧ (27 : Int) = (recS s a l).1 ∧ True); splitB (decide (q3 ≤ a)) q12 (q8 ∧ ((List.getD s (Int.toNat a) (0 : Int) != (70 : Int)) = true → (0 : Int) ≤ a ∧ a < q3) ∧ splitB (bif List.getD s (Int.toNat a) (0 : Int) != (70 : Int) then List.getD s (Int.toNat a) (0 : Int) != (69 : Int) else false) (q1 ∧ q2 ∧ (1 : Int) = (recS s a l).1 ∧ True) (q8 ∧ splitB (bif List.getD s (Int.toNat a) (0 : Int) == (70 : Int) then q9 == (256 : Int) else false) (q1 ∧ q2 ∧ (5 : Int) = (recS s a l).1 ∧ True) (fits IntKind.i64 (a + (5 : Int)) ∧ splitB (decide (q3 < a + (5 : Int))) q12 (fits IntKind.i64 (a + (1 : Int)) ∧ ((0 : Int) ≤ a + (1 : Int) ∧ a + (1 : Int) < q3) ∧ fits IntKind.i64 (List.getD s q4 (0 : Int)) ∧ fits IntKind.i64 ((256 : Int) * List.getD s q4 (0 : Int)) ∧ fits IntKind.i64 (a + (2 : Int)) ∧ ((0 : Int) ≤ a + (2 : Int) ∧ a + (2 : Int) < q3) ∧ fits IntKind.i64 (List.getD s q5 (0 : Int)) ∧ fits IntKind.i64 q7 ∧ ((0 : Int) ≤ q9 ∧ q9 ≤ (1000 : Int)) ∧ ((0 : Int) ≤ (256 : Int) * List.getD s q4 (0 : Int) + List.getD s q5 (0 : Int) ∧ (256 : Int) * List.getD s q4 (0 : Int) + List.getD s q5 (0 : Int) ≤ (65535 : Int)) ∧ q8 ∧ splitB q11 (List.length l ≤ (65535 : Nat) ∧ (∀ (x : Int), x ∈ l → (0 : Int) ≤ x ∧ x ≤ (65535 : Int)) ∧ fits IntKind.i64 (a + (5 : Int)) ∧ q10 ∧ splitB (bytesOf (tlast l) != bytesOf q6) q13 q0) (fits IntKind.i64 (a + (5 : Int)) ∧ q10 ∧ splitB (bytesOf (tframe q9 q7) != bytesOf q6) q13 q0)))))) := by
  kernel_rfl
theorem vc118 (s : List Int) : exF (env false [(102, sp102)] []) h118 0 118 Proofs.Tryz.f118 [.one (.sl (.int .u8) s)] (.tup [rnV (if (rdBegin s).1 = 0 then (rdBegin s).2.1 else []) (if (rdBegin s).1 = 0 then (rdBegin s).2.2.1 else 0), iV (if (rdBegin s).1 = 0 then hdAt s else 0), iV (rdBegin s).1]) = (let q9 := ((5 : Int) + List.getD s (4 : Nat) (0 : Int) + (2 : Int)); let q8 := ((5 : Int) + List.getD s (4 : Nat) (0 : Int) + (1 : Int)); let q5 := ((5 : Int) + List.getD s (4 : Nat) (0 : Int) + (0 : Int)); let q10 := ((0 : Int) + List.getD s (Int.toNat q5) (0 : Int)); let q3 := ((256 : Int) * q10 + List.getD s (Int.toNat q8) (0 : Int)); let q0 := ((256 : Int) * q3 + List.getD s (Int.toNat q9) (0 : Int)); let q12 := ((0 : Int) = if (rdBegin s).1 = (0 : Int) then (rdBegin s).2.2.1 else (0 : Int)); let q13 := ((0 : Int) = if (rdBegin s).1 = (0 : Int) then hdAt s else (0 : Int)); let q14 := ([] = if (rdBegin s).1 = (0 : Int) then (rdBegin s).2.1 else []); let q1 := (q14 ∧ q12 ∧ q13 ∧ (28 : Int) = (rdBegin s).1 ∧ True); let q2 := (q14 ∧ q12 ∧ q13 ∧ (1 : Int) = (rdBegin s).1 ∧ True); let q4 := (↑(List.length s) : Int); let q6 := ((5 : Int) + List.getD s (4 : Nat) (0 : Int) + (3 : Int)); let q11 := ((5 : Int) + List.getD s (4 : Nat) (0 : Int)); let q7 := (List.take (Int.toNat q11 - (5 : Nat)) (List.drop (5 : Nat) s)); let q15 := ((5 : Int) + List.getD s (4 : Nat) (0 : Int) + (4 : Int)); splitB (decide (q4 < (4 : Int))) q1 (((0 : Int) ≤ (0 : Int) ∧ (0 : Int) ≤ (4 : Int) ∧ (4 : Int) ≤ q4) ∧ splitB (bytesOf (List.take (4 : Nat) s) != Array.toList (ByteArray.data { data := #[(82 : UInt8), (69 : UInt8), (69 : UInt8), (76 : UInt8)] })) q2 ((decide (q4 < (5 : Int)) = false → (0 : Int) ≤ (4 : Int) ∧ (4 : Int) < q4) ∧ (decide (q4 < (5 : Int)) = false → fits IntKind.i64 (List.getD s (4 : Nat) (0 : Int))) ∧ (decide (q4 < (5 : Int)) = false → fits IntKind.i64 q11) ∧ splitB (bif decide (q4 < (5 : Int)) then true else decide (q4 < (5 : Int) + List.getD s (4 : Nat) (0 : Int))) q1 (((0 : Int) ≤ (4 : Int) ∧ (4 : Int) < q4) ∧ fits IntKind.i64 (List.getD s (4 : Nat) (0 : Int)) ∧ fits IntKind.i64 q11 ∧ ((0 : Int) ≤ (5 : Int) ∧ (5 : Int) ≤ (5 : Int) + List.getD s (4 : Nat) (0 : Int) ∧ (5 : Int) + List.getD s (4 : Nat) (0 : Int) ≤ q4) ∧ List.length (bytesOf q7) ≤ (1000000000 : Nat) ∧ splitB (whenE (!isName (bytesOf q7)) (8 : Int) != (0 : Int)) q2 (fits IntKind.i64 q15 ∧ splitB (decide (q4 < (5 : Int) + List.getD s (4 : Nat) (0 : Int) + (4 : Int))) q1 (fits IntKind.i64 (0 : Int) ∧ fits IntKind.i64 q5 ∧ ((0 : Int) ≤ (5 : Int) + List.getD s (4 : Nat) (0 : Int) + (0 : Int) ∧ (5 : Int) + List.getD s (4 : Nat) (0 : Int) + (0 : Int) < q4) ∧ fits IntKind.i64 (List.getD s (Int.toNat q5) (0 : Int)) ∧ fits IntKind.i64 q10 ∧ fits IntKind.i64 (1 : Int) ∧ fits IntKind.i64 ((256 : Int) * q10) ∧ fits IntKind.i64 q8 ∧ ((0 : Int) ≤ (5 : Int) + List.getD s (4 : Nat) (0 : Int) + (1 : Int) ∧ (5 : Int) + List.getD s (4 : Nat) (0 : Int) + (1 : Int) < q4) ∧ fits IntKind.i64 (List.getD s (Int.toNat q8) (0 : Int)) ∧ fits IntKind.i64 q3 ∧ fits IntKind.i64 (2 : Int) ∧ fits IntKind.i64 ((256 : Int) * q3) ∧ fits IntKind.i64 q9 ∧ ((0 : Int) ≤ (5 : Int) + List.getD s (4 : Nat) (0 : Int) + (2 : Int) ∧ (5 : Int) + List.getD s (4 : Nat) (0 : Int) + (2 : Int) < q4) ∧ fits IntKind.i64 (List.getD s (Int.toNat q9) (0 : Int)) ∧ fits IntKind.i64 q0 ∧ fits IntKind.i64 (3 : Int) ∧ fits IntKind.i64 ((256 : Int) * q0) ∧ fits IntKind.i64 q6 ∧ ((0 : Int) ≤ (5 : Int) + List.getD s (4 : Nat) (0 : Int) + (3 : Int) ∧ (5 : Int) + List.getD s (4 : Nat) (0 : Int) + (3 : Int) < q4) ∧ fits IntKind.i64 (List.getD s (Int.toNat q6) (0 : Int)) ∧ fits IntKind.i64 ((256 : Int) * q0 + List.getD s (Int.toNat q6) (0 : Int)) ∧ fits IntKind.i64 (4 : Int) ∧ splitB (decide ((10000000 : Int) < (256 : Int) * q0 + List.getD s (Int.toNat q6) (0 : Int))) q2 (fits IntKind.i64 q15 ∧ (bytesOf q7 = if (rdBegin s).1 = (0 : Int) then (rdBegin s).2.1 else []) ∧ ((256 : Int) * q0 + List.getD s (Int.toNat q6) (0 : Int) = if (rdBegin s).1 = (0 : Int) then (rdBegin s).2.2.1 else (0 : Int)) ∧ ((5 : Int) + List.getD s (4 : Nat) (0 : Int) + (4 : Int) = if (rdBegin s).1 = (0 : Int) then hdAt s else (0 : Int)) ∧ (0 : Int) = (rdBegin s).1 ∧ True))))))) := by
  kernel_rfl
theorem vc30 (s : List Int) : exFr (env false [(118, sp118), (119, sp119), (21, sp21)] []) h30 0 30 Proofs.Tryz.f30 [.one (.sl (.int .u8) s)] (.tup [rV (readS s).1.1 (readS s).1.2.1 (readS s).1.2.2, iV (readS s).2]) = (let q1 := (if (rdBegin s).1 = (0 : Int) then hdAt s else (0 : Int)); let q0 := (List.drop (Int.toNat q1) s); let q2 := (if (rdBegin s).1 = (0 : Int) then (rdBegin s).2.1 else []); let q3 := (if (rdBegin s).1 = (0 : Int) then (rdBegin s).2.2.1 else (0 : Int)); let q5 := (q3 = if (rdBegin s).1 = (0 : Int) then (rdBegin s).2.2.1 else (0 : Int)); let q6 := (q2 = if (rdBegin s).1 = (0 : Int) then (rdBegin s).2.1 else []); List.length s ≤ (1000000 : Nat) ∧ Bytes s ∧ splitB ((rdBegin s).1 != (0 : Int)) ([] = (readS s).1.1 ∧ (0 : Int) = (readS s).1.2.1 ∧ (readS s).1.2.2 = [] ∧ (rdBegin s).1 = (readS s).2 ∧ True) ((∃ (g : Nat), ((5 : Nat) * g ≤ List.length q0 ∧ g ≤ (256 : Nat) ∧ ∀ (n : Nat), rdAll (n + g) q0 [] = rdAll n (List.drop ((5 : Nat) * g) q0) (chks q0 g)) ∧ q1 = q1 + (5 : Int) * (↑g : Int) ∧ s = s ∧ nilB = [] ∧ (0 : Int) = (0 : Int) ∧ q6 ∧ q5 ∧ chks q0 g = [] ∧ True) ∧ ∀ (g : Nat), let q4 := (recS s (q1 + (5 : Int) * (↑g : Int)) (chks q0 g)); ((5 : Nat) * g ≤ List.length q0 ∧ g ≤ (256 : Nat) ∧ ∀ (n : Nat), rdAll (n + g) q0 [] = rdAll n (List.drop ((5 : Nat) * g) q0) (chks q0 g)) → List.length s ≤ (1000000 : Nat) ∧ Bytes s ∧ ((0 : Int) ≤ q1 + (5 : Int) * (↑g : Int) ∧ q1 + (5 : Int) * (↑g : Int) ≤ (1000000 : Int)) ∧ List.length (chks q0 g) ≤ (256 : Nat) ∧ (∀ (x : Int), x ∈ chks q0 g → (0 : Int) ≤ x ∧ x ≤ (65535 : Int)) ∧ splitB (q4.1 != (0 : Int)) ([] = (readS s).1.1 ∧ (0 : Int) = (readS s).1.2.1 ∧ (readS s).1.2.2 = [] ∧ q4.1 = (readS s).2 ∧ True) (fits IntKind.i64 (q1 + (5 : Int) * (↑g : Int) + (5 : Int)) ∧ splitB (if q4.1 = (0 : Int) then q4.2.1 else false) (splitB (decide (q1 + (5 : Int) * (↑g : Int) + (5 : Int) < (↑(List.length s) : Int))) ([] = (readS s).1.1 ∧ (0 : Int) = (readS s).1.2.1 ∧ (readS s).1.2.2 = [] ∧ (23 : Int) = (readS s).2 ∧ True) (List.length q2 ≤ (1000000000 : Nat) ∧ List.length (chks q0 g) ≤ (1000000 : Nat) ∧ splitB (checkReel q2 q3 (chks q0 g) != (0 : Int)) ([] = (readS s).1.1 ∧ (0 : Int) = (readS s).1.2.1 ∧ (readS s).1.2.2 = [] ∧ checkReel q2 q3 (chks q0 g) = (readS s).2 ∧ True) (q2 = (readS s).1.1 ∧ q3 = (readS s).1.2.1 ∧ chks q0 g = (readS s).1.2.2 ∧ (0 : Int) = (readS s).2 ∧ True))) (room (List.length (chks q0 g) + (1 : Nat)) (8 : Nat) ∧ ∃ (g' : Nat), ((5 : Nat) * g' ≤ List.length q0 ∧ g' ≤ (256 : Nat) ∧ ∀ (n : Nat), rdAll (n + g') q0 [] = rdAll n (List.drop ((5 : Nat) * g') q0) (chks q0 g')) ∧ List.length q0 - (5 : Nat) * g' < List.length q0 - (5 : Nat) * g ∧ q1 + (5 : Int) * (↑g : Int) + (5 : Int) = q1 + (5 : Int) * (↑g' : Int) ∧ s = s ∧ nilB = [] ∧ (0 : Int) = (0 : Int) ∧ q6 ∧ q5 ∧ chks q0 g ++ [if q4.1 = (0 : Int) then q4.2.2 else (0 : Int)] = chks q0 g' ∧ True)))) := by
  kernel_rfl
theorem vc31 (s : List Int) : exFr (env false [(118, sp118), (119, sp119), (30, sp30)] []) h31 0 31 Proofs.Tryz.f31 [.one (.sl (.int .u8) s)] (.tup [rV (rebuilt s).1.1 (rebuilt s).1.2.1 (rebuilt s).1.2.2, bV (rebuilt s).2.1, iV (rebuilt s).2.2]) = (let q2 := (if (rdBegin s).1 = (0 : Int) then hdAt s else (0 : Int)); let q0 := (List.drop (Int.toNat q2) s); let q1 := (if (rdBegin s).1 = (0 : Int) then (rdBegin s).2.2.1 else (0 : Int)); let q8 := (if (rdBegin s).1 = (0 : Int) then (rdBegin s).2.1 else []); let q5 := (q8 = if (rdBegin s).1 = (0 : Int) then (rdBegin s).2.1 else []); let q6 := (q1 = if (rdBegin s).1 = (0 : Int) then (rdBegin s).2.2.1 else (0 : Int)); List.length s ≤ (1000000 : Nat) ∧ Bytes s ∧ splitB ((rdBegin s).1 != (0 : Int)) ([] = (rebuilt s).1.1 ∧ (0 : Int) = (rebuilt s).1.2.1 ∧ (rebuilt s).1.2.2 = [] ∧ false = (rebuilt s).2.1 ∧ (rdBegin s).1 = (rebuilt s).2.2 ∧ True) ((∃ (g : Nat), ((5 : Nat) * g ≤ List.length q0 ∧ g ≤ (256 : Nat) ∧ ∀ (n : Nat), rbAll q1 (n + g) q0 [] = rbAll q1 n (List.drop ((5 : Nat) * g) q0) (chks q0 g)) ∧ q2 = q2 + (5 : Int) * (↑g : Int) ∧ s = s ∧ nilB = [] ∧ (0 : Int) = (0 : Int) ∧ q5 ∧ q6 ∧ chks q0 g = [] ∧ True) ∧ ∀ (g : Nat), let q7 := (↑(List.length (chks q0 g)) : Int); let q3 := (splitB (q7 == (0 : Int)) ([] = (rebuilt s).1.1 ∧ (0 : Int) = (rebuilt s).1.2.1 ∧ (rebuilt s).1.2.2 = [] ∧ false = (rebuilt s).2.1 ∧ (12 : Int) = (rebuilt s).2.2 ∧ True) (List.length s ≤ (100000 : Nat) ∧ Bytes s ∧ q8 = (rebuilt s).1.1 ∧ q1 = (rebuilt s).1.2.1 ∧ chks q0 g = (rebuilt s).1.2.2 ∧ ((readS s).2 == (0 : Int)) = (rebuilt s).2.1 ∧ (0 : Int) = (rebuilt s).2.2 ∧ True)); let q4 := (recS s (q2 + (5 : Int) * (↑g : Int)) (chks q0 g)); ((5 : Nat) * g ≤ List.length q0 ∧ g ≤ (256 : Nat) ∧ ∀ (n : Nat), rbAll q1 (n + g) q0 [] = rbAll q1 n (List.drop ((5 : Nat) * g) q0) (chks q0 g)) → fits IntKind.i64 (q1 + q7) ∧ splitB (decide (q1 + q7 < (10000000 : Int))) (List.length s ≤ (1000000 : Nat) ∧ Bytes s ∧ ((0 : Int) ≤ q2 + (5 : Int) * (↑g : Int) ∧ q2 + (5 : Int) * (↑g : Int) ≤ (1000000 : Int)) ∧ List.length (chks q0 g) ≤ (256 : Nat) ∧ (∀ (x : Int), x ∈ chks q0 g → (0 : Int) ≤ x ∧ x ≤ (65535 : Int)) ∧ splitB (bif q4.1 != (0 : Int) then true else if q4.1 = (0 : Int) then q4.2.1 else false) q3 (room (List.length (chks q0 g) + (1 : Nat)) (8 : Nat) ∧ fits IntKind.i64 (q2 + (5 : Int) * (↑g : Int) + (5 : Int)) ∧ ∃ (g' : Nat), ((5 : Nat) * g' ≤ List.length q0 ∧ g' ≤ (256 : Nat) ∧ ∀ (n : Nat), rbAll q1 (n + g') q0 [] = rbAll q1 n (List.drop ((5 : Nat) * g') q0) (chks q0 g')) ∧ List.length q0 - (5 : Nat) * g' < List.length q0 - (5 : Nat) * g ∧ q2 + (5 : Int) * (↑g : Int) + (5 : Int) = q2 + (5 : Int) * (↑g' : Int) ∧ s = s ∧ nilB = [] ∧ (0 : Int) = (0 : Int) ∧ q5 ∧ q6 ∧ chks q0 g ++ [if q4.1 = (0 : Int) then q4.2.2 else (0 : Int)] = chks q0 g' ∧ True)) q3)) := by
  kernel_rfl
theorem vc4 (s : List Int) : exF (env false [(18, sp18), (28, sp28), (27, sp27), (29, sp29), (30, sp30), (31, sp31), (32, sp32)] []) h0 0 4 Proofs.Tryz.f4 [.one (.sl (.int .u8) s)] (.val (bV true)) = (let q0 := ((readS s).1.1, (readS s).1.2.1, (readS s).1.2.2); let q1 := (1000000 : Nat); let q2 := ((rebuilt s).1.1, (rebuilt s).1.2.1, (rebuilt s).1.2.2); splitB (decide ((1500 : Int) < (↑(List.length s) : Int))) (true = true ∧ True) (List.length s ≤ q1 ∧ (List.length s ≤ q1 ∧ Bytes s) ∧ List.length s ≤ q1 ∧ (List.length s ≤ q1 ∧ Bytes s) ∧ List.length s ≤ (100000 : Nat) ∧ Bytes s ∧ List.length s ≤ (100000 : Nat) ∧ Bytes s ∧ List.length (readS s).1.2.2 ≤ q1 ∧ ((bif decide (q0 = q0) then (readS s).2 == (readS s).2 else false) = true → List.length (rebuilt s).1.2.2 ≤ q1) ∧ (bif bif bif bif bif decide (q0 = q0) then (readS s).2 == (readS s).2 else false then decide (q2 = q2) else false then (rebuilt s).2.1 == (rebuilt s).2.1 else false then (rebuilt s).2.2 == (rebuilt s).2.2 else false then true else false) = true ∧ True)) := by
  kernel_rfl
end Go.Sx
