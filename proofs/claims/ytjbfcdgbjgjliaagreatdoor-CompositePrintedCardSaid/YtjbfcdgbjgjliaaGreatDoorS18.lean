/- A verified symbolic run of functions, part 18: lemmas, no claim of their own. -/
import Derived.Test.YtjbfcdgbjgjliaaGreatDoorS17
import Derived.Lib.ItoaLen
import Derived.OpenShut
import Derived.ProofKit
import Derived.Carry
import Derived.OpenVars
namespace Go.Sx
open U
theorem vc157 (l : List Int) : exF (env false [(130, sp130)] [fb194]) h138 3 157 Proofs.Tryz.f157 [.one (.sl (.int .i64) l), .one (.fn 130 [] [])] (.val (bV (anyL l))) = (let q0 := (↑(List.length l) : Int); (∃ (g : Nat), (g ≤ List.length l ∧ ∀ (j : Nat), j < g → lgI (List.getD l j (0 : Int)) = false) ∧ (0 : Int) = (↑g : Int) ∧ q0 = q0 ∧ l = l ∧ True) ∧ ∀ (g : Nat), (g ≤ List.length l ∧ ∀ (j : Nat), j < g → lgI (List.getD l j (0 : Int)) = false) → splitB (decide ((↑g : Int) < q0)) (((0 : Int) ≤ (↑g : Int) ∧ (↑g : Int) < q0) ∧ splitB (lgI (List.getD l g (0 : Int))) (decide ((0 : Int) ≤ (↑g : Int)) = anyL l ∧ True) (fits IntKind.i64 ((↑g : Int) + (1 : Int)) ∧ ∃ (g' : Nat), (g' ≤ List.length l ∧ ∀ (j : Nat), j < g' → lgI (List.getD l j (0 : Int)) = false) ∧ List.length l - g' < List.length l - g ∧ (↑g : Int) + (1 : Int) = (↑g' : Int) ∧ q0 = q0 ∧ l = l ∧ True)) (decide ((0 : Int) ≤ (-1 : Int)) = anyL l ∧ True)) := by
  kernel_rfl
theorem vc89 (s : Str) : exF (env false [(189, sp189), (154, sp154), (193, sp193), (155, sp155.frz), (192, sp192), (151, sp151), (149, sp149), (104, sp104), (95, sp95), (158, sp158h), (157, sp157), (159, sp159), (26, sp26)] [fb153, fb188, fb156]) (h89 s) 6 89 Proofs.Tryz.f89 [sV s] (.tup [pV (prsN s).1, iV (prsN s).2.1, iV (prsN s).2.2]) = (let q0 := (Array.toList (ByteArray.data { data := #[(10 : UInt8)] })); let q1 := (Array.toList (ByteArray.data { data := #[(32 : UInt8)] })); let q14 := (Array.toList (ByteArray.data { data := #[(45 : UInt8)] })); let q15 := (ByteArray.data { data := #[] }); let q16 := (Ty.pair Ty.str Ty.fnp); let q19 := (1000000000 : Nat); let q21 := (Ty.int IntKind.i64); let q47 := (mapGet q21 q16 fldM (0 : Int)); let q49 := (mapGet q21 q16 fldM (1 : Int)); let q50 := (mapGet q21 q16 fldM (2 : Int)); let q51 := (mapGet q21 q16 fldM (3 : Int)); let q54 := ((prsN s).1.1 = [] ∧ (prsN s).1.2.1 = [] ∧ (prsN s).1.2.2 = [] ∧ (0 : Int) = (prsN s).2.1 ∧ (25 : Int) = (prsN s).2.2 ∧ True); let q55 := ((prsN s).1.1 = [] ∧ (prsN s).1.2.1 = [] ∧ (prsN s).1.2.2 = [] ∧ (1 : Int) = (prsN s).2.1 ∧ (25 : Int) = (prsN s).2.2 ∧ True); let q56 := ((prsN s).1.1 = [] ∧ (prsN s).1.2.1 = [] ∧ (prsN s).1.2.2 = [] ∧ (2 : Int) = (prsN s).2.1 ∧ (25 : Int) = (prsN s).2.2 ∧ True); let q57 := ((prsN s).1.1 = [] ∧ (prsN s).1.2.1 = [] ∧ (prsN s).1.2.2 = [] ∧ (3 : Int) = (prsN s).2.1 ∧ (25 : Int) = (prsN s).2.2 ∧ True); let q64 := (1000000 : Nat); let q66 := (↑(List.length fldM) : Int); splitB (decide ((4096 : Int) < (↑(List.length s) : Int))) ((prsN s).1.1 = [] ∧ (prsN s).1.2.1 = [] ∧ (prsN s).1.2.2 = [] ∧ (0 : Int) = (prsN s).2.1 ∧ (26 : Int) = (prsN s).2.2 ∧ True) (splitB (decide ((0 : Int) < (↑(List.length s) : Int))) ((∃ (g : Str × (Nat → List Int)), (preA s (0 : Nat) ∧ g.1 = restTo s (0 : Nat) ∧ g.1 ≠ [] ∧ ∀ (i : Nat), i < (0 : Nat) → g.2 i = numsAt s i) ∧ s = g.1 ∧ ([] : List (List Int)) = [] ∧ fldM = fldM ∧ (0 : Int) = (0 : Int) ∧ (0 : Int) = (0 : Int) ∧ True) ∧ ∀ (g : Str × (Nat → List Int)), let q18 := (ixB g.1 (10 : Int) + (1 : Int)); let q12 := (List.take (Int.toNat q18) g.1); let q79 := (spl (tsf q12 q0) q1); let q4 := (List.drop (1 : Nat) q79); let q84 := (spl (tsf g.1 q0) q1); let q9 := (List.drop (1 : Nat) q84); let q38 := (List.length g.1 - Int.toNat q18); let q46 := (List.drop (Int.toNat q18) g.1); let q58 := (↑(List.length q79) : Int); let q63 := (↑(List.length q84) : Int); let q75 := (↑(List.length g.1) : Int); (preA s (0 : Nat) ∧ g.1 = restTo s (0 : Nat) ∧ g.1 ≠ [] ∧ ∀ (i : Nat), i < (0 : Nat) → g.2 i = numsAt s i) → splitB (decide ((0 : Int) ≤ ixB g.1 (10 : Int))) (fits IntKind.i64 q18 ∧ ((0 : Int) ≤ (0 : Int) ∧ (0 : Int) ≤ ixB g.1 (10 : Int) + (1 : Int) ∧ ixB g.1 (10 : Int) + (1 : Int) ≤ q75) ∧ fits IntKind.i64 q18 ∧ ((0 : Int) ≤ ixB g.1 (10 : Int) + (1 : Int) ∧ ixB g.1 (10 : Int) + (1 : Int) ≤ q75 ∧ q75 ≤ q75) ∧ List.length q12 ≤ q19 ∧ (1 : Nat) ≤ List.length q1 ∧ List.length (tsf q12 q0) ≤ q19 ∧ ((0 : Int) ≤ (1 : Int) ∧ (1 : Int) ≤ q58 ∧ q58 ≤ q58) ∧ (∃ (g_1 : Nat), Nat.le g_1 (List.length q4) ∧ hsf q12 q0 = hsf q12 q0 ∧ spl (tsf q12 q0) q1 = spl (tsf q12 q0) q1 ∧ List.map atV (List.take g_1 q4) = [] ∧ List.drop (1 : Nat) q79 = List.drop g_1 q4 ∧ false = wrTo q4 g_1 ∧ fldM = fldM ∧ List.take q38 q46 = List.take q38 q46 ∧ (0 : Int) = (0 : Int) ∧ (0 : Int) = (0 : Int) ∧ ([] : List (List Int)) = [] ∧ True) ∧ ∀ (g_1 : Nat), let q95 := (List.drop g_1 q4); let q24 := (List.getD q95 (0 : Nat) []); let q34 := (↑(List.length q95) : Int); let q74 := (List.take g_1 q4); let q85 := ((9 : Int) < (↑(List.length (tpf q24 q14)) : Int)); Nat.le g_1 (List.length q4) → splitB (decide ((0 : Int) < q34)) (((0 : Int) ≤ (0 : Int) ∧ (0 : Int) < q34) ∧ ((0 : Int) ≤ (1 : Int) ∧ (1 : Int) ≤ q34 ∧ q34 ≤ q34) ∧ List.length q24 ≤ q19 ∧ ((bif bif wrTo q4 g_1 then true else atE q24 then true else decide q85) = false → fits IntKind.i64 (atV q24)) ∧ room (List.length (List.map atV q74) + (1 : Nat)) (8 : Nat) ∧ ∃ (g' : Nat), Nat.le g' (List.length q4) ∧ List.length q4 - g' < List.length q4 - g_1 ∧ hsf q12 q0 = hsf q12 q0 ∧ spl (tsf q12 q0) q1 = spl (tsf q12 q0) q1 ∧ List.map atV q74 ++ [atV q24] = List.map atV (List.take g' q4) ∧ List.drop (1 : Nat) q95 = List.drop g' q4 ∧ (bif bif bif wrTo q4 g_1 then true else atE q24 then true else decide q85 then true else Lib.itoa (atV q24) != List.getD q95 (0 : Nat) []) = wrTo q4 g' ∧ fldM = fldM ∧ List.take q38 q46 = List.take q38 q46 ∧ (0 : Int) = (0 : Int) ∧ (0 : Int) = (0 : Int) ∧ ([] : List (List Int)) = [] ∧ True) (((bif !hsf q12 q0 then true else !Option.isSome q47) = false → (0 : Int) ≤ (0 : Int) ∧ (0 : Int) < q58) ∧ splitB (bif bif bif !hsf q12 q0 then true else !Option.isSome q47 then true else List.getD q79 (0 : Nat) [] != (Option.getD q47 ([], none)).1 then true else wrTo q4 g_1) q54 (room (1 : Nat) (24 : Nat) ∧ splitB (decide ((0 : Int) < (↑(List.length (List.take q38 q46)) : Int))) ((∃ (g_2 : Str × (Nat → List Int)), (preA s (1 : Nat) ∧ g_2.1 = restTo s (1 : Nat) ∧ g_2.1 ≠ [] ∧ ∀ (i : Nat), i < (1 : Nat) → g_2.2 i = numsAt s i) ∧ List.take q38 q46 = g_2.1 ∧ [List.map atV q74] = [g_2.2 (0 : Nat)] ∧ fldM = fldM ∧ (0 : Int) = (0 : Int) ∧ (0 : Int) = (0 : Int) ∧ True) ∧ ∀ (g : Str × (Nat → List Int)), let q20 := (ixB g.1 (10 : Int) + (1 : Int)); let q13 := (List.take (Int.toNat q20) g.1); let q80 := (spl (tsf q13 q0) q1); let q3 := (List.drop (1 : Nat) q80); let q83 := (spl (tsf g.1 q0) q1); let q8 := (List.drop (1 : Nat) q83); let q39 := (List.length g.1 - Int.toNat q20); let q48 := (List.drop (Int.toNat q20) g.1); let q59 := (↑(List.length q80) : Int); let q62 := (↑(List.length q83) : Int); let q76 := (↑(List.length g.1) : Int); (preA s (1 : Nat) ∧ g.1 = restTo s (1 : Nat) ∧ g.1 ≠ [] ∧ ∀ (i : Nat), i < (1 : Nat) → g.2 i = numsAt s i) → splitB (decide ((0 : Int) ≤ ixB g.1 (10 : Int))) (fits IntKind.i64 q20 ∧ ((0 : Int) ≤ (0 : Int) ∧ (0 : Int) ≤ ixB g.1 (10 : Int) + (1 : Int) ∧ ixB g.1 (10 : Int) + (1 : Int) ≤ q76) ∧ fits IntKind.i64 q20 ∧ ((0 : Int) ≤ ixB g.1 (10 : Int) + (1 : Int) ∧ ixB g.1 (10 : Int) + (1 : Int) ≤ q76 ∧ q76 ≤ q76) ∧ List.length q13 ≤ q19 ∧ (1 : Nat) ≤ List.length q1 ∧ List.length (tsf q13 q0) ≤ q19 ∧ ((0 : Int) ≤ (1 : Int) ∧ (1 : Int) ≤ q59 ∧ q59 ≤ q59) ∧ (∃ (g_2 : Nat), Nat.le g_2 (List.length q3) ∧ hsf q13 q0 = hsf q13 q0 ∧ spl (tsf q13 q0) q1 = spl (tsf q13 q0) q1 ∧ List.map atV (List.take g_2 q3) = [] ∧ List.drop (1 : Nat) q80 = List.drop g_2 q3 ∧ false = wrTo q3 g_2 ∧ fldM = fldM ∧ List.take q39 q48 = List.take q39 q48 ∧ (0 : Int) = (0 : Int) ∧ (0 : Int) = (0 : Int) ∧ [g.2 (0 : Nat)] = [g.2 (0 : Nat)] ∧ True) ∧ ∀ (g_2 : Nat), let q96 := (List.drop g_2 q3); let q25 := (List.getD q96 (0 : Nat) []); let q68 := (List.take g_2 q3); let q32 := ([g.2 (0 : Nat)] ++ [List.map atV q68]); let q35 := (↑(List.length q96) : Int); let q86 := ((9 : Int) < (↑(List.length (tpf q25 q14)) : Int)); Nat.le g_2 (List.length q3) → splitB (decide ((0 : Int) < q35)) (((0 : Int) ≤ (0 : Int) ∧ (0 : Int) < q35) ∧ ((0 : Int) ≤ (1 : Int) ∧ (1 : Int) ≤ q35 ∧ q35 ≤ q35) ∧ List.length q25 ≤ q19 ∧ ((bif bif wrTo q3 g_2 then true else atE q25 then true else decide q86) = false → fits IntKind.i64 (atV q25)) ∧ room (List.length (List.map atV q68) + (1 : Nat)) (8 : Nat) ∧ ∃ (g' : Nat), Nat.le g' (List.length q3) ∧ List.length q3 - g' < List.length q3 - g_2 ∧ hsf q13 q0 = hsf q13 q0 ∧ spl (tsf q13 q0) q1 = spl (tsf q13 q0) q1 ∧ List.map atV q68 ++ [atV q25] = List.map atV (List.take g' q3) ∧ List.drop (1 : Nat) q96 = List.drop g' q3 ∧ (bif bif bif wrTo q3 g_2 then true else atE q25 then true else decide q86 then true else Lib.itoa (atV q25) != List.getD q96 (0 : Nat) []) = wrTo q3 g' ∧ fldM = fldM ∧ List.take q39 q48 = List.take q39 q48 ∧ (0 : Int) = (0 : Int) ∧ (0 : Int) = (0 : Int) ∧ [g.2 (0 : Nat)] = [g.2 (0 : Nat)] ∧ True) (((bif !hsf q13 q0 then true else !Option.isSome q49) = false → (0 : Int) ≤ (0 : Int) ∧ (0 : Int) < q59) ∧ splitB (bif bif bif !hsf q13 q0 then true else !Option.isSome q49 then true else List.getD q80 (0 : Nat) [] != (Option.getD q49 ([], none)).1 then true else wrTo q3 g_2) q55 (room (2 : Nat) (24 : Nat) ∧ splitB (decide ((0 : Int) < (↑(List.length (List.take q39 q48)) : Int))) ((∃ (g_3 : Str × (Nat → List Int)), (preA s (List.length q32) ∧ g_3.1 = restTo s (List.length q32) ∧ g_3.1 ≠ [] ∧ ∀ (i : Nat), i < List.length q32 → g_3.2 i = numsAt s i) ∧ List.take q39 q48 = g_3.1 ∧ [g.2 (0 : Nat)] ++ [List.map atV q68] = [g_3.2 (0 : Nat), g_3.2 (1 : Nat)] ∧ fldM = fldM ∧ (0 : Int) = (0 : Int) ∧ (0 : Int) = (0 : Int) ∧ True) ∧ ∀ (g_3 : Str × (Nat → List Int)), let q17 := (ixB g_3.1 (10 : Int) + (1 : Int)); let q10 := (List.take (Int.toNat q17) g_3.1); let q81 := (spl (tsf q10 q0) q1); let q2 := (List.drop (1 : Nat) q81); let q70 := (tsf g_3.1 q0); let q7 := (List.drop (1 : Nat) (spl q70 q1)); let q33 := (List.length g_3.1 - Int.toNat q17); let q40 := (List.drop (Int.toNat q17) g_3.1); let q53 := (↑(List.length (spl q70 q1)) : Int); let q60 := (↑(List.length q81) : Int); let q71 := (↑(List.length g_3.1) : Int); (preA s (List.length q32) ∧ g_3.1 = restTo s (List.length q32) ∧ g_3.1 ≠ [] ∧ ∀ (i : Nat), i < List.length q32 → g_3.2 i = numsAt s i) → splitB (decide ((0 : Int) ≤ ixB g_3.1 (10 : Int))) (fits IntKind.i64 q17 ∧ ((0 : Int) ≤ (0 : Int) ∧ (0 : Int) ≤ ixB g_3.1 (10 : Int) + (1 : Int) ∧ ixB g_3.1 (10 : Int) + (1 : Int) ≤ q71) ∧ fits IntKind.i64 q17 ∧ ((0 : Int) ≤ ixB g_3.1 (10 : Int) + (1 : Int) ∧ ixB g_3.1 (10 : Int) + (1 : Int) ≤ q71 ∧ q71 ≤ q71) ∧ List.length q10 ≤ q19 ∧ (1 : Nat) ≤ List.length q1 ∧ List.length (tsf q10 q0) ≤ q19 ∧ ((0 : Int) ≤ (1 : Int) ∧ (1 : Int) ≤ q60 ∧ q60 ≤ q60) ∧ (∃ (g : Nat), Nat.le g (List.length q2) ∧ hsf q10 q0 = hsf q10 q0 ∧ spl (tsf q10 q0) q1 = spl (tsf q10 q0) q1 ∧ List.map atV (List.take g q2) = [] ∧ List.drop (1 : Nat) q81 = List.drop g q2 ∧ false = wrTo q2 g ∧ fldM = fldM ∧ List.take q33 q40 = List.take q33 q40 ∧ (0 : Int) = (0 : Int) ∧ (0 : Int) = (0 : Int) ∧ [g_3.2 (0 : Nat), g_3.2 (1 : Nat)] = [g_3.2 (0 : Nat), g_3.2 (1 : Nat)] ∧ True) ∧ ∀ (g : Nat), let q72 := (List.take g q2); let q22 := ([g_3.2 (0 : Nat), g_3.2 (1 : Nat)] ++ [List.map atV q72]); let q28 := (List.getD (List.drop g q2) (0 : Nat) []); let q42 := (↑(List.length (List.drop g q2)) : Int); let q87 := ((9 : Int) < (↑(List.length (tpf q28 q14)) : Int)); Nat.le g (List.length q2) → splitB (decide ((0 : Int) < q42)) (((0 : Int) ≤ (0 : Int) ∧ (0 : Int) < q42) ∧ ((0 : Int) ≤ (1 : Int) ∧ (1 : Int) ≤ q42 ∧ q42 ≤ q42) ∧ List.length q28 ≤ q19 ∧ ((bif bif wrTo q2 g then true else atE q28 then true else decide q87) = false → fits IntKind.i64 (atV q28)) ∧ room (List.length (List.map atV q72) + (1 : Nat)) (8 : Nat) ∧ ∃ (g' : Nat), Nat.le g' (List.length q2) ∧ List.length q2 - g' < List.length q2 - g ∧ hsf q10 q0 = hsf q10 q0 ∧ spl (tsf q10 q0) q1 = spl (tsf q10 q0) q1 ∧ List.map atV q72 ++ [atV q28] = List.map atV (List.take g' q2) ∧ List.drop (1 : Nat) (List.drop g q2) = List.drop g' q2 ∧ (bif bif bif wrTo q2 g then true else atE q28 then true else decide q87 then true else Lib.itoa (atV q28) != List.getD (List.drop g q2) (0 : Nat) []) = wrTo q2 g' ∧ fldM = fldM ∧ List.take q33 q40 = List.take q33 q40 ∧ (0 : Int) = (0 : Int) ∧ (0 : Int) = (0 : Int) ∧ [g_3.2 (0 : Nat), g_3.2 (1 : Nat)] = [g_3.2 (0 : Nat), g_3.2 (1 : Nat)] ∧ True) (((bif !hsf q10 q0 then true else !Option.isSome q50) = false → (0 : Int) ≤ (0 : Int) ∧ (0 : Int) < q60) ∧ splitB (bif bif bif !hsf q10 q0 then true else !Option.isSome q50 then true else List.getD q81 (0 : Nat) [] != (Option.getD q50 ([], none)).1 then true else wrTo q2 g) q56 (room (3 : Nat) (24 : Nat) ∧ splitB (decide ((0 : Int) < (↑(List.length (List.take q33 q40)) : Int))) ((∃ (g_4 : Str × (Nat → List Int)), (preA s (List.length q22) ∧ g_4.1 = restTo s (List.length q22) ∧ g_4.1 ≠ [] ∧ ∀ (i : Nat), i < List.length q22 → g_4.2 i = numsAt s i) ∧ List.take q33 q40 = g_4.1 ∧ [g_3.2 (0 : Nat), g_3.2 (1 : Nat)] ++ [List.map atV q72] = [g_4.2 (0 : Nat), g_4.2 (1 : Nat), g_4.2 (2 : Nat)] ∧ fldM = fldM ∧ (0 : Int) = (0 : Int) ∧ (0 : Int) = (0 : Int) ∧ True) ∧ ∀ (g_4 : Str × (Nat → List Int)), let q23 := (ixB g_4.1 (10 : Int) + (1 : Int)); let q11 := (List.take (Int.toNat q23) g_4.1); let q82 := (spl (tsf q11 q0) q1); let q5 := (List.drop (1 : Nat) q82); let q69 := (tsf g_4.1 q0); let q6 := (List.drop (1 : Nat) (spl q69 q1)); let q52 := (↑(List.length (spl q69 q1)) : Int); let q61 := (↑(List.length q82) : Int); let q65 := (List.length g_4.1 - Int.toNat q23); let q67 := (List.drop (Int.toNat q23) g_4.1); let q73 := (↑(List.length g_4.1) : Int); (preA s (List.length q22) ∧ g_4.1 = restTo s (List.length q22) ∧ g_4.1 ≠ [] ∧ ∀ (i : Nat), i < List.length q22 → g_4.2 i = numsAt s i) → splitB (decide ((0 : Int) ≤ ixB g_4.1 (10 : Int))) (fits IntKind.i64 q23 ∧ ((0 : Int) ≤ (0 : Int) ∧ (0 : Int) ≤ ixB g_4.1 (10 : Int) + (1 : Int) ∧ ixB g_4.1 (10 : Int) + (1 : Int) ≤ q73) ∧ fits IntKind.i64 q23 ∧ ((0 : Int) ≤ ixB g_4.1 (10 : Int) + (1 : Int) ∧ ixB g_4.1 (10 : Int) + (1 : Int) ≤ q73 ∧ q73 ≤ q73) ∧ List.length q11 ≤ q19 ∧ (1 : Nat) ≤ List.length q1 ∧ List.length (tsf q11 q0) ≤ q19 ∧ ((0 : Int) ≤ (1 : Int) ∧ (1 : Int) ≤ q61 ∧ q61 ≤ q61) ∧ (∃ (g : Nat), Nat.le g (List.length q5) ∧ hsf q11 q0 = hsf q11 q0 ∧ spl (tsf q11 q0) q1 = spl (tsf q11 q0) q1 ∧ List.map atV (List.take g q5) = [] ∧ List.drop (1 : Nat) q82 = List.drop g q5 ∧ false = wrTo q5 g ∧ fldM = fldM ∧ List.take q65 q67 = List.take q65 q67 ∧ (0 : Int) = (0 : Int) ∧ (0 : Int) = (0 : Int) ∧ [g_4.2 (0 : Nat), g_4.2 (1 : Nat), g_4.2 (2 : Nat)] = [g_4.2 (0 : Nat), g_4.2 (1 : Nat), g_4.2 (2 : Nat)] ∧ True) ∧ ∀ (g : Nat), let q29 := (List.getD (List.drop g q5) (0 : Nat) []); let q43 := (↑(List.length (List.drop g q5)) : Int); let q88 := ((9 : Int) < (↑(List.length (tpf q29 q14)) : Int)); Nat.le g (List.length q5) → splitB (decide ((0 : Int) < q43)) (((0 : Int) ≤ (0 : Int) ∧ (0 : Int) < q43) ∧ ((0 : Int) ≤ (1 : Int) ∧ (1 : Int) ≤ q43 ∧ q43 ≤ q43) ∧ List.length q29 ≤ q19 ∧ ((bif bif wrTo q5 g then true else atE q29 then true else decide q88) = false → fits IntKind.i64 (atV q29)) ∧ room (List.length (List.map atV (List.take g q5)) + (1 : Nat)) (8 : Nat) ∧ ∃ (g' : Nat), Nat.le g' (List.length q5) ∧ List.length q5 - g' < List.length q5 - g ∧ hsf q11 q0 = hsf q11 q0 ∧ spl (tsf q11 q0) q1 = spl (tsf q11 q0) q1 ∧ List.map atV (List.take g q5) ++ [atV q29] = List.map atV (List.take g' q5) ∧ List.drop (1 : Nat) (List.drop g q5) = List.drop g' q5 ∧ (bif bif bif wrTo q5 g then true else atE q29 then true else decide q88 then true else Lib.itoa (atV q29) != List.getD (List.drop g q5) (0 : Nat) []) = wrTo q5 g' ∧ fldM = fldM ∧ List.take q65 q67 = List.take q65 q67 ∧ (0 : Int) = (0 : Int) ∧ (0 : Int) = (0 : Int) ∧ [g_4.2 (0 : Nat), g_4.2 (1 : Nat), g_4.2 (2 : Nat)] = [g_4.2 (0 : Nat), g_4.2 (1 : Nat), g_4.2 (2 : Nat)] ∧ True) (((bif !hsf q11 q0 then true else !Option.isSome q51) = false → (0 : Int) ≤ (0 : Int) ∧ (0 : Int) < q61) ∧ splitB (bif bif bif !hsf q11 q0 then true else !Option.isSome q51 then true else List.getD q82 (0 : Nat) [] != (Option.getD q51 ([], none)).1 then true else wrTo q5 g) q57 ((∃ (g : Nat), True ∧ True) ∧ ∀ (g : Nat), True → False))) ((∃ (g : Nat), True ∧ g_4.1 = g_4.1 ∧ fldM = fldM ∧ Array.toList q15 = Array.toList q15 ∧ (0 : Int) = (0 : Int) ∧ (0 : Int) = (0 : Int) ∧ [g_4.2 (0 : Nat), g_4.2 (1 : Nat), g_4.2 (2 : Nat)] = [g_4.2 (0 : Nat), g_4.2 (1 : Nat), g_4.2 (2 : Nat)] ∧ True) ∧ ∀ (g : Nat), True → List.length g_4.1 ≤ q19 ∧ (1 : Nat) ≤ List.length q1 ∧ List.length q69 ≤ q19 ∧ ((0 : Int) ≤ (1 : Int) ∧ (1 : Int) ≤ q52 ∧ q52 ≤ q52) ∧ (∃ (g : Nat), Nat.le g (List.length q6) ∧ hsf g_4.1 q0 = hsf g_4.1 q0 ∧ spl q69 q1 = spl q69 q1 ∧ List.map atV (List.take g q6) = [] ∧ List.drop (1 : Nat) (spl q69 q1) = List.drop g q6 ∧ false = wrTo q6 g ∧ fldM = fldM ∧ Array.toList q15 = Array.toList q15 ∧ (0 : Int) = (0 : Int) ∧ (0 : Int) = (0 : Int) ∧ [g_4.2 (0 : Nat), g_4.2 (1 : Nat), g_4.2 (2 : Nat)] = [g_4.2 (0 : Nat), g_4.2 (1 : Nat), g_4.2 (2 : Nat)] ∧ True) ∧ ∀ (g : Nat), let q30 := (List.getD (List.drop g q6) (0 : Nat) []); let q44 := (↑(List.length (List.drop g q6)) : Int); let q89 := ((9 : Int) < (↑(List.length (tpf q30 q14)) : Int)); Nat.le g (List.length q6) → splitB (decide ((0 : Int) < q44)) (((0 : Int) ≤ (0 : Int) ∧ (0 : Int) < q44) ∧ ((0 : Int) ≤ (1 : Int) ∧ (1 : Int) ≤ q44 ∧ q44 ≤ q44) ∧ List.length q30 ≤ q19 ∧ ((bif bif wrTo q6 g then true else atE q30 then true else decide q89) = false → fits IntKind.i64 (atV q30)) ∧ room (List.length (List.map atV (List.take g q6)) + (1 : Nat)) (8 : Nat) ∧ ∃ (g' : Nat), Nat.le g' (List.length q6) ∧ List.length q6 - g' < List.length q6 - g ∧ hsf g_4.1 q0 = hsf g_4.1 q0 ∧ spl q69 q1 = spl q69 q1 ∧ List.map atV (List.take g q6) ++ [atV q30] = List.map atV (List.take g' q6) ∧ List.drop (1 : Nat) (List.drop g q6) = List.drop g' q6 ∧ (bif bif bif wrTo q6 g then true else atE q30 then true else decide q89 then true else Lib.itoa (atV q30) != List.getD (List.drop g q6) (0 : Nat) []) = wrTo q6 g' ∧ fldM = fldM ∧ Array.toList q15 = Array.toList q15 ∧ (0 : Int) = (0 : Int) ∧ (0 : Int) = (0 : Int) ∧ [g_4.2 (0 : Nat), g_4.2 (1 : Nat), g_4.2 (2 : Nat)] = [g_4.2 (0 : Nat), g_4.2 (1 : Nat), g_4.2 (2 : Nat)] ∧ True) (((bif !hsf g_4.1 q0 then true else !Option.isSome q51) = false → (0 : Int) ≤ (0 : Int) ∧ (0 : Int) < q52) ∧ splitB (bif bif bif !hsf g_4.1 q0 then true else !Option.isSome q51 then true else List.getD (spl q69 q1) (0 : Nat) [] != (Option.getD q51 ([], none)).1 then true else wrTo q6 g) q57 ((∃ (g : Nat), True ∧ True) ∧ ∀ (g : Nat), True → False)))) ((∃ (g_4 : Nat → List Int), [g_4 (0 : Nat), g_4 (1 : Nat), g_4 (2 : Nat)] = [g_3.2 (0 : Nat), g_3.2 (1 : Nat)] ++ [List.map atV q72] ∧ [g_3.2 (0 : Nat), g_3.2 (1 : Nat)] ++ [List.map atV q72] = [g_4 (0 : Nat), g_4 (1 : Nat), g_4 (2 : Nat)] ∧ fldM = fldM ∧ (0 : Int) = (0 : Int) ∧ (0 : Int) = (0 : Int) ∧ True) ∧ ∀ (g_4 : Nat → List Int), let q41 := (flt [g_4 (0 : Nat), g_4 (1 : Nat), g_4 (2 : Nat)]); let q78 := (g_4 (0 : Nat)); let q93 := (g_4 (1 : Nat)); let q94 := (g_4 (2 : Nat)); [g_4 (0 : Nat), g_4 (1 : Nat), g_4 (2 : Nat)] = [g_3.2 (0 : Nat), g_3.2 (1 : Nat)] ++ [List.map atV q72] → (3 : Nat) ≤ (1000 : Nat) ∧ List.length q41 ≤ q64 ∧ List.length q41 ≤ q64 ∧ (2 : Nat) ≤ q19 ∧ splitB (first [whenE (decide ((3 : Int) < q66)) (2 : Int), whenE (anyL q41) (3 : Int)] != (0 : Int)) ((prsN s).1.1 = [] ∧ (prsN s).1.2.1 = [] ∧ (prsN s).1.2.2 = [] ∧ (3 : Int) = (prsN s).2.1 ∧ first [whenE (decide ((3 : Int) < q66)) (2 : Int), whenE (anyL q41) (3 : Int)] = (prsN s).2.2 ∧ True) (((0 : Int) ≤ (0 : Int) ∧ (0 : Int) < (3 : Int)) ∧ (0 : Nat) < (3 : Nat) ∧ List.length q78 ≤ q64 ∧ Bd (8388608 : Int) q78 ∧ fits IntKind.i64 (1 : Int) ∧ ((0 : Int) ≤ (1 : Int) ∧ (1 : Int) < (3 : Int)) ∧ (1 : Nat) < (3 : Nat) ∧ List.length q93 ≤ q64 ∧ Bd (8388608 : Int) q93 ∧ fits IntKind.i64 (2 : Int) ∧ ((0 : Int) ≤ (2 : Int) ∧ (2 : Int) < (3 : Int)) ∧ (2 : Nat) < (3 : Nat) ∧ List.length q94 ≤ q64 ∧ Bd (8388608 : Int) q94 ∧ fits IntKind.i64 (3 : Int) ∧ List.length (List.map smp q78) ≤ q19 ∧ splitB (chkPt (List.map smp q78) (List.map smp q93) (List.map smp q94) != (0 : Int)) ((prsN s).1.1 = [] ∧ (prsN s).1.2.1 = [] ∧ (prsN s).1.2.2 = [] ∧ (3 : Int) = (prsN s).2.1 ∧ chkPt (List.map smp q78) (List.map smp q93) (List.map smp q94) = (prsN s).2.2 ∧ True) (List.map smp q78 = (prsN s).1.1 ∧ List.map smp q93 = (prsN s).1.2.1 ∧ List.map smp q94 = (prsN s).1.2.2 ∧ (0 : Int) = (prsN s).2.1 ∧ (0 : Int) = (prsN s).2.2 ∧ True)))))) ((∃ (g : Nat), True ∧ g_3.1 = g_3.1 ∧ fldM = fldM ∧ Array.toList q15 = Array.toList q15 ∧ (0 : Int) = (0 : Int) ∧ (0 : Int) = (0 : Int) ∧ [g_3.2 (0 : Nat), g_3.2 (1 : Nat)] = [g_3.2 (0 : Nat), g_3.2 (1 : Nat)] ∧ True) ∧ ∀ (g : Nat), True → List.length g_3.1 ≤ q19 ∧ (1 : Nat) ≤ List.length q1 ∧ List.length q70 ≤ q19 ∧ ((0 : Int) ≤ (1 : Int) ∧ (1 : Int) ≤ q53 ∧ q53 ≤ q53) ∧ (∃ (g : Nat), Nat.le g (List.length q7) ∧ hsf g_3.1 q0 = hsf g_3.1 q0 ∧ spl q70 q1 = spl q70 q1 ∧ List.map atV (List.take g q7) = [] ∧ List.drop (1 : Nat) (spl q70 q1) = List.drop g q7 ∧ false = wrTo q7 g ∧ fldM = fldM ∧ Array.toList q15 = Array.toList q15 ∧ (0 : Int) = (0 : Int) ∧ (0 : Int) = (0 : Int) ∧ [g_3.2 (0 : Nat), g_3.2 (1 : Nat)] = [g_3.2 (0 : Nat), g_3.2 (1 : Nat)] ∧ True) ∧ ∀ (g : Nat), let q31 := (List.getD (List.drop g q7) (0 : Nat) []); let q45 := (↑(List.length (List.drop g q7)) : Int); let q90 := ((9 : Int) < (↑(List.length (tpf q31 q14)) : Int)); Nat.le g (List.length q7) → splitB (decide ((0 : Int) < q45)) (((0 : Int) ≤ (0 : Int) ∧ (0 : Int) < q45) ∧ ((0 : Int) ≤ (1 : Int) ∧ (1 : Int) ≤ q45 ∧ q45 ≤ q45) ∧ List.length q31 ≤ q19 ∧ ((bif bif wrTo q7 g then true else atE q31 then true else decide q90) = false → fits IntKind.i64 (atV q31)) ∧ room (List.length (List.map atV (List.take g q7)) + (1 : Nat)) (8 : Nat) ∧ ∃ (g' : Nat), Nat.le g' (List.length q7) ∧ List.length q7 - g' < List.length q7 - g ∧ hsf g_3.1 q0 = hsf g_3.1 q0 ∧ spl q70 q1 = spl q70 q1 ∧ List.map atV (List.take g q7) ++ [atV q31] = List.map atV (List.take g' q7) ∧ List.drop (1 : Nat) (List.drop g q7) = List.drop g' q7 ∧ (bif bif bif wrTo q7 g then true else atE q31 then true else decide q90 then true else Lib.itoa (atV q31) != List.getD (List.drop g q7) (0 : Nat) []) = wrTo q7 g' ∧ fldM = fldM ∧ Array.toList q15 = Array.toList q15 ∧ (0 : Int) = (0 : Int) ∧ (0 : Int) = (0 : Int) ∧ [g_3.2 (0 : Nat), g_3.2 (1 : Nat)] = [g_3.2 (0 : Nat), g_3.2 (1 : Nat)] ∧ True) (((bif !hsf g_3.1 q0 then true else !Option.isSome q50) = false → (0 : Int) ≤ (0 : Int) ∧ (0 : Int) < q53) ∧ splitB (bif bif bif !hsf g_3.1 q0 then true else !Option.isSome q50 then true else List.getD (spl q70 q1) (0 : Nat) [] != (Option.getD q50 ([], none)).1 then true else wrTo q7 g) q56 ((∃ (g : Nat), True ∧ True) ∧ ∀ (g : Nat), True → False)))) ((∃ (g_3 : Nat → List Int), [g_3 (0 : Nat), g_3 (1 : Nat)] = [g.2 (0 : Nat)] ++ [List.map atV q68] ∧ [g.2 (0 : Nat)] ++ [List.map atV q68] = [g_3 (0 : Nat), g_3 (1 : Nat)] ∧ fldM = fldM ∧ (0 : Int) = (0 : Int) ∧ (0 : Int) = (0 : Int) ∧ True) ∧ ∀ (g_3 : Nat → List Int), let q77 := (flt [g_3 (0 : Nat), g_3 (1 : Nat)]); [g_3 (0 : Nat), g_3 (1 : Nat)] = [g.2 (0 : Nat)] ++ [List.map atV q68] → (2 : Nat) ≤ (1000 : Nat) ∧ List.length q77 ≤ q64 ∧ List.length q77 ≤ q64 ∧ (2 : Nat) ≤ q19 ∧ (∃ (g : Nat), True ∧ first [whenE (decide ((2 : Int) < q66)) (2 : Int), whenE (anyL q77) (3 : Int)] = (2 : Int) ∧ (0 : Int) = (0 : Int) ∧ (0 : Int) = (0 : Int) ∧ [g_3 (0 : Nat), g_3 (1 : Nat)] = [g_3 (0 : Nat), g_3 (1 : Nat)] ∧ True) ∧ ∀ (g : Nat), True → (prsN s).1.1 = [] ∧ (prsN s).1.2.1 = [] ∧ (prsN s).1.2.2 = [] ∧ (2 : Int) = (prsN s).2.1 ∧ (2 : Int) = (prsN s).2.2 ∧ True)))) ((∃ (g_2 : Nat), True ∧ g.1 = g.1 ∧ fldM = fldM ∧ Array.toList q15 = Array.toList q15 ∧ (0 : Int) = (0 : Int) ∧ (0 : Int) = (0 : Int) ∧ [g.2 (0 : Nat)] = [g.2 (0 : Nat)] ∧ True) ∧ ∀ (g_2 : Nat), True → List.length g.1 ≤ q19 ∧ (1 : Nat) ≤ List.length q1 ∧ List.length (tsf g.1 q0) ≤ q19 ∧ ((0 : Int) ≤ (1 : Int) ∧ (1 : Int) ≤ q62 ∧ q62 ≤ q62) ∧ (∃ (g_3 : Nat), Nat.le g_3 (List.length q8) ∧ hsf g.1 q0 = hsf g.1 q0 ∧ spl (tsf g.1 q0) q1 = spl (tsf g.1 q0) q1 ∧ List.map atV (List.take g_3 q8) = [] ∧ List.drop (1 : Nat) q83 = List.drop g_3 q8 ∧ false = wrTo q8 g_3 ∧ fldM = fldM ∧ Array.toList q15 = Array.toList q15 ∧ (0 : Int) = (0 : Int) ∧ (0 : Int) = (0 : Int) ∧ [g.2 (0 : Nat)] = [g.2 (0 : Nat)] ∧ True) ∧ ∀ (g_3 : Nat), let q97 := (List.drop g_3 q8); let q26 := (List.getD q97 (0 : Nat) []); let q36 := (↑(List.length q97) : Int); let q91 := ((9 : Int) < (↑(List.length (tpf q26 q14)) : Int)); Nat.le g_3 (List.length q8) → splitB (decide ((0 : Int) < q36)) (((0 : Int) ≤ (0 : Int) ∧ (0 : Int) < q36) ∧ ((0 : Int) ≤ (1 : Int) ∧ (1 : Int) ≤ q36 ∧ q36 ≤ q36) ∧ List.length q26 ≤ q19 ∧ ((bif bif wrTo q8 g_3 then true else atE q26 then true else decide q91) = false → fits IntKind.i64 (atV q26)) ∧ room (List.length (List.map atV (List.take g_3 q8)) + (1 : Nat)) (8 : Nat) ∧ ∃ (g' : Nat), Nat.le g' (List.length q8) ∧ List.length q8 - g' < List.length q8 - g_3 ∧ hsf g.1 q0 = hsf g.1 q0 ∧ spl (tsf g.1 q0) q1 = spl (tsf g.1 q0) q1 ∧ List.map atV (List.take g_3 q8) ++ [atV q26] = List.map atV (List.take g' q8) ∧ List.drop (1 : Nat) q97 = List.drop g' q8 ∧ (bif bif bif wrTo q8 g_3 then true else atE q26 then true else decide q91 then true else Lib.itoa (atV q26) != List.getD q97 (0 : Nat) []) = wrTo q8 g' ∧ fldM = fldM ∧ Array.toList q15 = Array.toList q15 ∧ (0 : Int) = (0 : Int) ∧ (0 : Int) = (0 : Int) ∧ [g.2 (0 : Nat)] = [g.2 (0 : Nat)] ∧ True) (((bif !hsf g.1 q0 then true else !Option.isSome q49) = false → (0 : Int) ≤ (0 : Int) ∧ (0 : Int) < q62) ∧ splitB (bif bif bif !hsf g.1 q0 then true else !Option.isSome q49 then true else List.getD q83 (0 : Nat) [] != (Option.getD q49 ([], none)).1 then true else wrTo q8 g_3) q55 ((∃ (g : Nat), True ∧ True) ∧ ∀ (g : Nat), True → False)))) ((∃ (g_2 : Nat → List Int), [g_2 (0 : Nat)] = [List.map atV q74] ∧ [List.map atV q74] = [g_2 (0 : Nat)] ∧ fldM = fldM ∧ (0 : Int) = (0 : Int) ∧ (0 : Int) = (0 : Int) ∧ True) ∧ ∀ (g_2 : Nat → List Int), [g_2 (0 : Nat)] = [List.map atV q74] → (1 : Nat) ≤ (1000 : Nat) ∧ List.length (flt [g_2 (0 : Nat)]) ≤ q64 ∧ List.length (flt [g_2 (0 : Nat)]) ≤ q64 ∧ (2 : Nat) ≤ q19 ∧ (∃ (g : Nat), True ∧ first [whenE (decide ((1 : Int) < q66)) (2 : Int), whenE (anyL (flt [g_2 (0 : Nat)])) (3 : Int)] = (2 : Int) ∧ (0 : Int) = (0 : Int) ∧ (0 : Int) = (0 : Int) ∧ [g_2 (0 : Nat)] = [g_2 (0 : Nat)] ∧ True) ∧ ∀ (g : Nat), True → (prsN s).1.1 = [] ∧ (prsN s).1.2.1 = [] ∧ (prsN s).1.2.2 = [] ∧ (1 : Int) = (prsN s).2.1 ∧ (2 : Int) = (prsN s).2.2 ∧ True)))) ((∃ (g_1 : Nat), True ∧ g.1 = g.1 ∧ fldM = fldM ∧ Array.toList q15 = Array.toList q15 ∧ (0 : Int) = (0 : Int) ∧ (0 : Int) = (0 : Int) ∧ ([] : List (List Int)) = [] ∧ True) ∧ ∀ (g_1 : Nat), True → List.length g.1 ≤ q19 ∧ (1 : Nat) ≤ List.length q1 ∧ List.length (tsf g.1 q0) ≤ q19 ∧ ((0 : Int) ≤ (1 : Int) ∧ (1 : Int) ≤ q63 ∧ q63 ≤ q63) ∧ (∃ (g_2 : Nat), Nat.le g_2 (List.length q9) ∧ hsf g.1 q0 = hsf g.1 q0 ∧ spl (tsf g.1 q0) q1 = spl (tsf g.1 q0) q1 ∧ List.map atV (List.take g_2 q9) = [] ∧ List.drop (1 : Nat) q84 = List.drop g_2 q9 ∧ false = wrTo q9 g_2 ∧ fldM = fldM ∧ Array.toList q15 = Array.toList q15 ∧ (0 : Int) = (0 : Int) ∧ (0 : Int) = (0 : Int) ∧ ([] : List (List Int)) = [] ∧ True) ∧ ∀ (g_2 : Nat), let q98 := (List.drop g_2 q9); let q27 := (List.getD q98 (0 : Nat) []); let q37 := (↑(List.length q98) : Int); let q92 := ((9 : Int) < (↑(List.length (tpf q27 q14)) : Int)); Nat.le g_2 (List.length q9) → splitB (decide ((0 : Int) < q37)) (((0 : Int) ≤ (0 : Int) ∧ (0 : Int) < q37) ∧ ((0 : Int) ≤ (1 : Int) ∧ (1 : Int) ≤ q37 ∧ q37 ≤ q37) ∧ List.length q27 ≤ q19 ∧ ((bif bif wrTo q9 g_2 then true else atE q27 then true else decide q92) = false → fits IntKind.i64 (atV q27)) ∧ room (List.length (List.map atV (List.take g_2 q9)) + (1 : Nat)) (8 : Nat) ∧ ∃ (g' : Nat), Nat.le g' (List.length q9) ∧ List.length q9 - g' < List.length q9 - g_2 ∧ hsf g.1 q0 = hsf g.1 q0 ∧ spl (tsf g.1 q0) q1 = spl (tsf g.1 q0) q1 ∧ List.map atV (List.take g_2 q9) ++ [atV q27] = List.map atV (List.take g' q9) ∧ List.drop (1 : Nat) q98 = List.drop g' q9 ∧ (bif bif bif wrTo q9 g_2 then true else atE q27 then true else decide q92 then true else Lib.itoa (atV q27) != List.getD q98 (0 : Nat) []) = wrTo q9 g' ∧ fldM = fldM ∧ Array.toList q15 = Array.toList q15 ∧ (0 : Int) = (0 : Int) ∧ (0 : Int) = (0 : Int) ∧ ([] : List (List Int)) = [] ∧ True) (((bif !hsf g.1 q0 then true else !Option.isSome q47) = false → (0 : Int) ≤ (0 : Int) ∧ (0 : Int) < q63) ∧ splitB (bif bif bif !hsf g.1 q0 then true else !Option.isSome q47 then true else List.getD q84 (0 : Nat) [] != (Option.getD q47 ([], none)).1 then true else wrTo q9 g_2) q54 ((∃ (g : Nat), True ∧ True) ∧ ∀ (g : Nat), True → False)))) ((∃ (g : Nat → List Int), ([] : List (List Int)) = [] ∧ ([] : List (List Int)) = [] ∧ fldM = fldM ∧ (0 : Int) = (0 : Int) ∧ (0 : Int) = (0 : Int) ∧ True) ∧ ∀ (g : Nat → List Int), ([] : List (List Int)) = [] → (0 : Nat) ≤ (1000 : Nat) ∧ List.length (flt []) ≤ q64 ∧ List.length (flt []) ≤ q64 ∧ (2 : Nat) ≤ q19 ∧ (∃ (g : Nat), True ∧ first [whenE (decide ((0 : Int) < q66)) (2 : Int), whenE (anyL (flt [])) (3 : Int)] = (2 : Int) ∧ (0 : Int) = (0 : Int) ∧ (0 : Int) = (0 : Int) ∧ ([] : List (List Int)) = [] ∧ True) ∧ ∀ (g : Nat), True → (prsN s).1.1 = [] ∧ (prsN s).1.2.1 = [] ∧ (prsN s).1.2.2 = [] ∧ (0 : Int) = (prsN s).2.1 ∧ (2 : Int) = (prsN s).2.2 ∧ True))) := by
  kernel_rfl
end Go.Sx

namespace Go.Sx
open U
theorem so189 : Sp1 189 sp189 := by
  refine ⟨fun vs ps r h hp => ?_, Proofs.Tryz.f189, _, by kernel_rfl, rfl, by kernel_rfl⟩
  simp only [sp189] at h
  split at h
  · cases h; unfold ixB; rw [hd_eq]; exact index1 _ _
  · cases h
theorem so154 : Sp1 154 sp154 := by
  refine ⟨fun vs ps r h hp => ?_, Proofs.Tryz.f154, _, by kernel_rfl, rfl, by kernel_rfl⟩
  simp only [sp154] at h
  split at h
  · cases h; unfold tsf hsf; rw [hd_eq, hd_eq]; exact cutSuffix1 _ _ (hp _ (by simp))
  · cases h
theorem so193 : Sp1 193 sp193 := by
  refine ⟨fun vs ps r h hp => ?_, Proofs.Tryz.f193, _, by kernel_rfl, rfl, by kernel_rfl⟩
  simp only [sp193] at h
  split at h
  · cases h; unfold tpf; rw [hd_eq]; exact trimPrefix1 _ _
  · cases h
theorem so155 : Sp1 155 sp155 := by
  refine ⟨fun vs ps r h hp => ?_, Proofs.Tryz.f155, _, by kernel_rfl, rfl, by kernel_rfl⟩
  simp only [sp155] at h
  split at h
  · cases h; unfold spl; rw [hd_eq]; exact split1 _ _ (hp _ (by simp)) (hp _ (by simp))
  · cases h
theorem so192 : Sp1 192 sp192 := by
  refine ⟨fun vs ps r h hp => ?_, Proofs.Tryz.f192, _, by kernel_rfl, rfl, by kernel_rfl⟩
  simp only [sp192] at h
  split at h
  · cases h; unfold atV atE; rw [hd_eq, hd_eq]; exact atoi1 _ (hp _ (by simp))
  · cases h
theorem fn157 (l : List Int) (hl : l.length ≤ 1000000) : Fn P1 gl1 157 [.one (.sl (.int .i64) l), .one (.fn 130 [] [])] (.val (bV (anyL l))) true := by
  refine Fn.flat ?_ rfl
  refine fn_of false [(130, sp130)] [fb194] h138 3 Proofs.Tryz.f157 ⟨so130, trivial⟩ ⟨⟨by kernel_rfl, by kernel_rfl, _, rfl, by kernel_rfl⟩, trivial⟩ (by kernel_rfl) rfl (by kernel_rfl) rfl rfl rfl ?_
  rw [vc157]
  try simp only [splitB_iff, -eq_self]
  rw [anyL_eq]
  refine ⟨⟨0, ⟨by omega, fun j hj => absurd hj (by omega)⟩, rfl, rfl, rfl, trivial⟩, fun g hg => ⟨fun hlt => ?_, fun hge => ?_⟩⟩
  · have hlt : g < l.length := by simpa using hlt
    refine ⟨by omega, fun h => ?_, fun h => ?_⟩
    · have hn : l.any lgI = true := List.any_eq_true.2 ⟨_, getD_mem' hlt, h⟩
      rw [hn]
      exact ⟨by simp, trivial⟩
    · refine ⟨by simp only [fits]; omega, g + 1, ⟨by omega, fun j hj => ?_⟩, by omega, by simp, rfl, rfl, trivial⟩
      by_cases e : j = g
      · subst e; exact h
      · exact hg.2 j (by omega)
  · have hge : ¬ g < l.length := by simpa using hge
    have hn : l.any lgI = false := bd_lg (bd_of_lg fun j hj => hg.2 j (by omega))
    rw [hn]
    exact ⟨by decide, trivial⟩
theorem so157_ : SpecOk P1 gl1 157 sp157 := by
  intro vs ps r h hp
  simp only [sp157] at h
  split at h
  · cases h; exact fn157 _ (hp _ (.head _))
  · cases h
theorem so157 : Sp1 157 sp157 := ⟨so157_, Proofs.Tryz.f157, _, by kernel_rfl, rfl, by kernel_rfl⟩
theorem so158h : Sp1 158 sp158h := by
  refine ⟨fun vs ps r h hp => ?_, so158.2⟩
  simp only [sp158h] at h
  split at h
  · rename_i l
    cases h
    have h1 := hp _ (List.mem_cons_self)
    have h2 := hp _ (List.mem_cons_of_mem _ List.mem_cons_self)
    unfold flt at h2 ⊢
    rw [hd_eq] at h2 ⊢
    exact fn158 l h1 h2
  · cases h
theorem bne_dec (a b : Str) : (a != b) = !decide (a = b) := by
  by_cases h : a = b <;> simp [h]
theorem inner {W : List Str} (h1 : 1 ≤ W.length) (h2 : W.length ≤ 1000001) (h3 : ∀ w ∈ W, w.length ≤ 1000000) {D1 D2 E : Prop} {R : Nat → Prop} (d1 : D1) (d2 : D2) (e : E) (rest : R (List.drop 1 W).length) :
    (∃ (g : Nat), Nat.le g (List.length (List.drop 1 W)) ∧ D1 ∧ D2 ∧ List.map atV (List.take g (List.drop 1 W)) = [] ∧ List.drop 1 W = List.drop g (List.drop 1 W) ∧ false = wrTo (List.drop 1 W) g ∧ E) ∧
    ∀ (g : Nat), Nat.le g (List.length (List.drop 1 W)) →
      (decide ((0 : Int) < (List.length (List.drop g (List.drop 1 W)) : Int)) = true →
        ((0 : Int) ≤ 0 ∧ (0 : Int) < (List.length (List.drop g (List.drop 1 W)) : Int)) ∧ ((0 : Int) ≤ 1 ∧ (1 : Int) ≤ (List.length (List.drop g (List.drop 1 W)) : Int) ∧ (List.length (List.drop g (List.drop 1 W)) : Int) ≤ (List.length (List.drop g (List.drop 1 W)) : Int)) ∧
        List.length (List.getD (List.drop g (List.drop 1 W)) 0 []) ≤ 1000000000 ∧
        ((bif bif wrTo (List.drop 1 W) g then true else atE (List.getD (List.drop g (List.drop 1 W)) 0 []) then true else decide ((9 : Int) < (List.length (tpf (List.getD (List.drop g (List.drop 1 W)) 0 []) [45]) : Int))) = false → fits IntKind.i64 (atV (List.getD (List.drop g (List.drop 1 W)) 0 []))) ∧
        room (List.length (List.map atV (List.take g (List.drop 1 W))) + 1) 8 ∧
        ∃ (g' : Nat), Nat.le g' (List.length (List.drop 1 W)) ∧ List.length (List.drop 1 W) - g' < List.length (List.drop 1 W) - g ∧ D1 ∧ D2 ∧
          List.map atV (List.take g (List.drop 1 W)) ++ [atV (List.getD (List.drop g (List.drop 1 W)) 0 [])] = List.map atV (List.take g' (List.drop 1 W)) ∧
          List.drop 1 (List.drop g (List.drop 1 W)) = List.drop g' (List.drop 1 W) ∧
          (bif bif bif wrTo (List.drop 1 W) g then true else atE (List.getD (List.drop g (List.drop 1 W)) 0 []) then true else decide ((9 : Int) < (List.length (tpf (List.getD (List.drop g (List.drop 1 W)) 0 []) [45]) : Int)) then true else Lib.itoa (atV (List.getD (List.drop g (List.drop 1 W)) 0 [])) != List.getD (List.drop g (List.drop 1 W)) 0 []) = wrTo (List.drop 1 W) g' ∧ E) ∧
      (decide ((0 : Int) < (List.length (List.drop g (List.drop 1 W)) : Int)) = false → R g) := by
  have h3' : ∀ w ∈ List.drop 1 W, w.length ≤ 1000000 := fun w hw => h3 w (List.mem_of_mem_drop hw)
  have h2' : (List.drop 1 W).length ≤ 1000000 := by rw [List.length_drop]; omega
  generalize List.drop 1 W = T at *
  refine ⟨⟨0, Nat.zero_le _, d1, d2, rfl, rfl, rfl, e⟩, fun g hg => ⟨fun hlt => ?_, fun hge => ?_⟩⟩
  · have hg : g ≤ T.length := hg
    have hlt := of_decide_eq_true hlt
    rw [List.length_drop] at hlt ⊢
    have hlt' : g < T.length := by omega
    have hw : List.getD (List.drop g T) 0 [] = List.getD T g [] := by
      rw [List.getD_eq_getElem?_getD, List.getElem?_drop, List.getD_eq_getElem?_getD]; rfl
    have hm : List.getD T g [] = T[g] := getD_of hlt'
    have hl := h3' _ (hm ▸ List.getElem_mem hlt')
    rw [hw]
    refine ⟨⟨by omega, hlt⟩, ⟨by omega, by omega, by omega⟩, by omega, fun _ => atV_fits _, ?_, g + 1, ?_, by omega, d1, d2, ?_, ?_, ?_, e⟩
    · unfold room; rw [List.length_map, List.length_take]; omega
    · exact hlt'
    · rw [take_snoc hlt', List.map_append]; rfl
    · rw [List.drop_drop]
    · have e1 : wrTo T (g + 1) = (wrTo T g || wrW (List.getD T g [])) := rfl
      rw [e1]
      unfold wrW
      generalize Lib.itoa (atV (List.getD T g [])) = z
      have e9 : decide ((9 : Int) < (List.length (tpf (List.getD T g []) [45]) : Int)) = decide (9 < (tpf (List.getD T g []) [45]).length) := by
        congr 1; exact propext ⟨fun h => by omega, fun h => by omega⟩
      rw [e9]
      rw [bne_dec]
      cases wrTo T g <;> cases atE (List.getD T g []) <;> simp only [cond_true, cond_false, Bool.true_or, Bool.false_or] <;> cases decide (9 < (tpf (List.getD T g []) [45]).length) <;> simp
  · have hg : g ≤ T.length := hg
    have hge := of_decide_eq_false hge
    rw [List.length_drop] at hge
    obtain rfl : g = T.length := by omega
    exact rest
theorem found {s r : Str} {k : Nat} (hs : s.length ≤ 4096) (hr : r = restTo s k) (h : (0 : Int) ≤ ixB r 10) :
    fits .i64 (ixB r 10 + 1) ∧ ixB r 10 + 1 ≤ (r.length : Int) ∧ List.length (List.take (ixB r 10 + 1).toNat r) ≤ 1000000000 ∧ List.length (tsf (List.take (ixB r 10 + 1).toNat r) [10]) ≤ 1000000000 ∧
    1 ≤ (spl (tsf (List.take (ixB r 10 + 1).toNat r) [10]) [32]).length ∧ (spl (tsf (List.take (ixB r 10 + 1).toNat r) [10]) [32]).length ≤ 1000001 ∧ (∀ w ∈ spl (tsf (List.take (ixB r 10 + 1).toNat r) [10]) [32], w.length ≤ 1000000) ∧
    List.take (List.length r - (ixB r 10 + 1).toNat) (List.drop (ixB r 10 + 1).toNat r) = restTo s (k + 1) ∧ spl (tsf (List.take (ixB r 10 + 1).toNat r) [10]) [32] = wdsAt s k ∧ lineOf (restTo s k) = List.take (ixB r 10 + 1).toNat r := by
  have hl := restTo_len s k
  rw [← hr] at hl
  obtain ⟨hb1, hb2⟩ : -1 ≤ ixB r 10 ∧ ixB r 10 < r.length := by
    rcases ixB_bd r with h2 | h2 <;> omega
  have e1 : lineOf r = List.take (ixB r 10 + 1).toNat r := by unfold lineOf; rw [if_pos h]
  have t1 := lineOf_len r
  rw [e1] at t1
  have t2 := tsf_len (List.take (ixB r 10 + 1).toNat r) [10]
  have t3 := spl_len (tsf (List.take (ixB r 10 + 1).toNat r) [10])
  refine ⟨by simp only [fits]; omega, by omega, by omega, by omega, t3.1, by omega, fun w hw => ?_, ?_, ?_, ?_⟩
  · have := spl_mem_len _ w hw; omega
  · have e2 : restTo s (k + 1) = restOf r := by rw [restTo, hr]
    rw [e2]
    unfold restOf
    rw [if_pos h, List.take_of_length_le]
    rw [List.length_drop]; omega
  · unfold wdsAt; rw [← hr, e1]
  · rw [← hr, e1]
theorem lost {s r : Str} {k : Nat} (hs : s.length ≤ 4096) (hr : r = restTo s k) (h : ¬ (0 : Int) ≤ ixB r 10) :
    List.length r ≤ 1000000000 ∧ List.length (tsf r [10]) ≤ 1000000000 ∧
    1 ≤ (spl (tsf r [10]) [32]).length ∧ (spl (tsf r [10]) [32]).length ≤ 1000001 ∧ (∀ w ∈ spl (tsf r [10]) [32], w.length ≤ 1000000) ∧ hsf r [10] = false ∧ goodAt s k ≠ true := by
  have hl := restTo_len s k
  rw [← hr] at hl
  have t2 := tsf_len r [10]
  have t3 := spl_len (tsf r [10])
  have hf : hsf r [10] = false ∧ lineOf r = r := by
    rcases line_cases r with ⟨_, _, h2, _, _, h3⟩ | ⟨i, h2, _⟩
    · exact ⟨h3, h2⟩
    · omega
  refine ⟨by omega, by omega, t3.1, by omega, fun w hw => ?_, hf.1, fun e => ?_⟩
  · have := spl_mem_len _ w hw; omega
  · have e1 : goodAt s k = (hsf (lineOf (restTo s k)) [10] && decide (k < 3) && decide (List.getD (wdsAt s k) 0 [] = headW k) && !wrTo (tlAt s k) (tlAt s k).length) := rfl
    rw [e1, ← hr, hf.2, hf.1] at e
    simp at e
theorem cond_bad {h x : Bool} (hh : h = false) {a b : Bool} : (bif bif bif !h then true else x then true else a then true else b) = false → False := by subst hh; simp
theorem cond_none {h x : Bool} (hx : x = true) {a b : Bool} : (bif bif bif !h then true else x then true else a then true else b) = false → False := by subst hx; cases h <;> simp
theorem cond_good {s r : Str} {k : Nat} (hk : k < 3) {m : Option (Str × Option Nat)} (hm : m.isSome = true) (hw : (Option.getD m ([], none)).1 = headW k) {W : List Str} (h6 : W = wdsAt s k) (hl : lineOf (restTo s k) = r) :
    (bif bif bif !hsf r [10] then true else !Option.isSome m then true else List.getD W 0 [] != (Option.getD m ([], none)).1 then true else wrTo (List.drop 1 W) (List.drop 1 W).length) = !goodAt s k := by
  have e1 : goodAt s k = (hsf (lineOf (restTo s k)) [10] && decide (k < 3) && decide (List.getD (wdsAt s k) 0 [] = headW k) && !wrTo (tlAt s k) (tlAt s k).length) := rfl
  rw [e1, hm, hw, hl, decide_eq_true hk, h6]
  unfold tlAt
  rw [bne_dec]
  cases hsf r [10] <;> cases decide (List.getD (wdsAt s k) 0 [] = headW k) <;> simp
theorem nums_tail {s : Str} {k : Nat} {W : List Str} (h : W = wdsAt s k) : List.map atV (List.take (List.drop 1 W).length (List.drop 1 W)) = numsAt s k := by
  rw [List.take_length, h]; rfl
theorem fn89 (s : Str) (hs : s.length ≤ 1000000) : Fn P1 gl1 89 [sV s] (.tup [pV (prsN s).1, iV (prsN s).2.1, iV (prsN s).2.2]) false := by
  refine fn_of false [(189, sp189), (154, sp154), (193, sp193), (155, sp155.frz), (192, sp192), (151, sp151), (149, sp149), (104, sp104), (95, sp95), (158, sp158h), (157, sp157), (159, sp159), (26, sp26)] [fb153, fb188, fb156] (h89 s) 6 Proofs.Tryz.f89 ⟨so189, so154, so193, Sp1.frz so155, so192, so151, so149, so104, so95, so158h, so157, so159, so26, trivial⟩ ⟨⟨by kernel_rfl, by kernel_rfl, _, rfl, by kernel_rfl⟩, ⟨by kernel_rfl, by kernel_rfl, _, rfl, by kernel_rfl⟩, ⟨by kernel_rfl, by kernel_rfl, _, rfl, by kernel_rfl⟩, trivial⟩ (by kernel_rfl) rfl (by kernel_rfl) rfl rfl rfl ?_
  rw [vc89]
  try simp only [splitB_iff, -eq_self]
  refine ⟨fun h => ?_, fun h => ?_⟩
  · have h := of_decide_eq_true h
    have h : 4096 < s.length := by omega
    rw [prs_long h]; exact ⟨rfl, rfl, rfl, rfl, rfl, trivial⟩
  · have h := of_decide_eq_false h
    have hs : s.length ≤ 4096 := by omega
    refine ⟨fun h0 => ?_, fun h0 => ?_⟩
    · have h0 : s ≠ [] := fun e => by rw [e] at h0; simp at h0
      refine ⟨⟨(s, numsAt s), ⟨preA_zero s, rfl, h0, fun _ _ => rfl⟩, rfl, rfl, rfl, rfl, rfl, trivial⟩, fun g0 hg0 => ?_⟩
      have hA0 : preA s 0 := hg0.1
      have hr0 : g0.1 = restTo s 0 := hg0.2.1
      have hn0 : restTo s 0 ≠ [] := hr0 ▸ hg0.2.2.1
      refine ⟨fun hf => ?_, fun hf => ?_⟩
      · have hf := of_decide_eq_true hf
        obtain ⟨f1, f2, f3, f4, f5, f6, f7, f8, f9, f10⟩ := found hs hr0 hf
        refine ⟨f1, ⟨by omega, by omega, f2⟩, f1, ⟨by omega, f2, Int.le_refl _⟩, f3, by decide, f4, ⟨by omega, by omega, Int.le_refl _⟩, ?_⟩
        refine inner f5 f6 f7 rfl rfl ⟨rfl, rfl, rfl, rfl, rfl, trivial⟩ ⟨fun _ => ⟨by omega, by omega⟩, fun hc => ?_, fun hc => ?_⟩
        · rw [cond_good (s := s) (k := 0) (m := mapGet (.int .i64) (.pair .str .fnp) fldM (0 : Int)) (by decide) rfl rfl f9 f10] at hc
          rw [prs_bad hs hA0 hn0 (fun e => by rw [e] at hc; cases hc)]
          exact ⟨rfl, rfl, rfl, rfl, rfl, trivial⟩
        · rw [cond_good (s := s) (k := 0) (m := mapGet (.int .i64) (.pair .str .fnp) fldM (0 : Int)) (by decide) rfl rfl f9 f10] at hc
          have hgd : goodAt s 0 = true := by simpa using hc
          have hA1 := preA_succ hA0 hn0 hgd
          have hq := nums_tail f9
          have hL := nums_len s
          rw [f8, hq]
          refine ⟨by unfold room; decide, fun hm => ?_, fun hm => ?_⟩
          · have hm : restTo s 1 ≠ [] := fun e => by rw [e] at hm; simp at hm
            refine ⟨⟨(restTo s 1, numsAt s), ⟨hA1, rfl, hm, fun _ _ => rfl⟩, rfl, rfl, rfl, rfl, rfl, trivial⟩, fun g1 hg1 => ?_⟩
            have hA1 : preA s 1 := hg1.1
            have hr1 : g1.1 = restTo s 1 := hg1.2.1
            have hn1 : restTo s 1 ≠ [] := hr1 ▸ hg1.2.2.1
            have hl10 : g1.2 0 = numsAt s 0 := hg1.2.2.2 0 (show 0 < 1 by decide)
            refine ⟨fun hf => ?_, fun hf => ?_⟩
            · have hf := of_decide_eq_true hf
              obtain ⟨f1, f2, f3, f4, f5, f6, f7, f8, f9, f10⟩ := found hs hr1 hf
              refine ⟨f1, ⟨by omega, by omega, f2⟩, f1, ⟨by omega, f2, Int.le_refl _⟩, f3, by decide, f4, ⟨by omega, by omega, Int.le_refl _⟩, ?_⟩
              refine inner f5 f6 f7 rfl rfl ⟨rfl, rfl, rfl, rfl, rfl, trivial⟩ ⟨fun _ => ⟨by omega, by omega⟩, fun hc => ?_, fun hc => ?_⟩
              · rw [cond_good (s := s) (k := 1) (m := mapGet (.int .i64) (.pair .str .fnp) fldM (1 : Int)) (by decide) rfl rfl f9 f10] at hc
                rw [prs_bad hs hA1 hn1 (fun e => by rw [e] at hc; cases hc)]
                exact ⟨rfl, rfl, rfl, rfl, rfl, trivial⟩
              · rw [cond_good (s := s) (k := 1) (m := mapGet (.int .i64) (.pair .str .fnp) fldM (1 : Int)) (by decide) rfl rfl f9 f10] at hc
                have hgd : goodAt s 1 = true := by simpa using hc
                have hA2 := preA_succ hA1 hn1 hgd
                have hq := nums_tail f9
                have hL := nums_len s
                rw [f8, hq]
                refine ⟨by unfold room; decide, fun hm => ?_, fun hm => ?_⟩
                · have hm : restTo s 2 ≠ [] := fun e => by rw [e] at hm; simp at hm
                  refine ⟨⟨(restTo s 2, numsAt s), ⟨hA2, rfl, hm, fun _ _ => rfl⟩, rfl, by rw [hl10]; rfl, rfl, rfl, rfl, trivial⟩, fun g2 hg2 => ?_⟩
                  have hA2 : preA s 2 := hg2.1
                  have hr2 : g2.1 = restTo s 2 := hg2.2.1
                  have hn2 : restTo s 2 ≠ [] := hr2 ▸ hg2.2.2.1
                  have hl20 : g2.2 0 = numsAt s 0 := hg2.2.2.2 0 (show 0 < 2 by decide)
                  have hl21 : g2.2 1 = numsAt s 1 := hg2.2.2.2 1 (show 1 < 2 by decide)
                  refine ⟨fun hf => ?_, fun hf => ?_⟩
                  · have hf := of_decide_eq_true hf
                    obtain ⟨f1, f2, f3, f4, f5, f6, f7, f8, f9, f10⟩ := found hs hr2 hf
                    refine ⟨f1, ⟨by omega, by omega, f2⟩, f1, ⟨by omega, f2, Int.le_refl _⟩, f3, by decide, f4, ⟨by omega, by omega, Int.le_refl _⟩, ?_⟩
                    refine inner f5 f6 f7 rfl rfl ⟨rfl, rfl, rfl, rfl, rfl, trivial⟩ ⟨fun _ => ⟨by omega, by omega⟩, fun hc => ?_, fun hc => ?_⟩
                    · rw [cond_good (s := s) (k := 2) (m := mapGet (.int .i64) (.pair .str .fnp) fldM (2 : Int)) (by decide) rfl rfl f9 f10] at hc
                      rw [prs_bad hs hA2 hn2 (fun e => by rw [e] at hc; cases hc)]
                      exact ⟨rfl, rfl, rfl, rfl, rfl, trivial⟩
                    · rw [cond_good (s := s) (k := 2) (m := mapGet (.int .i64) (.pair .str .fnp) fldM (2 : Int)) (by decide) rfl rfl f9 f10] at hc
                      have hgd : goodAt s 2 = true := by simpa using hc
                      have hA3 := preA_succ hA2 hn2 hgd
                      have hq := nums_tail f9
                      have hL := nums_len s
                      rw [f8, hq]
                      refine ⟨by unfold room; decide, fun hm => ?_, fun hm => ?_⟩
                      · have hm : restTo s 3 ≠ [] := fun e => by rw [e] at hm; simp at hm
                        refine ⟨⟨(restTo s 3, numsAt s), ⟨hA3, rfl, hm, fun _ _ => rfl⟩, rfl, by rw [hl20, hl21]; rfl, rfl, rfl, rfl, trivial⟩, fun g3 hg3 => ?_⟩
                        have hA3 : preA s 3 := hg3.1
                        have hr3 : g3.1 = restTo s 3 := hg3.2.1
                        have hn3 : restTo s 3 ≠ [] := hr3 ▸ hg3.2.2.1
                        have hl30 : g3.2 0 = numsAt s 0 := hg3.2.2.2 0 (show 0 < 3 by decide)
                        have hl31 : g3.2 1 = numsAt s 1 := hg3.2.2.2 1 (show 1 < 3 by decide)
                        have hl32 : g3.2 2 = numsAt s 2 := hg3.2.2.2 2 (show 2 < 3 by decide)
                        refine ⟨fun hf => ?_, fun hf => ?_⟩
                        · have hf := of_decide_eq_true hf
                          obtain ⟨f1, f2, f3, f4, f5, f6, f7, f8, f9, f10⟩ := found hs hr3 hf
                          refine ⟨f1, ⟨by omega, by omega, f2⟩, f1, ⟨by omega, f2, Int.le_refl _⟩, f3, by decide, f4, ⟨by omega, by omega, Int.le_refl _⟩, ?_⟩
                          refine inner f5 f6 f7 rfl rfl ⟨rfl, rfl, rfl, rfl, rfl, trivial⟩ ⟨fun _ => ⟨by omega, by omega⟩, fun hc => ?_, fun hc => (cond_none rfl hc).elim⟩
                          rw [prs_bad hs hA3 hn3 (good_three s)]
                          exact ⟨rfl, rfl, rfl, rfl, rfl, trivial⟩
                        · have hf := of_decide_eq_false hf
                          obtain ⟨f1, f2, f3, f4, f5, f6, f7⟩ := lost hs hr3 hf
                          refine ⟨⟨0, trivial, rfl, rfl, rfl, rfl, rfl, rfl, trivial⟩, fun _ _ => ⟨f1, by decide, f2, ⟨by omega, by omega, Int.le_refl _⟩, ?_⟩⟩
                          refine inner f3 f4 f5 rfl rfl ⟨rfl, rfl, rfl, rfl, rfl, trivial⟩ ⟨fun _ => ⟨by omega, by omega⟩, fun hc => ?_, fun hc => (cond_bad f6 hc).elim⟩
                          rw [prs_bad hs hA3 hn3 f7]
                          exact ⟨rfl, rfl, rfl, rfl, rfl, trivial⟩
                      · have hm : restTo s 3 = [] := by
                          have : ¬ (0 : Int) < ((restTo s 3).length : Int) := of_decide_eq_false hm
                          exact List.length_eq_zero_iff.1 (by omega)
                        refine ⟨⟨numsAt s, by rw [hl20, hl21]; rfl, by rw [hl20, hl21]; rfl, rfl, rfl, rfl, trivial⟩, fun l hl => ?_⟩
                        have hl := hl.trans (by rw [hl20, hl21]; rfl : _ = [numsAt s 0, numsAt s 1, numsAt s 2])
                        simp only [List.cons.injEq, and_true] at hl
                        obtain ⟨e0, e1, e2⟩ := hl
                        rw [e0, e1, e2]
                        have hfl : List.length (flt [numsAt s 0, numsAt s 1, numsAt s 2]) ≤ 1000000 := by
                          rw [flt_eq]
                          have q0 := hL 0
                          have q1 := hL 1
                          have q2 := hL 2
                          simp only [List.flatten_cons, List.flatten_nil, List.length_append, List.length_nil]; omega
                        rw [prs_end hs hA3 hm]
                        have he : first [whenE (decide ((3 : Int) < (List.length fldM : Int))) 2, whenE (anyL (flt [numsAt s 0, numsAt s 1, numsAt s 2])) 3] = endE s 3 := rfl
                        rw [he]
                        refine ⟨by decide, hfl, hfl, by decide, fun hx => ?_, fun hx => ?_⟩
                        · have hx : endE s 3 ≠ 0 := by simpa using hx
                          unfold finP
                          rw [if_pos hx]
                          exact ⟨rfl, rfl, rfl, rfl, rfl, trivial⟩
                        · have hx : endE s 3 = 0 := by simpa using hx
                          obtain ⟨b0, b1, b2⟩ := end_bd hx
                          have c0 := bd_le b0 (show (16384 : Int) ≤ 8388608 by decide)
                          have c1 := bd_le b1 (show (16384 : Int) ≤ 8388608 by decide)
                          have c2 := bd_le b2 (show (16384 : Int) ≤ 8388608 by decide)
                          have q0 := hL 0
                          have q1 := hL 1
                          have q2 := hL 2
                          have hmap : (List.map smp (numsAt s 0)).length ≤ 1000000000 := by rw [List.length_map]; omega
                          refine ⟨⟨by omega, by omega⟩, by omega, by omega, c0, by simp only [fits]; omega, ⟨by omega, by omega⟩, by omega, by omega, c1, by simp only [fits]; omega, ⟨by omega, by omega⟩, by omega, by omega, c2, by simp only [fits]; omega, hmap, fun hy => ?_, fun hy => ?_⟩
                          · have hy : chkPt (sixL s 0) (sixL s 1) (sixL s 2) ≠ 0 := bneZ.1 hy
                            unfold finP
                            rw [if_neg (fun e => e hx), if_pos hy]
                            exact ⟨rfl, rfl, rfl, rfl, rfl, trivial⟩
                          · have hy : chkPt (sixL s 0) (sixL s 1) (sixL s 2) = 0 := bneF.1 hy
                            unfold finP
                            rw [if_neg (fun e => e hx), if_neg (fun e => e hy)]
                            exact ⟨rfl, rfl, rfl, rfl, rfl, trivial⟩
                  · have hf := of_decide_eq_false hf
                    obtain ⟨f1, f2, f3, f4, f5, f6, f7⟩ := lost hs hr2 hf
                    refine ⟨⟨0, trivial, rfl, rfl, rfl, rfl, rfl, rfl, trivial⟩, fun _ _ => ⟨f1, by decide, f2, ⟨by omega, by omega, Int.le_refl _⟩, ?_⟩⟩
                    refine inner f3 f4 f5 rfl rfl ⟨rfl, rfl, rfl, rfl, rfl, trivial⟩ ⟨fun _ => ⟨by omega, by omega⟩, fun hc => ?_, fun hc => (cond_bad f6 hc).elim⟩
                    rw [prs_bad hs hA2 hn2 f7]
                    exact ⟨rfl, rfl, rfl, rfl, rfl, trivial⟩
                · have hm : restTo s 2 = [] := by
                    have : ¬ (0 : Int) < ((restTo s 2).length : Int) := of_decide_eq_false hm
                    exact List.length_eq_zero_iff.1 (by omega)
                  refine ⟨⟨numsAt s, by rw [hl10]; rfl, by rw [hl10]; rfl, rfl, rfl, rfl, trivial⟩, fun l hl => ?_⟩
                  have hl := hl.trans (by rw [hl10]; rfl : _ = [numsAt s 0, numsAt s 1])
                  simp only [List.cons.injEq, and_true] at hl
                  obtain ⟨e0, e1⟩ := hl
                  rw [e0, e1]
                  have hfl : List.length (flt [numsAt s 0, numsAt s 1]) ≤ 1000000 := by
                    rw [flt_eq]
                    have q0 := hL 0
                    have q1 := hL 1
                    simp only [List.flatten_cons, List.flatten_nil, List.length_append, List.length_nil]; omega
                  refine ⟨by decide, hfl, hfl, by decide, ⟨0, trivial, first_two _ _, rfl, rfl, rfl, trivial⟩, fun _ _ => ?_⟩
                  rw [prs_end hs hA2 hm, fin_few (by decide)]
                  exact ⟨rfl, rfl, rfl, rfl, rfl, trivial⟩
            · have hf := of_decide_eq_false hf
              obtain ⟨f1, f2, f3, f4, f5, f6, f7⟩ := lost hs hr1 hf
              refine ⟨⟨0, trivial, rfl, rfl, rfl, rfl, rfl, rfl, trivial⟩, fun _ _ => ⟨f1, by decide, f2, ⟨by omega, by omega, Int.le_refl _⟩, ?_⟩⟩
              refine inner f3 f4 f5 rfl rfl ⟨rfl, rfl, rfl, rfl, rfl, trivial⟩ ⟨fun _ => ⟨by omega, by omega⟩, fun hc => ?_, fun hc => (cond_bad f6 hc).elim⟩
              rw [prs_bad hs hA1 hn1 f7]
              exact ⟨rfl, rfl, rfl, rfl, rfl, trivial⟩
          · have hm : restTo s 1 = [] := by
              have : ¬ (0 : Int) < ((restTo s 1).length : Int) := of_decide_eq_false hm
              exact List.length_eq_zero_iff.1 (by omega)
            refine ⟨⟨numsAt s, rfl, rfl, rfl, rfl, rfl, trivial⟩, fun l hl => ?_⟩
            have hl := hl.trans (rfl : _ = [numsAt s 0])
            simp only [List.cons.injEq, and_true] at hl
            have e0 := hl
            rw [e0]
            have hfl : List.length (flt [numsAt s 0]) ≤ 1000000 := by
              rw [flt_eq]
              have q0 := hL 0
              simp only [List.flatten_cons, List.flatten_nil, List.length_append, List.length_nil]; omega
            refine ⟨by decide, hfl, hfl, by decide, ⟨0, trivial, first_two _ _, rfl, rfl, rfl, trivial⟩, fun _ _ => ?_⟩
            rw [prs_end hs hA1 hm, fin_few (by decide)]
            exact ⟨rfl, rfl, rfl, rfl, rfl, trivial⟩
      · have hf := of_decide_eq_false hf
        obtain ⟨f1, f2, f3, f4, f5, f6, f7⟩ := lost hs hr0 hf
        refine ⟨⟨0, trivial, rfl, rfl, rfl, rfl, rfl, rfl, trivial⟩, fun _ _ => ⟨f1, by decide, f2, ⟨by omega, by omega, Int.le_refl _⟩, ?_⟩⟩
        refine inner f3 f4 f5 rfl rfl ⟨rfl, rfl, rfl, rfl, rfl, trivial⟩ ⟨fun _ => ⟨by omega, by omega⟩, fun hc => ?_, fun hc => (cond_bad f6 hc).elim⟩
        rw [prs_bad hs hA0 hn0 f7]
        exact ⟨rfl, rfl, rfl, rfl, rfl, trivial⟩
    · have hm : restTo s 0 = [] := by
        have := of_decide_eq_false h0
        exact List.length_eq_zero_iff.1 (show s.length = 0 by omega)
      refine ⟨⟨numsAt s, rfl, rfl, rfl, rfl, rfl, trivial⟩, fun l hl => ?_⟩
      have hfl : List.length (flt []) ≤ 1000000 := by rw [flt_eq]; decide
      refine ⟨by decide, hfl, hfl, by decide, ⟨0, trivial, first_two _ _, rfl, rfl, rfl, trivial⟩, fun _ _ => ?_⟩
      rw [prs_end hs (preA_zero s) hm, fin_few (by decide)]
      exact ⟨rfl, rfl, rfl, rfl, rfl, trivial⟩
end Go.Sx

namespace Go.Sx.U
noncomputable def spB (c : Int) (s : Str) : List Str := hd (sB c.toNat.toUInt8 s)
noncomputable def dgH (s : Str) : Int := hd (dgV s : Int)
noncomputable def sgX (s : Str) : Int := hd (sgV s)
noncomputable def sgB1 (s : Str) : Bool := hd (sgOk s)
noncomputable def rdX (line word : Str) : Bool := hd (rdOk line word)
noncomputable def rdL (line word : Str) : List Int := hd (if rdOk line word then rdV line else [])
noncomputable def jnH (w : Str) (l : List Int) : Str := hd (Lib.join (w :: l.map Lib.itoa) [32])
noncomputable def prsH (s : Str) : Pt × Int × Int := hd (prsN s)
end Go.Sx.U
namespace Go.Sx
open U
def strOf (s : St) (t : Nat) : Option Str := match lookT s.tm t with
  | some (.val (.one (.str r))) => some r
  | _ => none
def byteOf (s : St) (t : Nat) : Option Int := match lookT s.tm t with
  | some (.val (.one (.int .u8 n))) => some n
  | _ => none
noncomputable def h91 : Hints := ⟨fun f k s => match f, k with
  | 92, 3 => match strOf s 0, byteOf s 1 with
    | some t, some c => some ⟨Nat, fun i => ⟨[tI 6 i, (5, .val (.one (.own s.nx)))] ++ keepT [0, 1] s.tm, (s.nx, some (.row .str (spB c (List.take i t)))) :: lessO s [5], s.nx + 1, s.lr⟩, fun i => i ≤ List.length t, fun i => List.length t - i⟩
    | _, _ => none
  | 213, 5 => match strOf s 0 with
    | some t => some ⟨Nat, fun i => s.at [0] [tI 5 i, tI 4 (dgH (List.take i t))], fun i => i ≤ List.length t ∧ dgS (List.take i t) = true, fun i => List.length t - i⟩
    | none => none
  | 160, 3 => match strOf s 0, listAs s 5 (.int .i64) with
    | some w, some xs => some ⟨Nat, fun i => ⟨[tI 6 i, (0, .val (.one (.str (jnH w (List.take i xs)))))] ++ keepT [5] s.tm, liveO [] s.ob, s.nx, s.lr⟩, fun i => i ≤ List.length xs, fun i => List.length xs - i⟩
    | _, _ => none
  | 161, 6 => match listAs s 6 .str with
    | some ws => some ⟨Nat, fun i => ⟨[tI 8 ((i : Int) + 1), (7, .val (.one (.own s.nx)))] ++ keepT [6] s.tm, (s.nx, some (.row (.int .i64) ((List.take i (List.drop 1 ws)).map sgX))) :: lessO s [7], s.nx + 1, s.lr⟩, fun i => i + 1 ≤ List.length ws ∧ ∀ j, j < i → sgB1 (List.getD (List.drop 1 ws) j []) = true, fun i => List.length ws - i⟩
    | _ => none
  | 91, 7 => match listAs s 6 .str, intOfT s 7 with
    | some ls, some m => some ⟨Nat, fun i => ⟨[tI 8 i, (5, .val (.one (.own s.nx)))] ++ keepT [2, 3, 4, 6, 7] s.tm, (s.nx, some (.row (.sl (.int .i64)) (tab i fun j => rdL (List.getD ls j []) (hdW j)))) :: lessO s [5], s.nx + 1, s.lr⟩, fun i => (i : Int) ≤ m ∧ ∀ j, j < i → j < 3 ∧ rdX (List.getD ls j []) (hdW j) = true, fun i => m.toNat - i⟩
    | _, _ => none
  | _, _ => none, 0⟩
end Go.Sx
namespace Go.Sx
open U
noncomputable def sp92 : FSpec := ⟨fun vs => match vs with
  | [.one (.str s), .one (.int .u8 c)] => some ([List.length s ≤ 1000000, 0 ≤ c ∧ c ≤ 255], .val (.one (.frs .str (spB c s))))
  | _ => none, true⟩
end Go.Sx

namespace Go.Sx
open U
theorem vc92 (s : Str) (c : Int) : exF (env false [] []) h91 0 92 Proofs.Tryz.f92 [sV s, .one (.int .u8 c)] (.val (.one (.frs .str (spB c s)))) = (let q4 := (List.length s); (∃ (g : Nat), Nat.le g q4 ∧ (0 : Int) = (↑g : Int) ∧ s = s ∧ c = c ∧ [Array.toList (ByteArray.data { data := #[] })] = spB c (List.take g s) ∧ True) ∧ ∀ (g : Nat), let q1 := (spB c (List.take g s)); let q0 := (↑(List.length q1) : Int); let q2 := ((↑g : Int) + (1 : Int)); let q3 := (q0 - (1 : Int)); let q5 := ((0 : Int) ≤ q0 - (1 : Int) ∧ q0 - (1 : Int) < q0); Nat.le g q4 → splitB (decide ((↑g : Int) < (↑q4 : Int))) (((0 : Int) ≤ (↑g : Int) ∧ (↑g : Int) < (↑q4 : Int)) ∧ splitB ((↑(UInt8.toNat (List.getD s g (0 : UInt8))) : Int) == c) (room (List.length q1 + (1 : Nat)) (16 : Nat) ∧ fits IntKind.i64 q2 ∧ ∃ (g' : Nat), Nat.le g' q4 ∧ List.length s - g' < List.length s - g ∧ (↑g : Int) + (1 : Int) = (↑g' : Int) ∧ s = s ∧ c = c ∧ spB c (List.take g s) ++ [Array.toList (ByteArray.data { data := #[] })] = spB c (List.take g' s) ∧ True) (fits IntKind.i64 q3 ∧ fits IntKind.i64 q3 ∧ q5 ∧ Int.toNat q3 < List.length q1 ∧ fits IntKind.i64 q2 ∧ ((0 : Int) ≤ (↑g : Int) ∧ (↑g : Int) ≤ (↑g : Int) + (1 : Int) ∧ (↑g : Int) + (1 : Int) ≤ (↑q4 : Int)) ∧ List.length (List.getD q1 (Int.toNat q3) []) + List.length (List.take (Int.toNat q2 - g) (List.drop g s)) ≤ (9223372036854775807 : Nat) ∧ q5 ∧ Int.toNat q3 < List.length q1 ∧ fits IntKind.i64 q2 ∧ ∃ (g' : Nat), Nat.le g' q4 ∧ List.length s - g' < List.length s - g ∧ (↑g : Int) + (1 : Int) = (↑g' : Int) ∧ s = s ∧ c = c ∧ List.set q1 (Int.toNat q3) (List.getD q1 (Int.toNat q3) [] ++ List.take (Int.toNat q2 - g) (List.drop g s)) = spB c (List.take g' s) ∧ True)) (spB c (List.take g s) = spB c s ∧ True)) := by
  kernel_rfl
end Go.Sx

namespace Go.Sx
open U
theorem set_last {α : Type} (L : List α) (h : L ≠ []) (a : α) : L.set (L.length - 1) a = L.dropLast ++ [a] := by
  obtain ⟨p, x, rfl⟩ : ∃ p x, L = p ++ [x] := ⟨L.dropLast, L.getLast h, (List.dropLast_concat_getLast h).symm⟩
  simp
theorem getD_last {α : Type} (L : List α) (h : L ≠ []) (d : α) : List.getD L (L.length - 1) d = L.getLastD d := by
  obtain ⟨p, x, rfl⟩ : ∃ p x, L = p ++ [x] := ⟨L.dropLast, L.getLast h, (List.dropLast_concat_getLast h).symm⟩
  simp
theorem getD_inS {L : List Str} {n : Nat} (h : n < L.length) : List.getD L n [] ∈ L := by rw [getD_of h]; exact List.getElem_mem h
theorem byte_eq {x : UInt8} {c : Int} (hc : 0 ≤ c ∧ c ≤ 255) : ((x.toNat : Int) == c) = decide (x = c.toNat.toUInt8) := by
  have e : (c.toNat.toUInt8).toNat = c.toNat := by
    rw [Nat.toUInt8_eq, UInt8.toNat_ofNat']; omega
  have k : ((x.toNat : Int) = c) ↔ (x = c.toNat.toUInt8) := by
    constructor
    · intro h; apply UInt8.toNat_inj.1; rw [e]; omega
    · intro h; rw [h, e]; omega
  by_cases h : x = c.toNat.toUInt8
  · rw [decide_eq_true h]; simp [k.2 h]
  · rw [decide_eq_false h]; simp; exact fun h2 => h (k.1 h2)
theorem str_snoc {s : Str} {g : Nat} (h : g < s.length) : List.take (g + 1) s = List.take g s ++ [List.getD s g 0] := by
  rw [List.take_add_one]
  have : s[g]? = some (List.getD s g 0) := by rw [List.getD_eq_getElem?_getD, List.getElem?_eq_getElem h]; rfl
  rw [this]; rfl
theorem str_one {s : Str} {g : Nat} (h : g < s.length) : List.take 1 (List.drop g s) = [List.getD s g 0] := by
  rw [List.drop_eq_getElem_cons h, getD_of h]; rfl
theorem fn92 (s : Str) (c : Int) (hs : s.length ≤ 1000000) (hc : 0 ≤ c ∧ c ≤ 255) : Fn P1 gl1 92 [sV s, .one (.int .u8 c)] (.val (.one (.frs .str (spB c s)))) true := by
  refine Fn.flat ?_ rfl
  refine fn_of false [] [] h91 0 Proofs.Tryz.f92 trivial trivial (by kernel_rfl) rfl (by kernel_rfl) rfl rfl rfl ?_
  rw [vc92]
  try simp only [splitB_iff, -eq_self]
  simp only [spB, hd_eq, byte_eq hc, -eq_self]
  refine ⟨⟨0, Nat.zero_le _, rfl, rfl, rfl, rfl, trivial⟩, fun g hg => ⟨fun hlt => ?_, fun hge => ?_⟩⟩
  · have hlt := of_decide_eq_true hlt
    have hlt : g < s.length := by omega
    have hL := sB_len c.toNat.toUInt8 (List.take g s)
    have hm := sB_mem_len c.toNat.toUInt8 (List.take g s)
    have hn := sB_ne c.toNat.toUInt8 (List.take g s)
    have hsn := sB_snoc c.toNat.toUInt8 (List.getD s g 0) (List.take g s)
    rw [← str_snoc hlt] at hsn
    rw [List.length_take] at hL
    rw [List.length_take] at hm
    generalize sB c.toNat.toUInt8 (List.take g s) = L at *
    have e1 : ((L.length : Int) - 1).toNat = L.length - 1 := by omega
    have e2 : ((g : Int) + 1).toNat - g = 1 := by omega
    rw [e1, e2, str_one hlt]
    refine ⟨⟨by omega, by omega⟩, fun hx => ?_, fun hx => ?_⟩
    · have hx := of_decide_eq_true hx
      rw [if_pos hx] at hsn
      exact ⟨by unfold room; omega, by simp only [fits]; omega, g + 1, Nat.succ_le_of_lt hlt, by omega, by simp, rfl, rfl, hsn.symm, trivial⟩
    · have hx := of_decide_eq_false hx
      rw [if_neg hx] at hsn
      have hb := hm _ (getD_inS (L := L) (n := L.length - 1) (by omega))
      refine ⟨by simp only [fits]; omega, by simp only [fits]; omega, ⟨by omega, by omega⟩, by omega, by simp only [fits]; omega, ⟨by omega, by omega, by omega⟩, ?_, ⟨by omega, by omega⟩, by omega, by simp only [fits]; omega, g + 1, Nat.succ_le_of_lt hlt, by omega, by simp, rfl, rfl, ?_, trivial⟩
      · simp only [List.length_cons, List.length_nil]; omega
      · rw [hsn, set_last L hn, getD_last L hn]
  · have hge := of_decide_eq_false hge
    have hg : g ≤ s.length := hg
    rw [List.take_of_length_le (by omega)]
    exact ⟨rfl, trivial⟩
theorem so92_ : SpecOk P1 gl1 92 sp92 := by
  intro vs ps r h hp
  simp only [sp92] at h
  split at h
  · cases h; exact fn92 _ _ (hp _ (.head _)) (hp _ (.tail _ (.head _)))
  · cases h
theorem so92 : Sp1 92 sp92 := ⟨so92_, Proofs.Tryz.f92, _, by kernel_rfl, rfl, by kernel_rfl⟩
end Go.Sx

namespace Go.Sx
open U
end Go.Sx
namespace Go.Sx
open U
end Go.Sx

namespace Go.Sx
open U
end Go.Sx

namespace Go.Sx
open U
theorem lineW_len (w : Str) {l : List Nat} (hs : OkS l) : (lineW w l).length ≤ w.length + 9 * l.length + 1 := by
  have h := line_len w (bd_le (bd_sixs hs) (show (16384 : Int) ≤ 1000000 by decide))
  rw [sixs_len] at h
  have e : lineW w l = Lib.join ([w] ++ (sixs l).map Lib.itoa) [32] ++ [10] := rfl
  rw [e, List.length_append, List.length_singleton]; omega
theorem prtN_len {y u v : List Nat} (h : chkPt y u v = 0) : (prtN y u v).length ≤ 4096 ∧ y.length ≤ 256 ∧ u.length ≤ 64 ∧ v.length ≤ 64 ∧ OkS y ∧ OkS u ∧ OkS v := by
  obtain ⟨h1, h2, h3, h4, h5⟩ := chkPt_zero.1 h
  obtain ⟨k1, k2, k3⟩ := chkSig_zero.1 h1
  refine ⟨?_, k1, by omega, by omega, k3, h4, h5⟩
  have q1 := lineW_len [108, 117, 109, 97] k3
  have q2 := lineW_len [117] h4
  have q3 := lineW_len [118] h5
  unfold prtN
  simp only [List.length_append, List.length_cons, List.length_nil] at q1 q2 q3 ⊢
  omega
end Go.Sx

namespace Go.Sx.U
noncomputable def prH (y u v : List Nat) : Str := hd (prN y u v)
end Go.Sx.U
namespace Go.Sx
open U
noncomputable def sp88n : FSpec := ⟨fun vs => match vs with
  | [.agg [.one (.sl (.flt .f32) y), .one (.sl (.flt .f32) u), .one (.sl (.flt .f32) v)]] => some ([List.length y ≤ 1000000000], .tup [sV (prH y u v), iV (chkPt y u v)])
  | _ => none, true⟩
noncomputable def sp89n : FSpec := ⟨fun vs => match vs with
  | [.one (.str s)] => some ([List.length s ≤ 1000000], .tup [pV (prsH s).1, iV (prsH s).2.1, iV (prsH s).2.2])
  | _ => none, false⟩
end Go.Sx

namespace Go.Sx
open U
theorem vc17 (y u v : List Nat) (s : Str) : exF (env false [(18, sp18), (19, sp19), (21, sp21), (88, sp88n), (89, sp89n), (23, sp23), (46, sp46), (45, sp45), (92, sp92)] []) h0 0 17 Proofs.Tryz.f17 [ptV y u v, sV s] (.val (bV true)) = (let q7 := (1000000 : Nat); let q3 := (↑(List.length (prH y u v)) : Int); let q5 := (List.take (Int.toNat (q3 - (1 : Int))) (prH y u v)); let q0 := (fits IntKind.i64 (q3 - (1 : Int)) ∧ ((0 : Int) ≤ (0 : Int) ∧ (0 : Int) ≤ q3 - (1 : Int) ∧ q3 - (1 : Int) ≤ q3) ∧ List.length q5 ≤ q7 ∧ (bif bif (prsH q5).2.2 == (25 : Int) then (prsH q5).2.1 == (2 : Int) else false then true else false) = true ∧ True); let q1 := (prsH (prH y u v)); let q2 := (bif bif chkPt y u v != (0 : Int) then true else q1.2.2 != (0 : Int) then true else q1.2.1 != (0 : Int)); let q4 := (bif bif bif chkPt y u v != (0 : Int) then true else q1.2.2 != (0 : Int) then true else q1.2.1 != (0 : Int) then true else !sameP (q1.1.1, q1.1.2.1, q1.1.2.2) (y, u, v)); let q6 := (1000000000 : Nat); ((bif !shortP y u v then true else decide ((24 : Int) < (↑(List.length y) : Int))) = false → List.length y ≤ q6) ∧ splitB (bif bif bif !shortP y u v then true else decide ((24 : Int) < (↑(List.length y) : Int)) then true else chkPt y u v != (0 : Int) then true else decide ((300 : Int) < (↑(List.length s) : Int))) (true = true ∧ True) (List.length y ≤ q7 ∧ List.length u ≤ q7 ∧ List.length v ≤ q7 ∧ List.length y ≤ q6 ∧ List.length (prH y u v) ≤ q7 ∧ (q2 = false → List.length q1.1.1 ≤ q6) ∧ (q2 = false → List.length q1.1.2.1 ≤ q6) ∧ (q2 = false → List.length q1.1.2.2 ≤ q6) ∧ (q4 = false → List.length (prH y u v) ≤ q7) ∧ (q4 = false → (0 : Int) ≤ (10 : Int) ∧ (10 : Int) ≤ (255 : Int)) ∧ splitB (bif bif bif bif chkPt y u v != (0 : Int) then true else q1.2.2 != (0 : Int) then true else q1.2.1 != (0 : Int) then true else !sameP (q1.1.1, q1.1.2.1, q1.1.2.2) (y, u, v) then true else (↑(List.length (spB (10 : Int) (prH y u v))) : Int) != (4 : Int)) (false = true ∧ True) (List.length s ≤ q7 ∧ splitB ((prsH s).2.2 == (0 : Int)) (List.length (prsH s).1.1 ≤ q6 ∧ splitB (bif chkPt (prsH s).1.1 (prsH s).1.2.1 (prsH s).1.2.2 != (0 : Int) then true else prH (prsH s).1.1 (prsH s).1.2.1 (prsH s).1.2.2 != s) (false = true ∧ True) q0) q0))) := by
  kernel_rfl
end Go.Sx

namespace Go.Sx
open U
theorem so88n : Sp1 88 sp88n := by
  refine ⟨fun vs ps r h hp => ?_, Proofs.Tryz.f88, _, by kernel_rfl, rfl, by kernel_rfl⟩
  simp only [sp88n] at h
  split at h
  · cases h
    unfold prH; rw [hd_eq]
    exact fn88 _ _ _ (hp _ (.head _))
  · cases h
theorem so89n : Sp1 89 sp89n := by
  refine ⟨fun vs ps r h hp => ?_, Proofs.Tryz.f89, _, by kernel_rfl, rfl, by kernel_rfl⟩
  simp only [sp89n] at h
  split at h
  · cases h
    unfold prsH; rw [hd_eq]
    exact fn89 _ (hp _ (.head _))
  · cases h
theorem fn17 (y u v : List Nat) (s : Str) (hs : s.length ≤ 9223372036854775807) : Fn P1 gl1 17 [ptV y u v, sV s] (.val (bV true)) true := by
  refine Fn.flat ?_ rfl
  refine fn_of false [(18, sp18), (19, sp19), (21, sp21), (88, sp88n), (89, sp89n), (23, sp23), (46, sp46), (45, sp45), (92, sp92)] [] h0 0 Proofs.Tryz.f17 ⟨so18, so19, so21, so88n, so89n, so23, so46, so45, so92, trivial⟩ trivial (by kernel_rfl) rfl (by kernel_rfl) rfl rfl rfl ?_
  rw [vc17]
  try simp only [splitB_iff, -eq_self]
  have e10 : ((10 : Int).toNat.toUInt8) = 10 := rfl
  simp only [prH, prsH, spB, hd_eq, e10, -eq_self]
  have hl := prs_lens s
  refine ⟨fun h => ?_, fun _ => ⟨rfl, trivial⟩, fun h => ?_⟩
  · rw [bcond_l, Bool.or_eq_false_iff] at h
    have := of_decide_eq_false h.2
    omega
  rw [bcond_l, bcond_l, bcond_l, Bool.or_eq_false_iff, Bool.or_eq_false_iff, Bool.or_eq_false_iff, Bool.not_eq_false'] at h
  obtain ⟨⟨⟨h1, h2⟩, h3⟩, h4⟩ := h
  have h2 := of_decide_eq_false h2
  have hc : chkPt y u v = 0 := bneF.1 h3
  have h4 := of_decide_eq_false h4
  obtain ⟨k0, k1, k2, k3, _⟩ := prtN_len hc
  have e : prN y u v = prtN y u v := by unfold prN; rw [if_pos hc]
  rw [e, hc, prs_prt hc k0, prt_lines]
  have hpos := prt_len_pos y u v
  have e1 : ((List.length (prtN y u v) : Int) - 1).toNat = (prtN y u v).length - 1 := by omega
  rw [e1, prs_cut hc k0]
  simp only [same_again hc, -eq_self]
  have hq : fits .i64 ((List.length (prtN y u v) : Int) - 1) ∧ ((0 : Int) ≤ 0 ∧ (0 : Int) ≤ (List.length (prtN y u v) : Int) - 1 ∧ (List.length (prtN y u v) : Int) - 1 ≤ (List.length (prtN y u v) : Int)) ∧ List.length (List.take ((prtN y u v).length - 1) (prtN y u v)) ≤ 1000000 :=
    ⟨by simp only [fits]; omega, ⟨by omega, by omega, by omega⟩, by rw [List.length_take]; omega⟩
  have hm : ∀ l : List Nat, l.length ≤ 256 → ((sixs l).map smp).length ≤ 1000000000 := fun l h => by rw [List.length_map, sixs_len]; omega
  refine ⟨by omega, by omega, by omega, by omega, by omega, fun _ => hm y (by omega), fun _ => hm u (by omega), fun _ => hm v (by omega), fun _ => by omega, fun _ => ⟨by omega, by omega⟩, fun hx => ?_, fun _ => ⟨by omega, fun hx => ⟨by omega, fun hz => ?_, fun _ => ⟨hq.1, hq.2.1, hq.2.2, rfl, trivial⟩⟩, fun _ => ⟨hq.1, hq.2.1, hq.2.2, rfl, trivial⟩⟩⟩
  · exact absurd (show false = true from hx) (by decide)
  · have hx : (prsN s).2.2 = 0 := by simpa using hx
    obtain ⟨z1, z2⟩ := prt_prs (s := s) (y := (prsN s).1.1) (u := (prsN s).1.2.1) (v := (prsN s).1.2.2) (i := (prsN s).2.1) (by rw [← hx])
    have z3 : prN (prsN s).1.1 (prsN s).1.2.1 (prsN s).1.2.2 = s := by unfold prN; rw [if_pos z1, z2]
    rw [z1, z3] at hz
    simp at hz
end Go.Sx

namespace Go.Sx
open Go.RowKit
def WF : (t : Ty) → t.T → Prop
  | .int k, n => (Lit.int k n).wf = true
  | .bool, _ => True
  | .str, l => List.length l ≤ maxLen
  | .flt k, n => (Lit.float k n).wf = true
  | .cpx _, _ => True
  | .fnp, _ => True
  | .opq _, _ => True
  | .sl t, xs => List.length xs ≤ maxLen ∧ ∀ i (h : i < List.length xs), WF t (xs[i]'h)
  | .arr n t, xs => List.length xs = n ∧ ∀ i (h : i < List.length xs), WF t (xs[i]'h)
  | .pair a b, x => WF a x.1 ∧ WF b x.2
mutual
def rdChk (P : Program) : Nat → TypeId → Ty → Bool
  | 0, _, _ => false
  | n + 1, t, u => match P.underlying t with
      | some (.int k) => decide (u = .int k)
      | some .bool => decide (u = .bool)
      | some .string => decide (u = .str)
      | some (.float k) => decide (u = .flt k)
      | some (.slice e) => match u with
        | .sl v => decide (P.cellsOf e = v.sz) && decide (v.sz ≠ 0) && rdChk P n e v
        | _ => false
      | some (.array m e) => match u with
        | .arr m' v => decide (m = m') && decide (P.cellsOf e = v.sz) && decide (P.cellsOf t = m * v.sz) && rdChk P n e v
        | _ => false
      | some (.struct fs) => decide (P.cellsOf t = u.sz) && rdFs P n 0 fs.toList u
      | _ => false
def rdFs (P : Program) : Nat → Nat → List Field → Ty → Bool
  | 0, _, _, _ => false
  | n + 1, off, [f], u => decide (f.offset = off) && decide (P.cellsOf f.type = u.sz) && rdChk P n f.type u
  | n + 1, off, f :: r, .pair a b => decide (f.offset = off) && decide (P.cellsOf f.type = a.sz) && rdChk P n f.type a && rdFs P n (off + a.sz) r b
  | _, _, _, _ => false
end
def HW (w : World) : IH := fun b => w.heap[b]?
theorem addp (b off i : Nat) : (Addr.mk b off none).add i = ⟨b, off + i, none⟩ := by
  unfold Addr.add; split <;> simp_all
theorem cells_seg {w : World} {base : Nat} {a : Addr} {n : Nat} {cs : List Value} (h : w.cells? base a n = some cs) (hn : 0 < n) :
    ∃ b off c e fr, a = ⟨b, off, none⟩ ∧ w.heap[b]? = some (.cells c e fr) ∧ seg c off n = cs := by
  obtain ⟨_, hl, hc⟩ := World.cells?_some h
  obtain ⟨b, off, sp⟩ := a
  have h0 := hc 0 hn
  rw [List.getElem?_eq_getElem (by omega)] at h0
  have hs : sp = none := by
    have := World.cell?_spot h0
    simp only [Addr.add] at this
    cases sp with
    | none => rfl
    | some x => simp at this
  subst hs
  have hb : ∃ c e fr, w.heap[b]? = some (.cells c e fr) := by
    simp only [World.cell?, Addr.add] at h0
    split at h0
    · exact ⟨_, _, _, ‹_›⟩
    · cases h0
  obtain ⟨c, e, fr, hb⟩ := hb
  refine ⟨b, off, c, e, fr, rfl, hb, ?_⟩
  have hi : ∀ i, i < n → c[off + i]? = cs[i]? := by
    intro i hi
    have := hc i hi
    rw [addp] at this
    simpa [World.cell?, hb] using this
  apply List.ext_getElem?
  intro i
  simp only [seg, List.getElem?_take, List.getElem?_drop]
  split
  · rename_i h1
    rw [← hi i h1]; simp
  · rename_i h1
    rw [List.getElem?_eq_none (by omega)]
theorem choose_list {α : Type} (n : Nat) (p : Nat → α → Prop) (h : ∀ i, i < n → ∃ y, p i y) : ∃ ys : List α, ys.length = n ∧ ∀ i (hi : i < ys.length), p i (ys[i]'hi) := by
  induction n with
  | zero => exact ⟨[], rfl, fun i hi => by simp at hi⟩
  | succ n ih =>
    obtain ⟨ys, h1, h2⟩ := ih fun i hi => h i (by omega)
    obtain ⟨y, hy⟩ := h n (by omega)
    refine ⟨ys ++ [y], by simp [h1], fun i hi => ?_⟩
    by_cases hlt : i < ys.length
    · rw [List.getElem_append_left hlt]; exact h2 i hlt
    · simp at hi
      have : i = ys.length := by omega
      subst this
      simp
      rw [h1]; exact hy
theorem trod_rd_all {X : Type} {enc : TypeId × Value → X} {P : Program} {w : World} {base : Nat} {spare : Nat → Bool} {held : Bool} : ∀ (n : Nat),
    (∀ (t : TypeId) (u : Ty) (fuel : Nat) (cs : List Value) (x : DataW X × List MemPlace), rdChk P n t u = true → DataW.trod enc P w base spare held fuel t cs = some x → ∃ y : u.T, Rd (HW w) u y cs ∧ WF u y) ∧
    (∀ (off : Nat) (fs : List Field) (u : Ty) (fuel : Nat) (cs : List Value), rdFs P n off fs u = true → cs.length = off + u.sz →
      (∀ f ∈ fs, ∃ x, DataW.trod enc P w base spare held fuel f.type ((cs.drop f.offset).take (P.cellsOf f.type)) = some x) → ∃ y : u.T, Rd (HW w) u y (cs.drop off) ∧ WF u y) := by
  intro n
  induction n with
  | zero => exact ⟨fun _ _ _ _ _ h => by simp [rdChk] at h, fun _ _ _ _ _ h => by simp [rdFs] at h⟩
  | succ n ih =>
    refine ⟨?_, ?_⟩
    · intro t u fuel cs x h hx
      unfold rdChk at h
      split at h
      · rename_i k hu
        simp at h; subst h
        obtain ⟨m, rfl, _, hw⟩ := DataW.trod_int hu hx
        exact ⟨m, rfl, hw⟩
      · rename_i hu
        simp at h; subst h
        obtain ⟨m, rfl, _⟩ := DataW.trod_bool hu hx
        exact ⟨m, rfl, trivial⟩
      · rename_i hu
        simp at h; subst h
        obtain ⟨s, rfl, _, hw⟩ := DataW.trod_string hu hx
        refine ⟨s.data.toList, rfl, ?_⟩
        show s.data.toList.length ≤ maxLen
        rw [Array.length_toList]; exact hw
      · rename_i k hu
        simp at h; subst h
        cases fuel with
        | zero => simp [DataW.trod] at hx
        | succ m =>
          unfold DataW.trod at hx
          rw [hu] at hx
          have : ∃ b, cs = [.float k b] ∧ (Lit.float k b).wf = true := by split at hx <;> simp_all
          obtain ⟨b, rfl, hw⟩ := this
          exact ⟨b, rfl, hw⟩
      · rename_i e hu
        split at h
        · rename_i v
          simp only [Bool.and_eq_true, decide_eq_true_eq] at h
          obtain ⟨⟨h1, h2⟩, h3⟩ := h
          rcases DataW.trod_slice hu hx with ⟨rfl, _⟩ | ⟨a, len, cap, elems, rest, m, _, rfl, _, _, hlc, hm, hel, hei, _, _⟩
          · exact ⟨[], ⟨none, 0, rfl, Nat.le_refl _, .inl rfl⟩, by simp [WF]⟩
          · have hone : ∀ i, i < len → ∃ cs', w.cells? base (a.add (i * P.cellsOf e)) (P.cellsOf e) = some cs' ∧ ∃ y : v.T, Rd (HW w) v y cs' ∧ WF v y := by
              intro i hi
              have := hei i hi
              rw [List.getElem?_eq_getElem (by omega)] at this
              obtain ⟨cs', hc1, hc2⟩ := Option.bind_eq_some_iff.1 this
              exact ⟨cs', hc1, ih.1 _ _ _ _ _ h3 hc2⟩
            obtain ⟨ys, hy1, hy2⟩ := choose_list len (fun i (y : v.T) => ∃ cs', w.cells? base (a.add (i * P.cellsOf e)) (P.cellsOf e) = some cs' ∧ Rd (HW w) v y cs' ∧ WF v y)
              (fun i hi => by obtain ⟨cs', h1, y, h2⟩ := hone i hi; exact ⟨y, cs', h1, h2⟩)
            refine ⟨ys, ⟨some a, cap, by rw [hy1], by rw [hy1]; exact hlc, ?_⟩, by rw [hy1]; omega, fun i hi => ?_⟩
            · rcases Nat.eq_zero_or_pos ys.length with h0 | h0
              · exact .inl h0
              · right
                obtain ⟨cs0, hc0, _⟩ := hy2 0 h0
                obtain ⟨b, off, c, e', fr, ha, hb, _⟩ := cells_seg hc0 (by omega)
                have ha' : a = ⟨b, off, none⟩ := by rw [← ha]; simp [Addr.add]
                refine ⟨b, off, c, e', fr, by rw [ha'], hb, fun i hi => ?_⟩
                obtain ⟨cs', hc', hr, _⟩ := hy2 i hi
                obtain ⟨b', off', c', e'', fr', hab, hb', hsg⟩ := cells_seg hc' (by omega)
                rw [ha', addp] at hab
                simp only [Addr.mk.injEq] at hab
                obtain ⟨rfl, rfl, _⟩ := hab
                rw [hb] at hb'
                cases hb'
                rw [h1] at hsg
                rw [hsg]; exact hr
            · obtain ⟨_, _, _, hwf⟩ := hy2 i hi
              exact hwf
        · cases h
      · rename_i m e hu
        split at h
        · rename_i m' v
          simp only [Bool.and_eq_true, decide_eq_true_eq] at h
          obtain ⟨⟨⟨rfl, h1⟩, h2⟩, h3⟩ := h
          obtain ⟨xs, k, _, _, hl, hxl, hxi⟩ := DataW.trod_array hu hx
          obtain ⟨ys, hy1, hy2⟩ := choose_list m (fun i (y : v.T) => Rd (HW w) v y ((cs.drop (i * P.cellsOf e)).take (P.cellsOf e)) ∧ WF v y)
            (fun i hi => by
              have := hxi i hi
              rw [List.getElem?_eq_getElem (by omega)] at this
              exact ih.1 _ _ _ _ _ h3 this)
          refine ⟨ys, ⟨hy1, by rw [hl, h2], fun i hi => ?_⟩, hy1, fun i hi => (hy2 i hi).2⟩
          have := (hy2 i hi).1
          rw [h1] at this
          exact this
        · cases h
      · rename_i fs hu
        simp only [Bool.and_eq_true, decide_eq_true_eq] at h
        obtain ⟨xs, k, _, _, hl, hxl, hxi⟩ := DataW.trod_struct hu hx
        have := ih.2 0 fs.toList u k cs h.2 (by rw [hl, h.1]; omega) (fun f hf => by
          obtain ⟨i, hi, rfl⟩ := List.mem_iff_getElem.1 hf
          simp at hi
          have := hxi i fs[i] (by simp [hi])
          rw [List.getElem?_eq_getElem (by omega)] at this
          exact ⟨_, by simpa using this⟩)
        simpa using this
      · cases h
    · intro off fs u fuel cs h hl hf
      match fs, u, h, hl, hf with
      | [], u, h, _, _ => simp [rdFs] at h
      | [f], u, h, hl, hf =>
        simp only [rdFs, Bool.and_eq_true, decide_eq_true_eq] at h
        obtain ⟨⟨rfl, h1⟩, h2⟩ := h
        obtain ⟨x, hx⟩ := hf f (by simp)
        rw [h1, List.take_of_length_le (by simp; omega)] at hx
        exact ih.1 _ _ _ _ _ h2 hx
      | f :: g :: r, .pair a b, h, hl, hf =>
        simp only [rdFs, Bool.and_eq_true, decide_eq_true_eq] at h
        obtain ⟨⟨⟨rfl, h1⟩, h2⟩, h3⟩ := h
        simp only [Ty.sz] at hl
        obtain ⟨x, hx⟩ := hf f (by simp)
        rw [h1] at hx
        obtain ⟨y1, hy1, hw1⟩ := ih.1 _ _ _ _ _ h2 hx
        obtain ⟨y2, hy2, hw2⟩ := ih.2 _ _ _ fuel cs h3 (by omega) (fun g' hg => hf g' (List.mem_cons_of_mem _ hg))
        refine ⟨(y1, y2), ⟨hy1, ?_⟩, hw1, hw2⟩
        rw [List.drop_drop]; exact hy2
      | _ :: _ :: _, .int _, h, _, _ => simp [rdFs] at h
      | _ :: _ :: _, .bool, h, _, _ => simp [rdFs] at h
      | _ :: _ :: _, .str, h, _, _ => simp [rdFs] at h
      | _ :: _ :: _, .flt _, h, _, _ => simp [rdFs] at h
      | _ :: _ :: _, .cpx _, h, _, _ => simp [rdFs] at h
      | _ :: _ :: _, .sl _, h, _, _ => simp [rdFs] at h
      | _ :: _ :: _, .arr _ _, h, _, _ => simp [rdFs] at h
theorem trod_rd {X : Type} {enc : TypeId × Value → X} {P : Program} {w : World} {base : Nat} {spare : Nat → Bool} {held : Bool} (n : Nat)
    {t : TypeId} {u : Ty} (h : rdChk P n t u = true) {fuel : Nat} {cs : List Value} {x : DataW X × List MemPlace} (hx : DataW.trod enc P w base spare held fuel t cs = some x) : ∃ y : u.T, Rd (HW w) u y cs ∧ WF u y :=
  (trod_rd_all n).1 t u fuel cs x h hx
end Go.Sx
