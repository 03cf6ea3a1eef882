/- A verified symbolic run of functions, part 15: lemmas, no claim of their own. -/
import Derived.Test.YtlgimjcnnndbhaaS14
import Derived.OpenShut
import Derived.ProofKit
import Derived.Carry
import Derived.OpenVars
import Derived.Lib.LaidTab
import Derived.ChangeSame
import Derived.WalkKit
import Derived.Deep.DeepHandedRow
namespace Go.Sx
open U
theorem vc3 (n1 : List UInt8) (w1 h1 : Int) (s1 : List Nat) (n2 : List UInt8) (w2 h2 : Int) (s2 : List Nat) (cut : List Int) : exF (env false [(5, sp5), (6, sp6), (8, sp8h), (7, sp7), (9, sp9), (10, sp10), (11, sp11), (12, sp12), (13, sp13), (14, sp14), (15, sp15), (16, sp16)] []) h3 0 3 Proofs.Try.f3 [picV n1 w1 h1 s1, picV n2 w2 h2 s2, .agg [.arr 2 (.int .u8) cut]] (.val (bV true)) = (let q11 := (w1 - (1 : Int)); let q0 := ((1 : Int) + List.getD cut (0 : Nat) (0 : Int) % q11); let q12 := (h1 - (1 : Int)); let q1 := ((1 : Int) + List.getD cut (1 : Nat) (0 : Int) % q12); let q16 := (crpI w1 h1 s1 (0 : Int) q0 (0 : Int) q1); let q17 := (crpI w2 h2 s2 (0 : Int) q0 (0 : Int) q1); let q3 := ((1 : Int) + List.getD cut (0 : Nat) (0 : Int) % q11 - (0 : Int)); let q18 := (crpI w1 h1 s1 q0 w1 (0 : Int) q1); let q5 := ((1 : Int) + List.getD cut (1 : Nat) (0 : Int) % q12 - (0 : Int)); let q19 := (crpI w2 h2 s2 q0 w1 (0 : Int) q1); let q2 := (besI q3 (w1 - q0) q5 (sumL q16 q17) (sumL q18 q19)); let q4 := (fldP n1 w1 h1 s1 (0 : Int)); let q6 := (1000000 : Nat); let q7 := (fldP n1 w1 h1 s1 (1 : Int)); let q39 := (crpI w2 h2 s2 q0 w1 q1 h1); let q38 := (crpI w1 h1 s1 q0 w1 q1 h1); let q31 := (sumL q38 q39); let q20 := (crpI w1 h1 s1 (0 : Int) q0 q1 h1); let q21 := (crpI w2 h2 s2 (0 : Int) q0 q1 h1); let q8 := (besI q3 (w1 - q0) (h1 - q1) (sumL q20 q21) q31); let q9 := ((0 : Int) ≤ (0 : Int) ∧ (0 : Int) < (2 : Int)); let q10 := ((0 : Int) ≤ (1 : Int) ∧ (1 : Int) < (2 : Int)); let q13 := ((1 : Int) + List.getD cut (0 : Nat) (0 : Int) % q11 - (0 : Int) + (w1 - q0)); let q14 := (fldP n2 w2 h2 s2 (0 : Int)); let q15 := (fldP n2 w2 h2 s2 (1 : Int)); let q22 := ((0 : Int) ≤ (0 : Int) ∧ (0 : Int) < (1 : Int) + List.getD cut (0 : Nat) (0 : Int) % q11 ∧ (1 : Int) + List.getD cut (0 : Nat) (0 : Int) % q11 ≤ w1); let q23 := ((0 : Int) ≤ (0 : Int) ∧ (0 : Int) < (1 : Int) + List.getD cut (1 : Nat) (0 : Int) % q12 ∧ (1 : Int) + List.getD cut (1 : Nat) (0 : Int) % q12 ≤ h1); let q24 := ((0 : Int) ≤ (0 : Int) ∧ (0 : Int) < (1 : Int) + List.getD cut (0 : Nat) (0 : Int) % q11 ∧ (1 : Int) + List.getD cut (0 : Nat) (0 : Int) % q11 ≤ w2); let q25 := ((0 : Int) ≤ (0 : Int) ∧ (0 : Int) < (1 : Int) + List.getD cut (1 : Nat) (0 : Int) % q12 ∧ (1 : Int) + List.getD cut (1 : Nat) (0 : Int) % q12 ≤ h2); let q26 := ((0 : Int) ≤ (1 : Int) + List.getD cut (0 : Nat) (0 : Int) % q11 ∧ (1 : Int) + List.getD cut (0 : Nat) (0 : Int) % q11 < w1 ∧ w1 ≤ w1); let q27 := ((0 : Int) ≤ (1 : Int) + List.getD cut (0 : Nat) (0 : Int) % q11 ∧ (1 : Int) + List.getD cut (0 : Nat) (0 : Int) % q11 < w1 ∧ w1 ≤ w2); let q28 := ((0 : Int) ≤ (1 : Int) + List.getD cut (1 : Nat) (0 : Int) % q12 ∧ (1 : Int) + List.getD cut (1 : Nat) (0 : Int) % q12 < h1 ∧ h1 ≤ h1); let q29 := ((0 : Int) ≤ (1 : Int) + List.getD cut (1 : Nat) (0 : Int) % q12 ∧ (1 : Int) + List.getD cut (1 : Nat) (0 : Int) % q12 < h1 ∧ h1 ≤ h2); let q30 := (↑(List.length s1) : Int); let q33 := ((0 : Int) ≤ (0 : Int) ∧ (0 : Int) < (4 : Int)); let q34 := ((0 : Int) ≤ (1 : Int) ∧ (1 : Int) < (4 : Int)); let q35 := ((0 : Int) ≤ (2 : Int) ∧ (2 : Int) < (4 : Int)); let q36 := ((0 : Int) ≤ (3 : Int) ∧ (3 : Int) < (4 : Int)); let q44 := (sumL q7.2.2.2 q15.2.2.2); let q43 := (sumL q4.2.2.2 q14.2.2.2); let q37 := (wovI q4.1 q4.2.1 q4.2.2.1 q7.2.2.1 q43 q44); let q42 := (sumL s1 (negL s2)); splitB (bif bif bif bif bif !smallPic n1 w1 h1 s1 then true else !smallPic n2 w2 h2 s2 then true else w1 != w2 then true else h1 != h2 then true else decide (w1 < (2 : Int)) then true else decide (h1 < (2 : Int))) (true = true ∧ True) ((∃ (g : Nat), (g ≤ List.length s1 ∧ ∀ (j : Nat), j < g → B500 s1 j ∧ B500 s2 j) ∧ (0 : Int) = (↑g : Int) ∧ q30 = q30 ∧ cut = cut ∧ n2 = n2 ∧ w2 = w2 ∧ h2 = h2 ∧ s2 = s2 ∧ n1 = n1 ∧ w1 = w1 ∧ h1 = h1 ∧ s1 = s1 ∧ True) ∧ ∀ (g : Nat), let q32 := (maxF FloatKind.f32 (List.getD s1 g (0 : Nat)) (Op.negFloat FloatKind.f32 (List.getD s1 g (0 : Nat)))); let q40 := (List.getD s2 g (0 : Nat)); let q41 := ((0 : Int) ≤ (↑g : Int) ∧ (↑g : Int) < (↑(List.length s2) : Int)); (g ≤ List.length s1 ∧ ∀ (j : Nat), j < g → B500 s1 j ∧ B500 s2 j) → splitB (decide ((↑g : Int) < q30)) (((0 : Int) ≤ (↑g : Int) ∧ (↑g : Int) < q30) ∧ ((0 : Int) ≤ (↑g : Int) ∧ (↑g : Int) < q30) ∧ q41 ∧ q41 ∧ Option.isSome (Option.bind q32 fun (c : Nat) => Option.bind (maxF FloatKind.f32 c q40) fun (c : Nat) => Option.bind (maxF FloatKind.f32 c (Op.negFloat FloatKind.f32 q40)) fun (c : Nat) => some c) = true ∧ splitB (Ieee.Format.order (FloatKind.format FloatKind.f32) (Option.getD (Option.bind q32 fun (c : Nat) => Option.bind (maxF FloatKind.f32 c q40) fun (c : Nat) => Option.bind (maxF FloatKind.f32 c (Op.negFloat FloatKind.f32 q40)) fun (c : Nat) => some c) (0 : Nat)) (1140457472 : Nat) == some Ordering.gt) (true = true ∧ True) (fits IntKind.i64 ((↑g : Int) + (1 : Int)) ∧ ∃ (g' : Nat), (g' ≤ List.length s1 ∧ ∀ (j : Nat), j < g' → B500 s1 j ∧ B500 s2 j) ∧ List.length s1 - g' < List.length s1 - g ∧ (↑g : Int) + (1 : Int) = (↑g' : Int) ∧ q30 = q30 ∧ cut = cut ∧ n2 = n2 ∧ w2 = w2 ∧ h2 = h2 ∧ s2 = s2 ∧ n1 = n1 ∧ w1 = w1 ∧ h1 = h1 ∧ s1 = s1 ∧ True)) (List.length s1 ≤ q6 ∧ List.length s2 ≤ q6 ∧ (w2 = w1 ∧ h2 = h1) ∧ (List.length s1 ≤ q6 ∧ List.length s2 ≤ q6) ∧ chkPic n1 w1 h1 s1 = (0 : Int) ∧ chkPic n2 w2 h2 s2 = (0 : Int) ∧ Fit2 s1 s2 ∧ List.length s2 ≤ q6 ∧ ((-1 : Int) = (-1 : Int) ∧ (1 : Int) = (1 : Int)) ∧ List.length s2 ≤ q6 ∧ chkPic n2 w2 h2 s2 = (0 : Int) ∧ List.length s1 ≤ q6 ∧ (w2 = w1 ∧ h2 = h1) ∧ (List.length s1 ≤ q6 ∧ List.length (negL s2) ≤ q6) ∧ chkPic n1 w1 h1 s1 = (0 : Int) ∧ chkPic n2 w2 h2 (negL s2) = (0 : Int) ∧ Fit2 s1 (negL s2) ∧ List.length s1 ≤ q6 ∧ List.length s2 ≤ q6 ∧ q33 ∧ List.length s1 ≤ q6 ∧ chkPic n1 w1 h1 s1 = (0 : Int) ∧ q33 ∧ (0 : Nat) < (4 : Nat) ∧ fits IntKind.i64 (1 : Int) ∧ q34 ∧ List.length s2 ≤ q6 ∧ chkPic n2 w2 h2 s2 = (0 : Int) ∧ q34 ∧ (1 : Nat) < (4 : Nat) ∧ fits IntKind.i64 (2 : Int) ∧ q35 ∧ List.length (sumL s1 s2) ≤ q6 ∧ chkPic n1 w1 h1 (sumL s1 s2) = (0 : Int) ∧ q35 ∧ (2 : Nat) < (4 : Nat) ∧ fits IntKind.i64 (3 : Int) ∧ q36 ∧ List.length q42 ≤ q6 ∧ chkPic n1 w1 h1 q42 = (0 : Int) ∧ q36 ∧ (3 : Nat) < (4 : Nat) ∧ fits IntKind.i64 (4 : Int) ∧ q35 ∧ (2 : Nat) < (4 : Nat) ∧ q36 ∧ (3 : Nat) < (4 : Nat) ∧ fits IntKind.i64 (sqS (List.map six (sumL s1 s2)) + sqS (List.map six q42)) ∧ q33 ∧ (0 : Nat) < (4 : Nat) ∧ fits IntKind.i64 ((2 : Int) * sqS (List.map six s1)) ∧ q34 ∧ (1 : Nat) < (4 : Nat) ∧ fits IntKind.i64 ((2 : Int) * sqS (List.map six s2)) ∧ fits IntKind.i64 ((2 : Int) * sqS (List.map six s1) + (2 : Int) * sqS (List.map six s2)) ∧ splitB (sqS (List.map six (sumL s1 s2)) + sqS (List.map six q42) != (2 : Int) * sqS (List.map six s1) + (2 : Int) * sqS (List.map six s2)) (false = true ∧ True) (q9 ∧ (0 : Nat) < List.length cut ∧ fits IntKind.i64 (List.getD cut (0 : Nat) (0 : Int)) ∧ fits IntKind.i64 q11 ∧ ((0 : Int) ≤ List.getD cut (0 : Nat) (0 : Int) ∧ (0 : Int) < w1 - (1 : Int)) ∧ fits IntKind.i64 q0 ∧ q10 ∧ (1 : Nat) < List.length cut ∧ fits IntKind.i64 (List.getD cut (1 : Nat) (0 : Int)) ∧ fits IntKind.i64 q12 ∧ ((0 : Int) ≤ List.getD cut (1 : Nat) (0 : Int) ∧ (0 : Int) < h1 - (1 : Int)) ∧ fits IntKind.i64 q1 ∧ q9 ∧ q9 ∧ List.length s1 ≤ q6 ∧ List.length s1 ≤ q6 ∧ chkPic n1 w1 h1 s1 = (0 : Int) ∧ q22 ∧ q23 ∧ List.length s2 ≤ q6 ∧ List.length s2 ≤ q6 ∧ chkPic n2 w2 h2 s2 = (0 : Int) ∧ q24 ∧ q25 ∧ ((1 : Int) + List.getD cut (0 : Nat) (0 : Int) % q11 - (0 : Int) = (1 : Int) + List.getD cut (0 : Nat) (0 : Int) % q11 - (0 : Int) ∧ (1 : Int) + List.getD cut (1 : Nat) (0 : Int) % q12 - (0 : Int) = (1 : Int) + List.getD cut (1 : Nat) (0 : Int) % q12 - (0 : Int)) ∧ (List.length q16 ≤ q6 ∧ List.length q17 ≤ q6) ∧ chkPic n1 q3 q5 q16 = (0 : Int) ∧ chkPic n2 q3 q5 q17 = (0 : Int) ∧ Fit2 q16 q17 ∧ q9 ∧ (0 : Nat) < (2 : Nat) ∧ fits IntKind.i64 (1 : Int) ∧ q10 ∧ List.length s1 ≤ q6 ∧ List.length s1 ≤ q6 ∧ chkPic n1 w1 h1 s1 = (0 : Int) ∧ q26 ∧ q23 ∧ List.length s2 ≤ q6 ∧ List.length s2 ≤ q6 ∧ chkPic n2 w2 h2 s2 = (0 : Int) ∧ q27 ∧ q25 ∧ (w1 - q0 = w1 - q0 ∧ (1 : Int) + List.getD cut (1 : Nat) (0 : Int) % q12 - (0 : Int) = (1 : Int) + List.getD cut (1 : Nat) (0 : Int) % q12 - (0 : Int)) ∧ (List.length q18 ≤ q6 ∧ List.length q19 ≤ q6) ∧ chkPic n1 (w1 - q0) q5 q18 = (0 : Int) ∧ chkPic n2 (w1 - q0) q5 q19 = (0 : Int) ∧ Fit2 q18 q19 ∧ q10 ∧ (1 : Nat) < (2 : Nat) ∧ fits IntKind.i64 (2 : Int) ∧ q9 ∧ (0 : Nat) < (2 : Nat) ∧ q10 ∧ (1 : Nat) < (2 : Nat) ∧ (1 : Int) + List.getD cut (1 : Nat) (0 : Int) % q12 - (0 : Int) = (1 : Int) + List.getD cut (1 : Nat) (0 : Int) % q12 - (0 : Int) ∧ (List.length (sumL q16 q17) ≤ q6 ∧ List.length (sumL q18 q19) ≤ q6) ∧ chkPic n1 q3 q5 (sumL q16 q17) = (0 : Int) ∧ chkPic n1 (w1 - q0) q5 (sumL q18 q19) = (0 : Int) ∧ (1 : Int) + List.getD cut (0 : Nat) (0 : Int) % q11 - (0 : Int) + (w1 - q0) ≤ (64 : Int) ∧ q9 ∧ (0 : Nat) < (2 : Nat) ∧ fits IntKind.i64 (1 : Int) ∧ q10 ∧ q9 ∧ List.length s1 ≤ q6 ∧ List.length s1 ≤ q6 ∧ chkPic n1 w1 h1 s1 = (0 : Int) ∧ q22 ∧ q28 ∧ List.length s2 ≤ q6 ∧ List.length s2 ≤ q6 ∧ chkPic n2 w2 h2 s2 = (0 : Int) ∧ q24 ∧ q29 ∧ ((1 : Int) + List.getD cut (0 : Nat) (0 : Int) % q11 - (0 : Int) = (1 : Int) + List.getD cut (0 : Nat) (0 : Int) % q11 - (0 : Int) ∧ h1 - q1 = h1 - q1) ∧ (List.length q20 ≤ q6 ∧ List.length q21 ≤ q6) ∧ chkPic n1 q3 (h1 - q1) q20 = (0 : Int) ∧ chkPic n2 q3 (h1 - q1) q21 = (0 : Int) ∧ Fit2 q20 q21 ∧ q9 ∧ (0 : Nat) < (2 : Nat) ∧ fits IntKind.i64 (1 : Int) ∧ q10 ∧ List.length s1 ≤ q6 ∧ List.length s1 ≤ q6 ∧ chkPic n1 w1 h1 s1 = (0 : Int) ∧ q26 ∧ q28 ∧ List.length s2 ≤ q6 ∧ List.length s2 ≤ q6 ∧ chkPic n2 w2 h2 s2 = (0 : Int) ∧ q27 ∧ q29 ∧ (w1 - q0 = w1 - q0 ∧ h1 - q1 = h1 - q1) ∧ (List.length q38 ≤ q6 ∧ List.length q39 ≤ q6) ∧ chkPic n1 (w1 - q0) (h1 - q1) q38 = (0 : Int) ∧ chkPic n2 (w1 - q0) (h1 - q1) q39 = (0 : Int) ∧ Fit2 q38 q39 ∧ q10 ∧ (1 : Nat) < (2 : Nat) ∧ fits IntKind.i64 (2 : Int) ∧ q9 ∧ (0 : Nat) < (2 : Nat) ∧ q10 ∧ (1 : Nat) < (2 : Nat) ∧ h1 - q1 = h1 - q1 ∧ (List.length (sumL q20 q21) ≤ q6 ∧ List.length q31 ≤ q6) ∧ chkPic n1 q3 (h1 - q1) (sumL q20 q21) = (0 : Int) ∧ chkPic n1 (w1 - q0) (h1 - q1) q31 = (0 : Int) ∧ (1 : Int) + List.getD cut (0 : Nat) (0 : Int) % q11 - (0 : Int) + (w1 - q0) ≤ (64 : Int) ∧ q10 ∧ (1 : Nat) < (2 : Nat) ∧ fits IntKind.i64 (2 : Int) ∧ q9 ∧ (0 : Nat) < (2 : Nat) ∧ q10 ∧ (1 : Nat) < (2 : Nat) ∧ (1 : Int) + List.getD cut (0 : Nat) (0 : Int) % q11 - (0 : Int) + (w1 - q0) = (1 : Int) + List.getD cut (0 : Nat) (0 : Int) % q11 - (0 : Int) + (w1 - q0) ∧ (List.length q2 ≤ q6 ∧ List.length q8 ≤ q6) ∧ chkPic n1 q13 q5 q2 = (0 : Int) ∧ chkPic n1 q13 (h1 - q1) q8 = (0 : Int) ∧ (1 : Int) + List.getD cut (1 : Nat) (0 : Int) % q12 - (0 : Int) + (h1 - q1) ≤ (64 : Int) ∧ List.length s1 ≤ q6 ∧ List.length s1 ≤ q6 ∧ chkPic n1 w1 h1 s1 = (0 : Int) ∧ (2 : Int) ≤ h1 ∧ List.length s2 ≤ q6 ∧ List.length s2 ≤ q6 ∧ chkPic n2 w2 h2 s2 = (0 : Int) ∧ (2 : Int) ≤ h2 ∧ ((bif bif (0 : Int) != (0 : Int) then true else (0 : Int) != (0 : Int) then true else (0 : Int) != (0 : Int)) = false → List.length (aboI q13 q5 (h1 - q1) q2 q8) ≤ (1000000000 : Nat)) ∧ splitB (bif bif bif (0 : Int) != (0 : Int) then true else (0 : Int) != (0 : Int) then true else (0 : Int) != (0 : Int) then true else !samePic n1 q13 ((1 : Int) + List.getD cut (1 : Nat) (0 : Int) % q12 - (0 : Int) + (h1 - q1)) (aboI q13 q5 (h1 - q1) q2 q8) n1 w1 h1 (sumL s1 s2)) (false = true ∧ True) (q9 ∧ (0 : Nat) < (2 : Nat) ∧ q9 ∧ (0 : Nat) < (2 : Nat) ∧ (q14.2.1 = q4.2.1 ∧ q14.2.2.1 = q4.2.2.1) ∧ (List.length q4.2.2.2 ≤ q6 ∧ List.length q14.2.2.2 ≤ q6) ∧ chkPic q4.1 q4.2.1 q4.2.2.1 q4.2.2.2 = (0 : Int) ∧ chkPic q14.1 q14.2.1 q14.2.2.1 q14.2.2.2 = (0 : Int) ∧ Fit2 q4.2.2.2 q14.2.2.2 ∧ q10 ∧ (1 : Nat) < (2 : Nat) ∧ q10 ∧ (1 : Nat) < (2 : Nat) ∧ (q15.2.1 = q7.2.1 ∧ q15.2.2.1 = q7.2.2.1) ∧ (List.length q7.2.2.2 ≤ q6 ∧ List.length q15.2.2.2 ≤ q6) ∧ chkPic q7.1 q7.2.1 q7.2.2.1 q7.2.2.2 = (0 : Int) ∧ chkPic q15.1 q15.2.1 q15.2.2.1 q15.2.2.2 = (0 : Int) ∧ Fit2 q7.2.2.2 q15.2.2.2 ∧ (q7.1 = q4.1 ∧ q7.2.1 = q4.2.1) ∧ (List.length q43 ≤ q6 ∧ List.length q44 ≤ q6) ∧ chkPic q4.1 q4.2.1 q4.2.2.1 q43 = (0 : Int) ∧ chkPic q7.1 q7.2.1 q7.2.2.1 q44 = (0 : Int) ∧ (q7.2.2.1 ≤ q4.2.2.1 ∧ q4.2.2.1 ≤ q7.2.2.1 + (1 : Int)) ∧ q4.2.2.1 + q7.2.2.1 ≤ (64 : Int) ∧ (((0 : Int) == (0 : Int)) = true → List.length q37 ≤ (1000000000 : Nat)) ∧ (bif bif (0 : Int) == (0 : Int) then samePic q4.1 q4.2.1 (q4.2.2.1 + q7.2.2.1) q37 n1 w1 h1 (sumL s1 s2) else false then true else false) = true ∧ True))))) := by
  kernel_rfl
end Go.Sx

namespace Go.Sx.U
theorem tab_cut {α : Type} {n a b : Nat} (f : Nat → α) (h1 : a ≤ b) (h2 : b ≤ n) : List.take (b - a) (List.drop a (tab n f)) = tab (b - a) fun i => f (a + i) := by
  refine List.ext_getElem (by simp [tab]; omega) fun i h3 h4 => ?_
  rw [tab_getElem, List.getElem_take, List.getElem_drop, tab_getElem]
theorem tab_app {α : Type} (a b : Nat) (f g : Nat → α) : tab a f ++ tab b g = tab (a + b) fun i => if i < a then f i else g (i - a) := by
  refine List.ext_getElem (by simp [tab]) fun i h1 h2 => ?_
  rw [tab_getElem, List.getElem_append]
  by_cases h : i < a
  · rw [dif_pos (by rw [tab_len]; exact h), if_pos h, tab_getElem]
  · rw [dif_neg (by rw [tab_len]; exact h), if_neg h, tab_getElem, tab_len]
theorem at_lt {W H y x : Nat} (hy : y < H) (hx : x < W) : y * W + x < H * W := by
  have := Nat.mul_le_mul_right W hy
  rw [Nat.succ_mul] at this
  omega
theorem split_at {W H i : Nat} (h : i < H * W) : i / W < H ∧ i % W < W ∧ i / W * W + i % W = i := by
  have hw : 0 < W := by
    rcases Nat.eq_zero_or_pos W with h0 | h0
    · subst h0; omega
    · exact h0
  exact ⟨Nat.div_lt_of_lt_mul (by rw [Nat.mul_comm]; omega), Nat.mod_lt i hw, by rw [Nat.mul_comm]; exact Nat.div_add_mod i W⟩
theorem grid_get {W H i : Nat} {g : Nat → Nat → Nat} (h : i < H * W) : List.getD (grid W H g) i 0 = g (i / W) (i % W) := by
  obtain ⟨h1, h2, h3⟩ := split_at h
  have := grid_at (g := g) h1 h2
  unfold at2 at this
  rw [h3] at this
  exact this
def Gr (W H : Nat) (s : List Nat) (g : Nat → Nat → Nat) : Prop := s = grid W H g ∧ ∀ y x, y < H → x < W → chkS (g y x) = 0
def FitG (W H : Nat) (f g : Nat → Nat → Nat) : Prop := ∀ y x, y < H → x < W → -16384 ≤ six (f y x) + six (g y x) ∧ six (f y x) + six (g y x) ≤ 16384
theorem grid_ok {W H : Nat} {g : Nat → Nat → Nat} (h : ∀ y x, y < H → x < W → chkS (g y x) = 0) : OkS (grid W H g) := fun b hb => by
  obtain ⟨i, hi, rfl⟩ := List.mem_iff_getElem.1 hb
  have hi' : i < H * W := by rw [grid_len] at hi; exact hi
  obtain ⟨h1, h2, _⟩ := split_at hi'
  rw [← getD_of (d := 0) hi, grid_get hi']
  exact h _ _ h1 h2
theorem chk_grid {n : List UInt8} {W H : Nat} {g : Nat → Nat → Nat} (hn : isName n = true) (hw : 1 ≤ W ∧ W ≤ 64) (hh : 1 ≤ H ∧ H ≤ 64) (h : ∀ y x, y < H → x < W → chkS (g y x) = 0) : chkPic n (W : Int) (H : Int) (grid W H g) = 0 :=
  chkPic_zero.2 ⟨hn, by omega, by omega, by rw [grid_len, Int.natCast_mul, Int.mul_comm], grid_ok h⟩
theorem of_chk {n : List UInt8} {w h : Int} {s : List Nat} (hc : chkPic n w h s = 0) : isName n = true ∧ ∃ W H : Nat, w = (W : Int) ∧ h = (H : Int) ∧ (1 ≤ W ∧ W ≤ 64) ∧ (1 ≤ H ∧ H ≤ 64) ∧ ∃ g, Gr W H s g := by
  obtain ⟨c1, c2, c3, c4, c5⟩ := chkPic_zero.1 hc
  obtain ⟨W, rfl⟩ := Int.eq_ofNat_of_zero_le (show 0 ≤ w by omega)
  obtain ⟨H, rfl⟩ := Int.eq_ofNat_of_zero_le (show 0 ≤ h by omega)
  have hl : s.length = H * W := by
    rw [← Int.natCast_mul] at c4
    rw [Nat.mul_comm]
    exact Int.ofNat_inj.1 c4
  refine ⟨c1, W, H, rfl, rfl, by omega, by omega, at2 W s, as_grid hl, fun y x hy hx => ?_⟩
  unfold at2
  exact ok_at c5 (by rw [hl]; exact at_lt hy hx)
theorem fit_of {W H : Nat} {s t : List Nat} {f g : Nat → Nat → Nat} (hs : Gr W H s f) (ht : Gr W H t g) (h : Fit2 s t) : FitG W H f g := fun y x hy hx => by
  have hl : s.length = H * W := by rw [hs.1, grid_len]
  have h1 := h (y * W + x) (by rw [hl]; exact at_lt hy hx)
  have e1 : List.getD s (y * W + x) 0 = f y x := by rw [hs.1]; exact grid_at hy hx
  have e2 : List.getD t (y * W + x) 0 = g y x := by rw [ht.1]; exact grid_at hy hx
  rw [e1, e2] at h1
  exact h1
theorem fit_grid {W H : Nat} {f g : Nat → Nat → Nat} (h : FitG W H f g) : Fit2 (grid W H f) (grid W H g) := fun i hi => by
  rw [grid_len] at hi
  obtain ⟨h1, h2, _⟩ := split_at hi
  rw [grid_get hi, grid_get hi]
  exact h _ _ h1 h2
def sumG (f g : Nat → Nat → Nat) (y x : Nat) : Nat := smp (six (f y x) + six (g y x))
theorem sum_grid (W H : Nat) (f g : Nat → Nat → Nat) : sumL (grid W H f) (grid W H g) = grid W H (sumG f g) := by
  have hl : (sumL (grid W H f) (grid W H g)).length = H * W := by unfold sumL; rw [tab_len, grid_len]
  rw [as_grid hl]
  refine grid_ext fun y x hy hx => ?_
  unfold at2 sumL sumG
  rw [tab_get (by rw [grid_len]; exact at_lt hy hx)]
  have e1 : List.getD (grid W H f) (y * W + x) 0 = f y x := grid_at hy hx
  have e2 : List.getD (grid W H g) (y * W + x) 0 = g y x := grid_at hy hx
  rw [e1, e2]
theorem neg_grid (W H : Nat) (f : Nat → Nat → Nat) : negL (grid W H f) = grid W H fun y x => smp (-(six (f y x))) := by
  have hl : (negL (grid W H f)).length = H * W := by unfold negL; rw [tab_len, grid_len]
  rw [as_grid hl]
  refine grid_ext fun y x hy hx => ?_
  unfold at2 negL
  rw [tab_get (by rw [grid_len]; exact at_lt hy hx)]
  have e1 : List.getD (grid W H f) (y * W + x) 0 = f y x := grid_at hy hx
  rw [e1]
theorem sumG_ok {W H : Nat} {f g : Nat → Nat → Nat} (h : FitG W H f g) : ∀ y x, y < H → x < W → chkS (sumG f g y x) = 0 := fun y x hy hx => chk_smp (h y x hy hx).1 (h y x hy hx).2
theorem crp_grid {W H C0 C1 R0 R1 : Nat} (g : Nat → Nat → Nat) (h1 : C0 ≤ C1 ∧ C1 ≤ W) (h2 : R0 ≤ R1 ∧ R1 ≤ H) : crpI (W : Int) (H : Int) (grid W H g) (C0 : Int) (C1 : Int) (R0 : Int) (R1 : Int) = grid (C1 - C0) (R1 - R0) fun y x => g (R0 + y) (C0 + x) := by
  unfold crpI crpR
  rw [rowsI_grid, Int.toNat_natCast, Int.toNat_natCast, tab_cut _ h2.1 h2.2, tab_map]
  unfold grid
  congr 1
  refine tab_ext fun y _ => ?_
  unfold cutI
  rw [Int.toNat_natCast, Int.toNat_natCast, tab_cut _ h1.1 h1.2]
theorem bes_grid (W1 W2 H : Nat) (f g : Nat → Nat → Nat) : besI (W1 : Int) (W2 : Int) (H : Int) (grid W1 H f) (grid W2 H g) = grid (W1 + W2) H fun y x => if x < W1 then f y x else g y (x - W1) := by
  unfold besI besR grid
  rw [Int.toNat_natCast]
  congr 1
  refine tab_ext fun y hy => ?_
  have e1 := rowI_grid (g := f) (w := W1) hy
  have e2 := rowI_grid (g := g) (w := W2) hy
  unfold grid at e1 e2
  rw [e1, e2, List.flatten_cons, List.flatten_cons, List.flatten_nil, List.append_nil, tab_app]
theorem abo_grid (W H1 H2 : Nat) (f g : Nat → Nat → Nat) : aboI (W : Int) (H1 : Int) (H2 : Int) (grid W H1 f) (grid W H2 g) = grid W (H1 + H2) fun y x => if y < H1 then f y x else g (y - H1) x := by
  unfold aboI
  rw [rowsI_grid, rowsI_grid, tab_app]
  unfold grid
  congr 1
  refine tab_ext fun y _ => ?_
  by_cases h : y < H1
  · simp only [if_pos h]
  · simp only [if_neg h]
theorem ev_grid (W H F : Nat) (g : Nat → Nat → Nat) : (evI (W : Int) (H : Int) (grid W H g) (F : Int)).flatten = grid W (((H : Int) - (F : Int) + 1) / 2).toNat fun y x => g (F + 2 * y) x := by
  unfold evI
  conv => rhs; unfold grid
  congr 1
  refine tab_ext fun y hy => ?_
  have e : (F : Int) + 2 * (y : Int) = ((F + 2 * y : Nat) : Int) := by omega
  rw [e]
  exact rowI_grid (by omega)
theorem wov_grid (n : List UInt8) (W H1 H2 : Nat) (f g : Nat → Nat → Nat) (h : H2 ≤ H1 ∧ H1 ≤ H2 + 1) : wovI n (W : Int) (H1 : Int) (H2 : Int) (grid W H1 f) (grid W H2 g) = grid W (H1 + H2) fun y x => if y % 2 = 0 then f (y / 2) x else g (y / 2) x := by
  unfold wovI wovR
  have e : ((H1 : Int) + (H2 : Int)).toNat = H1 + H2 := by omega
  rw [e]
  conv => rhs; unfold grid
  congr 1
  refine tab_ext fun y hy => ?_
  rw [wov_at]
  have e2 : (y : Int) / 2 = ((y / 2 : Nat) : Int) := by omega
  rw [e2]
  by_cases h0 : y % 2 = 0
  · simp only [if_pos h0]
    exact rowI_grid (by omega)
  · simp only [if_neg h0]
    exact rowI_grid (by omega)
theorem sml {n : List UInt8} {w h : Int} {s : List Nat} (hc : chkPic n w h s = 0) : s.length ≤ 1000000 := by
  obtain ⟨_, c2, c3, c4, _⟩ := chkPic_zero.1 hc
  have := mul_fits c2 c3
  omega
theorem sum_chk {n m : List UInt8} {w h : Int} {s t : List Nat} (hs : chkPic n w h s = 0) (ht : chkPic m w h t = 0) (hf : Fit2 s t) : chkPic n w h (sumL s t) = 0 := by
  obtain ⟨hn, W, H, rfl, rfl, hw, hh, f, hgf⟩ := of_chk hs
  obtain ⟨_, W', H', e1, e2, _, _, g, hgg⟩ := of_chk ht
  obtain rfl : W' = W := by omega
  obtain rfl : H' = H := by omega
  have hfg := fit_of hgf hgg hf
  rw [hgf.1, hgg.1, sum_grid]
  exact chk_grid hn hw hh (sumG_ok hfg)
theorem neg_chk {n : List UInt8} {w h : Int} {s : List Nat} (hs : chkPic n w h s = 0) : chkPic n w h (negL s) = 0 := by
  obtain ⟨hn, W, H, rfl, rfl, hw, hh, f, hgf⟩ := of_chk hs
  rw [hgf.1, neg_grid]
  refine chk_grid hn hw hh fun y x hy hx => ?_
  have := chk_six (hgf.2 y x hy hx)
  exact chk_smp (by omega) (by omega)
theorem crp_chk {n : List UInt8} {w h c0 c1 r0 r1 : Int} {s : List Nat} (hs : chkPic n w h s = 0) (h1 : 0 ≤ c0 ∧ c0 < c1 ∧ c1 ≤ w) (h2 : 0 ≤ r0 ∧ r0 < r1 ∧ r1 ≤ h) : chkPic n (c1 - c0) (r1 - r0) (crpI w h s c0 c1 r0 r1) = 0 := by
  obtain ⟨hn, W, H, rfl, rfl, hw, hh, f, hgf⟩ := of_chk hs
  obtain ⟨C0, rfl⟩ := Int.eq_ofNat_of_zero_le (show 0 ≤ c0 by omega)
  obtain ⟨C1, rfl⟩ := Int.eq_ofNat_of_zero_le (show 0 ≤ c1 by omega)
  obtain ⟨R0, rfl⟩ := Int.eq_ofNat_of_zero_le (show 0 ≤ r0 by omega)
  obtain ⟨R1, rfl⟩ := Int.eq_ofNat_of_zero_le (show 0 ≤ r1 by omega)
  rw [hgf.1, crp_grid f (by omega) (by omega), show (C1 : Int) - (C0 : Int) = ((C1 - C0 : Nat) : Int) by omega, show (R1 : Int) - (R0 : Int) = ((R1 - R0 : Nat) : Int) by omega]
  exact chk_grid hn (by omega) (by omega) fun y x hy hx => hgf.2 _ _ (by omega) (by omega)
theorem crp_fit {n m : List UInt8} {w h c0 c1 r0 r1 : Int} {s t : List Nat} (hs : chkPic n w h s = 0) (ht : chkPic m w h t = 0) (hf : Fit2 s t) (h1 : 0 ≤ c0 ∧ c0 < c1 ∧ c1 ≤ w) (h2 : 0 ≤ r0 ∧ r0 < r1 ∧ r1 ≤ h) :
    Fit2 (crpI w h s c0 c1 r0 r1) (crpI w h t c0 c1 r0 r1) ∧ sumL (crpI w h s c0 c1 r0 r1) (crpI w h t c0 c1 r0 r1) = crpI w h (sumL s t) c0 c1 r0 r1 := by
  obtain ⟨hn, W, H, rfl, rfl, hw, hh, f, hgf⟩ := of_chk hs
  obtain ⟨_, W', H', e1, e2, _, _, g, hgg⟩ := of_chk ht
  obtain rfl : W' = W := by omega
  obtain rfl : H' = H := by omega
  have hfg := fit_of hgf hgg hf
  obtain ⟨C0, rfl⟩ := Int.eq_ofNat_of_zero_le (show 0 ≤ c0 by omega)
  obtain ⟨C1, rfl⟩ := Int.eq_ofNat_of_zero_le (show 0 ≤ c1 by omega)
  obtain ⟨R0, rfl⟩ := Int.eq_ofNat_of_zero_le (show 0 ≤ r0 by omega)
  obtain ⟨R1, rfl⟩ := Int.eq_ofNat_of_zero_le (show 0 ≤ r1 by omega)
  rw [hgf.1, hgg.1, sum_grid, crp_grid f (by omega) (by omega), crp_grid g (by omega) (by omega), crp_grid (sumG f g) (by omega) (by omega), sum_grid]
  exact ⟨fit_grid fun y x hy hx => hfg _ _ (by omega) (by omega), rfl⟩
theorem bes_chk {n m : List UInt8} {w1 w2 h : Int} {s t : List Nat} (hs : chkPic n w1 h s = 0) (ht : chkPic m w2 h t = 0) (hw : w1 + w2 ≤ 64) : chkPic n (w1 + w2) h (besI w1 w2 h s t) = 0 := by
  obtain ⟨hn, W, H, rfl, rfl, hw1, hh, f, hgf⟩ := of_chk hs
  obtain ⟨_, W', H', rfl, e2, hw2, _, g, hgg⟩ := of_chk ht
  obtain rfl : H' = H := by omega
  rw [hgf.1, hgg.1, bes_grid, show (W : Int) + (W' : Int) = ((W + W' : Nat) : Int) by omega]
  refine chk_grid hn (by omega) hh fun y x hy hx => ?_
  by_cases h0 : x < W
  · simp only [if_pos h0]; exact hgf.2 _ _ hy h0
  · simp only [if_neg h0]; exact hgg.2 _ _ hy (by omega)
theorem bes_join {n : List UInt8} {w h x r0 r1 : Int} {s : List Nat} (hs : chkPic n w h s = 0) (h1 : 0 < x ∧ x < w) (h2 : 0 ≤ r0 ∧ r0 < r1 ∧ r1 ≤ h) : besI (x - 0) (w - x) (r1 - r0) (crpI w h s 0 x r0 r1) (crpI w h s x w r0 r1) = crpI w h s 0 w r0 r1 := by
  obtain ⟨hn, W, H, rfl, rfl, hw, hh, f, hgf⟩ := of_chk hs
  obtain ⟨X, rfl⟩ := Int.eq_ofNat_of_zero_le (show 0 ≤ x by omega)
  obtain ⟨R0, rfl⟩ := Int.eq_ofNat_of_zero_le (show 0 ≤ r0 by omega)
  obtain ⟨R1, rfl⟩ := Int.eq_ofNat_of_zero_le (show 0 ≤ r1 by omega)
  have e1 := crp_grid (W := W) (H := H) (C0 := 0) (C1 := X) (R0 := R0) (R1 := R1) f (by omega) (by omega)
  have e2 := crp_grid (W := W) (H := H) (C0 := X) (C1 := W) (R0 := R0) (R1 := R1) f (by omega) (by omega)
  have e3 := crp_grid (W := W) (H := H) (C0 := 0) (C1 := W) (R0 := R0) (R1 := R1) f (by omega) (by omega)
  rw [show ((0 : Nat) : Int) = 0 from rfl] at e1 e3
  rw [hgf.1, e1, e2, e3, Int.sub_zero, Nat.sub_zero, Nat.sub_zero, show (W : Int) - (X : Int) = ((W - X : Nat) : Int) by omega, show (R1 : Int) - (R0 : Int) = ((R1 - R0 : Nat) : Int) by omega, bes_grid, show X + (W - X) = W by omega]
  refine grid_ext fun y x hy hx => ?_
  by_cases h0 : x < X
  · rw [if_pos h0]
  · rw [if_neg h0, show X + (x - X) = 0 + x by omega]
theorem abo_join {n : List UInt8} {w h x y : Int} {s : List Nat} (hs : chkPic n w h s = 0) (h2 : 0 < y ∧ y < h) : aboI (x - 0 + (w - x)) (y - 0) (h - y) (crpI w h s 0 w 0 y) (crpI w h s 0 w y h) = s := by
  obtain ⟨hn, W, H, rfl, rfl, hw, hh, f, hgf⟩ := of_chk hs
  obtain ⟨Y, rfl⟩ := Int.eq_ofNat_of_zero_le (show 0 ≤ y by omega)
  have e1 := crp_grid (W := W) (H := H) (C0 := 0) (C1 := W) (R0 := 0) (R1 := Y) f (by omega) (by omega)
  have e2 := crp_grid (W := W) (H := H) (C0 := 0) (C1 := W) (R0 := Y) (R1 := H) f (by omega) (by omega)
  rw [show ((0 : Nat) : Int) = 0 from rfl] at e1 e2
  rw [show x - 0 + ((W : Int) - x) = (W : Int) by omega, hgf.1, e1, e2, Int.sub_zero, Nat.sub_zero, Nat.sub_zero, show (H : Int) - (Y : Int) = ((H - Y : Nat) : Int) by omega, abo_grid, show Y + (H - Y) = H by omega]
  refine grid_ext fun y x hy hx => ?_
  by_cases h0 : y < Y
  · rw [if_pos h0, Nat.zero_add, Nat.zero_add]
  · rw [if_neg h0, Nat.zero_add, show Y + (y - Y) = y by omega]
def fldS (w h : Int) (s : List Nat) (f : Int) : List Nat := (evI w h s f).flatten
theorem fld_facts {n m : List UInt8} {w h : Int} {s t : List Nat} (hs : chkPic n w h s = 0) (ht : chkPic m w h t = 0) (hf : Fit2 s t) (F : Nat) (hF : (F : Int) + 1 ≤ h) :
    chkPic n w ((h - (F : Int) + 1) / 2) (fldS w h s F) = 0 ∧ Fit2 (fldS w h s F) (fldS w h t F) ∧ sumL (fldS w h s F) (fldS w h t F) = fldS w h (sumL s t) F := by
  obtain ⟨hn, W, H, rfl, rfl, hw, hh, f, hgf⟩ := of_chk hs
  obtain ⟨_, W', H', e1, e2, _, _, g, hgg⟩ := of_chk ht
  obtain rfl : W' = W := by omega
  obtain rfl : H' = H := by omega
  have hfg := fit_of hgf hgg hf
  have e3 : ((H' : Int) - (F : Int) + 1) / 2 = (((((H' : Int) - (F : Int) + 1) / 2).toNat : Nat) : Int) := by omega
  unfold fldS
  rw [hgf.1, hgg.1, sum_grid, ev_grid, ev_grid, ev_grid, sum_grid]
  refine ⟨?_, fit_grid fun y x hy hx => hfg _ _ (by omega) hx, rfl⟩
  conv => lhs; arg 3; rw [e3]
  exact chk_grid hn hw (by omega) fun y x hy hx => hgf.2 _ _ (by omega) hx
theorem fld_chk {n : List UInt8} {w h : Int} {s : List Nat} (hs : chkPic n w h s = 0) (F : Nat) (hF : (F : Int) + 1 ≤ h) : chkPic n w ((h - (F : Int) + 1) / 2) (fldS w h s F) = 0 := by
  obtain ⟨hn, W, H, rfl, rfl, hw, hh, f, hgf⟩ := of_chk hs
  have e3 : ((H : Int) - (F : Int) + 1) / 2 = (((((H : Int) - (F : Int) + 1) / 2).toNat : Nat) : Int) := by omega
  unfold fldS
  rw [hgf.1, ev_grid]
  conv => lhs; arg 3; rw [e3]
  exact chk_grid hn hw (by omega) fun y x hy hx => hgf.2 _ _ (by omega) hx
theorem wov_join {n : List UInt8} {w h : Int} {s : List Nat} (hs : chkPic n w h s = 0) : wovI n w ((h - 0 + 1) / 2) ((h - 1 + 1) / 2) (fldS w h s 0) (fldS w h s 1) = s := by
  obtain ⟨hn, W, H, rfl, rfl, hw, hh, f, hgf⟩ := of_chk hs
  have a0 := ev_grid W H 0 f
  have a1 := ev_grid W H 1 f
  rw [show ((0 : Nat) : Int) = 0 from rfl] at a0
  rw [show ((1 : Nat) : Int) = 1 from rfl] at a1
  have e0 : ((H : Int) - 0 + 1) / 2 = (((((H : Int) - 0 + 1) / 2).toNat : Nat) : Int) := by omega
  have e1 : ((H : Int) - 1 + 1) / 2 = (((((H : Int) - 1 + 1) / 2).toNat : Nat) : Int) := by omega
  unfold fldS
  rw [hgf.1, a0, a1]
  conv => lhs; arg 3; rw [e0]
  conv => lhs; arg 4; rw [e1]
  rw [wov_grid _ _ _ _ _ _ (by omega), show (((H : Int) - 0 + 1) / 2).toNat + (((H : Int) - 1 + 1) / 2).toNat = H by omega]
  refine grid_ext fun y x hy hx => ?_
  by_cases h0 : y % 2 = 0
  · rw [if_pos h0, show 0 + 2 * (y / 2) = y by omega]
  · rw [if_neg h0, show 1 + 2 * (y / 2) = y by omega]
theorem energies (f g : Nat → Int) : ∀ n, (∀ i, i < n → (f i).natAbs < 16777216 ∧ (g i).natAbs < 16777216 ∧ (f i + g i).natAbs < 16777216 ∧ (f i - g i).natAbs < 16777216) →
    sqS (tab n fun i => f i + g i) + sqS (tab n fun i => f i - g i) = 2 * sqS (tab n f) + 2 * sqS (tab n g)
  | 0, _ => rfl
  | n + 1, h => by
    have ih := energies f g n fun i hi => h i (by omega)
    have e : ∀ a b : Int, (a + b) * (a + b) + (a - b) * (a - b) = 2 * (a * a) + 2 * (b * b) := fun a b => by
      simp only [Int.add_mul, Int.mul_add, Int.sub_mul, Int.mul_sub]
      have := Int.mul_comm a b
      omega
    have en := e (f n) (g n)
    simp only [tab_succ, sqS_app, sqS, Int.add_zero]
    omega
theorem energy_law {n m : List UInt8} {w h : Int} {s t : List Nat} (hs : chkPic n w h s = 0) (ht : chkPic m w h t = 0) : sqS (List.map six (sumL s t)) + sqS (List.map six (sumL s (negL t))) = 2 * sqS (List.map six s) + 2 * sqS (List.map six t) := by
  obtain ⟨_, _, _, c4, c5⟩ := chkPic_zero.1 hs
  obtain ⟨_, _, _, d4, d5⟩ := chkPic_zero.1 ht
  have hl : t.length = s.length := by omega
  have e1 : List.map six s = tab s.length fun i => six (List.getD s i 0) := map_tab s 0 six
  have e2 : List.map six t = tab s.length fun i => six (List.getD t i 0) := by rw [map_tab t 0 six, hl]
  have e3 : List.map six (sumL s t) = tab s.length fun i => six (List.getD s i 0) + six (List.getD t i 0) := by
    unfold sumL
    rw [tab_map]
    refine tab_ext fun i hi => ?_
    have h1 := chk_six (ok_at c5 hi)
    have h2 := chk_six (ok_at d5 (show i < t.length by omega))
    exact six_smp (by omega)
  have e4 : List.map six (sumL s (negL t)) = tab s.length fun i => six (List.getD s i 0) - six (List.getD t i 0) := by
    unfold sumL negL
    rw [tab_map]
    refine tab_ext fun i hi => ?_
    have h1 := chk_six (ok_at c5 hi)
    have h2 := chk_six (ok_at d5 (show i < t.length by omega))
    rw [tab_get (by omega), six_smp (n := -(six (List.getD t i 0))) (by omega), six_smp (by omega)]
    omega
  rw [e1, e2, e3, e4]
  refine energies _ _ _ fun i hi => ?_
  have h1 := chk_six (ok_at c5 hi)
  have h2 := chk_six (ok_at d5 (show i < t.length by omega))
  omega
theorem sqS_pic {n : List UInt8} {w h : Int} {s : List Nat} (hs : chkPic n w h s = 0) : 0 ≤ sqS (List.map six s) ∧ sqS (List.map six s) ≤ 1099511627776 := by
  obtain ⟨_, c2, c3, c4, c5⟩ := chkPic_zero.1 hs
  have := mul_fits c2 c3
  have h1 := sqS_bd (l := List.map six s) fun n hn => by
    obtain ⟨b, hb, rfl⟩ := List.mem_map.1 hn
    exact chk_six (c5 b hb)
  rw [List.length_map] at h1
  omega
theorem same_self {n : List UInt8} {w h w' h' : Int} {s s' : List Nat} (hs : chkPic n w h s = 0) (e1 : w' = w) (e2 : h' = h) (e3 : s' = s) : samePic n w' h' s' n w h s = true := by
  subst e1; subst e2; subst e3
  unfold samePic
  rw [sameS_self (chkPic_zero.1 hs).2.2.2.2]
  simp
end Go.Sx.U

namespace Go.Sx.U
open Ieee
theorem xor31_mod (b : Nat) : (b ^^^ 2 ^ 31) % 2147483648 = b % 2147483648 := by
  show _ % 2 ^ 31 = _ % 2 ^ 31
  refine Nat.eq_of_testBit_eq fun i => ?_
  rw [Nat.testBit_mod_two_pow, Nat.testBit_mod_two_pow, Nat.testBit_xor, Nat.testBit_two_pow]
  by_cases h : i < 31
  · have : ¬ 31 = i := by omega
    simp [h, this]
  · simp [h]
theorem xor31_div (b : Nat) : ((b ^^^ 2 ^ 31) / 2147483648 % 2 == 1) = !(b / 2147483648 % 2 == 1) := by
  have h1 := Nat.testBit_eq_decide_div_mod_eq (x := b ^^^ 2 ^ 31) (i := 31)
  have h2 := Nat.testBit_eq_decide_div_mod_eq (x := b) (i := 31)
  rw [Nat.testBit_xor, Nat.testBit_two_pow_self, h2] at h1
  have e1 : ((b ^^^ 2 ^ 31) / 2147483648 % 2 == 1) = decide ((b ^^^ 2 ^ 31) / 2 ^ 31 % 2 = 1) := by
    rw [Bool.eq_iff_iff]; simp
  have e2 : (b / 2147483648 % 2 == 1) = decide (b / 2 ^ 31 % 2 = 1) := by
    rw [Bool.eq_iff_iff]; simp
  rw [e1, e2, ← h1]
  simp
theorem read_neg (b : Nat) : single.read (Op.negFloat .f32 b) = (single.read b).opposite := by
  show single.read (b ^^^ 2 ^ 31) = _
  unfold Format.read
  simp only [single_binade, single_inf, single_sign, single_least, xor31_mod, xor31_div]
  split
  · rfl
  · split
    · rfl
    · split <;> rfl
theorem neg_s {b : Nat} {n : Int} (h : isS b n) : isS (Op.negFloat .f32 b) (-n) := by
  obtain ⟨s, m, e, e1⟩ := num_of h.1
  have hv := h.2
  have e2 : single.read (Op.negFloat .f32 b) = .number (!s) m e := by rw [read_neg, e1]; rfl
  refine ⟨numW_of e2, ?_⟩
  rw [vW_num e1, signed_eq] at hv
  rw [vW_num e2, signed_eq]
  generalize ((m * 2 ^ (e + 149).toNat : Nat) : Int) = q at *
  generalize ((2 ^ 149 : Nat) : Int) = r at *
  rw [Int.neg_mul]
  cases s <;> simp at * <;> omega
theorem max_s {a b : Nat} {m n : Int} (ha : isS a m) (hb : isS b n) : ∃ z, maxF .f32 a b = some z ∧ isS z (max m n) := by
  have ho : Ieee.Format.order (FloatKind.format .f32) a b = some (compare m n) := isS_order ha hb
  unfold maxF
  rw [ho]
  rcases Int.lt_trichotomy m n with h | h | h
  · rw [Int.compare_eq_lt.2 h]
    exact ⟨b, rfl, by rw [Int.max_eq_right (by omega)]; exact hb⟩
  · subst h
    rw [show compare m m = Ordering.eq by simp]
    refine ⟨_, rfl, ?_⟩
    rw [Int.max_self]
    split
    · exact hb
    · exact ha
  · rw [Int.compare_eq_gt.2 h]
    exact ⟨a, rfl, by rw [Int.max_eq_left (by omega)]; exact ha⟩
theorem isS_500 : isS 1140457472 8000 := isS_lit _ false 16384000 (-15) _ (by decide) (by decide)
theorem test500 {a b : Nat} (ha : chkS a = 0) (hb : chkS b = 0) : (Option.bind (maxF .f32 a (Op.negFloat .f32 a)) fun c => Option.bind (maxF .f32 c b) fun c => Option.bind (maxF .f32 c (Op.negFloat .f32 b)) fun c => some c).isSome = true ∧
    ((Ieee.Format.order (FloatKind.format .f32) (Option.getD (Option.bind (maxF .f32 a (Op.negFloat .f32 a)) fun c => Option.bind (maxF .f32 c b) fun c => Option.bind (maxF .f32 c (Op.negFloat .f32 b)) fun c => some c) 0) 1140457472 == some Ordering.gt) = false → (-8000 ≤ six a ∧ six a ≤ 8000) ∧ (-8000 ≤ six b ∧ six b ≤ 8000)) := by
  have h1 := isS_chk ha
  have h2 := isS_chk hb
  obtain ⟨z1, e1, k1⟩ := max_s h1 (neg_s h1)
  obtain ⟨z2, e2, k2⟩ := max_s k1 h2
  obtain ⟨z3, e3, k3⟩ := max_s k2 (neg_s h2)
  rw [e1, Option.bind_some, e2, Option.bind_some, e3, Option.bind_some]
  refine ⟨rfl, fun h => ?_⟩
  have h : decide (8000 < max (max (max (six a) (-(six a))) (six b)) (-(six b))) = false := by rw [← gt_s k3 isS_500]; exact h
  have h := of_decide_eq_false h
  omega
end Go.Sx.U

namespace Go.Sx
open U
set_option maxHeartbeats 1000000 in
theorem fn3 (n1 : List UInt8) (w1 h1 : Int) (s1 : List Nat) (n2 : List UInt8) (w2 h2 : Int) (s2 : List Nat) (cut : List Int) (hc : cut.length = 2) (hb : ∀ x ∈ cut, 0 ≤ x ∧ x ≤ 255) : Fn P1 gl1 3 [picV n1 w1 h1 s1, picV n2 w2 h2 s2, .agg [.arr 2 (.int .u8) cut]] (.val (bV true)) true := by
  refine Fn.flat ?_ rfl
  refine fn_of false [(5, sp5), (6, sp6), (8, sp8h), (7, sp7), (9, sp9), (10, sp10), (11, sp11), (12, sp12), (13, sp13), (14, sp14), (15, sp15), (16, sp16)] [] h3 0 Proofs.Try.f3 ⟨so5, so6, so8h, so7, so9, so10, so11, so12, so13, so14, so15, so16, trivial⟩ trivial (by kernel_rfl) rfl (by kernel_rfl) rfl rfl rfl ?_
  rw [vc3]
  try simp only [splitB_iff, -eq_self]
  refine ⟨fun _ => ⟨rfl, trivial⟩, fun e => ?_⟩
  simp only [bcond_l, bcond_r, Bool.or_eq_true, Bool.or_eq_false_iff, Bool.and_eq_true, Bool.and_eq_false_iff, Bool.not_eq_true', Bool.not_eq_false', decide_eq_true_eq, decide_eq_false_iff_not, beq_iff_eq, beq_eq_false_iff_ne, bne_iff_ne, bne_eq_false_iff_eq] at e
  obtain ⟨⟨⟨⟨⟨ea, eb⟩, ew⟩, eh⟩, ew2⟩, eh2⟩ := e
  subst ew
  subst eh
  have ha : chkPic n1 w1 h1 s1 = 0 := by
    unfold smallPic at ea
    simp only [Bool.and_eq_true, decide_eq_true_eq] at ea
    exact ea.2
  have hb2 : chkPic n2 w1 h1 s2 = 0 := by
    unfold smallPic at eb
    simp only [Bool.and_eq_true, decide_eq_true_eq] at eb
    exact eb.2
  obtain ⟨c1, c2, c3, c4, c5⟩ := chkPic_zero.1 ha
  obtain ⟨d1, d2, d3, d4, d5⟩ := chkPic_zero.1 hb2
  have hll : s2.length = s1.length := by omega
  have hm := mul_fits c2 c3
  refine ⟨⟨0, ⟨Nat.zero_le _, fun j hj => absurd hj (Nat.not_lt_zero _)⟩, by (repeat' (first | exact trivial | exact rfl | apply And.intro))⟩, fun g hg => ⟨fun hlt => ?_, fun hge => ?_⟩⟩
  · have hlt : g < s1.length := by simpa using hlt
    have t5 := test500 (ok_at c5 hlt) (ok_at d5 (show g < s2.length by omega))
    refine ⟨by omega, by omega, by omega, by omega, t5.1, fun _ => ⟨rfl, trivial⟩, fun e5 => ⟨by simp only [fits]; omega, g + 1, ⟨hlt, fun j hj => ?_⟩, by omega, by omega, by (repeat' (first | exact trivial | exact rfl | apply And.intro))⟩⟩
    by_cases e : j < g
    · exact hg.2 j e
    · have : j = g := by omega
      subst this
      exact t5.2 e5
  have hge : ¬ g < s1.length := by simpa using hge
  have hB : ∀ j, j < s1.length → B500 s1 j ∧ B500 s2 j := fun j hj => hg.2 j (by omega)
  clear ea eb
  have F : Fit2 s1 s2 := fun i hi => by have := hB i hi; unfold B500 at this; omega
  have Fn : Fit2 s1 (negL s2) := fun i hi => by
    have := hB i hi
    unfold B500 at this
    unfold negL
    rw [tab_get (by omega), six_smp (by omega)]
    omega
  have hN := neg_chk hb2
  have hS := sum_chk ha hb2 F
  have hD := sum_chk ha hN Fn
  have en : (sqS (List.map six (sumL s1 s2)) + sqS (List.map six (sumL s1 (negL s2))) != 2 * sqS (List.map six s1) + 2 * sqS (List.map six s2)) = false := by
    rw [energy_law ha hb2]; simp
  have b1 := sqS_pic ha
  have b2 := sqS_pic hb2
  have b3 := sqS_pic hS
  have b4 := sqS_pic hD
  have u0 : 0 ≤ List.getD cut 0 0 ∧ List.getD cut 0 0 ≤ 255 := hb _ (getD_mem' (by omega))
  have u1 : 0 ≤ List.getD cut 1 0 ∧ List.getD cut 1 0 ≤ 255 := hb _ (getD_mem' (by omega))
  obtain ⟨x, hx, xb⟩ : ∃ x, 1 + List.getD cut 0 0 % (w1 - 1) = x ∧ (0 < x ∧ x < w1) := ⟨_, rfl, by
    have h1 := Int.emod_nonneg (List.getD cut 0 0) (show w1 - 1 ≠ 0 by omega)
    have h2 := Int.emod_lt_of_pos (List.getD cut 0 0) (show 0 < w1 - 1 by omega)
    omega⟩
  obtain ⟨y, hy, yb⟩ : ∃ y, 1 + List.getD cut 1 0 % (h1 - 1) = y ∧ (0 < y ∧ y < h1) := ⟨_, rfl, by
    have h1' := Int.emod_nonneg (List.getD cut 1 0) (show h1 - 1 ≠ 0 by omega)
    have h2 := Int.emod_lt_of_pos (List.getD cut 1 0) (show 0 < h1 - 1 by omega)
    omega⟩
  simp only [hx, hy, -eq_self]
  have X0 : 0 ≤ (0 : Int) ∧ 0 < x ∧ x ≤ w1 := by omega
  have X1 : 0 ≤ x ∧ x < w1 ∧ w1 ≤ w1 := by omega
  have Y0 : 0 ≤ (0 : Int) ∧ 0 < y ∧ y ≤ h1 := by omega
  have Y1 : 0 ≤ y ∧ y < h1 ∧ h1 ≤ h1 := by omega
  have WW : 0 ≤ (0 : Int) ∧ 0 < w1 ∧ w1 ≤ w1 := by omega
  have a00 := crp_chk ha X0 Y0
  have a01 := crp_chk ha X1 Y0
  have a10 := crp_chk ha X0 Y1
  have a11 := crp_chk ha X1 Y1
  have b00 := crp_chk hb2 X0 Y0
  have b01 := crp_chk hb2 X1 Y0
  have b10 := crp_chk hb2 X0 Y1
  have b11 := crp_chk hb2 X1 Y1
  have s00 := crp_chk hS X0 Y0
  have s01 := crp_chk hS X1 Y0
  have s10 := crp_chk hS X0 Y1
  have s11 := crp_chk hS X1 Y1
  obtain ⟨F00, e00⟩ := crp_fit ha hb2 F X0 Y0
  obtain ⟨F01, e01⟩ := crp_fit ha hb2 F X1 Y0
  obtain ⟨F10, e10⟩ := crp_fit ha hb2 F X0 Y1
  obtain ⟨F11, e11⟩ := crp_fit ha hb2 F X1 Y1
  have j0 := bes_join hS xb Y0
  have j1 := bes_join hS xb Y1
  have r0 := bes_chk s00 s01 (by omega)
  have r1 := bes_chk s10 s11 (by omega)
  rw [j0] at r0
  rw [j1] at r1
  have jj := abo_join (x := x) hS yb
  have p0 : chkPic n1 w1 ((h1 - 0 + 1) / 2) (evI w1 h1 s1 0).flatten = 0 := fld_chk ha 0 (by omega)
  have p1 : chkPic n1 w1 ((h1 - 1 + 1) / 2) (evI w1 h1 s1 1).flatten = 0 := fld_chk ha 1 (by omega)
  have q0 : chkPic n2 w1 ((h1 - 0 + 1) / 2) (evI w1 h1 s2 0).flatten = 0 := fld_chk hb2 0 (by omega)
  have q1 : chkPic n2 w1 ((h1 - 1 + 1) / 2) (evI w1 h1 s2 1).flatten = 0 := fld_chk hb2 1 (by omega)
  have t0 : chkPic n1 w1 ((h1 - 0 + 1) / 2) (evI w1 h1 (sumL s1 s2) 0).flatten = 0 := fld_chk hS 0 (by omega)
  have t1 : chkPic n1 w1 ((h1 - 1 + 1) / 2) (evI w1 h1 (sumL s1 s2) 1).flatten = 0 := fld_chk hS 1 (by omega)
  have f0 : Fit2 (evI w1 h1 s1 0).flatten (evI w1 h1 s2 0).flatten := (fld_facts ha hb2 F 0 (by omega)).2.1
  have f1 : Fit2 (evI w1 h1 s1 1).flatten (evI w1 h1 s2 1).flatten := (fld_facts ha hb2 F 1 (by omega)).2.1
  have g0 : sumL (evI w1 h1 s1 0).flatten (evI w1 h1 s2 0).flatten = (evI w1 h1 (sumL s1 s2) 0).flatten := (fld_facts ha hb2 F 0 (by omega)).2.2
  have g1 : sumL (evI w1 h1 s1 1).flatten (evI w1 h1 s2 1).flatten = (evI w1 h1 (sumL s1 s2) 1).flatten := (fld_facts ha hb2 F 1 (by omega)).2.2
  have wj : wovI n1 w1 ((h1 - 0 + 1) / 2) ((h1 - 1 + 1) / 2) (evI w1 h1 (sumL s1 s2) 0).flatten (evI w1 h1 (sumL s1 s2) 1).flatten = sumL s1 s2 := wov_join hS
  have l1 := sml ha
  have l2 := sml hb2
  have l3 := sml hN
  have l4 := sml hS
  have l5 := sml hD
  have m00 := sml a00
  have m01 := sml a01
  have m10 := sml a10
  have m11 := sml a11
  have n00 := sml b00
  have n01 := sml b01
  have n10 := sml b10
  have n11 := sml b11
  have o00 := sml s00
  have o01 := sml s01
  have o10 := sml s10
  have o11 := sml s11
  have v0 := sml r0
  have v1 := sml r1
  have k0 := sml p0
  have k1 := sml p1
  have k2 := sml q0
  have k3 := sml q1
  have k4 := sml t0
  have k5 := sml t1
  have same1 : samePic n1 (x - 0 + (w1 - x)) (y - 0 + (h1 - y)) (sumL s1 s2) n1 w1 h1 (sumL s1 s2) = true := same_self hS (by omega) (by omega) rfl
  have same2 : samePic n1 w1 ((h1 - 0 + 1) / 2 + (h1 - 1 + 1) / 2) (sumL s1 s2) n1 w1 h1 (sumL s1 s2) = true := same_self hS rfl (by omega) rfl
  simp only [fldP, e00, e01, e10, e11, j0, j1, jj, g0, g1, wj, same1, same2, -eq_self]
  have sn : (bif bif bif (0 : Int) != 0 then true else (0 : Int) != 0 then true else (0 : Int) != 0 then true else !true) = false := rfl
  have lc : cut.length = 2 := hc
  have i1 : 1 ≤ (h1 - 1 + 1) / 2 ∧ (h1 - 1 + 1) / 2 ≤ (h1 - 0 + 1) / 2 ∧ (h1 - 0 + 1) / 2 ≤ (h1 - 1 + 1) / 2 + 1 ∧ (h1 - 0 + 1) / 2 + (h1 - 1 + 1) / 2 ≤ 64 := by omega
  repeat' first | assumption | apply And.intro | intro _
  all_goals first | assumption | rfl | trivial | omega | (simp only [fits]; omega) | exact no en (by assumption) | exact no sn (by assumption) | skip
end Go.Sx

namespace Go.Sx
open Go.RowKit
def WF : (t : Ty) → t.T → Prop
  | .int k, n => (Lit.int k n).wf = true
  | .bool, _ => True
  | .str, l => List.length l ≤ maxLen
  | .flt k, n => (Lit.float k n).wf = true
  | .cpx _, _ => True
  | .fnp, _ => True
  | .opq _, _ => True
  | .sl t, xs => List.length xs ≤ maxLen ∧ ∀ i (h : i < List.length xs), WF t (xs[i]'h)
  | .arr n t, xs => List.length xs = n ∧ ∀ i (h : i < List.length xs), WF t (xs[i]'h)
  | .pair a b, x => WF a x.1 ∧ WF b x.2
mutual
def rdChk (P : Program) : Nat → TypeId → Ty → Bool
  | 0, _, _ => false
  | n + 1, t, u => match P.underlying t with
      | some (.int k) => decide (u = .int k)
      | some .bool => decide (u = .bool)
      | some .string => decide (u = .str)
      | some (.float k) => decide (u = .flt k)
      | some (.slice e) => match u with
        | .sl v => decide (P.cellsOf e = v.sz) && decide (v.sz ≠ 0) && rdChk P n e v
        | _ => false
      | some (.array m e) => match u with
        | .arr m' v => decide (m = m') && decide (P.cellsOf e = v.sz) && decide (P.cellsOf t = m * v.sz) && rdChk P n e v
        | _ => false
      | some (.struct fs) => decide (P.cellsOf t = u.sz) && rdFs P n 0 fs.toList u
      | _ => false
def rdFs (P : Program) : Nat → Nat → List Field → Ty → Bool
  | 0, _, _, _ => false
  | n + 1, off, [f], u => decide (f.offset = off) && decide (P.cellsOf f.type = u.sz) && rdChk P n f.type u
  | n + 1, off, f :: r, .pair a b => decide (f.offset = off) && decide (P.cellsOf f.type = a.sz) && rdChk P n f.type a && rdFs P n (off + a.sz) r b
  | _, _, _, _ => false
end
def HW (w : World) : IH := fun b => w.heap[b]?
theorem addp (b off i : Nat) : (Addr.mk b off none).add i = ⟨b, off + i, none⟩ := by
  unfold Addr.add; split <;> simp_all
theorem cells_seg {w : World} {base : Nat} {a : Addr} {n : Nat} {cs : List Value} (h : w.cells? base a n = some cs) (hn : 0 < n) :
    ∃ b off c e fr, a = ⟨b, off, none⟩ ∧ w.heap[b]? = some (.cells c e fr) ∧ seg c off n = cs := by
  obtain ⟨_, hl, hc⟩ := World.cells?_some h
  obtain ⟨b, off, sp⟩ := a
  have h0 := hc 0 hn
  rw [List.getElem?_eq_getElem (by omega)] at h0
  have hs : sp = none := by
    have := World.cell?_spot h0
    simp only [Addr.add] at this
    cases sp with
    | none => rfl
    | some x => simp at this
  subst hs
  have hb : ∃ c e fr, w.heap[b]? = some (.cells c e fr) := by
    simp only [World.cell?, Addr.add] at h0
    split at h0
    · exact ⟨_, _, _, ‹_›⟩
    · cases h0
  obtain ⟨c, e, fr, hb⟩ := hb
  refine ⟨b, off, c, e, fr, rfl, hb, ?_⟩
  have hi : ∀ i, i < n → c[off + i]? = cs[i]? := by
    intro i hi
    have := hc i hi
    rw [addp] at this
    simpa [World.cell?, hb] using this
  apply List.ext_getElem?
  intro i
  simp only [seg, List.getElem?_take, List.getElem?_drop]
  split
  · rename_i h1
    rw [← hi i h1]; simp
  · rename_i h1
    rw [List.getElem?_eq_none (by omega)]
theorem choose_list {α : Type} (n : Nat) (p : Nat → α → Prop) (h : ∀ i, i < n → ∃ y, p i y) : ∃ ys : List α, ys.length = n ∧ ∀ i (hi : i < ys.length), p i (ys[i]'hi) := by
  induction n with
  | zero => exact ⟨[], rfl, fun i hi => by simp at hi⟩
  | succ n ih =>
    obtain ⟨ys, h1, h2⟩ := ih fun i hi => h i (by omega)
    obtain ⟨y, hy⟩ := h n (by omega)
    refine ⟨ys ++ [y], by simp [h1], fun i hi => ?_⟩
    by_cases hlt : i < ys.length
    · rw [List.getElem_append_left hlt]; exact h2 i hlt
    · simp at hi
      have : i = ys.length := by omega
      subst this
      simp
      rw [h1]; exact hy
theorem trod_rd_all {X : Type} {enc : TypeId × Value → X} {P : Program} {w : World} {base : Nat} {spare : Nat → Bool} {held : Bool} : ∀ (n : Nat),
    (∀ (t : TypeId) (u : Ty) (fuel : Nat) (cs : List Value) (x : DataW X × List MemPlace), rdChk P n t u = true → DataW.trod enc P w base spare held fuel t cs = some x → ∃ y : u.T, Rd (HW w) u y cs ∧ WF u y) ∧
    (∀ (off : Nat) (fs : List Field) (u : Ty) (fuel : Nat) (cs : List Value), rdFs P n off fs u = true → cs.length = off + u.sz →
      (∀ f ∈ fs, ∃ x, DataW.trod enc P w base spare held fuel f.type ((cs.drop f.offset).take (P.cellsOf f.type)) = some x) → ∃ y : u.T, Rd (HW w) u y (cs.drop off) ∧ WF u y) := by
  intro n
  induction n with
  | zero => exact ⟨fun _ _ _ _ _ h => by simp [rdChk] at h, fun _ _ _ _ _ h => by simp [rdFs] at h⟩
  | succ n ih =>
    refine ⟨?_, ?_⟩
    · intro t u fuel cs x h hx
      unfold rdChk at h
      split at h
      · rename_i k hu
        simp at h; subst h
        obtain ⟨m, rfl, _, hw⟩ := DataW.trod_int hu hx
        exact ⟨m, rfl, hw⟩
      · rename_i hu
        simp at h; subst h
        obtain ⟨m, rfl, _⟩ := DataW.trod_bool hu hx
        exact ⟨m, rfl, trivial⟩
      · rename_i hu
        simp at h; subst h
        obtain ⟨s, rfl, _, hw⟩ := DataW.trod_string hu hx
        refine ⟨s.data.toList, rfl, ?_⟩
        show s.data.toList.length ≤ maxLen
        rw [Array.length_toList]; exact hw
      · rename_i k hu
        simp at h; subst h
        cases fuel with
        | zero => simp [DataW.trod] at hx
        | succ m =>
          unfold DataW.trod at hx
          rw [hu] at hx
          have : ∃ b, cs = [.float k b] ∧ (Lit.float k b).wf = true := by split at hx <;> simp_all
          obtain ⟨b, rfl, hw⟩ := this
          exact ⟨b, rfl, hw⟩
      · rename_i e hu
        split at h
        · rename_i v
          simp only [Bool.and_eq_true, decide_eq_true_eq] at h
          obtain ⟨⟨h1, h2⟩, h3⟩ := h
          rcases DataW.trod_slice hu hx with ⟨rfl, _⟩ | ⟨a, len, cap, elems, rest, m, _, rfl, _, _, hlc, hm, hel, hei, _, _⟩
          · exact ⟨[], ⟨none, 0, rfl, Nat.le_refl _, .inl rfl⟩, by simp [WF]⟩
          · have hone : ∀ i, i < len → ∃ cs', w.cells? base (a.add (i * P.cellsOf e)) (P.cellsOf e) = some cs' ∧ ∃ y : v.T, Rd (HW w) v y cs' ∧ WF v y := by
              intro i hi
              have := hei i hi
              rw [List.getElem?_eq_getElem (by omega)] at this
              obtain ⟨cs', hc1, hc2⟩ := Option.bind_eq_some_iff.1 this
              exact ⟨cs', hc1, ih.1 _ _ _ _ _ h3 hc2⟩
            obtain ⟨ys, hy1, hy2⟩ := choose_list len (fun i (y : v.T) => ∃ cs', w.cells? base (a.add (i * P.cellsOf e)) (P.cellsOf e) = some cs' ∧ Rd (HW w) v y cs' ∧ WF v y)
              (fun i hi => by obtain ⟨cs', h1, y, h2⟩ := hone i hi; exact ⟨y, cs', h1, h2⟩)
            refine ⟨ys, ⟨some a, cap, by rw [hy1], by rw [hy1]; exact hlc, ?_⟩, by rw [hy1]; omega, fun i hi => ?_⟩
            · rcases Nat.eq_zero_or_pos ys.length with h0 | h0
              · exact .inl h0
              · right
                obtain ⟨cs0, hc0, _⟩ := hy2 0 h0
                obtain ⟨b, off, c, e', fr, ha, hb, _⟩ := cells_seg hc0 (by omega)
                have ha' : a = ⟨b, off, none⟩ := by rw [← ha]; simp [Addr.add]
                refine ⟨b, off, c, e', fr, by rw [ha'], hb, fun i hi => ?_⟩
                obtain ⟨cs', hc', hr, _⟩ := hy2 i hi
                obtain ⟨b', off', c', e'', fr', hab, hb', hsg⟩ := cells_seg hc' (by omega)
                rw [ha', addp] at hab
                simp only [Addr.mk.injEq] at hab
                obtain ⟨rfl, rfl, _⟩ := hab
                rw [hb] at hb'
                cases hb'
                rw [h1] at hsg
                rw [hsg]; exact hr
            · obtain ⟨_, _, _, hwf⟩ := hy2 i hi
              exact hwf
        · cases h
      · rename_i m e hu
        split at h
        · rename_i m' v
          simp only [Bool.and_eq_true, decide_eq_true_eq] at h
          obtain ⟨⟨⟨rfl, h1⟩, h2⟩, h3⟩ := h
          obtain ⟨xs, k, _, _, hl, hxl, hxi⟩ := DataW.trod_array hu hx
          obtain ⟨ys, hy1, hy2⟩ := choose_list m (fun i (y : v.T) => Rd (HW w) v y ((cs.drop (i * P.cellsOf e)).take (P.cellsOf e)) ∧ WF v y)
            (fun i hi => by
              have := hxi i hi
              rw [List.getElem?_eq_getElem (by omega)] at this
              exact ih.1 _ _ _ _ _ h3 this)
          refine ⟨ys, ⟨hy1, by rw [hl, h2], fun i hi => ?_⟩, hy1, fun i hi => (hy2 i hi).2⟩
          have := (hy2 i hi).1
          rw [h1] at this
          exact this
        · cases h
      · rename_i fs hu
        simp only [Bool.and_eq_true, decide_eq_true_eq] at h
        obtain ⟨xs, k, _, _, hl, hxl, hxi⟩ := DataW.trod_struct hu hx
        have := ih.2 0 fs.toList u k cs h.2 (by rw [hl, h.1]; omega) (fun f hf => by
          obtain ⟨i, hi, rfl⟩ := List.mem_iff_getElem.1 hf
          simp at hi
          have := hxi i fs[i] (by simp [hi])
          rw [List.getElem?_eq_getElem (by omega)] at this
          exact ⟨_, by simpa using this⟩)
        simpa using this
      · cases h
    · intro off fs u fuel cs h hl hf
      match fs, u, h, hl, hf with
      | [], u, h, _, _ => simp [rdFs] at h
      | [f], u, h, hl, hf =>
        simp only [rdFs, Bool.and_eq_true, decide_eq_true_eq] at h
        obtain ⟨⟨rfl, h1⟩, h2⟩ := h
        obtain ⟨x, hx⟩ := hf f (by simp)
        rw [h1, List.take_of_length_le (by simp; omega)] at hx
        exact ih.1 _ _ _ _ _ h2 hx
      | f :: g :: r, .pair a b, h, hl, hf =>
        simp only [rdFs, Bool.and_eq_true, decide_eq_true_eq] at h
        obtain ⟨⟨⟨rfl, h1⟩, h2⟩, h3⟩ := h
        simp only [Ty.sz] at hl
        obtain ⟨x, hx⟩ := hf f (by simp)
        rw [h1] at hx
        obtain ⟨y1, hy1, hw1⟩ := ih.1 _ _ _ _ _ h2 hx
        obtain ⟨y2, hy2, hw2⟩ := ih.2 _ _ _ fuel cs h3 (by omega) (fun g' hg => hf g' (List.mem_cons_of_mem _ hg))
        refine ⟨(y1, y2), ⟨hy1, ?_⟩, hw1, hw2⟩
        rw [List.drop_drop]; exact hy2
      | _ :: _ :: _, .int _, h, _, _ => simp [rdFs] at h
      | _ :: _ :: _, .bool, h, _, _ => simp [rdFs] at h
      | _ :: _ :: _, .str, h, _, _ => simp [rdFs] at h
      | _ :: _ :: _, .flt _, h, _, _ => simp [rdFs] at h
      | _ :: _ :: _, .cpx _, h, _, _ => simp [rdFs] at h
      | _ :: _ :: _, .sl _, h, _, _ => simp [rdFs] at h
      | _ :: _ :: _, .arr _ _, h, _, _ => simp [rdFs] at h
theorem trod_rd {X : Type} {enc : TypeId × Value → X} {P : Program} {w : World} {base : Nat} {spare : Nat → Bool} {held : Bool} (n : Nat)
    {t : TypeId} {u : Ty} (h : rdChk P n t u = true) {fuel : Nat} {cs : List Value} {x : DataW X × List MemPlace} (hx : DataW.trod enc P w base spare held fuel t cs = some x) : ∃ y : u.T, Rd (HW w) u y cs ∧ WF u y :=
  (trod_rd_all n).1 t u fuel cs x h hx
end Go.Sx

namespace Go.Sx
open Go.RowKit Go.ChangeShapes Go.WideShapes Go.ChangeAt
section
variable {X : Type} {enc : TypeId × Value → X} {P : Program} {w : World} {base base' : Nat} {spare : Nat → Bool} {held : Bool} {n : Nat} {t : TypeId} {u : Ty} {v : Value} {d : DataW X} {ps : List MemPlace}
theorem arg_agg (h : rdChk P n t u = true) (ha : aggOf P t = true) (hok : Value.okWide P w .any base' t v) (hT : DataW.Trod enc P w base spare held t v d ps) : ∃ (vs : List Value) (y : u.T), v = .agg ⟨vs⟩ ∧ Rd (HW w) u y vs ∧ WF u y := by
  obtain ⟨fuel, hT⟩ := hT
  have hv : ∃ cs, v = .agg cs := by
    unfold aggOf at ha
    unfold Value.okWide at hok
    split at hok
    · exact ⟨_, hok.choose_spec.1⟩
    · exact ⟨_, hok.choose_spec.1⟩
    · rename_i h1 h2
      split at ha
      · exact absurd ‹_› (h1 _)
      · exact absurd ‹_› (h2 _ _)
      · cases ha
  obtain ⟨cs, rfl⟩ := hv
  obtain ⟨y, h1, h2⟩ := trod_rd n h hT
  exact ⟨cs.toList, y, rfl, h1, h2⟩
end
theorem trodAll_below {X : Type} {enc : TypeId × Value → X} {P : Program} (hl : laidOutB P = true) {W W' : World} (hb : Below W.heap.size W W') : ∀ {ts : List TypeId} {vs : List Value} {ds : List (DataW X)} {ps : List MemPlace},
    (ts.all fun t => P.readableRec t && decide (t < P.types.size)) = true → DataW.TrodAll enc P W 0 (fun _ => true) true ts vs ds ps → (∀ x ∈ ps, x.block < W.heap.size) → DataW.TrodAll enc P W' 0 (fun b => decide (b < W.heap.size)) true ts vs ds ps
  | [], vs, ds, ps, _, h, _ => by
    cases vs <;> cases ds <;> simp_all [DataW.TrodAll]
  | t :: ts, vs, ds, ps, ht, h, hlt => by
    obtain ⟨v, vs', d, ds', p, q, rfl, rfl, rfl, h1, h2⟩ := trodAll_cons h
    simp only [List.all_cons, Bool.and_eq_true, decide_eq_true_eq] at ht
    refine trodAll_cons_mk (Below.trod hl ht.1.1 ht.1.2 h1 hb fun x hx => hlt x (by simp [hx])) (trodAll_below hl hb ht.2 h2 fun x hx => hlt x (by simp [hx]))
theorem law_post {X : Type} {enc : TypeId × Value → X} {P : Program} (hl : laidOutB P = true) {s : ChangeSpec} {f : Func} {tb : TypeId} {W W' : World} {args : Array Value} {ds gs : List (DataW X)} {before : List MemPlace} {r : Value}
    (hvars : s.vars = []) (hts : (f.params.toList.all fun t => P.readableRec t && decide (t < P.types.size)) = true) (hres : f.resultTypes = #[tb]) (htb : P.underlying tb = some .bool)
    (hfn : s.fn X ds = { results := [.lit (.bool true)], args := ds })
    (hW : DataW.Whole enc P f.params.toList s.vars false W args.toList ds gs before) (hb : Below W.heap.size W W') (hr : r = .bool true) :
    s.post enc P f false true false false W args r W' := by
  subst hr
  have hW' := hW
  obtain ⟨p, q, hA, hV, rfl, hfz, hnd⟩ := hW
  rw [hvars] at hV
  obtain ⟨rfl, rfl⟩ := trodVars_none hV
  have hlt : ∀ x ∈ p, x.block < W.heap.size := fun x hx => hW'.lt x (by simp [hx])
  refine ⟨ds, [], p ++ [], [], p, [], hW', ?_, ?_, ?_, hb.frame _, fun h => by cases h⟩
  · rw [List.append_nil, hfn, hres]
    exact trodAll_cons_mk (shut_bool htb _) trodAll_mk0
  · rw [List.append_nil, hfn]
    exact trodAll_below hl hb hts hA hlt
  · rw [List.append_nil, hfn, hvars]
    rfl
theorem law_calls {X : Type} {enc : TypeId × Value → X} {P : Program} (hl : laidOutB P = true) {s : ChangeSpec} {f : Func} {tb : TypeId} {fid : FuncId} {W : World} {args : Array Value} {ds gs : List (DataW X)} {before : List MemPlace}
    (hvars : s.vars = []) (hts : (f.params.toList.all fun t => P.readableRec t && decide (t < P.types.size)) = true) (hres : f.resultTypes = #[tb]) (htb : P.underlying tb = some .bool)
    (hfn : s.fn X ds = { results := [.lit (.bool true)], args := ds })
    (hW : DataW.Whole enc P f.params.toList s.vars false W args.toList ds gs before)
    {gl : Nat → Option ((t : Ty) × t.T)} {avs : List V} (hF : Fn P gl fid avs (.val (.one (.bool true))) true) (hg : GlobOk gl (HW W)) (ha : DenVs ρ0 (HW W) avs args.toList) :
    Calls P fid args W fun e W' => ∃ v, e = .returned v ∧ s.post enc P f false true false false W args v W' := by
  refine (hF W (HW W) args.toList (fun b o h => h) hg ha).mono fun e W' h => ?_
  obtain ⟨v, H', rfl, hb, _, _, hd⟩ := h
  exact ⟨v, rfl, law_post hl hvars hts hres htb hfn hW hb hd.2⟩
end Go.Sx

namespace Go.Sx
open Go.RowKit
theorem wf_u8 {n : Int} (h : (Lit.int .u8 n).wf = true) : fits .u8 n := by
  simp [Lit.wf, IntKind.min, IntKind.max, IntKind.signed, IntKind.bits] at h
  simp only [fits]
  omega
end Go.Sx
