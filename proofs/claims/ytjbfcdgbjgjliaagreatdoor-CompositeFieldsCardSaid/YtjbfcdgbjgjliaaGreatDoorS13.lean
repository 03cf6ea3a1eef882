/- A verified symbolic run of functions, part 13: lemmas, no claim of their own. -/
import Derived.Test.YtjbfcdgbjgjliaaGreatDoorS12
/- What the engine asks, written out (printed by a program). -/
namespace Go.Sx
open U
theorem vc139 (l : List Nat) : exF (env false [(137, sp137)] []) h139 0 139 Proofs.Tryz.f139 [.one (.sl (.flt .f32) l), .one (.fn 137 [] [])] (.val (.one (.frs (.int .i64) (sixs l)))) = (let q0 := (↑(List.length l) : Int); (∃ (g : Nat), Nat.le g (List.length l) ∧ (0 : Int) = (↑g : Int) ∧ q0 = q0 ∧ l = l ∧ List.map six (List.take g l) = [] ∧ True) ∧ ∀ (g : Nat), Nat.le g (List.length l) → splitB (decide ((↑g : Int) < q0)) (((0 : Int) ≤ (↑g : Int) ∧ (↑g : Int) < q0) ∧ chkS (List.getD l g (0 : Nat)) = (0 : Int) ∧ room (List.length (List.map six (List.take g l)) + (1 : Nat)) (8 : Nat) ∧ fits IntKind.i64 ((↑g : Int) + (1 : Int)) ∧ ∃ (g' : Nat), Nat.le g' (List.length l) ∧ List.length l - g' < List.length l - g ∧ (↑g : Int) + (1 : Int) = (↑g' : Int) ∧ q0 = q0 ∧ l = l ∧ List.map six (List.take g l) ++ [six (List.getD l g (0 : Nat))] = List.map six (List.take g' l) ∧ True) (List.map six (List.take g l) = sixs l ∧ True)) := by
  kernel_rfl
theorem vc166 (l : List Nat) : exF (env false [(136, sp136)] []) h139 0 166 Proofs.Tryz.f166 [.one (.sl (.flt .f32) l), .one (.fn 136 [] [])] (.val (.one (.frs (.int .i64) (l.map chkS)))) = (let q0 := (↑(List.length l) : Int); (∃ (g : Nat), Nat.le g (List.length l) ∧ (0 : Int) = (↑g : Int) ∧ q0 = q0 ∧ l = l ∧ List.map chkS (List.take g l) = [] ∧ True) ∧ ∀ (g : Nat), Nat.le g (List.length l) → splitB (decide ((↑g : Int) < q0)) (((0 : Int) ≤ (↑g : Int) ∧ (↑g : Int) < q0) ∧ room (List.length (List.map chkS (List.take g l)) + (1 : Nat)) (8 : Nat) ∧ fits IntKind.i64 ((↑g : Int) + (1 : Int)) ∧ ∃ (g' : Nat), Nat.le g' (List.length l) ∧ List.length l - g' < List.length l - g ∧ (↑g : Int) + (1 : Int) = (↑g' : Int) ∧ q0 = q0 ∧ l = l ∧ List.map chkS (List.take g l) ++ [chkS (List.getD l g (0 : Nat))] = List.map chkS (List.take g' l) ∧ True) (List.map chkS (List.take g l) = List.map chkS l ∧ True)) := by
  kernel_rfl
theorem vc159 (l : List Int) : exF (env false [(110, sp110)] []) h139 0 159 Proofs.Tryz.f159 [.one (.sl (.int .i64) l), .one (.fn 110 [] [])] (.val (.one (.frs (.flt .f32) (l.map smp)))) = (let q0 := (↑(List.length l) : Int); (∃ (g : Nat), Nat.le g (List.length l) ∧ (0 : Int) = (↑g : Int) ∧ q0 = q0 ∧ l = l ∧ List.map smp (List.take g l) = [] ∧ True) ∧ ∀ (g : Nat), Nat.le g (List.length l) → splitB (decide ((↑g : Int) < q0)) (((0 : Int) ≤ (↑g : Int) ∧ (↑g : Int) < q0) ∧ ((-8388608 : Int) ≤ List.getD l g (0 : Int) ∧ List.getD l g (0 : Int) ≤ (8388608 : Int)) ∧ room (List.length (List.map smp (List.take g l)) + (1 : Nat)) (4 : Nat) ∧ fits IntKind.i64 ((↑g : Int) + (1 : Int)) ∧ ∃ (g' : Nat), Nat.le g' (List.length l) ∧ List.length l - g' < List.length l - g ∧ (↑g : Int) + (1 : Int) = (↑g' : Int) ∧ q0 = q0 ∧ l = l ∧ List.map smp (List.take g l) ++ [smp (List.getD l g (0 : Int))] = List.map smp (List.take g' l) ∧ True) (List.map smp (List.take g l) = List.map smp l ∧ True)) := by
  kernel_rfl
theorem vc100 (l : List Nat) : exF (env false [(86, sp86)] []) h139 0 100 Proofs.Tryz.f100 [.one (.sl (.flt .f32) l)] (.val (.one (.frs (.int .i64) (sixs l)))) = (let q0 := (List.length l); (∃ (g : Nat), Nat.le g q0 ∧ (0 : Int) = (↑g : Int) ∧ l = l ∧ List.map six (List.take g l) = [] ∧ True) ∧ ∀ (g : Nat), Nat.le g q0 → splitB (decide ((↑g : Int) < (↑q0 : Int))) (((0 : Int) ≤ (↑g : Int) ∧ (↑g : Int) < (↑q0 : Int)) ∧ chkS (List.getD l g (0 : Nat)) = (0 : Int) ∧ room (List.length (List.map six (List.take g l)) + (1 : Nat)) (8 : Nat) ∧ fits IntKind.i64 ((↑g : Int) + (1 : Int)) ∧ ∃ (g' : Nat), Nat.le g' q0 ∧ List.length l - g' < List.length l - g ∧ (↑g : Int) + (1 : Int) = (↑g' : Int) ∧ l = l ∧ List.map six (List.take g l) ++ [six (List.getD l g (0 : Nat))] = List.map six (List.take g' l) ∧ True) (List.map six (List.take g l) = sixs l ∧ True)) := by
  kernel_rfl
theorem vc108 (l : List Nat) : exF (env false [(139, sp139)] []) h0 0 108 Proofs.Tryz.f108 [.one (.sl (.flt .f32) l)] (.val (.one (.frs (.int .i64) (sixs l)))) = (List.length l ≤ (1000000 : Nat) ∧ OkS l ∧ sixs l = sixs l ∧ True) := by
  kernel_rfl
theorem vc105 (l : List Nat) : exF (env false [(166, sp166), (95, sp95)] []) h0 0 105 Proofs.Tryz.f105 [.one (.sl (.flt .f32) l)] (.val (iV (chkSs l))) = (List.length l ≤ (1000000 : Nat) ∧ List.length (List.map chkS l) ≤ (1000000000 : Nat) ∧ first (List.map chkS l) = chkSs l ∧ True) := by
  kernel_rfl
theorem vc41 (l : List Nat) : exF (env false [(104, sp104), (95, sp95), (105, sp105)] []) h0 0 41 Proofs.Tryz.f41 [.one (.sl (.flt .f32) l)] (.val (iV (chkSig l))) = (let q0 := (↑(List.length l) : Int); ((0 : Int) ≤ q0 ∧ (0 : Int) < (4 : Int)) ∧ (2 : Nat) ≤ (1000000000 : Nat) ∧ splitB (first [whenE (decide ((256 : Int) < q0)) (5 : Int), whenE (q0 % (4 : Int) != (0 : Int)) (2 : Int)] != (0 : Int)) (first [whenE (decide ((256 : Int) < q0)) (5 : Int), whenE (q0 % (4 : Int) != (0 : Int)) (2 : Int)] = chkSig l ∧ True) (List.length l ≤ (1000000 : Nat) ∧ chkSs l = chkSig l ∧ True)) := by
  kernel_rfl
theorem vc103 (y u v : List Nat) : exF (env false [] []) h0 0 103 Proofs.Tryz.f103 [ptV y u v] (.val (iV (y.length : Int))) = ((↑(List.length y) : Int) = (↑(List.length y) : Int) ∧ True) := by
  kernel_rfl
theorem vc26 (y u v : List Nat) : exF (env false [(103, sp103), (41, sp41), (104, sp104), (95, sp95), (105, sp105)] []) h0 0 26 Proofs.Tryz.f26 [ptV y u v] (.val (iV (chkPt y u v))) = (let q0 := (↑(List.length y) : Int); ((0 : Int) ≤ q0 ∧ (0 : Int) < (4 : Int) ∧ fits IntKind.i64 (q0 / (4 : Int))) ∧ (3 : Nat) ≤ (1000000000 : Nat) ∧ splitB (first [chkSig y, whenE ((↑(List.length u) : Int) != q0 / (4 : Int)) (2 : Int), whenE ((↑(List.length v) : Int) != q0 / (4 : Int)) (2 : Int)] != (0 : Int)) (first [chkSig y, whenE ((↑(List.length u) : Int) != q0 / (4 : Int)) (2 : Int), whenE ((↑(List.length v) : Int) != q0 / (4 : Int)) (2 : Int)] = chkPt y u v ∧ True) (List.length u ≤ (1000000 : Nat) ∧ List.length v ≤ (1000000 : Nat) ∧ (2 : Nat) ≤ (1000000000 : Nat) ∧ first [chkSs u, chkSs v] = chkPt y u v ∧ True)) := by
  kernel_rfl
theorem vc130 (n : Int) : exF (env false [] []) h0 0 130 Proofs.Tryz.f130 [iV n] (.val (bV (lgI n))) = ((bif decide (n < (-16384 : Int)) then true else decide ((16384 : Int) < n)) = lgI n ∧ True) := by
  kernel_rfl
theorem vc138 (l : List Int) : exF (env false [(130, sp130), (159, sp159)] [fb157, fb194]) h138 3 138 Proofs.Tryz.f138 [.one (.sl (.int .i64) l)] (.tup [.one (.frs (.flt .f32) (smpsN l)), iV (lgE l)]) = (let q0 := (↑(List.length l) : Int); (∃ (g : Nat), (g ≤ List.length l ∧ ∀ (j : Nat), j < g → lgI (List.getD l j (0 : Int)) = false) ∧ (0 : Int) = (↑g : Int) ∧ q0 = q0 ∧ l = l ∧ True) ∧ ∀ (g : Nat), (g ≤ List.length l ∧ ∀ (j : Nat), j < g → lgI (List.getD l j (0 : Int)) = false) → splitB (decide ((↑g : Int) < q0)) (((0 : Int) ≤ (↑g : Int) ∧ (↑g : Int) < q0) ∧ splitB (lgI (List.getD l g (0 : Int))) (smpsN l = [] ∧ (4 : Int) = lgE l ∧ True) (fits IntKind.i64 ((↑g : Int) + (1 : Int)) ∧ ∃ (g' : Nat), (g' ≤ List.length l ∧ ∀ (j : Nat), j < g' → lgI (List.getD l j (0 : Int)) = false) ∧ List.length l - g' < List.length l - g ∧ (↑g : Int) + (1 : Int) = (↑g' : Int) ∧ q0 = q0 ∧ l = l ∧ True)) (List.length l ≤ (1000000 : Nat) ∧ Bd (8388608 : Int) l ∧ List.map smp l = smpsN l ∧ (0 : Int) = lgE l ∧ True)) := by
  kernel_rfl
theorem vc164 (x y : Int) : exF (env false [] []) h0 0 164 Proofs.Tryz.f164 [iV x, iV y] (.val (iV (plusI x y))) = (fits IntKind.i64 (x + y) ∧ x + y = plusI x y ∧ True) := by
  kernel_rfl
theorem vc118 (x y : Int) : exF (env false [] []) h0 0 118 Proofs.Tryz.f118 [iV x, iV y] (.val (iV (minusI x y))) = (fits IntKind.i64 (x - y) ∧ x - y = minusI x y ∧ True) := by
  kernel_rfl
theorem vc119 (x y : Int) : exF (env false [(120, sp120)] []) h0 0 119 Proofs.Tryz.f119 [iV x, iV y] (.val (iV (midI x y))) = (fits IntKind.i64 (x + y) ∧ ((-1000000000 : Int) ≤ x + y ∧ x + y ≤ (1000000000 : Int)) ∧ ((0 : Int) < (2 : Int) ∧ (2 : Int) ≤ (1000000000 : Int)) ∧ roundI (x + y) (2 : Int) = midI x y ∧ True) := by
  kernel_rfl
theorem vc171 (x y : Int) : exF (env false [] []) h0 0 171 Proofs.Tryz.f171 [iV x, iV y] (.val (iV (lessI x y))) = (fits IntKind.i64 ((2 : Int) * x) ∧ fits IntKind.i64 ((2 : Int) * x - y) ∧ (2 : Int) * x - y = lessI x y ∧ True) := by
  kernel_rfl
theorem vc173 (x y : Int) : exF (env false [] []) h0 0 173 Proofs.Tryz.f173 [iV x, iV y] (.val (iV (farI x y))) = (fits IntKind.i64 (x - y) ∧ fits IntKind.i64 (y - x) ∧ max (x - y) (y - x) = farI x y ∧ True) := by
  kernel_rfl
theorem vc117a (a b : List Int) : exF (env false [(164, sp164)] []) h117 0 117 Proofs.Tryz.f117 [.one (.sl (.int .i64) a), .one (.sl (.int .i64) b), .one (.fn 164 [] [])] (.val (.one (.frs (.int .i64) (combI plusI a b)))) = (let q1 := (List.length a); let q0 := (↑(List.length (List.replicate q1 (0 : Int))) : Int); (0 : Int) ≤ (↑q1 : Int) ∧ room q1 (8 : Nat) ∧ (∃ (g : Nat), Nat.le g q1 ∧ (0 : Int) = (↑g : Int) ∧ q0 = q0 ∧ a = a ∧ b = b ∧ List.replicate q1 (0 : Int) = fillTo (0 : Int) q1 (fun (i : Nat) => plusI (List.getD a i (0 : Int)) (List.getD b i (0 : Int))) g ∧ True) ∧ ∀ (g : Nat), Nat.le g q1 → splitB (decide ((↑g : Int) < q0)) (((0 : Int) ≤ (↑g : Int) ∧ (↑g : Int) < (↑q1 : Int)) ∧ ((0 : Int) ≤ (↑g : Int) ∧ (↑g : Int) < (↑(List.length b) : Int)) ∧ ((-2000000000 : Int) ≤ List.getD a g (0 : Int) ∧ List.getD a g (0 : Int) ≤ (2000000000 : Int)) ∧ ((-2000000000 : Int) ≤ List.getD b g (0 : Int) ∧ List.getD b g (0 : Int) ≤ (2000000000 : Int)) ∧ ((0 : Int) ≤ (↑g : Int) ∧ (↑g : Int) < (↑(List.length (fillTo (0 : Int) q1 (fun (i : Nat) => plusI (List.getD a i (0 : Int)) (List.getD b i (0 : Int))) g)) : Int)) ∧ g < List.length (fillTo (0 : Int) q1 (fun (i : Nat) => plusI (List.getD a i (0 : Int)) (List.getD b i (0 : Int))) g) ∧ fits IntKind.i64 ((↑g : Int) + (1 : Int)) ∧ ∃ (g' : Nat), Nat.le g' q1 ∧ List.length a - g' < List.length a - g ∧ (↑g : Int) + (1 : Int) = (↑g' : Int) ∧ q0 = q0 ∧ a = a ∧ b = b ∧ List.set (fillTo (0 : Int) q1 (fun (i : Nat) => plusI (List.getD a i (0 : Int)) (List.getD b i (0 : Int))) g) g (plusI (List.getD a g (0 : Int)) (List.getD b g (0 : Int))) = fillTo (0 : Int) q1 (fun (i : Nat) => plusI (List.getD a i (0 : Int)) (List.getD b i (0 : Int))) g' ∧ True) (fillTo (0 : Int) q1 (fun (i : Nat) => plusI (List.getD a i (0 : Int)) (List.getD b i (0 : Int))) g = combI plusI a b ∧ True)) := by
  kernel_rfl
theorem vc117b (a b : List Int) : exF (env false [(118, sp118)] []) h117 0 117 Proofs.Tryz.f117 [.one (.sl (.int .i64) a), .one (.sl (.int .i64) b), .one (.fn 118 [] [])] (.val (.one (.frs (.int .i64) (combI minusI a b)))) = (let q1 := (List.length a); let q0 := (↑(List.length (List.replicate q1 (0 : Int))) : Int); (0 : Int) ≤ (↑q1 : Int) ∧ room q1 (8 : Nat) ∧ (∃ (g : Nat), Nat.le g q1 ∧ (0 : Int) = (↑g : Int) ∧ q0 = q0 ∧ a = a ∧ b = b ∧ List.replicate q1 (0 : Int) = fillTo (0 : Int) q1 (fun (i : Nat) => minusI (List.getD a i (0 : Int)) (List.getD b i (0 : Int))) g ∧ True) ∧ ∀ (g : Nat), Nat.le g q1 → splitB (decide ((↑g : Int) < q0)) (((0 : Int) ≤ (↑g : Int) ∧ (↑g : Int) < (↑q1 : Int)) ∧ ((0 : Int) ≤ (↑g : Int) ∧ (↑g : Int) < (↑(List.length b) : Int)) ∧ ((-2000000000 : Int) ≤ List.getD a g (0 : Int) ∧ List.getD a g (0 : Int) ≤ (2000000000 : Int)) ∧ ((-2000000000 : Int) ≤ List.getD b g (0 : Int) ∧ List.getD b g (0 : Int) ≤ (2000000000 : Int)) ∧ ((0 : Int) ≤ (↑g : Int) ∧ (↑g : Int) < (↑(List.length (fillTo (0 : Int) q1 (fun (i : Nat) => minusI (List.getD a i (0 : Int)) (List.getD b i (0 : Int))) g)) : Int)) ∧ g < List.length (fillTo (0 : Int) q1 (fun (i : Nat) => minusI (List.getD a i (0 : Int)) (List.getD b i (0 : Int))) g) ∧ fits IntKind.i64 ((↑g : Int) + (1 : Int)) ∧ ∃ (g' : Nat), Nat.le g' q1 ∧ List.length a - g' < List.length a - g ∧ (↑g : Int) + (1 : Int) = (↑g' : Int) ∧ q0 = q0 ∧ a = a ∧ b = b ∧ List.set (fillTo (0 : Int) q1 (fun (i : Nat) => minusI (List.getD a i (0 : Int)) (List.getD b i (0 : Int))) g) g (minusI (List.getD a g (0 : Int)) (List.getD b g (0 : Int))) = fillTo (0 : Int) q1 (fun (i : Nat) => minusI (List.getD a i (0 : Int)) (List.getD b i (0 : Int))) g' ∧ True) (fillTo (0 : Int) q1 (fun (i : Nat) => minusI (List.getD a i (0 : Int)) (List.getD b i (0 : Int))) g = combI minusI a b ∧ True)) := by
  kernel_rfl
theorem vc117c (a b : List Int) : exF (env false [(119, sp119)] []) h117 0 117 Proofs.Tryz.f117 [.one (.sl (.int .i64) a), .one (.sl (.int .i64) b), .one (.fn 119 [] [])] (.val (.one (.frs (.int .i64) (combI midI a b)))) = (let q1 := (List.length a); let q0 := (↑(List.length (List.replicate q1 (0 : Int))) : Int); (0 : Int) ≤ (↑q1 : Int) ∧ room q1 (8 : Nat) ∧ (∃ (g : Nat), Nat.le g q1 ∧ (0 : Int) = (↑g : Int) ∧ q0 = q0 ∧ a = a ∧ b = b ∧ List.replicate q1 (0 : Int) = fillTo (0 : Int) q1 (fun (i : Nat) => midI (List.getD a i (0 : Int)) (List.getD b i (0 : Int))) g ∧ True) ∧ ∀ (g : Nat), Nat.le g q1 → splitB (decide ((↑g : Int) < q0)) (((0 : Int) ≤ (↑g : Int) ∧ (↑g : Int) < (↑q1 : Int)) ∧ ((0 : Int) ≤ (↑g : Int) ∧ (↑g : Int) < (↑(List.length b) : Int)) ∧ ((-100000000 : Int) ≤ List.getD a g (0 : Int) ∧ List.getD a g (0 : Int) ≤ (100000000 : Int)) ∧ ((-100000000 : Int) ≤ List.getD b g (0 : Int) ∧ List.getD b g (0 : Int) ≤ (100000000 : Int)) ∧ ((0 : Int) ≤ (↑g : Int) ∧ (↑g : Int) < (↑(List.length (fillTo (0 : Int) q1 (fun (i : Nat) => midI (List.getD a i (0 : Int)) (List.getD b i (0 : Int))) g)) : Int)) ∧ g < List.length (fillTo (0 : Int) q1 (fun (i : Nat) => midI (List.getD a i (0 : Int)) (List.getD b i (0 : Int))) g) ∧ fits IntKind.i64 ((↑g : Int) + (1 : Int)) ∧ ∃ (g' : Nat), Nat.le g' q1 ∧ List.length a - g' < List.length a - g ∧ (↑g : Int) + (1 : Int) = (↑g' : Int) ∧ q0 = q0 ∧ a = a ∧ b = b ∧ List.set (fillTo (0 : Int) q1 (fun (i : Nat) => midI (List.getD a i (0 : Int)) (List.getD b i (0 : Int))) g) g (midI (List.getD a g (0 : Int)) (List.getD b g (0 : Int))) = fillTo (0 : Int) q1 (fun (i : Nat) => midI (List.getD a i (0 : Int)) (List.getD b i (0 : Int))) g' ∧ True) (fillTo (0 : Int) q1 (fun (i : Nat) => midI (List.getD a i (0 : Int)) (List.getD b i (0 : Int))) g = combI midI a b ∧ True)) := by
  kernel_rfl
theorem vc117d (a b : List Int) : exF (env false [(171, sp171)] []) h117 0 117 Proofs.Tryz.f117 [.one (.sl (.int .i64) a), .one (.sl (.int .i64) b), .one (.fn 171 [] [])] (.val (.one (.frs (.int .i64) (combI lessI a b)))) = (let q1 := (List.length a); let q0 := (↑(List.length (List.replicate q1 (0 : Int))) : Int); (0 : Int) ≤ (↑q1 : Int) ∧ room q1 (8 : Nat) ∧ (∃ (g : Nat), Nat.le g q1 ∧ (0 : Int) = (↑g : Int) ∧ q0 = q0 ∧ a = a ∧ b = b ∧ List.replicate q1 (0 : Int) = fillTo (0 : Int) q1 (fun (i : Nat) => lessI (List.getD a i (0 : Int)) (List.getD b i (0 : Int))) g ∧ True) ∧ ∀ (g : Nat), Nat.le g q1 → splitB (decide ((↑g : Int) < q0)) (((0 : Int) ≤ (↑g : Int) ∧ (↑g : Int) < (↑q1 : Int)) ∧ ((0 : Int) ≤ (↑g : Int) ∧ (↑g : Int) < (↑(List.length b) : Int)) ∧ ((-100000000 : Int) ≤ List.getD a g (0 : Int) ∧ List.getD a g (0 : Int) ≤ (100000000 : Int)) ∧ ((-100000000 : Int) ≤ List.getD b g (0 : Int) ∧ List.getD b g (0 : Int) ≤ (100000000 : Int)) ∧ ((0 : Int) ≤ (↑g : Int) ∧ (↑g : Int) < (↑(List.length (fillTo (0 : Int) q1 (fun (i : Nat) => lessI (List.getD a i (0 : Int)) (List.getD b i (0 : Int))) g)) : Int)) ∧ g < List.length (fillTo (0 : Int) q1 (fun (i : Nat) => lessI (List.getD a i (0 : Int)) (List.getD b i (0 : Int))) g) ∧ fits IntKind.i64 ((↑g : Int) + (1 : Int)) ∧ ∃ (g' : Nat), Nat.le g' q1 ∧ List.length a - g' < List.length a - g ∧ (↑g : Int) + (1 : Int) = (↑g' : Int) ∧ q0 = q0 ∧ a = a ∧ b = b ∧ List.set (fillTo (0 : Int) q1 (fun (i : Nat) => lessI (List.getD a i (0 : Int)) (List.getD b i (0 : Int))) g) g (lessI (List.getD a g (0 : Int)) (List.getD b g (0 : Int))) = fillTo (0 : Int) q1 (fun (i : Nat) => lessI (List.getD a i (0 : Int)) (List.getD b i (0 : Int))) g' ∧ True) (fillTo (0 : Int) q1 (fun (i : Nat) => lessI (List.getD a i (0 : Int)) (List.getD b i (0 : Int))) g = combI lessI a b ∧ True)) := by
  kernel_rfl
theorem vc117e (a b : List Int) : exF (env false [(173, sp173)] []) h117 0 117 Proofs.Tryz.f117 [.one (.sl (.int .i64) a), .one (.sl (.int .i64) b), .one (.fn 173 [] [])] (.val (.one (.frs (.int .i64) (combI farI a b)))) = (let q1 := (List.length a); let q0 := (↑(List.length (List.replicate q1 (0 : Int))) : Int); (0 : Int) ≤ (↑q1 : Int) ∧ room q1 (8 : Nat) ∧ (∃ (g : Nat), Nat.le g q1 ∧ (0 : Int) = (↑g : Int) ∧ q0 = q0 ∧ a = a ∧ b = b ∧ List.replicate q1 (0 : Int) = fillTo (0 : Int) q1 (fun (i : Nat) => farI (List.getD a i (0 : Int)) (List.getD b i (0 : Int))) g ∧ True) ∧ ∀ (g : Nat), Nat.le g q1 → splitB (decide ((↑g : Int) < q0)) (((0 : Int) ≤ (↑g : Int) ∧ (↑g : Int) < (↑q1 : Int)) ∧ ((0 : Int) ≤ (↑g : Int) ∧ (↑g : Int) < (↑(List.length b) : Int)) ∧ ((-100000000 : Int) ≤ List.getD a g (0 : Int) ∧ List.getD a g (0 : Int) ≤ (100000000 : Int)) ∧ ((-100000000 : Int) ≤ List.getD b g (0 : Int) ∧ List.getD b g (0 : Int) ≤ (100000000 : Int)) ∧ ((0 : Int) ≤ (↑g : Int) ∧ (↑g : Int) < (↑(List.length (fillTo (0 : Int) q1 (fun (i : Nat) => farI (List.getD a i (0 : Int)) (List.getD b i (0 : Int))) g)) : Int)) ∧ g < List.length (fillTo (0 : Int) q1 (fun (i : Nat) => farI (List.getD a i (0 : Int)) (List.getD b i (0 : Int))) g) ∧ fits IntKind.i64 ((↑g : Int) + (1 : Int)) ∧ ∃ (g' : Nat), Nat.le g' q1 ∧ List.length a - g' < List.length a - g ∧ (↑g : Int) + (1 : Int) = (↑g' : Int) ∧ q0 = q0 ∧ a = a ∧ b = b ∧ List.set (fillTo (0 : Int) q1 (fun (i : Nat) => farI (List.getD a i (0 : Int)) (List.getD b i (0 : Int))) g) g (farI (List.getD a g (0 : Int)) (List.getD b g (0 : Int))) = fillTo (0 : Int) q1 (fun (i : Nat) => farI (List.getD a i (0 : Int)) (List.getD b i (0 : Int))) g' ∧ True) (fillTo (0 : Int) q1 (fun (i : Nat) => farI (List.getD a i (0 : Int)) (List.getD b i (0 : Int))) g = combI farI a b ∧ True)) := by
  kernel_rfl
theorem vc163 (u v : List Int) (line : Int) : exF (env false [(170, sp170)] []) h163 0 163 Proofs.Tryz.f163 [.one (.sl (.int .i64) u), .one (.sl (.int .i64) v), iV line] (.val (.one (.frs (.int .i64) (carI u v (signI line))))) = (let q0 := (↑(List.length u) : Int); (0 : Int) ≤ line ∧ (∃ (g : Nat), Nat.le g (List.length u) ∧ (0 : Int) = (↑g : Int) ∧ q0 = q0 ∧ signI line = signI line ∧ u = u ∧ v = v ∧ (tab ((4 : Nat) * g) fun (n : Nat) => carN (List.getD u (n / (4 : Nat)) (0 : Int)) (List.getD v (n / (4 : Nat)) (0 : Int)) (n % (4 : Nat)) (signI line)) = [] ∧ True) ∧ ∀ (g : Nat), let q1 := ((0 : Int) ≤ (↑g : Int) ∧ (↑g : Int) < (↑(List.length v) : Int)); Nat.le g (List.length u) → splitB (decide ((↑g : Int) < q0)) (((0 : Int) ≤ (↑g : Int) ∧ (↑g : Int) < q0) ∧ fits IntKind.i64 (signI line * List.getD u g (0 : Int)) ∧ q1 ∧ fits IntKind.i64 (signI line * List.getD v g (0 : Int)) ∧ fits IntKind.i64 (-signI line) ∧ ((0 : Int) ≤ (↑g : Int) ∧ (↑g : Int) < q0) ∧ fits IntKind.i64 (-signI line * List.getD u g (0 : Int)) ∧ fits IntKind.i64 (-signI line) ∧ q1 ∧ fits IntKind.i64 (-signI line * List.getD v g (0 : Int)) ∧ room (List.length (tab ((4 : Nat) * g) fun (n : Nat) => carN (List.getD u (n / (4 : Nat)) (0 : Int)) (List.getD v (n / (4 : Nat)) (0 : Int)) (n % (4 : Nat)) (signI line)) + (4 : Nat)) (8 : Nat) ∧ fits IntKind.i64 ((↑g : Int) + (1 : Int)) ∧ ∃ (g' : Nat), Nat.le g' (List.length u) ∧ List.length u - g' < List.length u - g ∧ (↑g : Int) + (1 : Int) = (↑g' : Int) ∧ q0 = q0 ∧ signI line = signI line ∧ u = u ∧ v = v ∧ ((tab ((4 : Nat) * g) fun (n : Nat) => carN (List.getD u (n / (4 : Nat)) (0 : Int)) (List.getD v (n / (4 : Nat)) (0 : Int)) (n % (4 : Nat)) (signI line)) ++ [signI line * List.getD u g (0 : Int), signI line * List.getD v g (0 : Int), -signI line * List.getD u g (0 : Int), -signI line * List.getD v g (0 : Int)] = tab ((4 : Nat) * g') fun (n : Nat) => carN (List.getD u (n / (4 : Nat)) (0 : Int)) (List.getD v (n / (4 : Nat)) (0 : Int)) (n % (4 : Nat)) (signI line)) ∧ True) ((tab ((4 : Nat) * g) fun (n : Nat) => carN (List.getD u (n / (4 : Nat)) (0 : Int)) (List.getD v (n / (4 : Nat)) (0 : Int)) (n % (4 : Nat)) (signI line)) = carI u v (signI line) ∧ True)) := by
  kernel_rfl
theorem vc97 (y u v : List Nat) (line : Int) : exF (env false [(108, sp108), (163, sp163), (117, sp117), (138, sp138), (164, sp164)] []) h0 0 97 Proofs.Tryz.f97 [ptV y u v, iV line] (.tup [.one (.frs (.flt .f32) (smpsN (encI y u v line))), iV (lgE (encI y u v line))]) = (List.length y ≤ (1000000 : Nat) ∧ OkS y ∧ List.length u ≤ (1000000 : Nat) ∧ OkS u ∧ List.length v ≤ (1000000 : Nat) ∧ OkS v ∧ List.length (sixs u) ≤ (100000 : Nat) ∧ List.length (sixs v) = List.length (sixs u) ∧ Bd (1000000 : Int) (sixs u) ∧ Bd (1000000 : Int) (sixs v) ∧ (0 : Int) ≤ line ∧ List.length (sixs y) ≤ (100000 : Nat) ∧ List.length (carI (sixs u) (sixs v) (signI line)) = List.length (sixs y) ∧ Bd (1000000 : Int) (sixs y) ∧ Bd (1000000 : Int) (carI (sixs u) (sixs v) (signI line)) ∧ List.length (combI plusI (sixs y) (carI (sixs u) (sixs v) (signI line))) ≤ (1000000 : Nat) ∧ smpsN (combI plusI (sixs y) (carI (sixs u) (sixs v) (signI line))) = smpsN (encI y u v line) ∧ lgE (combI plusI (sixs y) (carI (sixs u) (sixs v) (signI line))) = lgE (encI y u v line) ∧ True) := by
  kernel_rfl
theorem vc20 (y u v : List Nat) (line : Int) : exF (env false [(26, sp26), (96, sp96), (95, sp95), (97, sp97)] []) h0 0 20 Proofs.Tryz.f20 [ptV y u v, iV line] (.tup [.one (.frs (.flt .f32) (encL y u v line)), iV (encE y u v line)]) = (List.length y ≤ (1000000000 : Nat) ∧ (2 : Nat) ≤ (1000000000 : Nat) ∧ splitB (first [chkPt y u v, within line (0 : Int) (10000000 : Int)] != (0 : Int)) (encL y u v line = [] ∧ first [chkPt y u v, within line (0 : Int) (10000000 : Int)] = encE y u v line ∧ True) (chkPt y u v = (0 : Int) ∧ (0 : Int) ≤ line ∧ smpsN (encI y u v line) = encL y u v line ∧ lgE (encI y u v line) = encE y u v line ∧ True)) := by
  kernel_rfl
theorem vc98 (l : List Nat) : exF (env false [(69, sp69)] []) h138 0 98 Proofs.Tryz.f98 [.one (.sl (.flt .f32) l)] (.val (iV (chkSs l))) = ((∃ (g : Nat), (g ≤ List.length l ∧ chkSs l = first (List.drop g (List.map chkS l))) ∧ (0 : Int) = (↑g : Int) ∧ l = l ∧ True) ∧ ∀ (g : Nat), g ≤ List.length l ∧ chkSs l = first (List.drop g (List.map chkS l)) → splitB (decide ((↑g : Int) < (↑(List.length l) : Int))) (((0 : Int) ≤ (↑g : Int) ∧ (↑g : Int) < (↑(List.length l) : Int)) ∧ splitB (chkS (List.getD l g (0 : Nat)) != (0 : Int)) (chkS (List.getD l g (0 : Nat)) = chkSs l ∧ True) (fits IntKind.i64 ((↑g : Int) + (1 : Int)) ∧ ∃ (g' : Nat), (g' ≤ List.length l ∧ chkSs l = first (List.drop g' (List.map chkS l))) ∧ List.length l - g' < List.length l - g ∧ (↑g : Int) + (1 : Int) = (↑g' : Int) ∧ l = l ∧ True)) ((0 : Int) = chkSs l ∧ True)) := by
  kernel_rfl
theorem vc36 (l : List Nat) : exF (env false [(98, sp98)] []) h0 0 36 Proofs.Tryz.f36 [.one (.sl (.flt .f32) l)] (.val (iV (chkSig l))) = (splitB (decide ((256 : Int) < (↑(List.length l) : Int))) ((5 : Int) = chkSig l ∧ True) (((0 : Int) ≤ (↑(List.length l) : Int) ∧ (0 : Int) < (4 : Int)) ∧ splitB ((↑(List.length l) : Int) % (4 : Int) != (0 : Int)) ((2 : Int) = chkSig l ∧ True) (List.length l ≤ (1000000 : Nat) ∧ chkSs l = chkSig l ∧ True))) := by
  kernel_rfl
theorem vc23 (y u v : List Nat) : exF (env false [(36, sp36), (98, sp98), (22, sp22)] []) h0 0 23 Proofs.Tryz.f23 [ptV y u v] (.val (iV (chkPt y u v))) = (let q0 := (↑(List.length y) : Int); splitB (chkSig y != (0 : Int)) (chkSig y = chkPt y u v ∧ True) (((0 : Int) ≤ q0 ∧ (0 : Int) < (4 : Int) ∧ fits IntKind.i64 (q0 / (4 : Int))) ∧ (((↑(List.length u) : Int) != q0 / (4 : Int)) = false → (0 : Int) ≤ q0 ∧ (0 : Int) < (4 : Int) ∧ fits IntKind.i64 (q0 / (4 : Int))) ∧ splitB (bif (↑(List.length u) : Int) != q0 / (4 : Int) then true else (↑(List.length v) : Int) != q0 / (4 : Int)) ((2 : Int) = chkPt y u v ∧ True) (List.length u ≤ (1000000 : Nat) ∧ List.length v ≤ (1000000 : Nat) ∧ (2 : Nat) ≤ (1000000000 : Nat) ∧ first [chkSs u, chkSs v] = chkPt y u v ∧ True))) := by
  kernel_rfl
theorem vc102 (l : List Int) : exF (env false [(131, sp131)] []) h138 0 102 Proofs.Tryz.f102 [.one (.sl (.int .i64) l)] (.tup [.one (.frs (.flt .f32) (smpsN l)), iV (lgE l)]) = (let q0 := (↑(List.length l) : Int); (∃ (g : Nat), (g ≤ List.length l ∧ ∀ (j : Nat), j < g → lgI (List.getD l j (0 : Int)) = false) ∧ (0 : Int) = (↑g : Int) ∧ l = l ∧ List.map smp (List.take g l) = [] ∧ True) ∧ ∀ (g : Nat), (g ≤ List.length l ∧ ∀ (j : Nat), j < g → lgI (List.getD l j (0 : Int)) = false) → splitB (decide ((↑g : Int) < q0)) (((0 : Int) ≤ (↑g : Int) ∧ (↑g : Int) < q0) ∧ (decide (List.getD l g (0 : Int) < (-16384 : Int)) = false → (0 : Int) ≤ (↑g : Int) ∧ (↑g : Int) < q0) ∧ splitB (bif decide (List.getD l g (0 : Int) < (-16384 : Int)) then true else decide ((16384 : Int) < List.getD l g (0 : Int))) (smpsN l = [] ∧ (4 : Int) = lgE l ∧ True) (((0 : Int) ≤ (↑g : Int) ∧ (↑g : Int) < q0) ∧ ((-8388608 : Int) ≤ List.getD l g (0 : Int) ∧ List.getD l g (0 : Int) ≤ (8388608 : Int)) ∧ room (List.length (List.map smp (List.take g l)) + (1 : Nat)) (4 : Nat) ∧ fits IntKind.i64 ((↑g : Int) + (1 : Int)) ∧ ∃ (g' : Nat), (g' ≤ List.length l ∧ ∀ (j : Nat), j < g' → lgI (List.getD l j (0 : Int)) = false) ∧ List.length l - g' < List.length l - g ∧ (↑g : Int) + (1 : Int) = (↑g' : Int) ∧ l = l ∧ List.map smp (List.take g l) ++ [smp (List.getD l g (0 : Int))] = List.map smp (List.take g' l) ∧ True)) (List.map smp (List.take g l) = smpsN l ∧ (0 : Int) = lgE l ∧ True)) := by
  kernel_rfl
theorem vc101 (a b k line : Int) : exF (env false [(165, sp165)] []) h0 0 101 Proofs.Tryz.f101 [iV a, iV b, iV k, iV line] (.val (iV (carN a b k.toNat (signI line)))) = (((0 : Int) ≤ k ∧ (0 : Int) < (2 : Int)) ∧ splitB (k % (2 : Int) == (1 : Int)) (splitB (decide ((1 : Int) < k)) (fits IntKind.i64 ((0 : Int) - b) ∧ (0 : Int) ≤ line ∧ fits IntKind.i64 (((0 : Int) - b) * signI line) ∧ ((0 : Int) - b) * signI line = carN a b (Int.toNat k) (signI line) ∧ True) ((0 : Int) ≤ line ∧ fits IntKind.i64 (b * signI line) ∧ b * signI line = carN a b (Int.toNat k) (signI line) ∧ True)) (splitB (decide ((1 : Int) < k)) (fits IntKind.i64 ((0 : Int) - a) ∧ (0 : Int) ≤ line ∧ fits IntKind.i64 (((0 : Int) - a) * signI line) ∧ ((0 : Int) - a) * signI line = carN a b (Int.toNat k) (signI line) ∧ True) ((0 : Int) ≤ line ∧ fits IntKind.i64 (a * signI line) ∧ a * signI line = carN a b (Int.toNat k) (signI line) ∧ True))) := by
  kernel_rfl
theorem vc25 (y u v : List Nat) (line : Int) : exF (env false [(100, sp100), (101, sp101), (102, sp102)] []) h138 0 25 Proofs.Tryz.f25 [ptV y u v, iV line] (.tup [.one (.frs (.flt .f32) (smpsN (encI y u v line))), iV (lgE (encI y u v line))]) = (List.length y ≤ (1000000 : Nat) ∧ OkS y ∧ List.length u ≤ (1000000 : Nat) ∧ OkS u ∧ List.length v ≤ (1000000 : Nat) ∧ OkS v ∧ (∃ (g : Nat), Nat.le g (List.length (sixs y)) ∧ (0 : Int) = (↑g : Int) ∧ line = line ∧ sixs y = putTo (0 : Int) (sixs y) (fun (n : Nat) => List.getD (sixs y) n (0 : Int) + carN (List.getD (sixs u) (n / (4 : Nat)) (0 : Int)) (List.getD (sixs v) (n / (4 : Nat)) (0 : Int)) (n % (4 : Nat)) (signI line)) g ∧ sixs v = sixs v ∧ sixs u = sixs u ∧ y = y ∧ u = u ∧ v = v ∧ True) ∧ ∀ (g : Nat), let q2 := ((↑g : Int) / (4 : Int)); let q0 := (Int.toNat q2); let q1 := ((0 : Int) ≤ (↑g : Int) ∧ (0 : Int) < (4 : Int) ∧ fits IntKind.i64 q2); Nat.le g (List.length (sixs y)) → splitB (decide ((↑g : Int) < (↑(List.length (putTo (0 : Int) (sixs y) (fun (n : Nat) => List.getD (sixs y) n (0 : Int) + carN (List.getD (sixs u) (n / (4 : Nat)) (0 : Int)) (List.getD (sixs v) (n / (4 : Nat)) (0 : Int)) (n % (4 : Nat)) (signI line)) g)) : Int))) (((0 : Int) ≤ (↑g : Int) ∧ (↑g : Int) < (↑(List.length (putTo (0 : Int) (sixs y) (fun (n : Nat) => List.getD (sixs y) n (0 : Int) + carN (List.getD (sixs u) (n / (4 : Nat)) (0 : Int)) (List.getD (sixs v) (n / (4 : Nat)) (0 : Int)) (n % (4 : Nat)) (signI line)) g)) : Int)) ∧ g < List.length (putTo (0 : Int) (sixs y) (fun (n : Nat) => List.getD (sixs y) n (0 : Int) + carN (List.getD (sixs u) (n / (4 : Nat)) (0 : Int)) (List.getD (sixs v) (n / (4 : Nat)) (0 : Int)) (n % (4 : Nat)) (signI line)) g) ∧ q1 ∧ ((0 : Int) ≤ (↑g : Int) / (4 : Int) ∧ (↑g : Int) / (4 : Int) < (↑(List.length (sixs u)) : Int)) ∧ Int.toNat q2 < List.length (sixs u) ∧ q1 ∧ ((0 : Int) ≤ (↑g : Int) / (4 : Int) ∧ (↑g : Int) / (4 : Int) < (↑(List.length (sixs v)) : Int)) ∧ Int.toNat q2 < List.length (sixs v) ∧ ((0 : Int) ≤ (↑g : Int) ∧ (0 : Int) < (4 : Int)) ∧ ((-1000000 : Int) ≤ List.getD (sixs u) q0 (0 : Int) ∧ List.getD (sixs u) q0 (0 : Int) ≤ (1000000 : Int)) ∧ ((-1000000 : Int) ≤ List.getD (sixs v) q0 (0 : Int) ∧ List.getD (sixs v) q0 (0 : Int) ≤ (1000000 : Int)) ∧ ((0 : Int) ≤ (↑g : Int) % (4 : Int) ∧ (↑g : Int) % (4 : Int) ≤ (3 : Int)) ∧ (0 : Int) ≤ line ∧ fits IntKind.i64 (List.getD (putTo (0 : Int) (sixs y) (fun (n : Nat) => List.getD (sixs y) n (0 : Int) + carN (List.getD (sixs u) (n / (4 : Nat)) (0 : Int)) (List.getD (sixs v) (n / (4 : Nat)) (0 : Int)) (n % (4 : Nat)) (signI line)) g) g (0 : Int) + carN (List.getD (sixs u) q0 (0 : Int)) (List.getD (sixs v) q0 (0 : Int)) (Int.toNat ((↑g : Int) % (4 : Int))) (signI line)) ∧ ((0 : Int) ≤ (↑g : Int) ∧ (↑g : Int) < (↑(List.length (putTo (0 : Int) (sixs y) (fun (n : Nat) => List.getD (sixs y) n (0 : Int) + carN (List.getD (sixs u) (n / (4 : Nat)) (0 : Int)) (List.getD (sixs v) (n / (4 : Nat)) (0 : Int)) (n % (4 : Nat)) (signI line)) g)) : Int)) ∧ g < List.length (putTo (0 : Int) (sixs y) (fun (n : Nat) => List.getD (sixs y) n (0 : Int) + carN (List.getD (sixs u) (n / (4 : Nat)) (0 : Int)) (List.getD (sixs v) (n / (4 : Nat)) (0 : Int)) (n % (4 : Nat)) (signI line)) g) ∧ fits IntKind.i64 ((↑g : Int) + (1 : Int)) ∧ ∃ (g' : Nat), Nat.le g' (List.length (sixs y)) ∧ List.length (sixs y) - g' < List.length (sixs y) - g ∧ (↑g : Int) + (1 : Int) = (↑g' : Int) ∧ line = line ∧ List.set (putTo (0 : Int) (sixs y) (fun (n : Nat) => List.getD (sixs y) n (0 : Int) + carN (List.getD (sixs u) (n / (4 : Nat)) (0 : Int)) (List.getD (sixs v) (n / (4 : Nat)) (0 : Int)) (n % (4 : Nat)) (signI line)) g) g (List.getD (putTo (0 : Int) (sixs y) (fun (n : Nat) => List.getD (sixs y) n (0 : Int) + carN (List.getD (sixs u) (n / (4 : Nat)) (0 : Int)) (List.getD (sixs v) (n / (4 : Nat)) (0 : Int)) (n % (4 : Nat)) (signI line)) g) g (0 : Int) + carN (List.getD (sixs u) q0 (0 : Int)) (List.getD (sixs v) q0 (0 : Int)) (Int.toNat ((↑g : Int) % (4 : Int))) (signI line)) = putTo (0 : Int) (sixs y) (fun (n : Nat) => List.getD (sixs y) n (0 : Int) + carN (List.getD (sixs u) (n / (4 : Nat)) (0 : Int)) (List.getD (sixs v) (n / (4 : Nat)) (0 : Int)) (n % (4 : Nat)) (signI line)) g' ∧ sixs v = sixs v ∧ sixs u = sixs u ∧ y = y ∧ u = u ∧ v = v ∧ True) (List.length (putTo (0 : Int) (sixs y) (fun (n : Nat) => List.getD (sixs y) n (0 : Int) + carN (List.getD (sixs u) (n / (4 : Nat)) (0 : Int)) (List.getD (sixs v) (n / (4 : Nat)) (0 : Int)) (n % (4 : Nat)) (signI line)) g) ≤ (1000000 : Nat) ∧ smpsN (putTo (0 : Int) (sixs y) (fun (n : Nat) => List.getD (sixs y) n (0 : Int) + carN (List.getD (sixs u) (n / (4 : Nat)) (0 : Int)) (List.getD (sixs v) (n / (4 : Nat)) (0 : Int)) (n % (4 : Nat)) (signI line)) g) = smpsN (encI y u v line) ∧ lgE (putTo (0 : Int) (sixs y) (fun (n : Nat) => List.getD (sixs y) n (0 : Int) + carN (List.getD (sixs u) (n / (4 : Nat)) (0 : Int)) (List.getD (sixs v) (n / (4 : Nat)) (0 : Int)) (n % (4 : Nat)) (signI line)) g) = lgE (encI y u v line) ∧ True)) := by
  kernel_rfl
theorem vc30 (l : List Nat) : exF (env false [] []) h0 0 30 Proofs.Tryz.f30 [.one (.sl (.flt .f32) l)] (.val (bV (shortS l))) = ((bif decide ((↑(List.length l) : Int) ≤ (24 : Int)) then true else (↑(List.length l) : Int) == (260 : Int)) = shortS l ∧ True) := by
  kernel_rfl
theorem vc18 (y u v : List Nat) : exF (env false [(30, sp30)] []) h0 0 18 Proofs.Tryz.f18 [ptV y u v] (.val (bV (shortP y u v))) = ((bif bif shortS y then decide ((↑(List.length u) : Int) ≤ (24 : Int)) else false then decide ((↑(List.length v) : Int) ≤ (24 : Int)) else false) = shortP y u v ∧ True) := by
  kernel_rfl
theorem vc34 (l : List Nat) : exF (env false [] []) h0 0 34 Proofs.Tryz.f34 [.one (.sl (.flt .f32) l)] (.val (.one (.frs (.flt .f32) l))) = (room ((0 : Nat) + List.length l) (4 : Nat) ∧ l = l ∧ True) := by
  kernel_rfl
theorem vc21 (y u v : List Nat) : exFr (env false [(34, sp34)] []) h0 0 21 Proofs.Tryz.f21 [ptV y u v] (.val (ptV y u v)) = (List.length y ≤ (1000000 : Nat) ∧ List.length u ≤ (1000000 : Nat) ∧ List.length v ≤ (1000000 : Nat) ∧ y = y ∧ u = u ∧ v = v ∧ True) := by
  kernel_rfl
theorem vc27 (a b : List Nat) : exF (env false [] []) h138 0 27 Proofs.Tryz.f27 [.one (.sl (.flt .f32) a), .one (.sl (.flt .f32) b)] (.val (bV (sameS a b))) = (splitB ((↑(List.length a) : Int) != (↑(List.length b) : Int)) (false = sameS a b ∧ True) ((∃ (g : Nat), (g ≤ List.length a ∧ ∀ (j : Nat), j < g → Op.floatEq FloatKind.f32 (List.getD a j (0 : Nat)) (List.getD b j (0 : Nat)) = true) ∧ (0 : Int) = (↑g : Int) ∧ a = a ∧ b = b ∧ True) ∧ ∀ (g : Nat), (g ≤ List.length a ∧ ∀ (j : Nat), j < g → Op.floatEq FloatKind.f32 (List.getD a j (0 : Nat)) (List.getD b j (0 : Nat)) = true) → splitB (decide ((↑g : Int) < (↑(List.length a) : Int))) (((0 : Int) ≤ (↑g : Int) ∧ (↑g : Int) < (↑(List.length a) : Int)) ∧ ((0 : Int) ≤ (↑g : Int) ∧ (↑g : Int) < (↑(List.length b) : Int)) ∧ splitB (Ieee.Format.order (FloatKind.format FloatKind.f32) (List.getD a g (0 : Nat)) (List.getD b g (0 : Nat)) != some Ordering.eq) (false = sameS a b ∧ True) (fits IntKind.i64 ((↑g : Int) + (1 : Int)) ∧ ∃ (g' : Nat), (g' ≤ List.length a ∧ ∀ (j : Nat), j < g' → Op.floatEq FloatKind.f32 (List.getD a j (0 : Nat)) (List.getD b j (0 : Nat)) = true) ∧ List.length a - g' < List.length a - g ∧ (↑g : Int) + (1 : Int) = (↑g' : Int) ∧ a = a ∧ b = b ∧ True)) (true = sameS a b ∧ True))) := by
  kernel_rfl
end Go.Sx

/- Contracts. -/
namespace Go.Sx
open U
theorem fn139 (l : List Nat) (hl : l.length ≤ 1000000) (hs : OkS l) : Fn P1 gl1 139 [.one (.sl (.flt .f32) l), .one (.fn 137 [] [])] (.val (.one (.frs (.int .i64) (sixs l)))) true := by
  refine Fn.flat ?_ rfl
  refine fn_of false [(137, sp137)] [] h139 0 Proofs.Tryz.f139 ⟨so137, trivial⟩ trivial (by kernel_rfl) rfl (by kernel_rfl) rfl rfl rfl ?_
  rw [vc139]
  try simp only [splitB_iff, -eq_self]
  refine ⟨⟨0, Nat.zero_le _, rfl, rfl, rfl, by simp⟩, fun g hg => ⟨fun hlt => ?_, fun hge => ?_⟩⟩
  · have hlt' : g < l.length := by simpa using hlt
    refine ⟨by omega, hs _ (getD_mem' hlt'), by simp only [room, List.length_map, List.length_take]; omega, by simp only [fits]; omega, g + 1, hlt', by omega, by simp, rfl, rfl, ?_, trivial⟩
    rw [getD_of hlt', List.take_succ_eq_append_getElem hlt', List.map_append]
    rfl
  · have hge' : ¬ g < l.length := by simpa using hge
    rw [List.take_of_length_le (by omega)]
    exact ⟨rfl, trivial⟩
theorem so139_ : SpecOk P1 gl1 139 sp139 := by
  intro vs ps r h hp
  simp only [sp139] at h
  split at h
  · cases h; exact fn139 _ (hp _ (.head _)) (hp _ (.tail _ (.head _)))
  · cases h
theorem so139 : Sp1 139 sp139 := ⟨so139_, Proofs.Tryz.f139, _, by kernel_rfl, rfl, by kernel_rfl⟩
theorem fn166 (l : List Nat) (hl : l.length ≤ 1000000) : Fn P1 gl1 166 [.one (.sl (.flt .f32) l), .one (.fn 136 [] [])] (.val (.one (.frs (.int .i64) (l.map chkS)))) true := by
  refine Fn.flat ?_ rfl
  refine fn_of false [(136, sp136)] [] h139 0 Proofs.Tryz.f166 ⟨so136, trivial⟩ trivial (by kernel_rfl) rfl (by kernel_rfl) rfl rfl rfl ?_
  rw [vc166]
  try simp only [splitB_iff, -eq_self]
  refine ⟨⟨0, Nat.zero_le _, rfl, rfl, rfl, by simp⟩, fun g hg => ⟨fun hlt => ?_, fun hge => ?_⟩⟩
  · have hlt' : g < l.length := by simpa using hlt
    refine ⟨by omega, by simp only [room, List.length_map, List.length_take]; omega, by simp only [fits]; omega, g + 1, hlt', by omega, by simp, rfl, rfl, ?_, trivial⟩
    rw [getD_of hlt', List.take_succ_eq_append_getElem hlt', List.map_append]
    rfl
  · have hge' : ¬ g < l.length := by simpa using hge
    rw [List.take_of_length_le (by omega)]
    exact ⟨rfl, trivial⟩
theorem so166_ : SpecOk P1 gl1 166 sp166 := by
  intro vs ps r h hp
  simp only [sp166] at h
  split at h
  · cases h; exact fn166 _ (hp _ (.head _))
  · cases h
theorem so166 : Sp1 166 sp166 := ⟨so166_, Proofs.Tryz.f166, _, by kernel_rfl, rfl, by kernel_rfl⟩
theorem fn159 (l : List Int) (hl : l.length ≤ 1000000) (hs : Bd 8388608 l) : Fn P1 gl1 159 [.one (.sl (.int .i64) l), .one (.fn 110 [] [])] (.val (.one (.frs (.flt .f32) (l.map smp)))) true := by
  refine Fn.flat ?_ rfl
  refine fn_of false [(110, sp110)] [] h139 0 Proofs.Tryz.f159 ⟨so110, trivial⟩ trivial (by kernel_rfl) rfl (by kernel_rfl) rfl rfl rfl ?_
  rw [vc159]
  try simp only [splitB_iff, -eq_self]
  refine ⟨⟨0, Nat.zero_le _, rfl, rfl, rfl, by simp⟩, fun g hg => ⟨fun hlt => ?_, fun hge => ?_⟩⟩
  · have hlt' : g < l.length := by simpa using hlt
    refine ⟨by omega, hs _ (getD_mem' hlt'), by simp only [room, List.length_map, List.length_take]; omega, by simp only [fits]; omega, g + 1, hlt', by omega, by simp, rfl, rfl, ?_, trivial⟩
    rw [getD_of hlt', List.take_succ_eq_append_getElem hlt', List.map_append]
    rfl
  · have hge' : ¬ g < l.length := by simpa using hge
    rw [List.take_of_length_le (by omega)]
    exact ⟨rfl, trivial⟩
theorem so159_ : SpecOk P1 gl1 159 sp159 := by
  intro vs ps r h hp
  simp only [sp159] at h
  split at h
  · cases h; exact fn159 _ (hp _ (.head _)) (hp _ (.tail _ (.head _)))
  · cases h
theorem so159 : Sp1 159 sp159 := ⟨so159_, Proofs.Tryz.f159, _, by kernel_rfl, rfl, by kernel_rfl⟩
theorem fn100 (l : List Nat) (hl : l.length ≤ 1000000) (hs : OkS l) : Fn P1 gl1 100 [.one (.sl (.flt .f32) l)] (.val (.one (.frs (.int .i64) (sixs l)))) true := by
  refine Fn.flat ?_ rfl
  refine fn_of false [(86, sp86)] [] h139 0 Proofs.Tryz.f100 ⟨so86, trivial⟩ trivial (by kernel_rfl) rfl (by kernel_rfl) rfl rfl rfl ?_
  rw [vc100]
  try simp only [splitB_iff, -eq_self]
  refine ⟨⟨0, Nat.zero_le _, rfl, rfl, by simp⟩, fun g hg => ⟨fun hlt => ?_, fun hge => ?_⟩⟩
  · have hlt' : g < l.length := by simpa using hlt
    refine ⟨by omega, hs _ (getD_mem' hlt'), by simp only [room, List.length_map, List.length_take]; omega, by simp only [fits]; omega, g + 1, hlt', by omega, by simp, rfl, ?_, trivial⟩
    rw [getD_of hlt', List.take_succ_eq_append_getElem hlt', List.map_append]
    rfl
  · have hge' : ¬ g < l.length := by simpa using hge
    rw [List.take_of_length_le (by omega)]
    exact ⟨rfl, trivial⟩
theorem so100_ : SpecOk P1 gl1 100 sp100 := by
  intro vs ps r h hp
  simp only [sp100] at h
  split at h
  · cases h; exact fn100 _ (hp _ (.head _)) (hp _ (.tail _ (.head _)))
  · cases h
theorem so100 : Sp1 100 sp100 := ⟨so100_, Proofs.Tryz.f100, _, by kernel_rfl, rfl, by kernel_rfl⟩
theorem fn108 (l : List Nat) (hl : l.length ≤ 1000000) (hs : OkS l) : Fn P1 gl1 108 [.one (.sl (.flt .f32) l)] (.val (.one (.frs (.int .i64) (sixs l)))) true := by
  refine Fn.flat ?_ rfl
  refine fn_of false [(139, sp139)] [] h0 0 Proofs.Tryz.f108 ⟨so139, trivial⟩ trivial (by kernel_rfl) rfl (by kernel_rfl) rfl rfl rfl ?_
  rw [vc108]
  try simp only [splitB_iff, -eq_self]
  exact ⟨hl, hs, rfl, trivial⟩
theorem so108_ : SpecOk P1 gl1 108 sp108 := by
  intro vs ps r h hp
  simp only [sp108] at h
  split at h
  · cases h; exact fn108 _ (hp _ (.head _)) (hp _ (.tail _ (.head _)))
  · cases h
theorem so108 : Sp1 108 sp108 := ⟨so108_, Proofs.Tryz.f108, _, by kernel_rfl, rfl, by kernel_rfl⟩
theorem fn105 (l : List Nat) (hl : l.length ≤ 1000000) : Fn P1 gl1 105 [.one (.sl (.flt .f32) l)] (.val (iV (chkSs l))) true := by
  refine Fn.flat ?_ rfl
  refine fn_of false [(166, sp166), (95, sp95)] [] h0 0 Proofs.Tryz.f105 ⟨so166, so95, trivial⟩ trivial (by kernel_rfl) rfl (by kernel_rfl) rfl rfl rfl ?_
  rw [vc105]
  try simp only [splitB_iff, -eq_self]
  refine ⟨hl, by rw [List.length_map]; omega, rfl, trivial⟩
theorem so105_ : SpecOk P1 gl1 105 sp105 := by
  intro vs ps r h hp
  simp only [sp105] at h
  split at h
  · cases h; exact fn105 _ (hp _ (.head _))
  · cases h
theorem so105 : Sp1 105 sp105 := ⟨so105_, Proofs.Tryz.f105, _, by kernel_rfl, rfl, by kernel_rfl⟩
theorem fn41 (l : List Nat)  : Fn P1 gl1 41 [.one (.sl (.flt .f32) l)] (.val (iV (chkSig l))) true := by
  refine Fn.flat ?_ rfl
  refine fn_of false [(104, sp104), (95, sp95), (105, sp105)] [] h0 0 Proofs.Tryz.f41 ⟨so104, so95, so105, trivial⟩ trivial (by kernel_rfl) rfl (by kernel_rfl) rfl rfl rfl ?_
  rw [vc41]
  try simp only [splitB_iff, -eq_self]
  unfold chkSig
  by_cases h1 : 256 < l.length
  · have e : (256 : Int) < (l.length : Int) := by omega
    simp [h1, e, whenE, first]
  · have e : ¬ (256 : Int) < (l.length : Int) := by omega
    by_cases h2 : l.length % 4 = 0
    · have e2 : (l.length : Int) % 4 = 0 := by omega
      simp [h1, h2, e, e2, whenE, first]; omega
    · have e2 : ¬ (l.length : Int) % 4 = 0 := by omega
      simp [h1, h2, e, e2, whenE, first]
theorem so41_ : SpecOk P1 gl1 41 sp41 := by
  intro vs ps r h _
  simp only [sp41] at h
  split at h
  · cases h; exact fn41 _ 
  · cases h
theorem so41 : Sp1 41 sp41 := ⟨so41_, Proofs.Tryz.f41, _, by kernel_rfl, rfl, by kernel_rfl⟩
theorem fn103 (y u v : List Nat)  : Fn P1 gl1 103 [ptV y u v] (.val (iV (y.length : Int))) true := by
  refine Fn.flat ?_ rfl
  refine fn_of false [] [] h0 0 Proofs.Tryz.f103 trivial trivial (by kernel_rfl) rfl (by kernel_rfl) rfl rfl rfl ?_
  rw [vc103]
  try simp only [splitB_iff, -eq_self]
  exact ⟨rfl, trivial⟩
theorem so103_ : SpecOk P1 gl1 103 sp103 := by
  intro vs ps r h _
  simp only [sp103] at h
  split at h
  · cases h; exact fn103 _ _ _ 
  · cases h
theorem so103 : Sp1 103 sp103 := ⟨so103_, Proofs.Tryz.f103, _, by kernel_rfl, rfl, by kernel_rfl⟩
theorem fn26 (y u v : List Nat) (hl : y.length ≤ 1000000000) : Fn P1 gl1 26 [ptV y u v] (.val (iV (chkPt y u v))) true := by
  refine Fn.flat ?_ rfl
  refine fn_of false [(103, sp103), (41, sp41), (104, sp104), (95, sp95), (105, sp105)] [] h0 0 Proofs.Tryz.f26 ⟨so103, so41, so104, so95, so105, trivial⟩ trivial (by kernel_rfl) rfl (by kernel_rfl) rfl rfl rfl ?_
  rw [vc26]
  try simp only [splitB_iff, -eq_self]
  unfold chkPt
  refine ⟨⟨by omega, by decide, by simp only [fits]; omega⟩, by decide, fun h => ?_, fun h => ?_⟩
  · have h : ¬ first [chkSig y, whenE ((u.length : Int) != (y.length : Int) / 4) 2, whenE ((v.length : Int) != (y.length : Int) / 4) 2] = 0 := by simpa using h
    by_cases h1 : chkSig y = 0
    · by_cases h2 : u.length = y.length / 4 ∧ v.length = y.length / 4
      · have e1 : (u.length : Int) = (y.length : Int) / 4 := by omega
        have e2 : (v.length : Int) = (y.length : Int) / 4 := by omega
        simp [first, whenE, h1, e1, e2] at h
      · rw [if_pos h1, if_neg h2]
        by_cases h3 : u.length = y.length / 4
        · have e1 : (u.length : Int) = (y.length : Int) / 4 := by omega
          have e2 : ¬ (v.length : Int) = (y.length : Int) / 4 := by omega
          simp [first, whenE, h1, e1, e2]
        · have e1 : ¬ (u.length : Int) = (y.length : Int) / 4 := by omega
          simp [first, whenE, h1, e1]
    · simp [first, h1]
  · have h : first [chkSig y, whenE ((u.length : Int) != (y.length : Int) / 4) 2, whenE ((v.length : Int) != (y.length : Int) / 4) 2] = 0 := by simpa using h
    by_cases h1 : chkSig y = 0
    · by_cases h2 : (u.length : Int) = (y.length : Int) / 4
      · by_cases h3 : (v.length : Int) = (y.length : Int) / 4
        · obtain ⟨k1, _, _⟩ := chkSig_zero.1 h1
          rw [if_pos h1, if_pos (by omega)]
          exact ⟨by omega, by omega, by decide, rfl, trivial⟩
        · simp [first, whenE, h1, h2, h3] at h
      · simp [first, whenE, h1, h2] at h
    · simp [first, h1] at h
theorem so26_ : SpecOk P1 gl1 26 sp26 := by
  intro vs ps r h hp
  simp only [sp26] at h
  split at h
  · cases h; exact fn26 _ _ _ (hp _ (.head _))
  · cases h
theorem so26 : Sp1 26 sp26 := ⟨so26_, Proofs.Tryz.f26, _, by kernel_rfl, rfl, by kernel_rfl⟩
theorem fn130 (n : Int)  : Fn P1 gl1 130 [iV n] (.val (bV (lgI n))) true := by
  refine Fn.flat ?_ rfl
  refine fn_of false [] [] h0 0 Proofs.Tryz.f130 trivial trivial (by kernel_rfl) rfl (by kernel_rfl) rfl rfl rfl ?_
  rw [vc130]
  try simp only [splitB_iff, -eq_self]
  unfold lgI
  rw [bcond_l]
  exact ⟨rfl, trivial⟩
theorem so130_ : SpecOk P1 gl1 130 sp130 := by
  intro vs ps r h _
  simp only [sp130] at h
  split at h
  · cases h; exact fn130 _ 
  · cases h
theorem so130 : Sp1 130 sp130 := ⟨so130_, Proofs.Tryz.f130, _, by kernel_rfl, rfl, by kernel_rfl⟩
theorem fn138 (l : List Int) (hl : l.length ≤ 1000000) : Fn P1 gl1 138 [.one (.sl (.int .i64) l)] (.tup [.one (.frs (.flt .f32) (smpsN l)), iV (lgE l)]) true := by
  refine Fn.flat ?_ rfl
  refine fn_of false [(130, sp130), (159, sp159)] [fb157, fb194] h138 3 Proofs.Tryz.f138 ⟨so130, so159, trivial⟩ ⟨⟨by kernel_rfl, by kernel_rfl, _, rfl, by kernel_rfl⟩, ⟨by kernel_rfl, by kernel_rfl, _, rfl, by kernel_rfl⟩, trivial⟩ (by kernel_rfl) rfl (by kernel_rfl) rfl rfl rfl ?_
  rw [vc138]
  try simp only [splitB_iff, -eq_self]
  refine ⟨⟨0, ⟨by omega, fun j hj => absurd hj (by omega)⟩, rfl, rfl, rfl, trivial⟩, fun g hg => ⟨fun hlt => ?_, fun hge => ?_⟩⟩
  · have hlt : g < l.length := by simpa using hlt
    refine ⟨by omega, fun h => ?_, fun h => ?_⟩
    · have hn : l.any lgI = true := List.any_eq_true.2 ⟨_, getD_mem' hlt, h⟩
      unfold smpsN lgE
      rw [hn]
      exact ⟨rfl, rfl, trivial⟩
    · refine ⟨by simp only [fits]; omega, g + 1, ⟨by omega, fun j hj => ?_⟩, by omega, by simp, rfl, rfl, trivial⟩
      by_cases e : j = g
      · subst e; exact h
      · exact hg.2 j (by omega)
  · have hge : ¬ g < l.length := by simpa using hge
    have hn : Bd 16384 l := bd_of_lg fun j hj => hg.2 j (by omega)
    rw [smpsN_of hn, lgE_of hn]
    exact ⟨hl, bd_le hn (by omega), rfl, rfl, trivial⟩
theorem so138_ : SpecOk P1 gl1 138 sp138 := by
  intro vs ps r h hp
  simp only [sp138] at h
  split at h
  · cases h; exact fn138 _ (hp _ (.head _))
  · cases h
theorem so138 : Sp1 138 sp138 := ⟨so138_, Proofs.Tryz.f138, _, by kernel_rfl, rfl, by kernel_rfl⟩
theorem fn164 (x y : Int) (hx : -2000000000 ≤ x ∧ x ≤ 2000000000) (hy : -2000000000 ≤ y ∧ y ≤ 2000000000) : Fn P1 gl1 164 [iV x, iV y] (.val (iV (plusI x y))) true := by
  refine Fn.flat ?_ rfl
  refine fn_of false [] [] h0 0 Proofs.Tryz.f164 trivial trivial (by kernel_rfl) rfl (by kernel_rfl) rfl rfl rfl ?_
  rw [vc164]
  try simp only [splitB_iff, -eq_self]
  unfold plusI
  exact ⟨by simp only [fits]; omega, rfl, trivial⟩
theorem so164_ : SpecOk P1 gl1 164 sp164 := by
  intro vs ps r h hp
  simp only [sp164] at h
  split at h
  · cases h; exact fn164 _ _ (hp _ (.head _)) (hp _ (.tail _ (.head _)))
  · cases h
theorem so164 : Sp1 164 sp164 := ⟨so164_, Proofs.Tryz.f164, _, by kernel_rfl, rfl, by kernel_rfl⟩
theorem fn118 (x y : Int) (hx : -2000000000 ≤ x ∧ x ≤ 2000000000) (hy : -2000000000 ≤ y ∧ y ≤ 2000000000) : Fn P1 gl1 118 [iV x, iV y] (.val (iV (minusI x y))) true := by
  refine Fn.flat ?_ rfl
  refine fn_of false [] [] h0 0 Proofs.Tryz.f118 trivial trivial (by kernel_rfl) rfl (by kernel_rfl) rfl rfl rfl ?_
  rw [vc118]
  try simp only [splitB_iff, -eq_self]
  unfold minusI
  exact ⟨by simp only [fits]; omega, rfl, trivial⟩
theorem so118_ : SpecOk P1 gl1 118 sp118 := by
  intro vs ps r h hp
  simp only [sp118] at h
  split at h
  · cases h; exact fn118 _ _ (hp _ (.head _)) (hp _ (.tail _ (.head _)))
  · cases h
theorem so118 : Sp1 118 sp118 := ⟨so118_, Proofs.Tryz.f118, _, by kernel_rfl, rfl, by kernel_rfl⟩
theorem fn119 (x y : Int) (hx : -100000000 ≤ x ∧ x ≤ 100000000) (hy : -100000000 ≤ y ∧ y ≤ 100000000) : Fn P1 gl1 119 [iV x, iV y] (.val (iV (midI x y))) true := by
  refine Fn.flat ?_ rfl
  refine fn_of false [(120, sp120)] [] h0 0 Proofs.Tryz.f119 ⟨so120, trivial⟩ trivial (by kernel_rfl) rfl (by kernel_rfl) rfl rfl rfl ?_
  rw [vc119]
  try simp only [splitB_iff, -eq_self]
  unfold midI
  exact ⟨by simp only [fits]; omega, by omega, by omega, rfl, trivial⟩
theorem so119_ : SpecOk P1 gl1 119 sp119 := by
  intro vs ps r h hp
  simp only [sp119] at h
  split at h
  · cases h; exact fn119 _ _ (hp _ (.head _)) (hp _ (.tail _ (.head _)))
  · cases h
theorem so119 : Sp1 119 sp119 := ⟨so119_, Proofs.Tryz.f119, _, by kernel_rfl, rfl, by kernel_rfl⟩
theorem fn171 (x y : Int) (hx : -100000000 ≤ x ∧ x ≤ 100000000) (hy : -100000000 ≤ y ∧ y ≤ 100000000) : Fn P1 gl1 171 [iV x, iV y] (.val (iV (lessI x y))) true := by
  refine Fn.flat ?_ rfl
  refine fn_of false [] [] h0 0 Proofs.Tryz.f171 trivial trivial (by kernel_rfl) rfl (by kernel_rfl) rfl rfl rfl ?_
  rw [vc171]
  try simp only [splitB_iff, -eq_self]
  unfold lessI
  exact ⟨by simp only [fits]; omega, by simp only [fits]; omega, rfl, trivial⟩
theorem so171_ : SpecOk P1 gl1 171 sp171 := by
  intro vs ps r h hp
  simp only [sp171] at h
  split at h
  · cases h; exact fn171 _ _ (hp _ (.head _)) (hp _ (.tail _ (.head _)))
  · cases h
theorem so171 : Sp1 171 sp171 := ⟨so171_, Proofs.Tryz.f171, _, by kernel_rfl, rfl, by kernel_rfl⟩
theorem fn173 (x y : Int) (hx : -100000000 ≤ x ∧ x ≤ 100000000) (hy : -100000000 ≤ y ∧ y ≤ 100000000) : Fn P1 gl1 173 [iV x, iV y] (.val (iV (farI x y))) true := by
  refine Fn.flat ?_ rfl
  refine fn_of false [] [] h0 0 Proofs.Tryz.f173 trivial trivial (by kernel_rfl) rfl (by kernel_rfl) rfl rfl rfl ?_
  rw [vc173]
  try simp only [splitB_iff, -eq_self]
  unfold farI
  exact ⟨by simp only [fits]; omega, by simp only [fits]; omega, rfl, trivial⟩
theorem so173_ : SpecOk P1 gl1 173 sp173 := by
  intro vs ps r h hp
  simp only [sp173] at h
  split at h
  · cases h; exact fn173 _ _ (hp _ (.head _)) (hp _ (.tail _ (.head _)))
  · cases h
theorem so173 : Sp1 173 sp173 := ⟨so173_, Proofs.Tryz.f173, _, by kernel_rfl, rfl, by kernel_rfl⟩
theorem fn117a (a b : List Int) (hl : a.length ≤ 100000) (hb : b.length = a.length) (h1 : Bd 1000000 a) (h2 : Bd 1000000 b) : Fn P1 gl1 117 [.one (.sl (.int .i64) a), .one (.sl (.int .i64) b), .one (.fn 164 [] [])] (.val (.one (.frs (.int .i64) (combI plusI a b)))) true := by
  refine Fn.flat ?_ rfl
  refine fn_of false [(164, sp164)] [] h117 0 Proofs.Tryz.f117 ⟨so164, trivial⟩ trivial (by kernel_rfl) rfl (by kernel_rfl) rfl rfl rfl ?_
  rw [vc117a]
  try simp only [splitB_iff, -eq_self]
  simp only [List.length_replicate, fillTo_len, -eq_self]
  refine ⟨by omega, by simp only [room]; omega, ⟨0, Nat.zero_le _, rfl, rfl, rfl, rfl, (fillTo_zero _ _ _).symm, trivial⟩, fun g hg => ⟨fun hlt => ?_, fun hge => ?_⟩⟩
  · have hlt : g < a.length := by simpa using hlt
    have k1 := bd_get h1 (i := g) (by omega)
    have k2 := bd_get h2 (i := g) (by omega)
    exact ⟨by omega, by omega, by omega, by omega, by omega, hlt, by simp only [fits]; omega, g + 1, hlt, by omega, by simp, rfl, rfl, rfl, fillTo_set _ _ _ _, trivial⟩
  · have hge : ¬ g < a.length := by simpa using hge
    rw [fillTo_all _ _ _ _ (by omega)]
    exact ⟨rfl, trivial⟩
theorem fn117b (a b : List Int) (hl : a.length ≤ 100000) (hb : b.length = a.length) (h1 : Bd 1000000 a) (h2 : Bd 1000000 b) : Fn P1 gl1 117 [.one (.sl (.int .i64) a), .one (.sl (.int .i64) b), .one (.fn 118 [] [])] (.val (.one (.frs (.int .i64) (combI minusI a b)))) true := by
  refine Fn.flat ?_ rfl
  refine fn_of false [(118, sp118)] [] h117 0 Proofs.Tryz.f117 ⟨so118, trivial⟩ trivial (by kernel_rfl) rfl (by kernel_rfl) rfl rfl rfl ?_
  rw [vc117b]
  try simp only [splitB_iff, -eq_self]
  simp only [List.length_replicate, fillTo_len, -eq_self]
  refine ⟨by omega, by simp only [room]; omega, ⟨0, Nat.zero_le _, rfl, rfl, rfl, rfl, (fillTo_zero _ _ _).symm, trivial⟩, fun g hg => ⟨fun hlt => ?_, fun hge => ?_⟩⟩
  · have hlt : g < a.length := by simpa using hlt
    have k1 := bd_get h1 (i := g) (by omega)
    have k2 := bd_get h2 (i := g) (by omega)
    exact ⟨by omega, by omega, by omega, by omega, by omega, hlt, by simp only [fits]; omega, g + 1, hlt, by omega, by simp, rfl, rfl, rfl, fillTo_set _ _ _ _, trivial⟩
  · have hge : ¬ g < a.length := by simpa using hge
    rw [fillTo_all _ _ _ _ (by omega)]
    exact ⟨rfl, trivial⟩
theorem fn117c (a b : List Int) (hl : a.length ≤ 100000) (hb : b.length = a.length) (h1 : Bd 1000000 a) (h2 : Bd 1000000 b) : Fn P1 gl1 117 [.one (.sl (.int .i64) a), .one (.sl (.int .i64) b), .one (.fn 119 [] [])] (.val (.one (.frs (.int .i64) (combI midI a b)))) true := by
  refine Fn.flat ?_ rfl
  refine fn_of false [(119, sp119)] [] h117 0 Proofs.Tryz.f117 ⟨so119, trivial⟩ trivial (by kernel_rfl) rfl (by kernel_rfl) rfl rfl rfl ?_
  rw [vc117c]
  try simp only [splitB_iff, -eq_self]
  simp only [List.length_replicate, fillTo_len, -eq_self]
  refine ⟨by omega, by simp only [room]; omega, ⟨0, Nat.zero_le _, rfl, rfl, rfl, rfl, (fillTo_zero _ _ _).symm, trivial⟩, fun g hg => ⟨fun hlt => ?_, fun hge => ?_⟩⟩
  · have hlt : g < a.length := by simpa using hlt
    have k1 := bd_get h1 (i := g) (by omega)
    have k2 := bd_get h2 (i := g) (by omega)
    exact ⟨by omega, by omega, by omega, by omega, by omega, hlt, by simp only [fits]; omega, g + 1, hlt, by omega, by simp, rfl, rfl, rfl, fillTo_set _ _ _ _, trivial⟩
  · have hge : ¬ g < a.length := by simpa using hge
    rw [fillTo_all _ _ _ _ (by omega)]
    exact ⟨rfl, trivial⟩
theorem fn117d (a b : List Int) (hl : a.length ≤ 100000) (hb : b.length = a.length) (h1 : Bd 1000000 a) (h2 : Bd 1000000 b) : Fn P1 gl1 117 [.one (.sl (.int .i64) a), .one (.sl (.int .i64) b), .one (.fn 171 [] [])] (.val (.one (.frs (.int .i64) (combI lessI a b)))) true := by
  refine Fn.flat ?_ rfl
  refine fn_of false [(171, sp171)] [] h117 0 Proofs.Tryz.f117 ⟨so171, trivial⟩ trivial (by kernel_rfl) rfl (by kernel_rfl) rfl rfl rfl ?_
  rw [vc117d]
  try simp only [splitB_iff, -eq_self]
  simp only [List.length_replicate, fillTo_len, -eq_self]
  refine ⟨by omega, by simp only [room]; omega, ⟨0, Nat.zero_le _, rfl, rfl, rfl, rfl, (fillTo_zero _ _ _).symm, trivial⟩, fun g hg => ⟨fun hlt => ?_, fun hge => ?_⟩⟩
  · have hlt : g < a.length := by simpa using hlt
    have k1 := bd_get h1 (i := g) (by omega)
    have k2 := bd_get h2 (i := g) (by omega)
    exact ⟨by omega, by omega, by omega, by omega, by omega, hlt, by simp only [fits]; omega, g + 1, hlt, by omega, by simp, rfl, rfl, rfl, fillTo_set _ _ _ _, trivial⟩
  · have hge : ¬ g < a.length := by simpa using hge
    rw [fillTo_all _ _ _ _ (by omega)]
    exact ⟨rfl, trivial⟩
theorem fn117e (a b : List Int) (hl : a.length ≤ 100000) (hb : b.length = a.length) (h1 : Bd 1000000 a) (h2 : Bd 1000000 b) : Fn P1 gl1 117 [.one (.sl (.int .i64) a), .one (.sl (.int .i64) b), .one (.fn 173 [] [])] (.val (.one (.frs (.int .i64) (combI farI a b)))) true := by
  refine Fn.flat ?_ rfl
  refine fn_of false [(173, sp173)] [] h117 0 Proofs.Tryz.f117 ⟨so173, trivial⟩ trivial (by kernel_rfl) rfl (by kernel_rfl) rfl rfl rfl ?_
  rw [vc117e]
  try simp only [splitB_iff, -eq_self]
  simp only [List.length_replicate, fillTo_len, -eq_self]
  refine ⟨by omega, by simp only [room]; omega, ⟨0, Nat.zero_le _, rfl, rfl, rfl, rfl, (fillTo_zero _ _ _).symm, trivial⟩, fun g hg => ⟨fun hlt => ?_, fun hge => ?_⟩⟩
  · have hlt : g < a.length := by simpa using hlt
    have k1 := bd_get h1 (i := g) (by omega)
    have k2 := bd_get h2 (i := g) (by omega)
    exact ⟨by omega, by omega, by omega, by omega, by omega, hlt, by simp only [fits]; omega, g + 1, hlt, by omega, by simp, rfl, rfl, rfl, fillTo_set _ _ _ _, trivial⟩
  · have hge : ¬ g < a.length := by simpa using hge
    rw [fillTo_all _ _ _ _ (by omega)]
    exact ⟨rfl, trivial⟩
theorem so117_ : SpecOk P1 gl1 117 sp117 := by
  intro vs ps r h hp
  simp only [sp117] at h
  split at h
  · rename_i a b g
    split at h
    · rename_i f hf
      cases h
      have p1 := hp _ (.head _)
      have p2 := hp _ (.tail _ (.head _))
      have p3 := hp _ (.tail _ (.tail _ (.head _)))
      have p4 := hp _ (.tail _ (.tail _ (.tail _ (.head _))))
      unfold fnI at hf
      split at hf
      · cases hf; exact fn117a a b p1 p2 p3 p4
      · cases hf; exact fn117b a b p1 p2 p3 p4
      · cases hf; exact fn117c a b p1 p2 p3 p4
      · cases hf; exact fn117d a b p1 p2 p3 p4
      · cases hf; exact fn117e a b p1 p2 p3 p4
      · cases hf
    · cases h
  · cases h
theorem so117 : Sp1 117 sp117 := ⟨so117_, Proofs.Tryz.f117, _, by kernel_rfl, rfl, by kernel_rfl⟩
theorem fn163 (u v : List Int) (line : Int) (hl : u.length ≤ 100000) (hv : v.length = u.length) (h1 : Bd 1000000 u) (h2 : Bd 1000000 v) (hn : 0 ≤ line) : Fn P1 gl1 163 [.one (.sl (.int .i64) u), .one (.sl (.int .i64) v), iV line] (.val (.one (.frs (.int .i64) (carI u v (signI line))))) true := by
  refine Fn.flat ?_ rfl
  refine fn_of false [(170, sp170)] [] h163 0 Proofs.Tryz.f163 ⟨so170, trivial⟩ trivial (by kernel_rfl) rfl (by kernel_rfl) rfl rfl rfl ?_
  rw [vc163]
  try simp only [splitB_iff, -eq_self]
  have hs := signI_cases line
  generalize signI line = s at *
  refine ⟨hn, ⟨0, Nat.zero_le _, rfl, rfl, rfl, rfl, rfl, rfl, trivial⟩, fun g hg => ⟨fun hlt => ?_, fun hge => ?_⟩⟩
  · have hlt : g < u.length := by simpa using hlt
    have k1 := bd_get h1 (i := g) (by omega)
    have k2 := bd_get h2 (i := g) (by omega)
    refine ⟨by omega, ?_, by omega, ?_, ?_, by omega, ?_, ?_, by omega, ?_, by simp only [room, tab_len]; omega, by simp only [fits]; omega, g + 1, hlt, by omega, by simp, rfl, rfl, rfl, rfl, car_step _ _ _ _, trivial⟩ <;> simp only [fits] <;> rcases hs with rfl | rfl <;> omega
  · have hge : ¬ g < u.length := by simpa using hge
    have hg : g ≤ u.length := hg
    have e : g = u.length := by omega
    subst e
    exact ⟨rfl, trivial⟩
theorem so163_ : SpecOk P1 gl1 163 sp163 := by
  intro vs ps r h hp
  simp only [sp163] at h
  split at h
  · cases h; exact fn163 _ _ _ (hp _ (.head _)) (hp _ (.tail _ (.head _))) (hp _ (.tail _ (.tail _ (.head _)))) (hp _ (.tail _ (.tail _ (.tail _ (.head _))))) (hp _ (.tail _ (.tail _ (.tail _ (.tail _ (.head _))))))
  · cases h
theorem so163 : Sp1 163 sp163 := ⟨so163_, Proofs.Tryz.f163, _, by kernel_rfl, rfl, by kernel_rfl⟩
theorem fn97 (y u v : List Nat) (line : Int) (hp : chkPt y u v = 0) (hn : 0 ≤ line) : Fn P1 gl1 97 [ptV y u v, iV line] (.tup [.one (.frs (.flt .f32) (smpsN (encI y u v line))), iV (lgE (encI y u v line))]) true := by
  refine Fn.flat ?_ rfl
  refine fn_of false [(108, sp108), (163, sp163), (117, sp117), (138, sp138), (164, sp164)] [] h0 0 Proofs.Tryz.f97 ⟨so108, so163, so117, so138, so164, trivial⟩ trivial (by kernel_rfl) rfl (by kernel_rfl) rfl rfl rfl ?_
  rw [vc97]
  try simp only [splitB_iff, -eq_self]
  obtain ⟨h1, h2, h3, h4, h5⟩ := chkPt_zero.1 hp
  obtain ⟨k1, k2, k3⟩ := chkSig_zero.1 h1
  simp only [sixs_len, carI_len, combI_len, -eq_self]
  have b1 : Bd 1000000 (sixs u) := bd_le (bd_sixs h4) (by omega)
  have b2 : Bd 1000000 (sixs v) := bd_le (bd_sixs h5) (by omega)
  exact ⟨by omega, k3, by omega, h4, by omega, h5, by omega, by omega, b1, b2, hn, by omega, by omega, bd_le (bd_sixs k3) (by omega), bd_car (signI_cases _) (by omega) b1 b2, by omega, rfl, rfl, trivial⟩
theorem so97_ : SpecOk P1 gl1 97 sp97 := by
  intro vs ps r h hp
  simp only [sp97] at h
  split at h
  · cases h; exact fn97 _ _ _ _ (hp _ (.head _)) (hp _ (.tail _ (.head _)))
  · cases h
theorem so97 : Sp1 97 sp97 := ⟨so97_, Proofs.Tryz.f97, _, by kernel_rfl, rfl, by kernel_rfl⟩
theorem fn20 (y u v : List Nat) (line : Int) (hl : y.length ≤ 1000000000) : Fn P1 gl1 20 [ptV y u v, iV line] (.tup [.one (.frs (.flt .f32) (encL y u v line)), iV (encE y u v line)]) true := by
  refine Fn.flat ?_ rfl
  refine fn_of false [(26, sp26), (96, sp96), (95, sp95), (97, sp97)] [] h0 0 Proofs.Tryz.f20 ⟨so26, so96, so95, so97, trivial⟩ trivial (by kernel_rfl) rfl (by kernel_rfl) rfl rfl rfl ?_
  rw [vc20]
  try simp only [splitB_iff, -eq_self]
  unfold encL encE
  refine ⟨hl, by decide, fun h => ?_, fun h => ?_⟩
  · have h : ¬ first [chkPt y u v, within line 0 10000000] = 0 := by simpa using h
    rw [if_pos h, if_pos h]
    exact ⟨rfl, rfl, trivial⟩
  · have h : first [chkPt y u v, within line 0 10000000] = 0 := by simpa using h
    rw [if_neg (fun e => e h), if_neg (fun e => e h)]
    have h2 := first_zero.1 h
    have hl : 0 ≤ line := by
      have := h2 _ (.tail _ (.head _))
      unfold within at this
      split at this <;> omega
    exact ⟨h2 _ (.head _), hl, rfl, rfl, trivial⟩
theorem so20_ : SpecOk P1 gl1 20 sp20 := by
  intro vs ps r h hp
  simp only [sp20] at h
  split at h
  · cases h; exact fn20 _ _ _ _ (hp _ (.head _))
  · cases h
theorem so20 : Sp1 20 sp20 := ⟨so20_, Proofs.Tryz.f20, _, by kernel_rfl, rfl, by kernel_rfl⟩
theorem fn98 (l : List Nat) (hl : l.length ≤ 1000000) : Fn P1 gl1 98 [.one (.sl (.flt .f32) l)] (.val (iV (chkSs l))) true := by
  refine Fn.flat ?_ rfl
  refine fn_of false [(69, sp69)] [] h138 0 Proofs.Tryz.f98 ⟨so69, trivial⟩ trivial (by kernel_rfl) rfl (by kernel_rfl) rfl rfl rfl ?_
  rw [vc98]
  try simp only [splitB_iff, -eq_self]
  refine ⟨⟨0, ⟨by omega, rfl⟩, rfl, rfl, trivial⟩, fun g hg => ⟨fun hlt => ?_, fun hge => ?_⟩⟩
  · have hlt : g < l.length := by simpa using hlt
    have e : first (List.drop g (l.map chkS)) = if chkS (List.getD l g 0) = 0 then first (List.drop (g + 1) (l.map chkS)) else chkS (List.getD l g 0) := by
      rw [first_drop _ _ (by simpa using hlt), List.getElem_map, getD_of hlt]
    refine ⟨by omega, fun h => ⟨?_, trivial⟩, fun h => ⟨by simp only [fits]; omega, g + 1, ⟨by omega, ?_⟩, by omega, by simp, rfl, trivial⟩⟩
    · rw [hg.2, e, if_neg (by simpa using h)]
    · rw [hg.2, e, if_pos (by simpa using h)]
  · have hge : ¬ g < l.length := by simpa using hge
    rw [hg.2, List.drop_of_length_le (by rw [List.length_map]; omega)]
    exact ⟨rfl, trivial⟩
theorem so98_ : SpecOk P1 gl1 98 sp98 := by
  intro vs ps r h hp
  simp only [sp98] at h
  split at h
  · cases h; exact fn98 _ (hp _ (.head _))
  · cases h
theorem so98 : Sp1 98 sp98 := ⟨so98_, Proofs.Tryz.f98, _, by kernel_rfl, rfl, by kernel_rfl⟩
theorem fn36 (l : List Nat)  : Fn P1 gl1 36 [.one (.sl (.flt .f32) l)] (.val (iV (chkSig l))) true := by
  refine Fn.flat ?_ rfl
  refine fn_of false [(98, sp98)] [] h0 0 Proofs.Tryz.f36 ⟨so98, trivial⟩ trivial (by kernel_rfl) rfl (by kernel_rfl) rfl rfl rfl ?_
  rw [vc36]
  try simp only [splitB_iff, -eq_self]
  unfold chkSig
  refine ⟨fun h => ?_, fun h => ⟨by omega, fun k => ?_, fun k => ?_⟩⟩
  · have h : (256 : Int) < (l.length : Int) := of_decide_eq_true h
    rw [if_pos (by omega)]; exact ⟨rfl, trivial⟩
  · have h : ¬ (256 : Int) < (l.length : Int) := of_decide_eq_false h
    have k : ¬ (l.length : Int) % 4 = 0 := by simpa using k
    rw [if_neg (by omega), if_neg (by omega)]; exact ⟨rfl, trivial⟩
  · have h : ¬ (256 : Int) < (l.length : Int) := of_decide_eq_false h
    have k : (l.length : Int) % 4 = 0 := by simpa using k
    rw [if_neg (by omega), if_pos (by omega)]; exact ⟨by omega, rfl, trivial⟩
theorem so36_ : SpecOk P1 gl1 36 sp36 := by
  intro vs ps r h _
  simp only [sp36] at h
  split at h
  · cases h; exact fn36 _ 
  · cases h
theorem so36 : Sp1 36 sp36 := ⟨so36_, Proofs.Tryz.f36, _, by kernel_rfl, rfl, by kernel_rfl⟩
theorem fn23 (y u v : List Nat) (hl : y.length ≤ 1000000000) : Fn P1 gl1 23 [ptV y u v] (.val (iV (chkPt y u v))) true := by
  refine Fn.flat ?_ rfl
  refine fn_of false [(36, sp36), (98, sp98), (22, sp22)] [] h0 0 Proofs.Tryz.f23 ⟨so36, so98, so22, trivial⟩ trivial (by kernel_rfl) rfl (by kernel_rfl) rfl rfl rfl ?_
  rw [vc23]
  try simp only [splitB_iff, -eq_self]
  unfold chkPt
  simp only [bcond_l, Bool.or_eq_true, Bool.or_eq_false_iff, bne_iff_ne, bne_eq_false_iff_eq]
  refine ⟨fun h => ?_, fun h => ⟨⟨by omega, by decide, by simp only [fits]; omega⟩, fun _ => ⟨by omega, by decide, by simp only [fits]; omega⟩, fun k => ?_, fun k => ?_⟩⟩
  · rw [if_neg h]; exact ⟨rfl, trivial⟩
  · rw [if_pos h, if_neg (by omega)]; exact ⟨rfl, trivial⟩
  · obtain ⟨k1, _, _⟩ := chkSig_zero.1 h
    rw [if_pos h, if_pos (by omega)]
    exact ⟨by omega, by omega, by decide, rfl, trivial⟩
theorem so23_ : SpecOk P1 gl1 23 sp23 := by
  intro vs ps r h hp
  simp only [sp23] at h
  split at h
  · cases h; exact fn23 _ _ _ (hp _ (.head _))
  · cases h
theorem so23 : Sp1 23 sp23 := ⟨so23_, Proofs.Tryz.f23, _, by kernel_rfl, rfl, by kernel_rfl⟩
theorem fn102 (l : List Int) (hl : l.length ≤ 1000000) : Fn P1 gl1 102 [.one (.sl (.int .i64) l)] (.tup [.one (.frs (.flt .f32) (smpsN l)), iV (lgE l)]) true := by
  refine Fn.flat ?_ rfl
  refine fn_of false [(131, sp131)] [] h138 0 Proofs.Tryz.f102 ⟨so131, trivial⟩ trivial (by kernel_rfl) rfl (by kernel_rfl) rfl rfl rfl ?_
  rw [vc102]
  try simp only [splitB_iff, -eq_self]
  refine ⟨⟨0, ⟨by omega, fun j hj => absurd hj (by omega)⟩, rfl, rfl, rfl, trivial⟩, fun g hg => ⟨fun hlt => ?_, fun hge => ?_⟩⟩
  · have hlt : g < l.length := by simpa using hlt
    refine ⟨by omega, fun _ => by omega, fun h => ?_, fun h => ?_⟩
    · rw [bcond_l] at h
      have hn : l.any lgI = true := List.any_eq_true.2 ⟨_, getD_mem' hlt, h⟩
      unfold smpsN lgE
      rw [hn]
      exact ⟨rfl, rfl, trivial⟩
    · rw [bcond_l] at h
      have hq : lgI (List.getD l g 0) = false := h
      have hb := lgI_false.1 hq
      refine ⟨by omega, by omega, by simp only [room, List.length_map, List.length_take]; omega, by simp only [fits]; omega, g + 1, ⟨by omega, fun j hj => ?_⟩, by omega, by simp, rfl, ?_, trivial⟩
      · by_cases e : j = g
        · subst e; exact hq
        · exact hg.2 j (by omega)
      · rw [getD_of hlt, List.take_succ_eq_append_getElem hlt, List.map_append]
        rfl
  · have hge : ¬ g < l.length := by simpa using hge
    have hn : Bd 16384 l := bd_of_lg fun j hj => hg.2 j (by omega)
    rw [smpsN_of hn, lgE_of hn, List.take_of_length_le (by omega)]
    exact ⟨rfl, rfl, trivial⟩
theorem so102_ : SpecOk P1 gl1 102 sp102 := by
  intro vs ps r h hp
  simp only [sp102] at h
  split at h
  · cases h; exact fn102 _ (hp _ (.head _))
  · cases h
theorem so102 : Sp1 102 sp102 := ⟨so102_, Proofs.Tryz.f102, _, by kernel_rfl, rfl, by kernel_rfl⟩
theorem fn101 (a b k line : Int) (ha : -1000000 ≤ a ∧ a ≤ 1000000) (hb : -1000000 ≤ b ∧ b ≤ 1000000) (hk : 0 ≤ k ∧ k ≤ 3) (hn : 0 ≤ line) : Fn P1 gl1 101 [iV a, iV b, iV k, iV line] (.val (iV (carN a b k.toNat (signI line)))) true := by
  refine Fn.flat ?_ rfl
  refine fn_of false [(165, sp165)] [] h0 0 Proofs.Tryz.f101 ⟨so165, trivial⟩ trivial (by kernel_rfl) rfl (by kernel_rfl) rfl rfl rfl ?_
  rw [vc101]
  try simp only [splitB_iff, -eq_self]
  have hs := signI_cases line
  have hk2 : k = 0 ∨ k = 1 ∨ k = 2 ∨ k = 3 := by omega
  generalize signI line = s at *
  unfold carN
  refine ⟨by omega, fun h => ⟨fun h2 => ?_, fun h2 => ?_⟩, fun h => ⟨fun h2 => ?_, fun h2 => ?_⟩⟩ <;> rcases hk2 with rfl | rfl | rfl | rfl <;> first | (exfalso; revert h; decide) | (exfalso; revert h2; decide) | skip
  all_goals simp only [fits]
  all_goals rcases hs with rfl | rfl
  all_goals simp
  all_goals omega
theorem so101_ : SpecOk P1 gl1 101 sp101 := by
  intro vs ps r h hp
  simp only [sp101] at h
  split at h
  · cases h; exact fn101 _ _ _ _ (hp _ (.head _)) (hp _ (.tail _ (.head _))) (hp _ (.tail _ (.tail _ (.head _)))) (hp _ (.tail _ (.tail _ (.tail _ (.head _)))))
  · cases h
theorem so101 : Sp1 101 sp101 := ⟨so101_, Proofs.Tryz.f101, _, by kernel_rfl, rfl, by kernel_rfl⟩
theorem fn25 (y u v : List Nat) (line : Int) (hp : chkPt y u v = 0) (hn : 0 ≤ line) : Fn P1 gl1 25 [ptV y u v, iV line] (.tup [.one (.frs (.flt .f32) (smpsN (encI y u v line))), iV (lgE (encI y u v line))]) true := by
  refine Fn.flat ?_ rfl
  refine fn_of false [(100, sp100), (101, sp101), (102, sp102)] [] h138 0 Proofs.Tryz.f25 ⟨so100, so101, so102, trivial⟩ trivial (by kernel_rfl) rfl (by kernel_rfl) rfl rfl rfl ?_
  rw [vc25]
  try simp only [splitB_iff, -eq_self]
  obtain ⟨h1, h2, h3, h4, h5⟩ := chkPt_zero.1 hp
  obtain ⟨k1, k2, k3⟩ := chkSig_zero.1 h1
  rw [encI_tab y u v line h2 k2]
  simp only [putTo_len, sixs_len, -eq_self]
  refine ⟨by omega, k3, by omega, h4, by omega, h5, ⟨0, Nat.zero_le _, rfl, rfl, (putTo_zero _ _ _).symm, rfl, rfl, rfl, rfl, rfl, trivial⟩, fun g hg => ⟨fun hlt => ?_, fun hge => ?_⟩⟩
  · have hlt : g < y.length := by simpa using hlt
    have e1 : Int.toNat ((g : Int) / 4) = g / 4 := by omega
    have e2 : Int.toNat ((g : Int) % 4) = g % 4 := by omega
    have b0 := bd_get (bd_sixs k3) (i := g) (by omega)
    have b1 := bd_get (bd_sixs h4) (i := g / 4) (by omega)
    have b2 := bd_get (bd_sixs h5) (i := g / 4) (by omega)
    have b3 := carN_bd (k := g % 4) (signI_cases line) b1 b2
    rw [e1, e2, putTo_get (by rw [sixs_len]; exact hlt) (Nat.le_refl _)]
    simp only [fits, -eq_self]
    refine ⟨by omega, by omega, by omega, by omega, by omega, by omega, by omega, by omega, by omega, by omega, by omega, by omega, hn, by omega, by omega, by omega, by omega, g + 1, hlt, by omega, by simp, rfl, putTo_set _ _ _ _, rfl, rfl, rfl, rfl, rfl, trivial⟩
  · have hge : ¬ g < y.length := by simpa using hge
    rw [putTo_all _ _ _ _ (by rw [sixs_len]; omega), sixs_len]
    exact ⟨by omega, rfl, rfl, trivial⟩
theorem so25_ : SpecOk P1 gl1 25 sp25 := by
  intro vs ps r h hp
  simp only [sp25] at h
  split at h
  · cases h; exact fn25 _ _ _ _ (hp _ (.head _)) (hp _ (.tail _ (.head _)))
  · cases h
theorem so25 : Sp1 25 sp25 := ⟨so25_, Proofs.Tryz.f25, _, by kernel_rfl, rfl, by kernel_rfl⟩
theorem fn30 (l : List Nat)  : Fn P1 gl1 30 [.one (.sl (.flt .f32) l)] (.val (bV (shortS l))) true := by
  refine Fn.flat ?_ rfl
  refine fn_of false [] [] h0 0 Proofs.Tryz.f30 trivial trivial (by kernel_rfl) rfl (by kernel_rfl) rfl rfl rfl ?_
  rw [vc30]
  try simp only [splitB_iff, -eq_self]
  unfold shortS
  rw [bcond_l]
  refine ⟨?_, trivial⟩
  rw [Bool.eq_iff_iff]
  simp
theorem so30_ : SpecOk P1 gl1 30 sp30 := by
  intro vs ps r h _
  simp only [sp30] at h
  split at h
  · cases h; exact fn30 _ 
  · cases h
theorem so30 : Sp1 30 sp30 := ⟨so30_, Proofs.Tryz.f30, _, by kernel_rfl, rfl, by kernel_rfl⟩
theorem fn18 (y u v : List Nat)  : Fn P1 gl1 18 [ptV y u v] (.val (bV (shortP y u v))) true := by
  refine Fn.flat ?_ rfl
  refine fn_of false [(30, sp30)] [] h0 0 Proofs.Tryz.f18 ⟨so30, trivial⟩ trivial (by kernel_rfl) rfl (by kernel_rfl) rfl rfl rfl ?_
  rw [vc18]
  try simp only [splitB_iff, -eq_self]
  unfold shortP
  cases shortS y <;> simp
theorem so18_ : SpecOk P1 gl1 18 sp18 := by
  intro vs ps r h _
  simp only [sp18] at h
  split at h
  · cases h; exact fn18 _ _ _ 
  · cases h
theorem so18 : Sp1 18 sp18 := ⟨so18_, Proofs.Tryz.f18, _, by kernel_rfl, rfl, by kernel_rfl⟩
theorem fn34 (l : List Nat) (hl : l.length ≤ 1000000) : Fn P1 gl1 34 [.one (.sl (.flt .f32) l)] (.val (.one (.frs (.flt .f32) l))) true := by
  refine Fn.flat ?_ rfl
  refine fn_of false [] [] h0 0 Proofs.Tryz.f34 trivial trivial (by kernel_rfl) rfl (by kernel_rfl) rfl rfl rfl ?_
  rw [vc34]
  try simp only [splitB_iff, -eq_self]
  exact ⟨by simp only [room]; omega, rfl, trivial⟩
theorem so34_ : SpecOk P1 gl1 34 sp34 := by
  intro vs ps r h hp
  simp only [sp34] at h
  split at h
  · cases h; exact fn34 _ (hp _ (.head _))
  · cases h
theorem so34 : Sp1 34 sp34 := ⟨so34_, Proofs.Tryz.f34, _, by kernel_rfl, rfl, by kernel_rfl⟩
theorem fn21 (y u v : List Nat) (h1 : y.length ≤ 1000000) (h2 : u.length ≤ 1000000) (h3 : v.length ≤ 1000000) : Fn P1 gl1 21 [ptV y u v] (.val (ptV y u v)) true := by
  refine fn_ofr false [(34, sp34)] [] h0 0 Proofs.Tryz.f21 ⟨so34, trivial⟩ trivial (by kernel_rfl) rfl (by kernel_rfl) rfl rfl rfl ?_
  rw [vc21]
  try simp only [splitB_iff, -eq_self]
  exact ⟨h1, h2, h3, rfl, rfl, rfl, trivial⟩
theorem so21_ : SpecOk P1 gl1 21 sp21 := by
  intro vs ps r h hp
  simp only [sp21] at h
  split at h
  · cases h; exact fn21 _ _ _ (hp _ (.head _)) (hp _ (.tail _ (.head _))) (hp _ (.tail _ (.tail _ (.head _))))
  · cases h
theorem so21 : Sp1 21 sp21 := ⟨so21_, Proofs.Tryz.f21, _, by kernel_rfl, rfl, by kernel_rfl⟩
theorem fn27 (a b : List Nat) (hl : a.length ≤ 1000000000) : Fn P1 gl1 27 [.one (.sl (.flt .f32) a), .one (.sl (.flt .f32) b)] (.val (bV (sameS a b))) true := by
  refine Fn.flat ?_ rfl
  refine fn_of false [] [] h138 0 Proofs.Tryz.f27 trivial trivial (by kernel_rfl) rfl (by kernel_rfl) rfl rfl rfl ?_
  rw [vc27]
  try simp only [splitB_iff, -eq_self]
  have key : ∀ i, (Ieee.Format.order (FloatKind.format FloatKind.f32) (List.getD a i 0) (List.getD b i 0) != some Ordering.eq) = !Op.floatEq .f32 (List.getD a i 0) (List.getD b i 0) := fun _ => rfl
  simp only [key, Bool.not_eq_true', Bool.not_eq_false', -eq_self]
  refine ⟨fun h => ?_, fun h => ⟨⟨0, ⟨by omega, fun j hj => absurd hj (by omega)⟩, rfl, rfl, rfl, trivial⟩, fun g hg => ⟨fun hlt => ⟨?_, ?_, fun k => ?_, fun k => ?_⟩, fun hge => ?_⟩⟩⟩
  · have h : ¬ (a.length : Int) = b.length := by simpa using h
    unfold sameS
    rw [decide_eq_false h]
    exact ⟨rfl, trivial⟩
  · have hlt : g < a.length := by simpa using hlt
    omega
  · have h : (a.length : Int) = b.length := by simpa using h
    have hlt : g < a.length := by simpa using hlt
    omega
  · have hlt : g < a.length := by simpa using hlt
    have : sameS a b = false := by
      unfold sameS
      rw [Bool.and_eq_false_iff]
      refine .inr ?_
      rw [List.all_eq_false]
      exact ⟨g, List.mem_range.2 hlt, by rw [k]; decide⟩
    rw [this]
    exact ⟨rfl, trivial⟩
  · have hlt : g < a.length := by simpa using hlt
    refine ⟨by simp only [fits]; omega, g + 1, ⟨by omega, fun j hj => ?_⟩, by omega, by simp, rfl, rfl, trivial⟩
    by_cases e : j = g
    · subst e; exact k
    · exact hg.2 j (by omega)
  · have h : (a.length : Int) = b.length := by simpa using h
    have hge : ¬ g < a.length := by simpa using hge
    have : sameS a b = true := by
      unfold sameS
      simp only [Bool.and_eq_true, decide_eq_true_eq, List.all_eq_true, List.mem_range]
      exact ⟨h, fun i hi => hg.2 i (by omega)⟩
    rw [this]
    exact ⟨rfl, trivial⟩
theorem so27_ : SpecOk P1 gl1 27 sp27 := by
  intro vs ps r h hp
  simp only [sp27] at h
  split at h
  · cases h; exact fn27 _ _ (hp _ (.head _))
  · cases h
theorem so27 : Sp1 27 sp27 := ⟨so27_, Proofs.Tryz.f27, _, by kernel_rfl, rfl, by kernel_rfl⟩
end Go.Sx

/- Plain functions and hints. -/
namespace Go.Sx.U
def bndE (l : List Nat) (line : Int) : Int := if first [chkSig l, within line 0 10000000] ≠ 0 then first [chkSig l, within line 0 10000000] else partsE (bandI (sixs l) line)
def bndP (l : List Nat) (line : Int) : Pt := if first [chkSig l, within line 0 10000000] ≠ 0 then ([], [], []) else partsP (bandI (sixs l) line)
def sameP (a b : Pt) : Bool := sameS a.1 b.1 && sameS a.2.1 b.2.1 && sameS a.2.2 b.2.2
end Go.Sx.U
namespace Go.Sx
open U
@[reducible] def itV (x : It) : V := .agg [.one (.sl (.int .i64) x.1), .one (.sl (.int .i64) x.2.1), .one (.sl (.int .i64) x.2.2)]
@[reducible] def pV (x : Pt) : V := .agg [.one (.sl (.flt .f32) x.1), .one (.sl (.flt .f32) x.2.1), .one (.sl (.flt .f32) x.2.2)]
def insB (x : Nat × List Ch) : List (Nat × List Ch) → List (Nat × List Ch)
  | [] => [x]
  | y :: r => if x.1 ≤ y.1 then x :: y :: r else y :: insB x r
def boxesOf : List (Nat × Option AObj) → List (Nat × List Ch)
  | [] => []
  | (i, some (.box c)) :: r => insB (i, c) (boxesOf r)
  | _ :: r => boxesOf r
def boxS (s : St) : List (Nat × List Ch) := boxesOf (liveO [] s.ob)
def dropO (s : St) (ids : List Nat) : List (Nat × Option AObj) := (liveO [] s.ob).filter fun x => !ids.contains x.1
def ownC : List Ch → List Nat
  | [.one (.own j)] => [j]
  | _ => []
def h116 : Hints := ⟨fun f k s => match f, k with
  | 167, 1 => match boxS s with
    | [(_, [.one (.int .i64 line)]), (_, [.one (.int .i64 den)]), (bu, cu), (bv, cv), (_, [.one (.sl (.int .i64) l)])] =>
      some ⟨Nat, fun i => ⟨tI 7 i :: keepT [0, 1, 6] s.tm,
        (bu, some (.box [.one (.own s.nx)])) :: (s.nx, some (.row (.int .i64) (tab i fun c => diffAt 0 l c line den))) ::
        (bv, some (.box [.one (.own (s.nx + 1))])) :: (s.nx + 1, some (.row (.int .i64) (tab i fun c => diffAt 1 l c line den))) :: dropO s ([bu, bv] ++ ownC cu ++ ownC cv), s.nx + 2, s.lr⟩,
        fun i => i ≤ List.length l / 4, fun i => List.length l / 4 - i⟩
    | _ => none
  | _, _ => none, 0⟩
def h44 : Hints := ⟨fun f k s => match f, k with
  | 169, 3 => match listAs s 0 (.int .i64), intOfT s 1, intOfT s 2, intOfT s 3, intOfT s 4 with
    | some l, some c, some u, some v, some line => some ⟨Nat, fun i => ⟨[tI 12 i, (11, .val (.one (.own s.nx)))] ++ keepT [0, 1, 2, 3, 4] s.tm, (s.nx, some (.row (.int .i64) (tab i fun n => List.getD l (4 * c.toNat + n) 0 - carN u v n (signI line)))) :: lessO s [11], s.nx + 1, s.lr⟩, fun i => i ≤ 4, fun i => 4 - i⟩
    | _, _, _, _, _ => none
  | 44, 4 => match listAs s 6 (.int .i64), intOfT s 1 with
    | some l, some line => some ⟨Nat, fun i => ⟨[tI 10 i, (7, .val (.one (.own s.nx))), (8, .val (.one (.own (s.nx + 1)))), (9, .val (.one (.own (s.nx + 2))))] ++ keepT [1, 4, 6] s.tm,
        (s.nx, some (.row (.int .i64) (tab (4 * i) (apAt l l line 2)))) :: (s.nx + 1, some (.row (.int .i64) (tab i fun c => diffAt 0 l c line 2))) :: (s.nx + 2, some (.row (.int .i64) (tab i fun c => diffAt 1 l c line 2))) :: lessO s [7, 8, 9], s.nx + 3, s.lr⟩,
        fun i => i ≤ List.length l / 4, fun i => List.length l / 4 - i⟩
    | _, _ => none
  | _, _ => none, 0⟩
@[reducible] noncomputable def fb107 : Nat × Func := (107, Proofs.Tryz.f107)
@[reducible] noncomputable def fb167 : Nat × Func := (167, Proofs.Tryz.f167)
@[reducible] noncomputable def fb111 : Nat × Func := (111, Proofs.Tryz.f111)
@[reducible] noncomputable def fb168 : Nat × Func := (168, Proofs.Tryz.f168)
@[reducible] noncomputable def fb112 : Nat × Func := (112, Proofs.Tryz.f112)
@[reducible] noncomputable def fb114 : Nat × Func := (114, Proofs.Tryz.f114)
end Go.Sx
namespace Go.Sx
open U
def sp116 : FSpec := ⟨fun vs => match vs with
  | [.one (.sl (.int .i64) l), .one (.int .i64 line), .one (.int .i64 den)] => some ([List.length l ≤ 100000, Bd 1000000 l, 0 ≤ line, 0 < den ∧ den ≤ 1000], .tup [.one (.frs (.int .i64) (diffN 0 l line den)), .one (.frs (.int .i64) (diffN 1 l line den))])
  | _ => none, true⟩
def sp43 : FSpec := ⟨fun vs => match vs with
  | [.one (.sl (.flt .f32) l), .one (.int .i64 line)] => some ([], .tup [pV (bndP l line), iV (bndE l line)])
  | _ => none, true⟩
def sp125 : FSpec := ⟨fun vs => match vs with
  | [.one (.sl (.int .i64) l), .one (.int .i64 c), .one (.int .i64 line), .one (.int .i64 den)] => some ([Bd 1000000 l, 0 ≤ c ∧ 4 * c + 4 ≤ ((List.length l : Nat) : Int), List.length l ≤ 100000, 0 ≤ line, 0 < den ∧ den ≤ 1000], .tup [iV (diffAt 0 l c.toNat line den), iV (diffAt 1 l c.toNat line den)])
  | _ => none, true⟩
def sp169 : FSpec := ⟨fun vs => match vs with
  | [.one (.sl (.int .i64) l), .one (.int .i64 c), .one (.int .i64 u), .one (.int .i64 v), .one (.int .i64 line)] => some ([Bd 1000000 l, 0 ≤ c ∧ 4 * c + 4 ≤ ((List.length l : Nat) : Int), List.length l ≤ 100000, -1000000 ≤ u ∧ u ≤ 1000000, -1000000 ≤ v ∧ v ≤ 1000000, 0 ≤ line], .val (.one (.frs (.int .i64) (withN l c.toNat u v line))))
  | _ => none, true⟩
def sp113 : FSpec := ⟨fun vs => match vs with
  | [.one (.sl (.int .i64) l), .one (.int .i64 c), .one (.int .i64 line)] => some ([Bd 400000 l, 0 ≤ c ∧ 4 * c + 4 ≤ ((List.length l : Nat) : Int), List.length l ≤ 100000, 0 ≤ line], .tup [.one (.frs (.int .i64) (withN l c.toNat (diffAt 0 l c.toNat line 2) (diffAt 1 l c.toNat line 2) line)), iV (diffAt 0 l c.toNat line 2), iV (diffAt 1 l c.toNat line 2)])
  | _ => none, true⟩
def sp44 : FSpec := ⟨fun vs => match vs with
  | [.one (.sl (.flt .f32) l), .one (.int .i64 line)] => some ([chkSig l = 0, 0 ≤ line], .tup [pV (partsP (bandI (sixs l) line)), iV (partsE (bandI (sixs l) line))])
  | _ => none, true⟩
def sp45 : FSpec := ⟨fun vs => match vs with
  | [.agg [.one (.sl (.flt .f32) y), .one (.sl (.flt .f32) u), .one (.sl (.flt .f32) v)], .agg [.one (.sl (.flt .f32) y'), .one (.sl (.flt .f32) u'), .one (.sl (.flt .f32) v')]] => some ([List.length y ≤ 1000000000, List.length u ≤ 1000000000, List.length v ≤ 1000000000], .val (bV (sameP (y, u, v) (y', u', v'))))
  | _ => none, true⟩
def sp46 : FSpec := ⟨fun vs => match vs with
  | [.agg [.one (.sl (.flt .f32) y), .one (.sl (.flt .f32) u), .one (.sl (.flt .f32) v)]] => some ([], .val (ptV y u v))
  | _ => none, false⟩
end Go.Sx
