/- A verified symbolic run of functions, part 16: lemmas, no claim of their own. -/
import Derived.Test.YtpfngnmgipnmlaaDoorS15
/- Plain functions and hints. -/
namespace Go.Sx.U
/-- The error of a cadence. -/
def chkCad (l : List Int) : Int := if first [whenE (decide (l.length = 0)) 12, whenE (decide (8 < l.length)) 5] ≠ 0 then first [whenE (decide (l.length = 0)) 12, whenE (decide (8 < l.length)) 5] else first (l.map fun n => within n 1 4)
/-- The fields of some frames. -/
def fldTo (l : List Int) : Nat → List Int
  | 0 => []
  | i + 1 => fldTo l i ++ List.replicate (l.getD (i % l.length) 0).toNat (i : Int)
def prsTo (fs : List Int) : Nat → List (List Int)
  | 0 => []
  | k + 1 => prsTo fs k ++ [[fs.getD (2 * k) 0, fs.getD (2 * k + 1) 0]]
def pullN (l : List Int) (n : Nat) : List (List Int) := prsTo (fldTo l n) ((fldTo l n).length / 2)
def pullE (l : List Int) (n : Int) : Int := first [chkCad l, within n 0 256]
def pullL (l : List Int) (n : Int) : List (List Int) := if pullE l n = 0 then pullN l n.toNat else []
def convE (R : List Rl) (L : List Ed) (l : List Int) : Int := if first [chkEds R L, chkCad l] ≠ 0 then first [chkEds R L, chkCad l] else if 256 < lenL L then 5 else 0
def convL (R : List Rl) (L : List Ed) (l : List Int) : List (List Int) := if convE R L l = 0 then pullN l (lenL L).toNat else []
def labsN (x : St7) (p : List Pl) : List Lb := p.map fun q => lab x.1.1 x.1.2 (addN x.1.1 x.1.2 x.2.1.1 x.2.1.2.1 x.2.1.2.2.1 x.2.1.2.2.2 q.2)
/-- The least number of frames that pulls down to these pairs. -/
def undN (l : List Int) (ps : List (List Int)) : Nat := ((List.range 257).find? fun m => decide (pullN l m = ps)).getD 0
end Go.Sx.U
namespace Go.Sx
open U
abbrev p2T : Ty := .arr 2 (.int .i64)
def h130 : Hints := ⟨fun f k s => match f, k with
  | 130, 3 => hMapI (.int .i64) (fun n => within n 1 4) 8 9 10 5 [1] s
  | _, _ => none, 0⟩
def h94 : Hints := ⟨fun f k s => match f, k with
  | 94, 3 => match listAs s 0 (.int .i64), intOfT s 9 with
    | some l, some n => some ⟨Nat, fun i => ⟨[tI 10 i, (5, .val (.one (.own s.nx)))] ++ keepT [0, 9] s.tm, (s.nx, some (.row (.int .i64) (fldTo l i))) :: lessO s [5], s.nx + 1, s.lr⟩, fun i => i ≤ n.toNat, fun i => n.toNat - i⟩
    | _, _ => none
  | 94, 6 => match listAs s 5 (.int .i64), intOfT s 6, intOfT s 19 with
    | some o, some i, some c => some ⟨Nat, fun j => ⟨[tI 20 j, (5, .val (.one (.own s.nx)))] ++ keepT [0, 6, 9, 10, 19] s.tm, (s.nx, some (.row (.int .i64) (o ++ List.replicate j i))) :: lessO s [5], s.nx + 1, s.lr⟩, fun j => j ≤ c.toNat, fun j => c.toNat - j⟩
    | _, _, _ => none
  | 94, 12 => match listAs s 5 (.int .i64) with
    | some fs => some ⟨Nat, fun k => ⟨[tI 8 ((2 * k : Nat) : Int), (7, .val (.one (.own s.nx)))] ++ keepT [5] s.tm, (s.nx, some (.row p2T (prsTo fs k))) :: lessO s [7], s.nx + 1, s.lr⟩, fun k => k ≤ List.length fs / 2, fun k => List.length fs / 2 - k⟩
    | _ => none
  | _, _ => none, 0⟩
def h26 : Hints := ⟨fun f k s => match f, k with
  | 26, 6 => match listAs s 0 (.int .i64) with
    | some l => hCt s [0] 3 (List.length l) fun i => upTo (fun j => within (List.getD l j 0) 1 4) i = 0
    | _ => none
  | _, _ => none, 0⟩
def h87 : Hints := ⟨fun f k s => match f, k with
  | 87, 4 => match listAs s 0 p2T, listAs s 1 p2T with
    | some a, some b => hCt s [0, 1] 5 (List.length a) fun i => ∀ j, j < i → eqT (.arr 2 (.int .i64)) (List.getD a j [0, 0]) (List.getD b j [0, 0]) = true
    | _, _ => none
  | _, _ => none, 0⟩
def h93 : Hints := ⟨fun f k s => match f, k with
  | 93, 4 => match listAs s 0 p2T, listAs s 1 p2T with
    | some a, some b => hCt s [0, 1, 11, 12] 13 (List.length a) fun i => ∀ j, j < i → eqT (.arr 2 (.int .i64)) (List.getD a j [0, 0]) (List.getD b j [0, 0]) = true
    | _, _ => none
  | _, _ => none, 0⟩
def h32 : Hints := ⟨fun f k s => match f, k with
  | 32, 6 => match listAs s 0 (.int .i64), listAs s 1 p2T with
    | some l, some ps => hCt s [0, 1, 7, 8] 21 257 fun i => ∀ m, m < i → pullN l m ≠ ps
    | _, _ => none
  | _, _ => none, 0⟩
def h34 : Hints := ⟨fun f k s => match f, k with
  | 34, 6 => match listAs s 27 plT, ptrId s 5 with
    | some p, some b => match lookO s.ob b with
      | some (.box [.one (.int .i64 F), .one (.bool D), .one (.int .i64 h), .one (.int .i64 m), .one (.int .i64 c), .one (.int .i64 f), .one (.int .i64 u)]) => some ⟨Nat, fun i => ⟨[tI 29 i, (9, .val (.one (.own s.nx)))] ++ keepT [5, 27, 28] s.tm, (s.nx, some (.row lbT (labsN ((F, D), (h, m, c, f), u) (List.take i p)))) :: lessO s [9], s.nx + 1, s.lr⟩, fun i => i ≤ List.length p, fun i => List.length p - i⟩
      | _ => none
    | _, _ => none
  | _, _ => none, 0⟩
@[reducible] noncomputable def fb131 : Nat × Func := (131, Proofs.Tryd.f131)
end Go.Sx
namespace Go.Sx
open U
def sp130 : FSpec := ⟨fun vs => match vs with
  | [.one (.sl (.int .i64) l), .one (.fn 131 [] [])] => some ([List.length l ≤ 1000000], .val (.one (.frs (.int .i64) (List.map (fun n => within n 1 4) l))))
  | _ => none, true⟩
def sp91 : FSpec := ⟨fun vs => match vs with
  | [.one (.sl (.int .i64) l)] => some ([], .val (iV (chkCad l)))
  | _ => none, true⟩
def sp26 : FSpec := ⟨fun vs => match vs with
  | [.one (.sl (.int .i64) l)] => some ([], .val (iV (chkCad l)))
  | _ => none, true⟩
def sp94 : FSpec := ⟨fun vs => match vs with
  | [.one (.sl (.int .i64) l), .one (.int .i64 n)] => some ([chkCad l = 0, 0 ≤ n ∧ n ≤ 256], .val (.one (.frs p2T (pullN l (Int.toNat n)))))
  | _ => none, true⟩
def sp92 : FSpec := ⟨fun vs => match vs with
  | [.one (.sl (.int .i64) l), .one (.int .i64 n)] => some ([], .tup [.one (.frs p2T (pullL l n)), iV (pullE l n)])
  | _ => none, true⟩
def sp31 : FSpec := ⟨fun vs => match vs with
  | [.one (.sl (.pair .str (.pair (.int .i64) (.sl (.int .i64)))) R), .one (.sl (.pair .str (.pair (.int .i64) (.pair (.int .i64) (.pair (.int .i64) (.int .i64))))) L), .one (.sl (.int .i64) l)] => some ([List.length R ≤ 1000000000, ∀ r ∈ (show List Rl from R), List.length r.2.2 ≤ 1000000, List.length L ≤ 1000000000], .tup [.one (.frs p2T (convL R L l)), iV (convE R L l)])
  | _ => none, true⟩
def sp34 : FSpec := ⟨fun vs => match vs with
  | [.one (.sl (.pair .str (.pair (.int .i64) (.sl (.int .i64)))) R), .one (.sl (.pair .str (.pair (.int .i64) (.pair (.int .i64) (.pair (.int .i64) (.int .i64))))) L), .agg [.one (.int .i64 F), .one (.bool D), .one (.int .i64 h), .one (.int .i64 m), .one (.int .i64 s), .one (.int .i64 f), .one (.int .i64 u)]] => some ([List.length R ≤ 1000000000, ∀ r ∈ (show List Rl from R), List.length r.2.2 ≤ 1000000, List.length L ≤ 1000000000, StOk ((F, D), (h, m, s, f), u)], .tup [.one (.frs lbT (if chkEds R L = 0 then labsN ((F, D), (h, m, s, f), u) (ls L) else [])), iV (chkEds R L)])
  | _ => none, true⟩
def sp87 : FSpec := ⟨fun vs => match vs with
  | [.one (.sl (.arr 2 (.int .i64)) a), .one (.sl (.arr 2 (.int .i64)) b)] => some ([List.length a ≤ 1000000, ∀ x ∈ (show List (List Int) from a), List.length x = 2, ∀ x ∈ (show List (List Int) from b), List.length x = 2], .val (bV (decide (a = b))))
  | _ => none, true⟩
def sp93 : FSpec := ⟨fun vs => match vs with
  | [.one (.sl (.arr 2 (.int .i64)) a), .one (.sl (.arr 2 (.int .i64)) b)] => some ([List.length a ≤ 1000000, ∀ x ∈ (show List (List Int) from a), List.length x = 2, ∀ x ∈ (show List (List Int) from b), List.length x = 2], .val (bV (decide (a = b))))
  | _ => none, true⟩
def sp32 : FSpec := ⟨fun vs => match vs with
  | [.one (.sl (.int .i64) l), .one (.sl (.arr 2 (.int .i64)) ps)] => some ([chkCad l = 0, List.length ps ≤ 512, ∀ x ∈ (show List (List Int) from ps), List.length x = 2, ∃ n, n ≤ 256 ∧ pullN l n = ps], .tup [iV (undN l ps : Int), iV 0])
  | _ => none, true⟩
end Go.Sx

/- What the engine asks, written out (printed by a program). -/
namespace Go.Sx
open U
theorem vc130 (l : List Int) : exF (env false [(53, sp53)] [fb131]) h130 3 130 Proofs.Tryd.f130 [.one (.sl (.int .i64) l), .one (.fn 131 [] [])] (.val (.one (.frs (.int .i64) (List.map (fun n => within n 1 4) l)))) = ((∃ (g : Nat), Nat.le g (List.length l) ∧ (0 : Int) = (↑g : Int) ∧ (↑(List.length l) : Int) = (↑(List.length l) : Int) ∧ l = l ∧ List.map (fun (n : Int) => within n (1 : Int) (4 : Int)) (List.take g l) = [] ∧ True) ∧ ∀ (g : Nat), Nat.le g (List.length l) → splitB (decide ((↑g : Int) < (↑(List.length l) : Int))) (((0 : Int) ≤ (↑g : Int) ∧ (↑g : Int) < (↑(List.length l) : Int)) ∧ room (List.length (List.map (fun (n : Int) => within n (1 : Int) (4 : Int)) (List.take g l)) + (1 : Nat)) (8 : Nat) ∧ fits IntKind.i64 ((↑g : Int) + (1 : Int)) ∧ ∃ (g' : Nat), Nat.le g' (List.length l) ∧ List.length l - g' < List.length l - g ∧ (↑g : Int) + (1 : Int) = (↑g' : Int) ∧ (↑(List.length l) : Int) = (↑(List.length l) : Int) ∧ l = l ∧ List.map (fun (n : Int) => within n (1 : Int) (4 : Int)) (List.take g l) ++ [within (List.getD l g (0 : Int)) (1 : Int) (4 : Int)] = List.map (fun (n : Int) => within n (1 : Int) (4 : Int)) (List.take g' l) ∧ True) (List.map (fun (n : Int) => within n (1 : Int) (4 : Int)) (List.take g l) = List.map (fun (n : Int) => within n (1 : Int) (4 : Int)) l ∧ True)) := by
  kernel_rfl
theorem vc91 (l : List Int) : exF (env false [(68, sp68), (52, sp52), (130, sp130)] []) h0 0 91 Proofs.Tryd.f91 [.one (.sl (.int .i64) l)] (.val (iV (chkCad l))) = ((2 : Nat) ≤ (1000000000 : Nat) ∧ splitB (first [whenE ((↑(List.length l) : Int) == (0 : Int)) (12 : Int), whenE (decide ((8 : Int) < (↑(List.length l) : Int))) (5 : Int)] != (0 : Int)) (first [whenE ((↑(List.length l) : Int) == (0 : Int)) (12 : Int), whenE (decide ((8 : Int) < (↑(List.length l) : Int))) (5 : Int)] = chkCad l ∧ True) (List.length l ≤ (1000000 : Nat) ∧ List.length (List.map (fun (n : Int) => within n (1 : Int) (4 : Int)) l) ≤ (1000000000 : Nat) ∧ first (List.map (fun (n : Int) => within n (1 : Int) (4 : Int)) l) = chkCad l ∧ True)) := by
  kernel_rfl
theorem vc26 (l : List Int) : exF (env false [(46, sp46)] []) h26 0 26 Proofs.Tryd.f26 [.one (.sl (.int .i64) l)] (.val (iV (chkCad l))) = (splitB ((↑(List.length l) : Int) == (0 : Int)) ((12 : Int) = chkCad l ∧ True) (splitB (decide ((8 : Int) < (↑(List.length l) : Int))) ((5 : Int) = chkCad l ∧ True) ((∃ (g : Nat), (g ≤ List.length l ∧ upTo (fun (j : Nat) => within (List.getD l j (0 : Int)) (1 : Int) (4 : Int)) g = (0 : Int)) ∧ (0 : Int) = (↑g : Int) ∧ l = l ∧ True) ∧ ∀ (g : Nat), g ≤ List.length l ∧ upTo (fun (j : Nat) => within (List.getD l j (0 : Int)) (1 : Int) (4 : Int)) g = (0 : Int) → splitB (decide ((↑g : Int) < (↑(List.length l) : Int))) (((0 : Int) ≤ (↑g : Int) ∧ (↑g : Int) < (↑(List.length l) : Int)) ∧ splitB (within (List.getD l g (0 : Int)) (1 : Int) (4 : Int) != (0 : Int)) (within (List.getD l g (0 : Int)) (1 : Int) (4 : Int) = chkCad l ∧ True) (fits IntKind.i64 ((↑g : Int) + (1 : Int)) ∧ ∃ (g' : Nat), (g' ≤ List.length l ∧ upTo (fun (j : Nat) => within (List.getD l j (0 : Int)) (1 : Int) (4 : Int)) g' = (0 : Int)) ∧ List.length l - g' < List.length l - g ∧ (↑g : Int) + (1 : Int) = (↑g' : Int) ∧ l = l ∧ True)) ((0 : Int) = chkCad l ∧ True)))) := by
  kernel_rfl
theorem vc94 (l : List Int) (n : Int) : exF (env false [] []) h94 0 94 Proofs.Tryd.f94 [.one (.sl (.int .i64) l), iV n] (.val (.one (.frs p2T (pullN l n.toNat)))) = ((∃ (g : Nat), Nat.le g (Int.toNat n) ∧ (0 : Int) = (↑g : Int) ∧ n = n ∧ l = l ∧ fldTo l g = [] ∧ True) ∧ ∀ (g : Nat), Nat.le g (Int.toNat n) → splitB (decide ((↑g : Int) < n)) (((0 : Int) ≤ (↑g : Int) ∧ (0 : Int) < (↑(List.length l) : Int)) ∧ ((0 : Int) ≤ (↑g : Int) % (↑(List.length l) : Int) ∧ (↑g : Int) % (↑(List.length l) : Int) < (↑(List.length l) : Int)) ∧ (∃ (g_1 : Nat), Nat.le g_1 (Int.toNat (List.getD l (Int.toNat ((↑g : Int) % (↑(List.length l) : Int))) (0 : Int))) ∧ (0 : Int) = (↑g_1 : Int) ∧ List.getD l (Int.toNat ((↑g : Int) % (↑(List.length l) : Int))) (0 : Int) = List.getD l (Int.toNat ((↑g : Int) % (↑(List.length l) : Int))) (0 : Int) ∧ (↑g : Int) = (↑g : Int) ∧ (↑g : Int) = (↑g : Int) ∧ n = n ∧ l = l ∧ fldTo l g = fldTo l g ++ List.replicate g_1 (↑g : Int) ∧ True) ∧ ∀ (g_1 : Nat), Nat.le g_1 (Int.toNat (List.getD l (Int.toNat ((↑g : Int) % (↑(List.length l) : Int))) (0 : Int))) → splitB (decide ((↑g_1 : Int) < List.getD l (Int.toNat ((↑g : Int) % (↑(List.length l) : Int))) (0 : Int))) (room (List.length (fldTo l g ++ List.replicate g_1 (↑g : Int)) + (1 : Nat)) (8 : Nat) ∧ fits IntKind.i64 ((↑g_1 : Int) + (1 : Int)) ∧ ∃ (g' : Nat), Nat.le g' (Int.toNat (List.getD l (Int.toNat ((↑g : Int) % (↑(List.length l) : Int))) (0 : Int))) ∧ Int.toNat (List.getD l (Int.toNat ((↑g : Int) % (↑(List.length l) : Int))) (0 : Int)) - g' < Int.toNat (List.getD l (Int.toNat ((↑g : Int) % (↑(List.length l) : Int))) (0 : Int)) - g_1 ∧ (↑g_1 : Int) + (1 : Int) = (↑g' : Int) ∧ List.getD l (Int.toNat ((↑g : Int) % (↑(List.length l) : Int))) (0 : Int) = List.getD l (Int.toNat ((↑g : Int) % (↑(List.length l) : Int))) (0 : Int) ∧ (↑g : Int) = (↑g : Int) ∧ (↑g : Int) = (↑g : Int) ∧ n = n ∧ l = l ∧ fldTo l g ++ List.replicate g_1 (↑g : Int) ++ [(↑g : Int)] = fldTo l g ++ List.replicate g' (↑g : Int) ∧ True) (fits IntKind.i64 ((↑g : Int) + (1 : Int)) ∧ ∃ (g' : Nat), Nat.le g' (Int.toNat n) ∧ Int.toNat n - g' < Int.toNat n - g ∧ (↑g : Int) + (1 : Int) = (↑g' : Int) ∧ n = n ∧ l = l ∧ fldTo l g ++ List.replicate g_1 (↑g : Int) = fldTo l g' ∧ True)) ((∃ (g_1 : Nat), Nat.le g_1 (List.length (fldTo l g) / (2 : Nat)) ∧ (0 : Int) = (↑((2 : Nat) * g_1) : Int) ∧ prsTo (fldTo l g) g_1 = [] ∧ fldTo l g = fldTo l g ∧ True) ∧ ∀ (g_1 : Nat), Nat.le g_1 (List.length (fldTo l g) / (2 : Nat)) → fits IntKind.i64 ((↑((2 : Nat) * g_1) : Int) + (1 : Int)) ∧ splitB (decide ((↑((2 : Nat) * g_1) : Int) + (1 : Int) < (↑(List.length (fldTo l g)) : Int))) (((0 : Int) ≤ (↑((2 : Nat) * g_1) : Int) ∧ (↑((2 : Nat) * g_1) : Int) < (↑(List.length (fldTo l g)) : Int)) ∧ (2 : Nat) * g_1 < List.length (fldTo l g) ∧ fits IntKind.i64 ((↑((2 : Nat) * g_1) : Int) + (1 : Int)) ∧ ((0 : Int) ≤ (↑((2 : Nat) * g_1) : Int) + (1 : Int) ∧ (↑((2 : Nat) * g_1) : Int) + (1 : Int) < (↑(List.length (fldTo l g)) : Int)) ∧ Int.toNat ((↑((2 : Nat) * g_1) : Int) + (1 : Int)) < List.length (fldTo l g) ∧ room (List.length (prsTo (fldTo l g) g_1) + (1 : Nat)) (16 : Nat) ∧ fits IntKind.i64 ((↑((2 : Nat) * g_1) : Int) + (2 : Int)) ∧ ∃ (g' : Nat), Nat.le g' (List.length (fldTo l g) / (2 : Nat)) ∧ List.length (fldTo l g) / (2 : Nat) - g' < List.length (fldTo l g) / (2 : Nat) - g_1 ∧ (↑((2 : Nat) * g_1) : Int) + (2 : Int) = (↑((2 : Nat) * g') : Int) ∧ prsTo (fldTo l g) g_1 ++ [[List.getD (fldTo l g) ((2 : Nat) * g_1) (0 : Int), List.getD (fldTo l g) (Int.toNat ((↑((2 : Nat) * g_1) : Int) + (1 : Int))) (0 : Int)]] = prsTo (fldTo l g) g' ∧ fldTo l g = fldTo l g ∧ True) (prsTo (fldTo l g) g_1 = pullN l (Int.toNat n) ∧ True))) := by
  kernel_rfl
theorem vc92 (l : List Int) (n : Int) : exF (env false [(91, sp91), (53, sp53), (52, sp52), (94, sp94)] []) h0 0 92 Proofs.Tryd.f92 [.one (.sl (.int .i64) l), iV n] (.tup [.one (.frs p2T (pullL l n)), iV (pullE l n)]) = ((2 : Nat) ≤ (1000000000 : Nat) ∧ splitB (first [chkCad l, within n (0 : Int) (256 : Int)] != (0 : Int)) (pullL l n = [] ∧ first [chkCad l, within n (0 : Int) (256 : Int)] = pullE l n ∧ True) (chkCad l = (0 : Int) ∧ ((0 : Int) ≤ n ∧ n ≤ (256 : Int)) ∧ pullN l (Int.toNat n) = pullL l n ∧ (0 : Int) = pullE l n ∧ True)) := by
  kernel_rfl
theorem vc31 (R : List Rl) (L : List Ed) (l : List Int) : exF (env false [(43, sp43), (91, sp91), (78, sp78), (88, sp88), (92, sp92)] []) h0 0 31 Proofs.Tryd.f31 [.one (.sl rlT R), .one (.sl edT L), .one (.sl (.int .i64) l)] (.tup [.one (.frs p2T (convL R L l)), iV (convE R L l)]) = (List.length R ≤ (1000000000 : Nat) ∧ (∀ (r : Rl), r ∈ R → List.length (Prod.snd (Prod.snd r)) ≤ (1000000 : Nat)) ∧ List.length L ≤ (1000000000 : Nat) ∧ (2 : Nat) ≤ (1000000000 : Nat) ∧ splitB (first [chkEds R L, chkCad l] != (0 : Int)) (convL R L l = [] ∧ first [chkEds R L, chkCad l] = convE R L l ∧ True) (List.length R ≤ (1000000000 : Nat) ∧ EdsIn L ∧ splitB (decide ((256 : Int) < begN L (List.length L))) (convL R L l = [] ∧ (5 : Int) = convE R L l ∧ True) (pullL l (begN L (List.length L)) = convL R L l ∧ pullE l (begN L (List.length L)) = convE R L l ∧ True))) := by
  kernel_rfl
theorem vc34 (R : List Rl) (L : List Ed) (x : St7) : exF (env false [(43, sp43), (55, sp55), (78, sp78), (88, sp88), (12, sp12)] []) h34 0 34 Proofs.Tryd.f34 [.one (.sl rlT R), .one (.sl edT L), stW x] (.tup [.one (.frs lbT (if chkEds R L = 0 then labsN x (ls L) else [])), iV (chkEds R L)]) = (List.length R ≤ (1000000000 : Nat) ∧ (∀ (r : Rl), r ∈ R → List.length (Prod.snd (Prod.snd r)) ≤ (1000000 : Nat)) ∧ List.length L ≤ (1000000000 : Nat) ∧ (0 : Int) ≤ Prod.fst (Prod.snd (Prod.fst (Prod.snd x))) ∧ ((0 : Int) ≤ Prod.fst (Prod.fst x) ∧ Prod.fst (Prod.fst x) ≤ (1000 : Int)) ∧ (2 : Nat) ≤ (1000000000 : Nat) ∧ splitB (first [chkEds R L, chkStamp (Prod.fst (Prod.fst x)) (Prod.snd (Prod.fst x)) (Prod.fst (Prod.fst (Prod.snd x))) (Prod.fst (Prod.snd (Prod.fst (Prod.snd x)))) (Prod.fst (Prod.snd (Prod.snd (Prod.fst (Prod.snd x))))) (Prod.snd (Prod.snd (Prod.snd (Prod.fst (Prod.snd x))))) (Prod.snd (Prod.snd x))] != (0 : Int)) ((if chkEds R L = (0 : Int) then labsN x (ls L) else []) = [] ∧ first [chkEds R L, chkStamp (Prod.fst (Prod.fst x)) (Prod.snd (Prod.fst x)) (Prod.fst (Prod.fst (Prod.snd x))) (Prod.fst (Prod.snd (Prod.fst (Prod.snd x)))) (Prod.fst (Prod.snd (Prod.snd (Prod.fst (Prod.snd x))))) (Prod.snd (Prod.snd (Prod.snd (Prod.fst (Prod.snd x))))) (Prod.snd (Prod.snd x))] = chkEds R L ∧ True) (List.length R ≤ (1000000000 : Nat) ∧ EdsIn L ∧ (∃ (g : Nat), Nat.le g (List.length (plTo L (List.length L))) ∧ (0 : Int) = (↑g : Int) ∧ (↑(List.length (plTo L (List.length L))) : Int) = (↑(List.length (plTo L (List.length L))) : Int) ∧ plTo L (List.length L) = plTo L (List.length L) ∧ labsN ((Prod.fst (Prod.fst x), Prod.snd (Prod.fst x)), (Prod.fst (Prod.fst (Prod.snd x)), Prod.fst (Prod.snd (Prod.fst (Prod.snd x))), Prod.fst (Prod.snd (Prod.snd (Prod.fst (Prod.snd x)))), Prod.snd (Prod.snd (Prod.snd (Prod.fst (Prod.snd x))))), Prod.snd (Prod.snd x)) (List.take g (plTo L (List.length L))) = [] ∧ [chkEds R L, chkStamp (Prod.fst (Prod.fst x)) (Prod.snd (Prod.fst x)) (Prod.fst (Prod.fst (Prod.snd x))) (Prod.fst (Prod.snd (Prod.fst (Prod.snd x)))) (Prod.fst (Prod.snd (Prod.snd (Prod.fst (Prod.snd x))))) (Prod.snd (Prod.snd (Prod.snd (Prod.fst (Prod.snd x))))) (Prod.snd (Prod.snd x))] = [chkEds R L, chkStamp (Prod.fst (Prod.fst x)) (Prod.snd (Prod.fst x)) (Prod.fst (Prod.fst (Prod.snd x))) (Prod.fst (Prod.snd (Prod.fst (Prod.snd x)))) (Prod.fst (Prod.snd (Prod.snd (Prod.fst (Prod.snd x))))) (Prod.snd (Prod.snd (Prod.snd (Prod.fst (Prod.snd x))))) (Prod.snd (Prod.snd x))] ∧ Prod.fst (Prod.fst x) = Prod.fst (Prod.fst x) ∧ Prod.snd (Prod.fst x) = Prod.snd (Prod.fst x) ∧ Prod.fst (Prod.fst (Prod.snd x)) = Prod.fst (Prod.fst (Prod.snd x)) ∧ Prod.fst (Prod.snd (Prod.fst (Prod.snd x))) = Prod.fst (Prod.snd (Prod.fst (Prod.snd x))) ∧ Prod.fst (Prod.snd (Prod.snd (Prod.fst (Prod.snd x)))) = Prod.fst (Prod.snd (Prod.snd (Prod.fst (Prod.snd x)))) ∧ Prod.snd (Prod.snd (Prod.snd (Prod.fst (Prod.snd x)))) = Prod.snd (Prod.snd (Prod.snd (Prod.fst (Prod.snd x)))) ∧ Prod.snd (Prod.snd x) = Prod.snd (Prod.snd x) ∧ True) ∧ ∀ (g : Nat), Nat.le g (List.length (plTo L (List.length L))) → splitB (decide ((↑g : Int) < (↑(List.length (plTo L (List.length L))) : Int))) (((0 : Int) ≤ (↑g : Int) ∧ (↑g : Int) < (↑(List.length (plTo L (List.length L))) : Int)) ∧ RateOk (Prod.fst (Prod.fst x)) (Prod.snd (Prod.fst x)) ∧ LabOk (Prod.fst (Prod.fst x)) (Prod.snd (Prod.fst x)) (Prod.fst (Prod.fst (Prod.snd x))) (Prod.fst (Prod.snd (Prod.fst (Prod.snd x)))) (Prod.fst (Prod.snd (Prod.snd (Prod.fst (Prod.snd x))))) (Prod.snd (Prod.snd (Prod.snd (Prod.fst (Prod.snd x))))) ∧ ((0 : Int) ≤ Prod.snd (List.getD (plTo L (List.length L)) g pl0) ∧ Prod.snd (List.getD (plTo L (List.length L)) g pl0) ≤ (10000000 : Int)) ∧ room (List.length (labsN ((Prod.fst (Prod.fst x), Prod.snd (Prod.fst x)), (Prod.fst (Prod.fst (Prod.snd x)), Prod.fst (Prod.snd (Prod.fst (Prod.snd x))), Prod.fst (Prod.snd (Prod.snd (Prod.fst (Prod.snd x)))), Prod.snd (Prod.snd (Prod.snd (Prod.fst (Prod.snd x))))), Prod.snd (Prod.snd x)) (List.take g (plTo L (List.length L)))) + (1 : Nat)) (32 : Nat) ∧ fits IntKind.i64 ((↑g : Int) + (1 : Int)) ∧ ∃ (g' : Nat), Nat.le g' (List.length (plTo L (List.length L))) ∧ List.length (plTo L (List.length L)) - g' < List.length (plTo L (List.length L)) - g ∧ (↑g : Int) + (1 : Int) = (↑g' : Int) ∧ (↑(List.length (plTo L (List.length L))) : Int) = (↑(List.length (plTo L (List.length L))) : Int) ∧ plTo L (List.length L) = plTo L (List.length L) ∧ labsN ((Prod.fst (Prod.fst x), Prod.snd (Prod.fst x)), (Prod.fst (Prod.fst (Prod.snd x)), Prod.fst (Prod.snd (Prod.fst (Prod.snd x))), Prod.fst (Prod.snd (Prod.snd (Prod.fst (Prod.snd x)))), Prod.snd (Prod.snd (Prod.snd (Prod.fst (Prod.snd x))))), Prod.snd (Prod.snd x)) (List.take g (plTo L (List.length L))) ++ [(Prod.fst (lab (Prod.fst (Prod.fst x)) (Prod.snd (Prod.fst x)) (addN (Prod.fst (Prod.fst x)) (Prod.snd (Prod.fst x)) (Prod.fst (Prod.fst (Prod.snd x))) (Prod.fst (Prod.snd (Prod.fst (Prod.snd x)))) (Prod.fst (Prod.snd (Prod.snd (Prod.fst (Prod.snd x))))) (Prod.snd (Prod.snd (Prod.snd (Prod.fst (Prod.snd x))))) (Prod.snd (List.getD (plTo L (List.length L)) g pl0)))), Prod.fst (Prod.snd (lab (Prod.fst (Prod.fst x)) (Prod.snd (Prod.fst x)) (addN (Prod.fst (Prod.fst x)) (Prod.snd (Prod.fst x)) (Prod.fst (Prod.fst (Prod.snd x))) (Prod.fst (Prod.snd (Prod.fst (Prod.snd x)))) (Prod.fst (Prod.snd (Prod.snd (Prod.fst (Prod.snd x))))) (Prod.snd (Prod.snd (Prod.snd (Prod.fst (Prod.snd x))))) (Prod.snd (List.getD (plTo L (List.length L)) g pl0))))), Prod.fst (Prod.snd (Prod.snd (lab (Prod.fst (Prod.fst x)) (Prod.snd (Prod.fst x)) (addN (Prod.fst (Prod.fst x)) (Prod.snd (Prod.fst x)) (Prod.fst (Prod.fst (Prod.snd x))) (Prod.fst (Prod.snd (Prod.fst (Prod.snd x)))) (Prod.fst (Prod.snd (Prod.snd (Prod.fst (Prod.snd x))))) (Prod.snd (Prod.snd (Prod.snd (Prod.fst (Prod.snd x))))) (Prod.snd (List.getD (plTo L (List.length L)) g pl0)))))), Prod.snd (Prod.snd (Prod.snd (lab (Prod.fst (Prod.fst x)) (Prod.snd (Prod.fst x)) (addN (Prod.fst (Prod.fst x)) (Prod.snd (Prod.fst x)) (Prod.fst (Prod.fst (Prod.snd x))) (Prod.fst (Prod.snd (Prod.fst (Prod.snd x)))) (Prod.fst (Prod.snd (Prod.snd (Prod.fst (Prod.snd x))))) (Prod.snd (Prod.snd (Prod.snd (Prod.fst (Prod.snd x))))) (Prod.snd (List.getD (plTo L (List.length L)) g pl0)))))))] = labsN ((Prod.fst (Prod.fst x), Prod.snd (Prod.fst x)), (Prod.fst (Prod.fst (Prod.snd x)), Prod.fst (Prod.snd (Prod.fst (Prod.snd x))), Prod.fst (Prod.snd (Prod.snd (Prod.fst (Prod.snd x)))), Prod.snd (Prod.snd (Prod.snd (Prod.fst (Prod.snd x))))), Prod.snd (Prod.snd x)) (List.take g' (plTo L (List.length L))) ∧ [chkEds R L, chkStamp (Prod.fst (Prod.fst x)) (Prod.snd (Prod.fst x)) (Prod.fst (Prod.fst (Prod.snd x))) (Prod.fst (Prod.snd (Prod.fst (Prod.snd x)))) (Prod.fst (Prod.snd (Prod.snd (Prod.fst (Prod.snd x))))) (Prod.snd (Prod.snd (Prod.snd (Prod.fst (Prod.snd x))))) (Prod.snd (Prod.snd x))] = [chkEds R L, chkStamp (Prod.fst (Prod.fst x)) (Prod.snd (Prod.fst x)) (Prod.fst (Prod.fst (Prod.snd x))) (Prod.fst (Prod.snd (Prod.fst (Prod.snd x)))) (Prod.fst (Prod.snd (Prod.snd (Prod.fst (Prod.snd x))))) (Prod.snd (Prod.snd (Prod.snd (Prod.fst (Prod.snd x))))) (Prod.snd (Prod.snd x))] ∧ Prod.fst (Prod.fst x) = Prod.fst (Prod.fst x) ∧ Prod.snd (Prod.fst x) = Prod.snd (Prod.fst x) ∧ Prod.fst (Prod.fst (Prod.snd x)) = Prod.fst (Prod.fst (Prod.snd x)) ∧ Prod.fst (Prod.snd (Prod.fst (Prod.snd x))) = Prod.fst (Prod.snd (Prod.fst (Prod.snd x))) ∧ Prod.fst (Prod.snd (Prod.snd (Prod.fst (Prod.snd x)))) = Prod.fst (Prod.snd (Prod.snd (Prod.fst (Prod.snd x)))) ∧ Prod.snd (Prod.snd (Prod.snd (Prod.fst (Prod.snd x)))) = Prod.snd (Prod.snd (Prod.snd (Prod.fst (Prod.snd x)))) ∧ Prod.snd (Prod.snd x) = Prod.snd (Prod.snd x) ∧ True) ((labsN ((Prod.fst (Prod.fst x), Prod.snd (Prod.fst x)), (Prod.fst (Prod.fst (Prod.snd x)), Prod.fst (Prod.snd (Prod.fst (Prod.snd x))), Prod.fst (Prod.snd (Prod.snd (Prod.fst (Prod.snd x)))), Prod.snd (Prod.snd (Prod.snd (Prod.fst (Prod.snd x))))), Prod.snd (Prod.snd x)) (List.take g (plTo L (List.length L))) = if chkEds R L = (0 : Int) then labsN x (ls L) else []) ∧ (0 : Int) = chkEds R L ∧ True))) := by
  kernel_rfl
theorem vc87 (a b : List (List Int)) : exF (env false [] []) h87 0 87 Proofs.Tryd.f87 [.one (.sl p2T a), .one (.sl p2T b)] (.val (bV (decide (a = b)))) = (splitB ((↑(List.length a) : Int) != (↑(List.length b) : Int)) (false = decide (a = b) ∧ True) ((∃ (g : Nat), (g ≤ List.length a ∧ ∀ (j : Nat), j < g → eqT (Ty.arr (2 : Nat) (Ty.int IntKind.i64)) (List.getD a j [(0 : Int), (0 : Int)]) (List.getD b j [(0 : Int), (0 : Int)]) = true) ∧ (0 : Int) = (↑g : Int) ∧ a = a ∧ b = b ∧ True) ∧ ∀ (g : Nat), (g ≤ List.length a ∧ ∀ (j : Nat), j < g → eqT (Ty.arr (2 : Nat) (Ty.int IntKind.i64)) (List.getD a j [(0 : Int), (0 : Int)]) (List.getD b j [(0 : Int), (0 : Int)]) = true) → splitB (decide ((↑g : Int) < (↑(List.length a) : Int))) (((0 : Int) ≤ (↑g : Int) ∧ (↑g : Int) < (↑(List.length a) : Int)) ∧ ((0 : Int) ≤ (↑g : Int) ∧ (↑g : Int) < (↑(List.length b) : Int)) ∧ splitB (!eqT (Ty.arr (2 : Nat) (Ty.int IntKind.i64)) (List.getD a g (List.replicate (2 : Nat) (0 : Int))) (List.getD b g (List.replicate (2 : Nat) (0 : Int)))) (false = decide (a = b) ∧ True) (fits IntKind.i64 ((↑g : Int) + (1 : Int)) ∧ ∃ (g' : Nat), (g' ≤ List.length a ∧ ∀ (j : Nat), j < g' → eqT (Ty.arr (2 : Nat) (Ty.int IntKind.i64)) (List.getD a j [(0 : Int), (0 : Int)]) (List.getD b j [(0 : Int), (0 : Int)]) = true) ∧ List.length a - g' < List.length a - g ∧ (↑g : Int) + (1 : Int) = (↑g' : Int) ∧ a = a ∧ b = b ∧ True)) (true = decide (a = b) ∧ True))) := by
  kernel_rfl
theorem vc93 (a b : List (List Int)) : exF (env false [] []) h93 0 93 Proofs.Tryd.f93 [.one (.sl p2T a), .one (.sl p2T b)] (.val (bV (decide (a = b)))) = (splitB ((↑(List.length a) : Int) != (↑(List.length b) : Int)) (false = decide (a = b) ∧ True) ((∃ (g : Nat), (g ≤ List.length a ∧ ∀ (j : Nat), j < g → eqT (Ty.arr (2 : Nat) (Ty.int IntKind.i64)) (List.getD a j [(0 : Int), (0 : Int)]) (List.getD b j [(0 : Int), (0 : Int)]) = true) ∧ (0 : Int) = (↑g : Int) ∧ (↑(List.length a) : Int) = (↑(List.length a) : Int) ∧ a = a ∧ a = a ∧ b = b ∧ True) ∧ ∀ (g : Nat), (g ≤ List.length a ∧ ∀ (j : Nat), j < g → eqT (Ty.arr (2 : Nat) (Ty.int IntKind.i64)) (List.getD a j [(0 : Int), (0 : Int)]) (List.getD b j [(0 : Int), (0 : Int)]) = true) → splitB (decide ((↑g : Int) < (↑(List.length a) : Int))) (((0 : Int) ≤ (↑g : Int) ∧ (↑g : Int) < (↑(List.length a) : Int)) ∧ ((0 : Int) ≤ (↑g : Int) ∧ (↑g : Int) < (↑(List.length b) : Int)) ∧ splitB (!eqT (Ty.arr (2 : Nat) (Ty.int IntKind.i64)) (List.getD a g (List.replicate (2 : Nat) (0 : Int))) (List.getD b g (List.replicate (2 : Nat) (0 : Int)))) (false = decide (a = b) ∧ True) (fits IntKind.i64 ((↑g : Int) + (1 : Int)) ∧ ∃ (g' : Nat), (g' ≤ List.length a ∧ ∀ (j : Nat), j < g' → eqT (Ty.arr (2 : Nat) (Ty.int IntKind.i64)) (List.getD a j [(0 : Int), (0 : Int)]) (List.getD b j [(0 : Int), (0 : Int)]) = true) ∧ List.length a - g' < List.length a - g ∧ (↑g : Int) + (1 : Int) = (↑g' : Int) ∧ (↑(List.length a) : Int) = (↑(List.length a) : Int) ∧ a = a ∧ a = a ∧ b = b ∧ True)) (true = decide (a = b) ∧ True))) := by
  kernel_rfl
theorem vc32 (l : List Int) (ps : List (List Int)) : exF (env false [(91, sp91), (68, sp68), (52, sp52), (94, sp94), (93, sp93)] []) h32 0 32 Proofs.Tryd.f32 [.one (.sl (.int .i64) l), .one (.sl p2T ps)] (.tup [iV (undN l ps : Int), iV 0]) = ((2 : Nat) ≤ (1000000000 : Nat) ∧ splitB (first [chkCad l, whenE (decide ((512 : Int) < (↑(List.length ps) : Int))) (5 : Int)] != (0 : Int)) ((0 : Int) = (↑(undN l ps) : Int) ∧ first [chkCad l, whenE (decide ((512 : Int) < (↑(List.length ps) : Int))) (5 : Int)] = (0 : Int) ∧ True) ((∃ (g : Nat), (g ≤ (257 : Nat) ∧ ∀ (m : Nat), m < g → pullN l m ≠ ps) ∧ (0 : Int) = (↑g : Int) ∧ false = false ∧ (0 : Int) = (0 : Int) ∧ l = l ∧ ps = ps ∧ [chkCad l, whenE (decide ((512 : Int) < (↑(List.length ps) : Int))) (5 : Int)] = [chkCad l, whenE (decide ((512 : Int) < (↑(List.length ps) : Int))) (5 : Int)] ∧ True) ∧ ∀ (g : Nat), (g ≤ (257 : Nat) ∧ ∀ (m : Nat), m < g → pullN l m ≠ ps) → splitB (decide ((↑g : Int) < (257 : Int))) (chkCad l = (0 : Int) ∧ ((0 : Int) ≤ (↑g : Int) ∧ (↑g : Int) ≤ (256 : Int)) ∧ List.length (pullN l g) ≤ (1000000 : Nat) ∧ (∀ (x : List Int), x ∈ pullN l g → List.length x = (2 : Nat)) ∧ (∀ (x : List Int), x ∈ ps → List.length x = (2 : Nat)) ∧ splitB (decide (pullN l g = ps)) ((↑g : Int) = (↑(undN l ps) : Int) ∧ (0 : Int) = (0 : Int) ∧ True) (fits IntKind.i64 ((↑g : Int) + (1 : Int)) ∧ ∃ (g' : Nat), (g' ≤ (257 : Nat) ∧ ∀ (m : Nat), m < g' → pullN l m ≠ ps) ∧ (257 : Nat) - g' < (257 : Nat) - g ∧ (↑g : Int) + (1 : Int) = (↑g' : Int) ∧ false = false ∧ (0 : Int) = (0 : Int) ∧ l = l ∧ ps = ps ∧ [chkCad l, whenE (decide ((512 : Int) < (↑(List.length ps) : Int))) (5 : Int)] = [chkCad l, whenE (decide ((512 : Int) < (↑(List.length ps) : Int))) (5 : Int)] ∧ True)) ((0 : Int) = (↑(undN l ps) : Int) ∧ (19 : Int) = (0 : Int) ∧ True))) := by
  kernel_rfl
end Go.Sx

/- Plain laws of cadences. -/
namespace Go.Sx
open U

theorem getD_app {α : Type} (xs ys : List α) (a : Nat) (d : α) : (xs ++ ys).getD a d = if a < xs.length then xs.getD a d else ys.getD (a - xs.length) d := by
  rw [List.getD_eq_getElem?_getD]
  split
  · rename_i h
    rw [List.getElem?_append_left h, ← List.getD_eq_getElem?_getD]
  · rename_i h
    rw [List.getElem?_append_right (by omega), ← List.getD_eq_getElem?_getD]
theorem getD_rep {α : Type} {c j : Nat} (x d : α) (h : j < c) : (List.replicate c x).getD j d = x := by
  rw [getD_of (by simpa using h)]; simp

theorem cad_map (l : List Int) : first (l.map fun n => within n 1 4) = 0 ↔ ∀ x ∈ l, 1 ≤ x ∧ x ≤ 4 := by
  rw [first_zero_iff]
  constructor
  · intro h x hx
    exact within_zero.1 (h _ (List.mem_map_of_mem hx))
  · intro h y hy
    obtain ⟨x, hx, rfl⟩ := List.mem_map.1 hy
    exact within_zero.2 (h x hx)
theorem chkCad_ok {l : List Int} (h : chkCad l = 0) : (1 ≤ l.length ∧ l.length ≤ 8) ∧ ∀ x ∈ l, 1 ≤ x ∧ x ≤ 4 := by
  unfold chkCad at h
  split at h
  · rename_i h1; exact absurd h h1
  · rename_i h1
    have hz := (first_zero_iff _).1 (show first [whenE (decide (l.length = 0)) 12, whenE (decide (8 < l.length)) 5] = 0 by simpa using h1)
    have h2 := of_decide_eq_false ((whenE_zero (by decide)).1 (hz _ List.mem_cons_self))
    have h3 := of_decide_eq_false ((whenE_zero (by decide)).1 (hz _ (List.mem_cons_of_mem _ List.mem_cons_self)))
    exact ⟨by omega, (cad_map l).1 h⟩

section
variable {l : List Int} (h : chkCad l = 0)
include h
theorem fld_cnt (i : Nat) : 1 ≤ l.getD (i % l.length) 0 ∧ l.getD (i % l.length) 0 ≤ 4 := by
  obtain ⟨h1, h2⟩ := chkCad_ok h
  exact h2 _ (getD_mem (Nat.mod_lt _ (by omega)))
theorem fld_len : ∀ n : Nat, n ≤ (fldTo l n).length ∧ (fldTo l n).length ≤ 4 * n
  | 0 => ⟨Nat.le_refl _, Nat.le_refl _⟩
  | n + 1 => by
    have ih := fld_len n
    have := fld_cnt h n
    simp only [fldTo, List.length_append, List.length_replicate]
    omega
theorem fld_last : ∀ n : Nat, 0 < n → (fldTo l n).getD ((fldTo l n).length - 1) 0 = (n : Int) - 1
  | 0, h0 => by omega
  | n + 1, _ => by
    have := fld_cnt h n
    simp only [fldTo]
    rw [getD_app, List.length_append, List.length_replicate, if_neg (by omega), getD_rep _ _ (by omega)]
    omega
theorem fld_steps : ∀ n a : Nat, a < (fldTo l n).length → (0 ≤ (fldTo l n).getD a 0 ∧ (fldTo l n).getD a 0 < n) ∧ (a = 0 → (fldTo l n).getD a 0 = 0) ∧ (0 < a → (fldTo l n).getD (a - 1) 0 ≤ (fldTo l n).getD a 0 ∧ (fldTo l n).getD a 0 ≤ (fldTo l n).getD (a - 1) 0 + 1)
  | 0, a, ha => by simp [fldTo] at ha
  | n + 1, a, ha => by
    have hl := fld_len h n
    have hc := fld_cnt h n
    simp only [fldTo] at ha ⊢
    rw [List.length_append, List.length_replicate] at ha
    rw [getD_app, getD_app]
    by_cases h1 : a < (fldTo l n).length
    · have ih := fld_steps n a h1
      rw [if_pos h1, if_pos (by omega)]
      exact ⟨by omega, ih.2.1, ih.2.2⟩
    · rw [if_neg h1, getD_rep _ _ (by omega)]
      refine ⟨by omega, fun h0 => by omega, fun h0 => ?_⟩
      by_cases h2 : a - 1 < (fldTo l n).length
      · have e : a - 1 = (fldTo l n).length - 1 := by omega
        rw [if_pos h2, e]
        have hn : 0 < n := by
          apply Nat.pos_of_ne_zero
          rintro rfl
          simp [fldTo] at h2
        rw [fld_last h n hn]
        omega
      · rw [if_neg h2, getD_rep _ _ (by omega)]
        omega
end
theorem prs_len (fs : List Int) : ∀ k, (prsTo fs k).length = k
  | 0 => rfl
  | k + 1 => by simp [prsTo, prs_len fs k]
theorem prs_get (fs : List Int) : ∀ k j, j < k → (prsTo fs k).getD j [0, 0] = [fs.getD (2 * j) 0, fs.getD (2 * j + 1) 0]
  | 0, _, h => by omega
  | k + 1, j, h => by
    simp only [prsTo]
    rw [getD_app, prs_len]
    split
    · rename_i h1; exact prs_get fs k j h1
    · have : j = k := by omega
      subst this
      simp
theorem prs_two (fs : List Int) : ∀ k, ∀ x ∈ prsTo fs k, x.length = 2
  | 0, x, hx => by simp [prsTo] at hx
  | k + 1, x, hx => by
    simp only [prsTo, List.mem_append, List.mem_singleton] at hx
    rcases hx with hx | rfl
    · exact prs_two fs k x hx
    · rfl
theorem eq2 {a b : List Int} (ha : a.length = 2) (hb : b.length = 2) : eqT (.arr 2 (.int .i64)) a b = true ↔ a = b := by
  match a, ha, b, hb with
  | [x, y], _, [u, v], _ =>
    simp [eqT, List.range, List.range.loop]
theorem pairs_eq {a b : List (List Int)} (hl : a.length = b.length) (ha : ∀ x ∈ a, x.length = 2) (hb : ∀ x ∈ b, x.length = 2) (h : ∀ j, j < a.length → eqT (.arr 2 (.int .i64)) (a.getD j [0, 0]) (b.getD j [0, 0]) = true) : a = b := by
  apply List.ext_getElem hl
  intro i h1 h2
  have := (eq2 (ha _ (getD_mem (d := [0, 0]) h1)) (hb _ (getD_mem (d := [0, 0]) h2))).1 (h i h1)
  rwa [getD_of h1, getD_of h2] at this
end Go.Sx

/- Contracts. -/
namespace Go.Sx
open U
theorem fn130 (l : List Int) (hl : l.length ≤ 1000000) : Fn P1 gl1 130 [.one (.sl (.int .i64) l), .one (.fn 131 [] [])] (.val (.one (.frs (.int .i64) (List.map (fun n => within n 1 4) l)))) true := by
  refine Fn.flat ?_ rfl
  refine fn_of false [(53, sp53)] [fb131] h130 3 Proofs.Tryd.f130 ⟨so53, trivial⟩ ⟨⟨by kernel_rfl, by kernel_rfl, _, rfl, by kernel_rfl⟩, trivial⟩ (by kernel_rfl) rfl (by kernel_rfl) rfl rfl rfl ?_
  rw [vc130]
  try simp only [splitB_iff, -eq_self]
  refine ⟨⟨0, Nat.zero_le _, rfl, rfl, rfl, by simp⟩, fun g hg => ⟨fun hlt => ?_, fun hge => ?_⟩⟩
  · have hlt' : g < l.length := by simpa using hlt
    refine ⟨by omega, by simp only [room, List.length_map, List.length_take]; omega, by simp only [fits]; omega, g + 1, hlt', by omega, by simp, rfl, rfl, ?_, trivial⟩
    rw [getD_of hlt', List.take_succ_eq_append_getElem hlt', List.map_append]
    rfl
  · have hge' : ¬ g < l.length := by simpa using hge
    rw [List.take_of_length_le (by omega)]
    exact ⟨rfl, trivial⟩
theorem so130_ : SpecOk P1 gl1 130 sp130 := by
  intro vs ps r h hp
  simp only [sp130] at h
  split at h
  · cases h; exact fn130 _ (hp _ (.head _))
  · cases h
theorem so130 : Sp1 130 sp130 := ⟨so130_, Proofs.Tryd.f130, _, by kernel_rfl, rfl, by kernel_rfl⟩
theorem fn91 (l : List Int)  : Fn P1 gl1 91 [.one (.sl (.int .i64) l)] (.val (iV (chkCad l))) true := by
  refine Fn.flat ?_ rfl
  refine fn_of false [(68, sp68), (52, sp52), (130, sp130)] [] h0 0 Proofs.Tryd.f91 ⟨so68, so52, so130, trivial⟩ trivial (by kernel_rfl) rfl (by kernel_rfl) rfl rfl rfl ?_
  rw [vc91]
  try simp only [splitB_iff, -eq_self]
  simp only [len_beq]
  refine ⟨by decide, fun h => ?_, fun h => ?_⟩
  all_goals have e8 : decide ((8 : Int) < (l.length : Int)) = decide (8 < l.length) := decide_eq_decide.2 (by omega)
  all_goals have e0' : decide (l.length = 0) = decide (l.length = 0) := rfl
  all_goals rw [e8] at h
  · have h' : first [whenE (decide (l.length = 0)) 12, whenE (decide (8 < l.length)) 5] ≠ 0 := by simpa using h
    refine ⟨?_, trivial⟩
    rw [e8]
    unfold chkCad
    rw [if_pos h']
  · have h' : first [whenE (decide (l.length = 0)) 12, whenE (decide (8 < l.length)) 5] = 0 := by simpa using h
    have hz := (first_zero_iff _).1 h'
    have h3 := of_decide_eq_false ((whenE_zero (by decide)).1 (hz _ (List.mem_cons_of_mem _ List.mem_cons_self)))
    refine ⟨by omega, by rw [List.length_map]; omega, ?_, trivial⟩
    unfold chkCad
    rw [if_neg (by simpa using h')]
theorem so91_ : SpecOk P1 gl1 91 sp91 := by
  intro vs ps r h _
  simp only [sp91] at h
  split at h
  · cases h; exact fn91 _ 
  · cases h
theorem so91 : Sp1 91 sp91 := ⟨so91_, Proofs.Tryd.f91, _, by kernel_rfl, rfl, by kernel_rfl⟩
theorem fn26 (l : List Int)  : Fn P1 gl1 26 [.one (.sl (.int .i64) l)] (.val (iV (chkCad l))) true := by
  refine Fn.flat ?_ rfl
  refine fn_of false [(46, sp46)] [] h26 0 Proofs.Tryd.f26 ⟨so46, trivial⟩ trivial (by kernel_rfl) rfl (by kernel_rfl) rfl rfl rfl ?_
  rw [vc26]
  try simp only [splitB_iff, -eq_self]
  have hmp : ∀ n, n ≤ l.length → first ((l.take n).map fun n => within n 1 4) = upTo (fun j => within (l.getD j 0) 1 4) n := fun n h => upTo_map (fun n => within n 1 4) l n h
  have hall : first (l.map fun n => within n 1 4) = upTo (fun j => within (l.getD j 0) 1 4) l.length := by
    have := hmp l.length (Nat.le_refl _)
    rwa [List.take_length] at this
  refine ⟨fun h => ?_, fun h => ⟨fun h8 => ?_, fun h8 => ?_⟩⟩
  · have h' : l.length = 0 := by simpa using h
    refine ⟨?_, trivial⟩
    unfold chkCad
    have : decide (l.length = 0) = true := by simpa using h'
    rw [this]
    rfl
  · have h' : ¬ l.length = 0 := by simpa using h
    have h8' : 8 < l.length := by have := of_decide_eq_true h8; omega
    refine ⟨?_, trivial⟩
    unfold chkCad
    rw [decide_eq_false h', decide_eq_true h8']
    rfl
  · have h' : ¬ l.length = 0 := by simpa using h
    have h8' : ¬ 8 < l.length := by have := of_decide_eq_false h8; omega
    have hc : chkCad l = upTo (fun j => within (l.getD j 0) 1 4) l.length := by
      unfold chkCad
      rw [decide_eq_false h', decide_eq_false h8', hall]
      rfl
    rw [hc]
    refine ⟨⟨0, ⟨Nat.zero_le _, rfl⟩, rfl, rfl, trivial⟩, fun g hg => ⟨fun hlt => ?_, fun hge => ?_⟩⟩
    · have hlt' : g < l.length := by have := of_decide_eq_true hlt; omega
      refine ⟨by omega, fun hne => ?_, fun heq => ?_⟩
      · have hne' : within (l.getD g 0) 1 4 ≠ 0 := by simpa using hne
        exact ⟨(upTo_eq hg.2 hne' hlt').symm, trivial⟩
      · have heq' : within (l.getD g 0) 1 4 = 0 := by simpa using heq
        exact ⟨by simp only [fits]; omega, g + 1, ⟨hlt', upTo_succ hg.2 heq'⟩, by omega, by omega, rfl, trivial⟩
    · have hge' : g = l.length := by have := of_decide_eq_false hge; omega
      rw [← hge', hg.2]
      exact ⟨rfl, trivial⟩
theorem so26_ : SpecOk P1 gl1 26 sp26 := by
  intro vs ps r h _
  simp only [sp26] at h
  split at h
  · cases h; exact fn26 _ 
  · cases h
theorem so26 : Sp1 26 sp26 := ⟨so26_, Proofs.Tryd.f26, _, by kernel_rfl, rfl, by kernel_rfl⟩
theorem fn94 (l : List Int) (n : Int) (hc : chkCad l = 0) (hn : 0 ≤ n ∧ n ≤ 256) : Fn P1 gl1 94 [.one (.sl (.int .i64) l), iV n] (.val (.one (.frs p2T (pullN l n.toNat)))) true := by
  refine Fn.flat ?_ rfl
  refine fn_of false [] [] h94 0 Proofs.Tryd.f94 trivial trivial (by kernel_rfl) rfl (by kernel_rfl) rfl rfl rfl ?_
  rw [vc94]
  try simp only [splitB_iff, -eq_self]
  have hcl := chkCad_ok hc
  refine ⟨⟨0, Nat.zero_le _, rfl, rfl, rfl, rfl, trivial⟩, fun g hg => ⟨fun hlt => ?_, fun hge => ?_⟩⟩
  · have hlt' : (g : Int) < n := of_decide_eq_true hlt
    have em : ((g : Int) % (l.length : Int)).toNat = g % l.length := by omega
    have hl := fld_len hc g
    have hx := fld_cnt hc g
    simp only [em]
    have hm : g % l.length < l.length := Nat.mod_lt _ (by omega)
    refine ⟨by omega, by omega, ⟨0, Nat.zero_le _, by trivial, by trivial, by trivial, by trivial, by trivial, by trivial, by simp, trivial⟩, fun j hj => ⟨fun hjl => ?_, fun hjg => ?_⟩⟩
    · have hjl' : (j : Int) < l.getD (g % l.length) 0 := of_decide_eq_true hjl
      have hj' : j < (l.getD (g % l.length) 0).toNat := by omega
      refine ⟨by simp only [room, List.length_append, List.length_replicate]; omega, by simp only [fits]; omega, j + 1, hj', by omega, by omega, by trivial, by trivial, by trivial, by trivial, by trivial, ?_, trivial⟩
      rw [List.replicate_succ', List.append_assoc]
    · have hjg' : ¬ (j : Int) < l.getD (g % l.length) 0 := of_decide_eq_false hjg
      have hje : (l.getD (g % l.length) 0).toNat = j := by
        have := Nat.le_of_ble_eq_true (Nat.ble_eq_true_of_le hj)
        omega
      refine ⟨by simp only [fits]; omega, g + 1, ?_, by omega, by omega, by trivial, by trivial, ?_, trivial⟩
      · show g + 1 ≤ n.toNat
        omega
      · simp only [fldTo, hje]
  · have hge' : ¬ (g : Int) < n := of_decide_eq_false hge
    have hgn : n.toNat = g := by
      have : g ≤ n.toNat := hg
      omega
    have hl := fld_len hc g
    refine ⟨⟨0, Nat.zero_le _, rfl, rfl, rfl, trivial⟩, fun k hk => ⟨by have : k ≤ (fldTo l g).length / 2 := hk; simp only [fits]; omega, fun hlt => ?_, fun hge2 => ?_⟩⟩
    · have hlt' : ((2 * k : Nat) : Int) + 1 < ((fldTo l g).length : Int) := of_decide_eq_true hlt
      have ek : (((2 * k : Nat) : Int) + 1).toNat = 2 * k + 1 := by omega
      refine ⟨by omega, by omega, by simp only [fits]; omega, by omega, by omega, by simp only [room, prs_len]; omega, by simp only [fits]; omega, k + 1, ?_, by omega, by omega, ?_, rfl, trivial⟩
      · show k + 1 ≤ (fldTo l g).length / 2
        omega
      · rw [ek]; rfl
    · have hge2' : ¬ ((2 * k : Nat) : Int) + 1 < ((fldTo l g).length : Int) := of_decide_eq_false hge2
      have : (fldTo l g).length / 2 = k := by
        have : k ≤ (fldTo l g).length / 2 := hk
        omega
      refine ⟨?_, trivial⟩
      unfold pullN
      rw [hgn, this]
theorem so94_ : SpecOk P1 gl1 94 sp94 := by
  intro vs ps r h hp
  simp only [sp94] at h
  split at h
  · cases h; exact fn94 _ _ (hp _ (.head _)) (hp _ (.tail _ (.head _)))
  · cases h
theorem so94 : Sp1 94 sp94 := ⟨so94_, Proofs.Tryd.f94, _, by kernel_rfl, rfl, by kernel_rfl⟩
theorem fn92 (l : List Int) (n : Int)  : Fn P1 gl1 92 [.one (.sl (.int .i64) l), iV n] (.tup [.one (.frs p2T (pullL l n)), iV (pullE l n)]) true := by
  refine Fn.flat ?_ rfl
  refine fn_of false [(91, sp91), (53, sp53), (52, sp52), (94, sp94)] [] h0 0 Proofs.Tryd.f92 ⟨so91, so53, so52, so94, trivial⟩ trivial (by kernel_rfl) rfl (by kernel_rfl) rfl rfl rfl ?_
  rw [vc92]
  try simp only [splitB_iff, -eq_self]
  refine ⟨by decide, fun h => ?_, fun h => ?_⟩
  · have h' : pullE l n ≠ 0 := by simpa [pullE] using h
    refine ⟨?_, rfl, trivial⟩
    unfold pullL
    rw [if_neg h']
  · have h' : pullE l n = 0 := by simpa [pullE] using h
    have hz := (first_zero_iff _).1 (show first [chkCad l, within n 0 256] = 0 from h')
    have h1 := hz _ List.mem_cons_self
    have h2 := within_zero.1 (hz _ (List.mem_cons_of_mem _ List.mem_cons_self))
    refine ⟨h1, h2, ?_, h'.symm, trivial⟩
    unfold pullL
    rw [if_pos h']
theorem so92_ : SpecOk P1 gl1 92 sp92 := by
  intro vs ps r h _
  simp only [sp92] at h
  split at h
  · cases h; exact fn92 _ _ 
  · cases h
theorem so92 : Sp1 92 sp92 := ⟨so92_, Proofs.Tryd.f92, _, by kernel_rfl, rfl, by kernel_rfl⟩
theorem fn31 (R : List Rl) (L : List Ed) (l : List Int) (hl : R.length ≤ 1000000000) (hR : ∀ r ∈ R, r.2.2.length ≤ 1000000) (hL : L.length ≤ 1000000000) : Fn P1 gl1 31 [.one (.sl rlT R), .one (.sl edT L), .one (.sl (.int .i64) l)] (.tup [.one (.frs p2T (convL R L l)), iV (convE R L l)]) true := by
  refine Fn.flat ?_ rfl
  refine fn_of false [(43, sp43), (91, sp91), (78, sp78), (88, sp88), (92, sp92)] [] h0 0 Proofs.Tryd.f31 ⟨so43, so91, so78, so88, so92, trivial⟩ trivial (by kernel_rfl) rfl (by kernel_rfl) rfl rfl rfl ?_
  rw [vc31]
  try simp only [splitB_iff, -eq_self]
  refine ⟨hl, hR, hL, by decide, fun h => ?_, fun h => ?_⟩
  · have h' : first [chkEds R L, chkCad l] ≠ 0 := by simpa using h
    have he : convE R L l = first [chkEds R L, chkCad l] := by unfold convE; rw [if_pos h']
    refine ⟨?_, he.symm, trivial⟩
    unfold convL
    rw [he, if_neg h']
  · have h' : first [chkEds R L, chkCad l] = 0 := by simpa using h
    have hz := (first_zero_iff _).1 h'
    have h1 := hz _ List.mem_cons_self
    have h2 := hz _ (List.mem_cons_of_mem _ List.mem_cons_self)
    have hk := chkEds_zero.1 h1
    have hn := lenL_nn hk
    have hN : begN L L.length = lenL L := rfl
    simp only [hN]
    refine ⟨hl, hk.eds, fun h3 => ?_, fun h3 => ?_⟩
    · have h3' : 256 < lenL L := of_decide_eq_true h3
      have he : convE R L l = 5 := by unfold convE; rw [if_neg (by simpa using h'), if_pos h3']
      refine ⟨?_, he.symm, trivial⟩
      unfold convL
      rw [he]
      rfl
    · have h3' : ¬ 256 < lenL L := of_decide_eq_false h3
      have he : convE R L l = 0 := by unfold convE; rw [if_neg (by simpa using h'), if_neg h3']
      have hp : pullE l (lenL L) = 0 := by
        unfold pullE
        rw [h2, within_zero.2 ⟨hn, by omega⟩]
        rfl
      refine ⟨?_, ?_, trivial⟩
      · unfold pullL convL
        rw [if_pos hp, if_pos he]
      · rw [hp, he]
theorem so31_ : SpecOk P1 gl1 31 sp31 := by
  intro vs ps r h hp
  simp only [sp31] at h
  split at h
  · cases h; exact fn31 _ _ _ (hp _ (.head _)) (hp _ (.tail _ (.head _))) (hp _ (.tail _ (.tail _ (.head _))))
  · cases h
theorem so31 : Sp1 31 sp31 := ⟨so31_, Proofs.Tryd.f31, _, by kernel_rfl, rfl, by kernel_rfl⟩
theorem fn34 (R : List Rl) (L : List Ed) (x : St7) (hl : R.length ≤ 1000000000) (hR : ∀ r ∈ R, r.2.2.length ≤ 1000000) (hL : L.length ≤ 1000000000) (hx : StOk x) : Fn P1 gl1 34 [.one (.sl rlT R), .one (.sl edT L), stW x] (.tup [.one (.frs lbT (if chkEds R L = 0 then labsN x (ls L) else [])), iV (chkEds R L)]) true := by
  refine Fn.flat ?_ rfl
  refine fn_of false [(43, sp43), (55, sp55), (78, sp78), (88, sp88), (12, sp12)] [] h34 0 Proofs.Tryd.f34 ⟨so43, so55, so78, so88, so12, trivial⟩ trivial (by kernel_rfl) rfl (by kernel_rfl) rfl rfl rfl ?_
  rw [vc34]
  try simp only [splitB_iff, -eq_self]
  obtain ⟨⟨F, D⟩, ⟨h, m, c, f⟩, u⟩ := x
  have hk0 : chkStamp F D h m c f u = 0 := (chkStZ (x := ((F, D), (h, m, c, f), u))).2 hx
  obtain ⟨hr, hlab, hu⟩ := hx
  have hrb := rate_bd hr
  simp only [hk0]
  refine ⟨hl, hR, hL, hlab.2.1.1, hrb, by decide, fun h => ?_, fun h => ?_⟩
  · have h' : first [chkEds R L, 0] ≠ 0 := by simpa using h
    have h1 : chkEds R L ≠ 0 := fun e => h' (by rw [e]; rfl)
    refine ⟨by rw [if_neg h1], ?_, trivial⟩
    simp [first, h1]
  · have h' : first [chkEds R L, 0] = 0 := by simpa using h
    have h1 := (first_zero_iff _).1 h' _ List.mem_cons_self
    have hk := chkEds_zero.1 h1
    have hP : plTo L L.length = ls L := rfl
    simp only [hP, h1, if_true]
    have hlen := ls_len L
    have hll := hk.len
    refine ⟨hl, hk.eds, ⟨0, Nat.zero_le _, by trivial, by trivial, by trivial, by simp [labsN], by simp⟩, fun g hg => ⟨fun hlt => ?_, fun hge => ?_⟩⟩
    · have hlt' : g < (ls L).length := by simpa using hlt
      have hb := pl_bd hk.rs hk.len hk.ed hk.big _ (getD_mem (d := pl0) hlt')
      refine ⟨by omega, hr, hlab, by omega, by simp only [room, labsN, List.length_map, List.length_take]; omega, by simp only [fits]; omega, g + 1, hlt', by omega, by omega, by trivial, by trivial, ?_, by simp⟩
      rw [getD_of hlt', List.take_succ_eq_append_getElem hlt']
      unfold labsN
      rw [List.map_append]
      rfl
    · have hge' : ¬ g < (ls L).length := by simpa using hge
      rw [List.take_of_length_le (by omega)]
      refine ⟨rfl, ?_⟩
      trivial
theorem so34_ : SpecOk P1 gl1 34 sp34 := by
  intro vs ps r h hp
  simp only [sp34] at h
  split at h
  · cases h; exact fn34 _ _ ((_, _), (_, _, _, _), _) (hp _ (.head _)) (hp _ (.tail _ (.head _))) (hp _ (.tail _ (.tail _ (.head _)))) (hp _ (.tail _ (.tail _ (.tail _ (.head _)))))
  · cases h
theorem so34 : Sp1 34 sp34 := ⟨so34_, Proofs.Tryd.f34, _, by kernel_rfl, rfl, by kernel_rfl⟩
theorem fn87 (a b : List (List Int)) (hl : a.length ≤ 1000000) (ha : ∀ x ∈ a, x.length = 2) (hb : ∀ x ∈ b, x.length = 2) : Fn P1 gl1 87 [.one (.sl p2T a), .one (.sl p2T b)] (.val (bV (decide (a = b)))) true := by
  refine Fn.flat ?_ rfl
  refine fn_of false [] [] h87 0 Proofs.Tryd.f87 trivial trivial (by kernel_rfl) rfl (by kernel_rfl) rfl rfl rfl ?_
  rw [vc87]
  try simp only [splitB_iff, -eq_self]
  have hlen : ((a.length : Int) != (b.length : Int)) = !decide (a.length = b.length) := by
    by_cases h : a.length = b.length
    · simp [h]
    · have : ¬ (a.length : Int) = (b.length : Int) := by omega
      simp [h]
      exact this
  have hrep : List.replicate 2 (0 : Int) = [0, 0] := rfl
  simp only [hlen, hrep]
  refine ⟨fun h => ?_, fun h => ?_⟩
  · have h' : ¬ a.length = b.length := by simpa using h
    exact ⟨(decide_eq_false fun e => h' (by rw [e])).symm, trivial⟩
  · have h' : a.length = b.length := by simpa using h
    refine ⟨⟨0, ⟨Nat.zero_le _, fun j hj => absurd hj (Nat.not_lt_zero _)⟩, by trivial, by trivial, by trivial, trivial⟩, fun g hg => ⟨fun hlt => ?_, fun hge => ?_⟩⟩
    · have hlt' : g < a.length := by have := of_decide_eq_true hlt; omega
      refine ⟨by omega, by omega, fun hne => ?_, fun heq => ?_⟩
      · refine ⟨(decide_eq_false fun e => ?_).symm, trivial⟩
        subst e
        have : eqT (.arr 2 (.int .i64)) (a.getD g [0, 0]) (a.getD g [0, 0]) = true := (eq2 (ha _ (getD_mem (d := [0, 0]) hlt')) (ha _ (getD_mem (d := [0, 0]) hlt'))).2 rfl
        rw [this] at hne
        exact absurd hne (by decide)
      · have heq' : eqT (.arr 2 (.int .i64)) (a.getD g [0, 0]) (b.getD g [0, 0]) = true := by simpa using heq
        refine ⟨by simp only [fits]; omega, g + 1, ⟨hlt', fun j hj => ?_⟩, by omega, by omega, by trivial, by trivial, trivial⟩
        by_cases e : j = g
        · subst e; exact heq'
        · exact hg.2 j (by omega)
    · have hge' : g = a.length := by have := of_decide_eq_false hge; have := hg.1; omega
      exact ⟨(decide_eq_true (pairs_eq h' ha hb fun j hj => hg.2 j (by omega))).symm, trivial⟩
theorem so87_ : SpecOk P1 gl1 87 sp87 := by
  intro vs ps r h hp
  simp only [sp87] at h
  split at h
  · cases h; exact fn87 _ _ (hp _ (.head _)) (hp _ (.tail _ (.head _))) (hp _ (.tail _ (.tail _ (.head _))))
  · cases h
theorem so87 : Sp1 87 sp87 := ⟨so87_, Proofs.Tryd.f87, _, by kernel_rfl, rfl, by kernel_rfl⟩
theorem fn93 (a b : List (List Int)) (hl : a.length ≤ 1000000) (ha : ∀ x ∈ a, x.length = 2) (hb : ∀ x ∈ b, x.length = 2) : Fn P1 gl1 93 [.one (.sl p2T a), .one (.sl p2T b)] (.val (bV (decide (a = b)))) true := by
  refine Fn.flat ?_ rfl
  refine fn_of false [] [] h93 0 Proofs.Tryd.f93 trivial trivial (by kernel_rfl) rfl (by kernel_rfl) rfl rfl rfl ?_
  rw [vc93]
  try simp only [splitB_iff, -eq_self]
  have hlen : ((a.length : Int) != (b.length : Int)) = !decide (a.length = b.length) := by
    by_cases h : a.length = b.length
    · simp [h]
    · have : ¬ (a.length : Int) = (b.length : Int) := by omega
      simp [h]
      exact this
  have hrep : List.replicate 2 (0 : Int) = [0, 0] := rfl
  simp only [hlen, hrep]
  refine ⟨fun h => ?_, fun h => ?_⟩
  · have h' : ¬ a.length = b.length := by simpa using h
    exact ⟨(decide_eq_false fun e => h' (by rw [e])).symm, trivial⟩
  · have h' : a.length = b.length := by simpa using h
    refine ⟨⟨0, ⟨Nat.zero_le _, fun j hj => absurd hj (Nat.not_lt_zero _)⟩, by trivial, by trivial, by trivial, by trivial, by trivial, trivial⟩, fun g hg => ⟨fun hlt => ?_, fun hge => ?_⟩⟩
    · have hlt' : g < a.length := by have := of_decide_eq_true hlt; omega
      refine ⟨by omega, by omega, fun hne => ?_, fun heq => ?_⟩
      · refine ⟨(decide_eq_false fun e => ?_).symm, trivial⟩
        subst e
        have : eqT (.arr 2 (.int .i64)) (a.getD g [0, 0]) (a.getD g [0, 0]) = true := (eq2 (ha _ (getD_mem (d := [0, 0]) hlt')) (ha _ (getD_mem (d := [0, 0]) hlt'))).2 rfl
        rw [this] at hne
        exact absurd hne (by decide)
      · have heq' : eqT (.arr 2 (.int .i64)) (a.getD g [0, 0]) (b.getD g [0, 0]) = true := by simpa using heq
        refine ⟨by simp only [fits]; omega, g + 1, ⟨hlt', fun j hj => ?_⟩, by omega, by omega, by trivial, by trivial, by trivial, by trivial, trivial⟩
        by_cases e : j = g
        · subst e; exact heq'
        · exact hg.2 j (by omega)
    · have hge' : g = a.length := by have := of_decide_eq_false hge; have := hg.1; omega
      exact ⟨(decide_eq_true (pairs_eq h' ha hb fun j hj => hg.2 j (by omega))).symm, trivial⟩
theorem so93_ : SpecOk P1 gl1 93 sp93 := by
  intro vs ps r h hp
  simp only [sp93] at h
  split at h
  · cases h; exact fn93 _ _ (hp _ (.head _)) (hp _ (.tail _ (.head _))) (hp _ (.tail _ (.tail _ (.head _))))
  · cases h
theorem so93 : Sp1 93 sp93 := ⟨so93_, Proofs.Tryd.f93, _, by kernel_rfl, rfl, by kernel_rfl⟩
theorem fn32 (l : List Int) (ps : List (List Int)) (hc : chkCad l = 0) (hl : ps.length ≤ 512) (hp : ∀ x ∈ ps, x.length = 2) (hn : ∃ n, n ≤ 256 ∧ pullN l n = ps) : Fn P1 gl1 32 [.one (.sl (.int .i64) l), .one (.sl p2T ps)] (.tup [iV (undN l ps : Int), iV 0]) true := by
  refine Fn.flat ?_ rfl
  refine fn_of false [(91, sp91), (68, sp68), (52, sp52), (94, sp94), (93, sp93)] [] h32 0 Proofs.Tryd.f32 ⟨so91, so68, so52, so94, so93, trivial⟩ trivial (by kernel_rfl) rfl (by kernel_rfl) rfl rfl rfl ?_
  rw [vc32]
  try simp only [splitB_iff, -eq_self]
  obtain ⟨n, hn1, hn2⟩ := hn
  have h8 : decide ((512 : Int) < (ps.length : Int)) = false := decide_eq_false (by omega)
  have hz : first [chkCad l, whenE (decide ((512 : Int) < (ps.length : Int))) 5] = 0 := by
    rw [hc, h8]; rfl
  refine ⟨by decide, fun h => ?_, fun _ => ⟨⟨0, ⟨Nat.zero_le _, fun m hm => absurd hm (Nat.not_lt_zero _)⟩, by trivial, by trivial, by trivial, by trivial, by trivial, by trivial, trivial⟩, fun g hg => ⟨fun hlt => ?_, fun hge => ?_⟩⟩⟩
  · rw [hz] at h
    exact absurd h (by decide)
  · have hlt' : g < 257 := by have := of_decide_eq_true hlt; omega
    have hx := fld_len hc g
    refine ⟨hc, by omega, by unfold pullN; rw [prs_len]; omega, fun x hx => prs_two _ _ x hx, hp, fun heq => ?_, fun hne => ?_⟩
    · have heq' : pullN l g = ps := of_decide_eq_true heq
      have : undN l ps = g := by
        unfold undN
        have h1 : (List.range 257).find? (fun m => decide (pullN l m = ps)) = some g := by
          rw [List.find?_range_eq_some]
          exact ⟨decide_eq_true heq', List.mem_range.2 hlt', fun j hj => by rw [decide_eq_false (hg.2 j hj)]; rfl⟩
        rw [h1]
        rfl
      rw [this]
      exact ⟨rfl, rfl, trivial⟩
    · have hne' : pullN l g ≠ ps := of_decide_eq_false hne
      refine ⟨by simp only [fits]; omega, g + 1, ⟨hlt', fun m hm => ?_⟩, by omega, by omega, rfl, rfl, rfl, rfl, rfl, trivial⟩
      by_cases e : m = g
      · subst e; exact hne'
      · exact hg.2 m (by omega)
  · have hge' : ¬ (g : Int) < 257 := of_decide_eq_false hge
    exact absurd hn2 (hg.2 n (by have := hg.1; omega))
theorem so32_ : SpecOk P1 gl1 32 sp32 := by
  intro vs ps r h hp
  simp only [sp32] at h
  split at h
  · cases h; exact fn32 _ _ (hp _ (.head _)) (hp _ (.tail _ (.head _))) (hp _ (.tail _ (.tail _ (.head _)))) (hp _ (.tail _ (.tail _ (.tail _ (.head _)))))
  · cases h
theorem so32 : Sp1 32 sp32 := ⟨so32_, Proofs.Tryd.f32, _, by kernel_rfl, rfl, by kernel_rfl⟩

end Go.Sx

/- Plain functions and hints. -/
namespace Go.Sx.U
def lastP (ps : List (List Int)) : Nat → Int
  | 0 => 0
  | k + 1 => (ps.getD k [0, 0]).getD 1 0
/-- A list without fades. -/
def plnTo (L : List Ed) : Nat → List Ed
  | 0 => L
  | i + 1 => (plnTo L i).set i (((plnTo L i).getD i e0).1, ((plnTo L i).getD i e0).2.1, ((plnTo L i).getD i e0).2.2.1, 0, ((plnTo L i).getD i e0).2.2.2.2)
/-- The checks of an edit's frames. -/
def partN (r : Rl) (x : Ed) : List Int := (r.2.2.drop (x.2.1 - r.2.1).toNat).take ((x.2.2.1 - r.2.1).toNat - (x.2.1 - r.2.1).toNat)
def wantTo (R : List Rl) (L : List Ed) : Nat → List Int
  | 0 => []
  | i + 1 => wantTo R L i ++ partN (rlOf R (L.getD i e0).1) (L.getD i e0)
end Go.Sx.U
namespace Go.Sx
open U
/-- A loop that counts up to a number, with temporaries that hang on the counter. -/
def hCtP (s : St) (keep : List Nat) (new : Nat → List (Nat × SV)) (n : Nat) : Option LInv := some ⟨Nat, fun i => s.at keep (new i), fun i => i ≤ n, fun i => n - i⟩
/-- The loop that copies a list. -/
def hCopyP (u : Ty) (tl tn ti to : Nat) (keep : List Nat) (s : St) : Option LInv := match listAs s tl u with
  | some xs => some ⟨Nat, fun i => ⟨[tI ti i, (to, .val (.one (.own s.nx)))] ++ keepT (keep ++ [tl, tn]) s.tm, (s.nx, some (.row u (List.take i xs))) :: lessO s [to], s.nx + 1, s.lr⟩, fun i => i ≤ List.length xs, fun i => List.length xs - i⟩
  | _ => none
def h29 : Hints := ⟨fun f k s => match f, k with
  | 29, 3 => hCopyP rlT 6 7 8 3 [] s
  | _, _ => none, 0⟩
def h30 : Hints := ⟨fun f k s => match f, k with
  | 30, 3 => hCopyP edT 6 7 8 3 [] s
  | _, _ => none, 0⟩
def ownId (s : St) (t : Nat) : Option Nat := match lookT s.tm t with
  | some (.val (.one (.own id))) => some id
  | _ => none
/-- A box of eight cells at the first place. -/
def withBox (s : St) (k : Nat × Option AObj → Option LInv) : Option LInv := match lookO s.ob 0 with
  | some (.box [a, b, c, d, e, f, g, h]) => k (0, some (.box [a, b, c, d, e, f, g, h]))
  | _ => none
def withEd (s : St) (t : Nat) (k : Nat → Ed → Option LInv) : Option LInv := match lookT s.tm t with
  | some (.val (.one (.ptr i 0))) => match lookO s.ob i with
    | some (.box [.one (.str nm), .one (.int .i64 a), .one (.int .i64 b), .one (.int .i64 c), .one (.int .i64 d)]) => k i (nm, a, b, c, d)
    | _ => none
  | _ => none
@[reducible] def edBox (x : Ed) : AObj := .box [.one (.str x.1), .one (.int .i64 x.2.1), .one (.int .i64 x.2.2.1), .one (.int .i64 x.2.2.2.1), .one (.int .i64 x.2.2.2.2)]
def h5 : Hints := ⟨fun f k s => match f, k with
  | 5, 12 => match listAs s 133 p2T with
    | some ps => hCtP s [0, 1, 5, 7, 8, 133, 134] (fun k => [tI 135 k, tI 14 (lastP ps k)]) (List.length ps)
    | _ => none
  | 5, 24 => match ownId s 19, listAs s 1 edT, ownId s 7, listAs s 7 (.int .i64) with
    | some j, some L, some j7, some S => withBox s fun x0 => some ⟨Nat, fun i => ⟨tI 165 i :: keepT [0, 1, 5, 7, 8, 19, 163, 164] s.tm, [(j, some (.row edT (plnTo L i))), (j7, some (.row (.int .i64) S)), x0], s.nx, s.lr⟩, fun i => i ≤ List.length L, fun i => List.length L - i⟩
    | _, _, _, _ => none
  | 5, 32 => match listAs s 0 rlT, ownId s 185, listAs s 185 edT with
    | some R, some j, some P => match ownId s 7, listAs s 7 (.int .i64), ownId s 21, listAs s 21 (.int .i64) with
      | some j7, some S, some j21, some Y => withBox s fun x0 => some ⟨Nat, fun i => ⟨[tI 187 i, (23, .val (.one (.own s.nx)))] ++ keepT [0, 1, 5, 7, 8, 21, 22, 185, 186] s.tm, [(s.nx, some (.row (.int .i64) (wantTo R P i))), (j21, some (.row (.int .i64) Y)), (j, some (.row edT P)), (j7, some (.row (.int .i64) S)), x0], s.nx + 1, s.lr⟩, fun i => i ≤ List.length P, fun i => List.length P - i⟩
      | _, _, _, _ => none
    | _, _, _ => none
  | 5, 35 => match listAs s 191 rlT, listAs s 23 (.int .i64), ownId s 185, listAs s 185 edT with
    | some R, some o, some j, some P => match ownId s 7, listAs s 7 (.int .i64), ownId s 21, listAs s 21 (.int .i64) with
      | some j7, some S, some j21, some Y => withBox s fun x0 => withEd s 25 fun b x => some ⟨Nat, fun i => ⟨[tI 193 i, (23, .val (.one (.own s.nx)))] ++ keepT [0, 1, 5, 7, 8, 21, 22, 25, 185, 186, 187, 191, 192] s.tm, [(s.nx, some (.row (.int .i64) (o ++ if idxN x.1 R < i then partN (rlOf R x.1) x else []))), (b, some (edBox x)), (j21, some (.row (.int .i64) Y)), (j, some (.row edT P)), (j7, some (.row (.int .i64) S)), x0], s.nx + 1, s.lr⟩, fun i => i ≤ List.length R, fun i => List.length R - i⟩
      | _, _, _, _ => none
    | _, _, _, _ => none
  | 5, 49 => match listAs s 276 lbT with
    | some ls => hCtP s [0, 1, 5, 7, 30, 32, 276, 277] (fun i => [tI 278 i]) (List.length ls)
    | _ => none
  | _, _ => none, 3⟩
end Go.Sx
namespace Go.Sx
open U
def sp29 : FSpec := ⟨fun vs => match vs with
  | [.one (.sl (.pair .str (.pair (.int .i64) (.sl (.int .i64)))) R)] => some ([List.length R ≤ 1000000, ∀ r ∈ (show List Rl from R), List.length r.2.2 ≤ 1000000], .val (.one (.sl rlT R)))
  | _ => none, false⟩
def sp30 : FSpec := ⟨fun vs => match vs with
  | [.one (.sl (.pair .str (.pair (.int .i64) (.pair (.int .i64) (.pair (.int .i64) (.int .i64))))) L)] => some ([List.length L ≤ 1000000], .val (.one (.frs edT L)))
  | _ => none, true⟩
def sp27 : FSpec := ⟨fun vs => match vs with
  | [] => some ([], .val (bV true))
  | _ => none, true⟩
def sp35 : FSpec := ⟨fun vs => match vs with
  | [.agg [.one (.int .i64 F), .one (.bool D), .one (.int .i64 h), .one (.int .i64 m), .one (.int .i64 s), .one (.int .i64 f), .one (.int .i64 u)]] => some ([], .val (stV F D h m s f u))
  | _ => none, true⟩
end Go.Sx
