/- A verified symbolic run of functions, part 18: lemmas, no claim of their own. -/
import Derived.Test.YtpbipfdpoijgoaaGreatDoorS17
/- Plain functions and hints. -/
namespace Go.Sx.U
/-- A frame of a reel is among the first takes. -/
def hasTo (ts : List Tk) (nm : List UInt8) (f : Int) : Nat → Bool
  | 0 => false
  | j + 1 => hasTo ts nm f j || ((ts.getD j tk0).1 == nm && (ts.getD j tk0).2.1 == f)
def hasT (ts : List Tk) (nm : List UInt8) (f : Int) : Bool := hasTo ts nm f ts.length
/-- The frames of a list that show a frame of a reel. -/
def trTo (p : List Pl) (nm : List UInt8) (f : Int) : Nat → List Int
  | 0 => []
  | i + 1 => trTo p nm f i ++ (bif hasT (takesN p i) nm f then [(i : Int)] else [])
def hrTo (p : List Pl) (nm : List UInt8) (f : Int) : Nat → Bool
  | 0 => false
  | i + 1 => hrTo p nm f i || ((soundN p i).1 == nm && (soundN p i).2.1 == f)
def ndB (p : List Pl) (n : Nat) (nm : List UInt8) (f : Int) : Bool := decide (0 < (trTo p nm f n).length) || hrTo p nm f n
def befB (m : Mu) (nm : List UInt8) (a : Int) : Nat → Bool
  | 0 => false
  | j + 1 => usedB m nm (a + (j : Int))
/-- The error of a trace. -/
def frE (R : List Rl) (nm : List UInt8) (f : Int) : Int := if idxN nm R < R.length then whenE (decide (f < (rlOf R nm).2.1) || decide ((rlOf R nm).2.1 + ((rlOf R nm).2.2.length : Int) ≤ f)) 14 else 10
def trcE (R : List Rl) (L : List Ed) (nm : List UInt8) (f : Int) : Int := if chkEds R L ≠ 0 then chkEds R L else frE R nm f
def trcN (R : List Rl) (L : List Ed) (nm : List UInt8) (f : Int) : List Int := if trcE R L nm f = 0 then trTo (ls L) nm f (lenL L).toNat else []
def oneTo (R : List Rl) (nm : List UInt8) (f : Int) : Nat → Int
  | 0 => 10
  | i + 1 => if (R.getD i r0).1 = nm then whenE (decide (f < (R.getD i r0).2.1) || decide ((R.getD i r0).2.1 + ((R.getD i r0).2.2.length : Int) ≤ f)) 14 else oneTo R nm f i
end Go.Sx.U
namespace Go.Sx
open U
/-- The take in a box. -/
def tkB : List (Nat × Option AObj) → Option (List UInt8 × Int)
  | [] => none
  | (_, some (.box [.one (.str nm), .one (.int .i64 f), .one (.int .i64 _), .one (.int .i64 _)])) :: _ => some (nm, f)
  | _ :: r => tkB r
def h68 : Hints := ⟨fun f k s => match f, k with
  | 174, 1 => match lsAt s 1, outB (liveO [] s.ob), tkB (liveO [] s.ob) with
    | some (p, n, _), some (b, js), some (nm, fr) => some ⟨Nat, fun i => ⟨tI 6 i :: keepT [0, 1, 5] s.tm, (b, some (.box [.one (.own s.nx)])) :: (s.nx, some (.row (.int .i64) (trTo p nm fr i))) :: (liveO [] s.ob).filter (fun x => x.1 != b && !(js.contains x.1)), s.nx + 1, s.lr⟩, fun i => i ≤ n.toNat, fun i => n.toNat - i⟩
    | _, _, _ => none
  | 193, 2 => match listAs s 0 tkT, tkB (liveO [] s.ob) with
    | some ts, some (nm, fr) => some ⟨Nat, fun i => s.at [0, 1, 6, 7] [tI 8 i], fun i => i ≤ List.length ts ∧ hasTo ts nm fr i = false, fun i => List.length ts - i⟩
    | _, _ => none
  | _, _ => none, 0⟩
@[reducible] noncomputable def fb146 : Nat × Func := (146, Proofs.Tryz.f146)
@[reducible] noncomputable def fb193 : Nat × Func := (193, Proofs.Tryz.f193)
def tkBox (s : St) (t : Nat) : Option (List UInt8 × Int) := match ptrId s t with
  | some b => match lookO s.ob b with
    | some (.box [.one (.str nm), .one (.int .i64 f), .one (.int .i64 _), .one (.int .i64 _)]) => some (nm, f)
    | _ => none
  | none => none
def h71 : Hints := ⟨fun f k s => match f, k with
  | 71, 4 => match listAs s 0 edT, tkBox s 3, intOfT s 6 with
    | some L, some (nm, fr), some n => some ⟨Nat, fun i => ⟨[tI 8 i, (7, .val (.one (.own s.nx)))] ++ keepT [0, 3, 6] s.tm, (s.nx, some (.row (.int .i64) (trTo (ls L) nm fr i))) :: lessO s [7], s.nx + 1, s.lr⟩, fun i => i ≤ n.toNat, fun i => n.toNat - i⟩
    | _, _, _ => none
  | 71, 9 => match listAs s 9 tkT, tkBox s 3 with
    | some ts, some (nm, fr) => some ⟨Nat, fun j => s.at [0, 3, 6, 7, 8, 9] [tI 11 j, (10, .val (bV (hasTo ts nm fr j)))], fun j => j ≤ List.length ts, fun j => List.length ts - j⟩
    | _, _ => none
  | _, _ => none, 0⟩
def h150 : Hints := ⟨fun f k s => match f, k with
  | 150, 5 => match listAs s 0 edT, strOf s 1, intOfT s 2, intOfT s 8 with
    | some L, some nm, some fr, some n => some ⟨Nat, fun i => s.at [0, 1, 2, 8] [tI 9 i], fun i => i ≤ n.toNat ∧ hrTo (ls L) nm fr i = false, fun i => n.toNat - i⟩
    | _, _, _, _ => none
  | _, _ => none, 0⟩
def h72 : Hints := ⟨fun f k s => match f, k with
  | 72, 3 => match listAs s 0 rlT, listAs s 1 edT with
    | some R, some L => some ⟨Nat, fun i => ⟨[tI 6 i, (5, .val (.one (.own s.nx)))] ++ keepT [0, 1] s.tm, (s.nx, some (.row ndT (needTo (usedTo (ls L) (lenL L).toNat) R i))) :: lessO s [5], s.nx + 1, s.lr⟩, fun i => i ≤ List.length R, fun i => List.length R - i⟩
    | _, _ => none
  | 72, 8 => match listAs s 1 edT, rlAt s 7, listAs s 5 ndT with
    | some L, some (nm, a, l), some o => some ⟨Nat, fun j => ⟨[tI 9 (a + (j : Int)), (8, .val (bV (befB (usedTo (ls L) (lenL L).toNat) nm a j))), (5, .val (.one (.own s.nx)))] ++ keepT [0, 1, 6, 7] s.tm, (s.nx, some (.row ndT (o ++ (spTo (usedB (usedTo (ls L) (lenL L).toNat) nm) a j).map fun x => (nm, x.1, x.2)))) :: lessO s [5], s.nx + 1, s.lr⟩, fun j => j ≤ List.length l, fun j => List.length l - j⟩
    | _, _, _ => none
  | _, _ => none, 0⟩
def h9 : Hints := ⟨fun f k s => match f, k with
  | 9, 10 => match listAs s 0 rlT, tkBox s 5 with
    | some R, some (nm, fr) => some ⟨Nat, fun i => s.at [0, 1, 5, 7, 8, 9, 10, 11, 51, 52] [tI 53 i, tI 12 (oneTo R nm fr i)], fun i => i ≤ List.length R, fun i => List.length R - i⟩
    | _, _ => none
  | _, _ => none, 0⟩
def sp44n : FSpec := ⟨fun vs => match vs with
  | [.one (.sl (.int .i64) a), .one (.sl (.int .i64) b)] => some ([List.length a ≤ 1000000000], .val (bV (decide (a = b))))
  | [.one (.sl (.int .i64) a), .one .nils] => some ([List.length a ≤ 1000000000], .val (bV (decide ((show List Int from a) = []))))
  | _ => none, true⟩
end Go.Sx
namespace Go.Sx
open U
def sp147 : FSpec := ⟨fun vs => match vs with
  | [.agg [.one (.str a), .one (.int .i64 b), .one (.int .i64 _c), .one (.int .i64 _d)], .one (.ref (.pair .str (.pair (.int .i64) (.pair (.int .i64) (.int .i64)))) t)] => some ([], .val (bV (a == (show Tk from t).1 && b == (show Tk from t).2.1)))
  | _ => none, true⟩
def sp68 : FSpec := ⟨fun vs => match vs with
  | [.one (.sl (.pair .str (.pair (.int .i64) (.sl (.int .i64)))) R), .one (.sl (.pair .str (.pair (.int .i64) (.pair (.int .i64) (.pair (.int .i64) (.int .i64))))) L), .agg [.one (.str a), .one (.int .i64 b), .one (.int .i64 _c), .one (.int .i64 _d)]] => some ([List.length R ≤ 1000000000, ∀ r ∈ (show List Rl from R), List.length r.2.2 ≤ 1000000, List.length L ≤ 1000000000], .tup [.one (.frs (.int .i64) (trcN R L a b)), iV (trcE R L a b)])
  | _ => none, true⟩
def sp71 : FSpec := ⟨fun vs => match vs with
  | [.one (.sl (.pair .str (.pair (.int .i64) (.pair (.int .i64) (.pair (.int .i64) (.int .i64))))) L), .agg [.one (.str a), .one (.int .i64 b), .one (.int .i64 _c), .one (.int .i64 _d)]] => some ([EdsIn L, 0 < lenL L → PlsOk (ls L), lenL L ≤ 10000], .val (.one (.frs (.int .i64) (trTo (ls L) a b (lenL L).toNat))))
  | _ => none, true⟩
def sp150 : FSpec := ⟨fun vs => match vs with
  | [.one (.sl (.pair .str (.pair (.int .i64) (.pair (.int .i64) (.pair (.int .i64) (.int .i64))))) L), .one (.str nm), .one (.int .i64 f)] => some ([EdsIn L, 0 < lenL L → PlsOk (ls L), lenL L ≤ 10000, 0 < lenL L → (List.getD (show List Ed from L) 0 e0).2.2.2.2 = 0], .val (bV (ndB (ls L) (lenL L).toNat nm f)))
  | _ => none, true⟩
def sp72 : FSpec := ⟨fun vs => match vs with
  | [.one (.sl (.pair .str (.pair (.int .i64) (.sl (.int .i64)))) R), .one (.sl (.pair .str (.pair (.int .i64) (.pair (.int .i64) (.pair (.int .i64) (.int .i64))))) L)] => some ([ListOk R L], .val (.one (.frs ndT (needTo (usedTo (ls L) (lenL L).toNat) R R.length))))
  | _ => none, true⟩
end Go.Sx

/- What the engine asks, written out (printed by a program). -/
namespace Go.Sx
open U
theorem vc147 (x t : Tk) : exF (env false [] []) h0 0 147 Proofs.Tryz.f147 [tkV x, .one (.ref tkT t)] (.val (bV (x.1 == t.1 && x.2.1 == t.2.1))) = (eqT (Ty.pair Ty.str (Ty.pair (Ty.int IntKind.i64) (Ty.pair (Ty.int IntKind.i64) (Ty.int IntKind.i64)))) (Prod.fst x, Prod.fst (Prod.snd x), Prod.fst (Prod.snd (Prod.snd x)), Prod.snd (Prod.snd (Prod.snd x))) (Prod.fst t, Prod.fst (Prod.snd t), Prod.fst (Prod.snd (Prod.snd x)), Prod.snd (Prod.snd (Prod.snd x))) = (Prod.fst x == Prod.fst t && Prod.fst (Prod.snd x) == Prod.fst (Prod.snd t)) ∧ True) := by
  kernel_rfl
theorem vc68 (R : List Rl) (L : List Ed) (t : Tk) : exF (env false [(43, sp43), (120, sp120), (107, sp107), (106, sp106), (112, sp112), (155, sp155n), (147, sp147)] [fb123, fb174, fb146, fb193]) h68 5 68 Proofs.Tryz.f68 [.one (.sl rlT R), .one (.sl edT L), tkV t] (.tup [.one (.frs (.int .i64) (trcN R L t.1 t.2.1)), iV (trcE R L t.1 t.2.1)]) = (let q5 := (List.length R); let q0 := (mapGet Ty.str (Ty.pair Ty.str (Ty.pair (Ty.int IntKind.i64) (Ty.sl (Ty.int IntKind.i64)))) (mapR R q5) t.1); let q3 := (Option.getD q0 r0); let q1 := (bif decide (t.2.1 < q3.2.1) then true else decide (q3.2.1 + (↑(List.length q3.2.2) : Int) ≤ t.2.1)); let q2 := (List.length L); let q6 := (!Option.isSome q0); let q8 := (Int.toNat (begN L q2)); let q9 := (1000000000 : Nat); List.length R ≤ q9 ∧ (∀ (r : Rl), r ∈ R → List.length r.2.2 ≤ (1000000 : Nat)) ∧ List.length L ≤ q9 ∧ splitB (chkEds R L != (0 : Int)) (trcN R L t.1 t.2.1 = [] ∧ chkEds R L = trcE R L t.1 t.2.1 ∧ True) (List.length R ≤ q9 ∧ EdsIn L ∧ (decide (t.2.1 < q3.2.1) = false → fits IntKind.i64 (q3.2.1 + (↑(List.length q3.2.2) : Int))) ∧ (2 : Nat) ≤ q9 ∧ splitB (first [whenE q6 (10 : Int), whenE q1 (14 : Int)] != (0 : Int)) (trcN R L t.1 t.2.1 = [] ∧ first [whenE q6 (10 : Int), whenE q1 (14 : Int)] = trcE R L t.1 t.2.1 ∧ True) ((∃ (g : Nat), Nat.le g q8 ∧ (0 : Int) = (↑g : Int) ∧ begN L q2 = begN L q2 ∧ trTo (plTo L q2) t.1 t.2.1 g = [] ∧ plTo L q2 = plTo L q2 ∧ begN L q2 = begN L q2 ∧ mapR R q5 = mapR R q5 ∧ [whenE q6 (10 : Int), whenE q1 (14 : Int)] = [whenE q6 (10 : Int), whenE q1 (14 : Int)] ∧ q3.1 = q3.1 ∧ q3.2.1 = q3.2.1 ∧ q3.2.2 = q3.2.2 ∧ plTo L q2 = plTo L q2 ∧ begN L q2 = begN L q2 ∧ mapR R q5 = mapR R q5 ∧ t.1 = t.1 ∧ t.2.1 = t.2.1 ∧ t.2.2.1 = t.2.2.1 ∧ t.2.2.2 = t.2.2.2 ∧ True) ∧ ∀ (g : Nat), let q4 := (takesN (plTo L q2) (↑g : Int)); let q7 := (↑(List.length q4) : Int); Nat.le g q8 → splitB (decide ((↑g : Int) < begN L q2)) (PlsOk (plTo L q2) ∧ ((0 : Int) ≤ (↑g : Int) ∧ (↑g : Int) ≤ (100000 : Int)) ∧ (∃ (g_1 : Nat), (g_1 ≤ List.length q4 ∧ hasTo q4 t.1 t.2.1 g_1 = false) ∧ (0 : Int) = (↑g_1 : Int) ∧ q7 = q7 ∧ takesN (plTo L q2) (↑g : Int) = takesN (plTo L q2) (↑g : Int) ∧ trTo (plTo L q2) t.1 t.2.1 g = trTo (plTo L q2) t.1 t.2.1 g ∧ plTo L q2 = plTo L q2 ∧ begN L q2 = begN L q2 ∧ mapR R q5 = mapR R q5 ∧ [whenE q6 (10 : Int), whenE q1 (14 : Int)] = [whenE q6 (10 : Int), whenE q1 (14 : Int)] ∧ q3.1 = q3.1 ∧ q3.2.1 = q3.2.1 ∧ q3.2.2 = q3.2.2 ∧ plTo L q2 = plTo L q2 ∧ begN L q2 = begN L q2 ∧ mapR R q5 = mapR R q5 ∧ t.1 = t.1 ∧ t.2.1 = t.2.1 ∧ t.2.2.1 = t.2.2.1 ∧ t.2.2.2 = t.2.2.2 ∧ True) ∧ ∀ (g_1 : Nat), g_1 ≤ List.length q4 ∧ hasTo q4 t.1 t.2.1 g_1 = false → splitB (decide ((↑g_1 : Int) < q7)) (((0 : Int) ≤ (↑g_1 : Int) ∧ (↑g_1 : Int) < q7) ∧ g_1 < List.length q4 ∧ splitB ((List.getD q4 g_1 tk0).1 == t.1 && (List.getD q4 g_1 tk0).2.1 == t.2.1) (room (List.length (trTo (plTo L q2) t.1 t.2.1 g) + (1 : Nat)) (8 : Nat) ∧ fits IntKind.i64 ((↑g : Int) + (1 : Int)) ∧ ∃ (g' : Nat), Nat.le g' q8 ∧ Int.toNat (begN L q2) - g' < Int.toNat (begN L q2) - g ∧ (↑g : Int) + (1 : Int) = (↑g' : Int) ∧ begN L q2 = begN L q2 ∧ trTo (plTo L q2) t.1 t.2.1 g ++ [(↑g : Int)] = trTo (plTo L q2) t.1 t.2.1 g' ∧ plTo L q2 = plTo L q2 ∧ begN L q2 = begN L q2 ∧ mapR R q5 = mapR R q5 ∧ [whenE q6 (10 : Int), whenE q1 (14 : Int)] = [whenE q6 (10 : Int), whenE q1 (14 : Int)] ∧ q3.1 = q3.1 ∧ q3.2.1 = q3.2.1 ∧ q3.2.2 = q3.2.2 ∧ plTo L q2 = plTo L q2 ∧ begN L q2 = begN L q2 ∧ mapR R q5 = mapR R q5 ∧ t.1 = t.1 ∧ t.2.1 = t.2.1 ∧ t.2.2.1 = t.2.2.1 ∧ t.2.2.2 = t.2.2.2 ∧ True) (fits IntKind.i64 ((↑g_1 : Int) + (1 : Int)) ∧ ∃ (g' : Nat), (g' ≤ List.length q4 ∧ hasTo q4 t.1 t.2.1 g' = false) ∧ List.length q4 - g' < List.length q4 - g_1 ∧ (↑g_1 : Int) + (1 : Int) = (↑g' : Int) ∧ q7 = q7 ∧ takesN (plTo L q2) (↑g : Int) = takesN (plTo L q2) (↑g : Int) ∧ trTo (plTo L q2) t.1 t.2.1 g = trTo (plTo L q2) t.1 t.2.1 g ∧ plTo L q2 = plTo L q2 ∧ begN L q2 = begN L q2 ∧ mapR R q5 = mapR R q5 ∧ [whenE q6 (10 : Int), whenE q1 (14 : Int)] = [whenE q6 (10 : Int), whenE q1 (14 : Int)] ∧ q3.1 = q3.1 ∧ q3.2.1 = q3.2.1 ∧ q3.2.2 = q3.2.2 ∧ plTo L q2 = plTo L q2 ∧ begN L q2 = begN L q2 ∧ mapR R q5 = mapR R q5 ∧ t.1 = t.1 ∧ t.2.1 = t.2.1 ∧ t.2.2.1 = t.2.2.1 ∧ t.2.2.2 = t.2.2.2 ∧ True)) (fits IntKind.i64 ((↑g : Int) + (1 : Int)) ∧ ∃ (g' : Nat), Nat.le g' q8 ∧ Int.toNat (begN L q2) - g' < Int.toNat (begN L q2) - g ∧ (↑g : Int) + (1 : Int) = (↑g' : Int) ∧ begN L q2 = begN L q2 ∧ trTo (plTo L q2) t.1 t.2.1 g = trTo (plTo L q2) t.1 t.2.1 g' ∧ plTo L q2 = plTo L q2 ∧ begN L q2 = begN L q2 ∧ mapR R q5 = mapR R q5 ∧ [whenE q6 (10 : Int), whenE q1 (14 : Int)] = [whenE q6 (10 : Int), whenE q1 (14 : Int)] ∧ q3.1 = q3.1 ∧ q3.2.1 = q3.2.1 ∧ q3.2.2 = q3.2.2 ∧ plTo L q2 = plTo L q2 ∧ begN L q2 = begN L q2 ∧ mapR R q5 = mapR R q5 ∧ t.1 = t.1 ∧ t.2.1 = t.2.1 ∧ t.2.2.1 = t.2.2.1 ∧ t.2.2.2 = t.2.2.2 ∧ True)) (trTo (plTo L q2) t.1 t.2.1 g = trcN R L t.1 t.2.1 ∧ (0 : Int) = trcE R L t.1 t.2.1 ∧ True)))) := by
  kernel_rfl
theorem vc71 (L : List Ed) (t : Tk) : exF (env false [(39, sp39), (40, sp40)] []) h71 0 71 Proofs.Tryz.f71 [.one (.sl edT L), tkV t] (.val (.one (.frs (.int .i64) (trTo (ls L) t.1 t.2.1 (lenL L).toNat)))) = (let q1 := (Int.toNat (lenL L)); EdsIn L ∧ (∃ (g : Nat), Nat.le g q1 ∧ (0 : Int) = (↑g : Int) ∧ lenL L = lenL L ∧ L = L ∧ trTo (ls L) t.1 t.2.1 g = [] ∧ startsL L = startsL L ∧ t.1 = t.1 ∧ t.2.1 = t.2.1 ∧ t.2.2.1 = t.2.2.1 ∧ t.2.2.2 = t.2.2.2 ∧ True) ∧ ∀ (g : Nat), let q0 := (takesN (ls L) (↑g : Int)); let q2 := (List.length q0); Nat.le g q1 → splitB (decide ((↑g : Int) < lenL L)) (EdsIn L ∧ PlsOk (ls L) ∧ ((0 : Int) ≤ (↑g : Int) ∧ (↑g : Int) ≤ (100000 : Int)) ∧ (∃ (g_1 : Nat), Nat.le g_1 q2 ∧ (0 : Int) = (↑g_1 : Int) ∧ false = hasTo q0 t.1 t.2.1 g_1 ∧ takesN (ls L) (↑g : Int) = takesN (ls L) (↑g : Int) ∧ (↑g : Int) = (↑g : Int) ∧ lenL L = lenL L ∧ L = L ∧ trTo (ls L) t.1 t.2.1 g = trTo (ls L) t.1 t.2.1 g ∧ startsL L = startsL L ∧ t.1 = t.1 ∧ t.2.1 = t.2.1 ∧ t.2.2.1 = t.2.2.1 ∧ t.2.2.2 = t.2.2.2 ∧ True) ∧ ∀ (g_1 : Nat), Nat.le g_1 q2 → splitB (decide ((↑g_1 : Int) < (↑q2 : Int))) ((hasTo q0 t.1 t.2.1 g_1 = false → (0 : Int) ≤ (↑g_1 : Int) ∧ (↑g_1 : Int) < (↑q2 : Int)) ∧ (((List.getD q0 g_1 tk0).1 == t.1) = true → (0 : Int) ≤ (↑g_1 : Int) ∧ (↑g_1 : Int) < (↑q2 : Int)) ∧ fits IntKind.i64 ((↑g_1 : Int) + (1 : Int)) ∧ ∃ (g' : Nat), Nat.le g' q2 ∧ List.length q0 - g' < List.length q0 - g_1 ∧ (↑g_1 : Int) + (1 : Int) = (↑g' : Int) ∧ (bif hasTo q0 t.1 t.2.1 g_1 then true else bif (List.getD q0 g_1 tk0).1 == t.1 then (List.getD q0 g_1 tk0).2.1 == t.2.1 else false) = hasTo q0 t.1 t.2.1 g' ∧ takesN (ls L) (↑g : Int) = takesN (ls L) (↑g : Int) ∧ (↑g : Int) = (↑g : Int) ∧ lenL L = lenL L ∧ L = L ∧ trTo (ls L) t.1 t.2.1 g = trTo (ls L) t.1 t.2.1 g ∧ startsL L = startsL L ∧ t.1 = t.1 ∧ t.2.1 = t.2.1 ∧ t.2.2.1 = t.2.2.1 ∧ t.2.2.2 = t.2.2.2 ∧ True) (splitB (hasTo q0 t.1 t.2.1 g_1) (room (List.length (trTo (ls L) t.1 t.2.1 g) + (1 : Nat)) (8 : Nat) ∧ fits IntKind.i64 ((↑g : Int) + (1 : Int)) ∧ ∃ (g' : Nat), Nat.le g' q1 ∧ Int.toNat (lenL L) - g' < Int.toNat (lenL L) - g ∧ (↑g : Int) + (1 : Int) = (↑g' : Int) ∧ lenL L = lenL L ∧ L = L ∧ trTo (ls L) t.1 t.2.1 g ++ [(↑g : Int)] = trTo (ls L) t.1 t.2.1 g' ∧ startsL L = startsL L ∧ t.1 = t.1 ∧ t.2.1 = t.2.1 ∧ t.2.2.1 = t.2.2.1 ∧ t.2.2.2 = t.2.2.2 ∧ True) (fits IntKind.i64 ((↑g : Int) + (1 : Int)) ∧ ∃ (g' : Nat), Nat.le g' q1 ∧ Int.toNat (lenL L) - g' < Int.toNat (lenL L) - g ∧ (↑g : Int) + (1 : Int) = (↑g' : Int) ∧ lenL L = lenL L ∧ L = L ∧ trTo (ls L) t.1 t.2.1 g = trTo (ls L) t.1 t.2.1 g' ∧ startsL L = startsL L ∧ t.1 = t.1 ∧ t.2.1 = t.2.1 ∧ t.2.2.1 = t.2.2.1 ∧ t.2.2.2 = t.2.2.2 ∧ True))) (trTo (ls L) t.1 t.2.1 g = trTo (ls L) t.1 t.2.1 q1 ∧ True)) := by
  kernel_rfl
theorem vc150 (L : List Ed) (nm : List UInt8) (f : Int) : exF (env false [(39, sp39), (71, sp71), (41, sp41)] []) h150 0 150 Proofs.Tryz.f150 [.one (.sl edT L), .one (.str nm), iV f] (.val (bV (ndB (ls L) (lenL L).toNat nm f))) = (let q0 := (Int.toNat (lenL L)); EdsIn L ∧ ((0 : Int) < lenL L → PlsOk (ls L)) ∧ lenL L ≤ (10000 : Int) ∧ splitB (decide ((0 : Int) < (↑(List.length (trTo (ls L) nm f q0)) : Int))) (true = ndB (ls L) q0 nm f ∧ True) (EdsIn L ∧ (∃ (g : Nat), (g ≤ Int.toNat (lenL L) ∧ hrTo (ls L) nm f g = false) ∧ (0 : Int) = (↑g : Int) ∧ lenL L = lenL L ∧ L = L ∧ nm = nm ∧ f = f ∧ startsL L = startsL L ∧ trTo (ls L) nm f q0 = trTo (ls L) nm f q0 ∧ True) ∧ ∀ (g : Nat), g ≤ Int.toNat (lenL L) ∧ hrTo (ls L) nm f g = false → splitB (decide ((↑g : Int) < lenL L)) (EdsIn L ∧ PlsOk (ls L) ∧ ((0 : Int) ≤ (↑g : Int) ∧ (↑g : Int) ≤ (100000 : Int)) ∧ (List.getD L (0 : Nat) e0).2.2.2.2 = (0 : Int) ∧ splitB (bif (soundN (ls L) (↑g : Int)).1 == nm then (soundN (ls L) (↑g : Int)).2.1 == f else false) (true = ndB (ls L) q0 nm f ∧ True) (fits IntKind.i64 ((↑g : Int) + (1 : Int)) ∧ ∃ (g' : Nat), (g' ≤ Int.toNat (lenL L) ∧ hrTo (ls L) nm f g' = false) ∧ Int.toNat (lenL L) - g' < Int.toNat (lenL L) - g ∧ (↑g : Int) + (1 : Int) = (↑g' : Int) ∧ lenL L = lenL L ∧ L = L ∧ nm = nm ∧ f = f ∧ startsL L = startsL L ∧ trTo (ls L) nm f q0 = trTo (ls L) nm f q0 ∧ True)) (false = ndB (ls L) q0 nm f ∧ True))) := by
  kernel_rfl
theorem vc72 (R : List Rl) (L : List Ed) : exF (env false [(150, sp150)] []) h72 0 72 Proofs.Tryz.f72 [.one (.sl rlT R), .one (.sl edT L)] (.val (.one (.frs ndT (needTo (usedTo (ls L) (lenL L).toNat) R R.length)))) = (let q7 := (Int.toNat (lenL L)); let q1 := (usedTo (ls L) q7); let q8 := ([], (0 : Int), (0 : Int)); let q9 := (List.length R); (∃ (g : Nat), Nat.le g q9 ∧ (0 : Int) = (↑g : Int) ∧ R = R ∧ L = L ∧ needTo q1 R g = [] ∧ True) ∧ ∀ (g : Nat), let q0 := (List.getD R g r0); let q6 := (List.length q0.2.2); let q10 := (usedB q1 q0.1); Nat.le g q9 → splitB (decide ((↑g : Int) < (↑q9 : Int))) (((0 : Int) ≤ (↑g : Int) ∧ (↑g : Int) < (↑q9 : Int)) ∧ (∃ (g_1 : Nat), Nat.le g_1 q6 ∧ q0.2.1 = q0.2.1 + (↑g_1 : Int) ∧ false = befB q1 q0.1 q0.2.1 g_1 ∧ (↑g : Int) = (↑g : Int) ∧ R = R ∧ L = L ∧ needTo q1 R g = needTo q1 R g ++ List.map (fun (x : Int × Int) => (q0.1, x.1, x.2)) (spTo q10 q0.2.1 g_1) ∧ q0.1 = q0.1 ∧ q0.2.1 = q0.2.1 ∧ q0.2.2 = q0.2.2 ∧ True) ∧ ∀ (g_1 : Nat), let q2 := (spTo q10 q0.2.1 g_1); let q3 := (q0.1, q0.2.1 + (↑g_1 : Int), q0.2.1 + (↑g_1 : Int)); let q4 := (q0.2.1 + (↑g_1 : Int) + (1 : Int)); let q5 := (q0.2.1 + (↑g_1 : Int)); Nat.le g_1 q6 → fits IntKind.i64 (q0.2.1 + (↑q6 : Int)) ∧ splitB (decide (q0.2.1 + (↑g_1 : Int) < q0.2.1 + (↑q6 : Int))) (EdsIn L ∧ ((0 : Int) < lenL L → PlsOk (ls L)) ∧ lenL L ≤ (10000 : Int) ∧ ((0 : Int) < lenL L → (List.getD L (0 : Nat) e0).2.2.2.2 = (0 : Int)) ∧ splitB (bif ndB (ls L) q7 q0.1 q5 then !befB q1 q0.1 q0.2.1 g_1 else false) (room (List.length (needTo q1 R g ++ List.map (fun (x : Int × Int) => (q0.1, x.1, x.2)) q2) + (1 : Nat)) (32 : Nat) ∧ splitB (ndB (ls L) q7 q0.1 q5) (fits IntKind.i64 ((↑(List.length (needTo q1 R g ++ List.map (fun (x : Int × Int) => (q0.1, x.1, x.2)) q2 ++ [q3])) : Int) - (1 : Int)) ∧ fits IntKind.i64 q4 ∧ ((0 : Int) ≤ (↑(List.length (needTo q1 R g ++ List.map (fun (x : Int × Int) => (q0.1, x.1, x.2)) q2 ++ [q3])) : Int) - (1 : Int) ∧ (↑(List.length (needTo q1 R g ++ List.map (fun (x : Int × Int) => (q0.1, x.1, x.2)) q2 ++ [q3])) : Int) - (1 : Int) < (↑(List.length (needTo q1 R g ++ List.map (fun (x : Int × Int) => (q0.1, x.1, x.2)) q2 ++ [q3])) : Int)) ∧ Int.toNat ((↑(List.length (needTo q1 R g ++ List.map (fun (x : Int × Int) => (q0.1, x.1, x.2)) q2 ++ [q3])) : Int) - (1 : Int)) < List.length (needTo q1 R g ++ List.map (fun (x : Int × Int) => (q0.1, x.1, x.2)) q2 ++ [q3]) ∧ fits IntKind.i64 q4 ∧ ∃ (g' : Nat), Nat.le g' q6 ∧ List.length q0.2.2 - g' < List.length q0.2.2 - g_1 ∧ q0.2.1 + (↑g_1 : Int) + (1 : Int) = q0.2.1 + (↑g' : Int) ∧ ndB (ls L) q7 q0.1 q5 = befB q1 q0.1 q0.2.1 g' ∧ (↑g : Int) = (↑g : Int) ∧ R = R ∧ L = L ∧ List.set (needTo q1 R g ++ List.map (fun (x : Int × Int) => (q0.1, x.1, x.2)) q2 ++ [q3]) (Int.toNat ((↑(List.length (needTo q1 R g ++ List.map (fun (x : Int × Int) => (q0.1, x.1, x.2)) q2 ++ [q3])) : Int) - (1 : Int))) ((List.getD (needTo q1 R g ++ List.map (fun (x : Int × Int) => (q0.1, x.1, x.2)) q2 ++ [q3]) (Int.toNat ((↑(List.length (needTo q1 R g ++ List.map (fun (x : Int × Int) => (q0.1, x.1, x.2)) q2 ++ [q3])) : Int) - (1 : Int))) q8).1, (List.getD (needTo q1 R g ++ List.map (fun (x : Int × Int) => (q0.1, x.1, x.2)) q2 ++ [q3]) (Int.toNat ((↑(List.length (needTo q1 R g ++ List.map (fun (x : Int × Int) => (q0.1, x.1, x.2)) q2 ++ [q3])) : Int) - (1 : Int))) q8).2.1, q0.2.1 + (↑g_1 : Int) + (1 : Int)) = needTo q1 R g ++ List.map (fun (x : Int × Int) => (q0.1, x.1, x.2)) (spTo q10 q0.2.1 g') ∧ q0.1 = q0.1 ∧ q0.2.1 = q0.2.1 ∧ q0.2.2 = q0.2.2 ∧ True) (fits IntKind.i64 q4 ∧ ∃ (g' : Nat), Nat.le g' q6 ∧ List.length q0.2.2 - g' < List.length q0.2.2 - g_1 ∧ q0.2.1 + (↑g_1 : Int) + (1 : Int) = q0.2.1 + (↑g' : Int) ∧ ndB (ls L) q7 q0.1 q5 = befB q1 q0.1 q0.2.1 g' ∧ (↑g : Int) = (↑g : Int) ∧ R = R ∧ L = L ∧ needTo q1 R g ++ List.map (fun (x : Int × Int) => (q0.1, x.1, x.2)) q2 ++ [q3] = needTo q1 R g ++ List.map (fun (x : Int × Int) => (q0.1, x.1, x.2)) (spTo q10 q0.2.1 g') ∧ q0.1 = q0.1 ∧ q0.2.1 = q0.2.1 ∧ q0.2.2 = q0.2.2 ∧ True)) (splitB (ndB (ls L) q7 q0.1 q5) (fits IntKind.i64 ((↑(List.length (needTo q1 R g ++ List.map (fun (x : Int × Int) => (q0.1, x.1, x.2)) q2)) : Int) - (1 : Int)) ∧ fits IntKind.i64 q4 ∧ ((0 : Int) ≤ (↑(List.length (needTo q1 R g ++ List.map (fun (x : Int × Int) => (q0.1, x.1, x.2)) q2)) : Int) - (1 : Int) ∧ (↑(List.length (needTo q1 R g ++ List.map (fun (x : Int × Int) => (q0.1, x.1, x.2)) q2)) : Int) - (1 : Int) < (↑(List.length (needTo q1 R g ++ List.map (fun (x : Int × Int) => (q0.1, x.1, x.2)) q2)) : Int)) ∧ Int.toNat ((↑(List.length (needTo q1 R g ++ List.map (fun (x : Int × Int) => (q0.1, x.1, x.2)) q2)) : Int) - (1 : Int)) < List.length (needTo q1 R g ++ List.map (fun (x : Int × Int) => (q0.1, x.1, x.2)) q2) ∧ fits IntKind.i64 q4 ∧ ∃ (g' : Nat), Nat.le g' q6 ∧ List.length q0.2.2 - g' < List.length q0.2.2 - g_1 ∧ q0.2.1 + (↑g_1 : Int) + (1 : Int) = q0.2.1 + (↑g' : Int) ∧ ndB (ls L) q7 q0.1 q5 = befB q1 q0.1 q0.2.1 g' ∧ (↑g : Int) = (↑g : Int) ∧ R = R ∧ L = L ∧ List.set (needTo q1 R g ++ List.map (fun (x : Int × Int) => (q0.1, x.1, x.2)) q2) (Int.toNat ((↑(List.length (needTo q1 R g ++ List.map (fun (x : Int × Int) => (q0.1, x.1, x.2)) q2)) : Int) - (1 : Int))) ((List.getD (needTo q1 R g ++ List.map (fun (x : Int × Int) => (q0.1, x.1, x.2)) q2) (Int.toNat ((↑(List.length (needTo q1 R g ++ List.map (fun (x : Int × Int) => (q0.1, x.1, x.2)) q2)) : Int) - (1 : Int))) q8).1, (List.getD (needTo q1 R g ++ List.map (fun (x : Int × Int) => (q0.1, x.1, x.2)) q2) (Int.toNat ((↑(List.length (needTo q1 R g ++ List.map (fun (x : Int × Int) => (q0.1, x.1, x.2)) q2)) : Int) - (1 : Int))) q8).2.1, q0.2.1 + (↑g_1 : Int) + (1 : Int)) = needTo q1 R g ++ List.map (fun (x : Int × Int) => (q0.1, x.1, x.2)) (spTo q10 q0.2.1 g') ∧ q0.1 = q0.1 ∧ q0.2.1 = q0.2.1 ∧ q0.2.2 = q0.2.2 ∧ True) (fits IntKind.i64 q4 ∧ ∃ (g' : Nat), Nat.le g' q6 ∧ List.length q0.2.2 - g' < List.length q0.2.2 - g_1 ∧ q0.2.1 + (↑g_1 : Int) + (1 : Int) = q0.2.1 + (↑g' : Int) ∧ ndB (ls L) q7 q0.1 q5 = befB q1 q0.1 q0.2.1 g' ∧ (↑g : Int) = (↑g : Int) ∧ R = R ∧ L = L ∧ needTo q1 R g ++ List.map (fun (x : Int × Int) => (q0.1, x.1, x.2)) q2 = needTo q1 R g ++ List.map (fun (x : Int × Int) => (q0.1, x.1, x.2)) (spTo q10 q0.2.1 g') ∧ q0.1 = q0.1 ∧ q0.2.1 = q0.2.1 ∧ q0.2.2 = q0.2.2 ∧ True))) (fits IntKind.i64 ((↑g : Int) + (1 : Int)) ∧ ∃ (g' : Nat), Nat.le g' q9 ∧ List.length R - g' < List.length R - g ∧ (↑g : Int) + (1 : Int) = (↑g' : Int) ∧ R = R ∧ L = L ∧ needTo q1 R g ++ List.map (fun (x : Int × Int) => (q0.1, x.1, x.2)) q2 = needTo q1 R g' ∧ True)) (needTo q1 R g = needTo q1 R q9 ∧ True)) := by
  kernel_rfl
theorem vc9 (R : List Rl) (L : List Ed) (t : Tk) : exF (env false [(17, sp17), (18, sp18), (25, sp25), (34, sp34), (68, sp68), (69, sp69), (38, sp38), (70, sp70), (71, sp71), (72, sp72), (44, sp44n), (74, sp74), (73, sp73)] []) h9 0 9 Proofs.Tryz.f9 [.one (.sl rlT R), .one (.sl edT L), tkV t] (.val (bV true)) = (let q0 := (trcN R L t.1 t.2.1 = trTo (ls L) t.1 t.2.1 (Int.toNat (lenL L))); let q8 := (1000000 : Nat); let q11 := (trcN R L t.1 t.2.1 = []); let q2 := ((bif decide q11 then trcE R L t.1 t.2.1 == chkEds R L else false) = true → List.length (needN R L) ≤ q8); let q4 := ((bif decide q0 then trcE R L t.1 t.2.1 == chkEds R L else false) = true → List.length (needN R L) ≤ q8); let q13 := (List.length R); let q5 := (needN R L = needTo (usedTo (ls L) (Int.toNat (lenL L))) R q13); let q6 := (1000000000 : Nat); let q7 := (↑q13 : Int); let q9 := (trcN R L t.1 t.2.1); let q10 := (chkEds R L == (0 : Int)); List.length R ≤ (9223372036854775807 : Nat) ∧ List.length L ≤ (9223372036854775807 : Nat) ∧ splitB (bif !shortB R L then true else decide ((40 : Int) < (↑(List.length t.1) : Int))) (true = true ∧ True) (List.length R ≤ q8 ∧ (∀ (r : Rl), r ∈ R → List.length r.2.2 ≤ q8) ∧ List.length L ≤ q8 ∧ List.length R ≤ q6 ∧ (∀ (r : Rl), r ∈ R → List.length r.2.2 ≤ q8) ∧ List.length L ≤ q6 ∧ List.length R ≤ q8 ∧ (∀ (r : Rl), r ∈ R → List.length r.2.2 ≤ q8) ∧ List.length L ≤ q8 ∧ List.length R ≤ q6 ∧ (∀ (r : Rl), r ∈ R → List.length r.2.2 ≤ q8) ∧ List.length L ≤ q6 ∧ List.length R ≤ q6 ∧ (∀ (r : Rl), r ∈ R → List.length r.2.2 ≤ q8 ∧ List.length r.1 ≤ q6) ∧ List.length L ≤ q6 ∧ (∀ (x : Ed), x ∈ L → fits IntKind.i64 x.2.2.1) ∧ splitB q10 ((∃ (g : Nat), Nat.le g q13 ∧ (0 : Int) = (↑g : Int) ∧ (10 : Int) = oneTo R t.1 t.2.1 g ∧ q7 = q7 ∧ R = R ∧ chkEds R L = chkEds R L ∧ chkEds R L = chkEds R L ∧ trcE R L t.1 t.2.1 = trcE R L t.1 t.2.1 ∧ R = R ∧ L = L ∧ needN R L = needN R L ∧ L = L ∧ trcN R L t.1 t.2.1 = trcN R L t.1 t.2.1 ∧ L = L ∧ t.1 = t.1 ∧ t.2.1 = t.2.1 ∧ t.2.2.1 = t.2.2.1 ∧ t.2.2.2 = t.2.2.2 ∧ True) ∧ ∀ (g : Nat), let q1 := ((bif decide q11 then trcE R L t.1 t.2.1 == oneTo R t.1 t.2.1 g else false) = true → List.length (needN R L) ≤ q8); let q3 := ((bif decide q0 then trcE R L t.1 t.2.1 == oneTo R t.1 t.2.1 g else false) = true → List.length (needN R L) ≤ q8); let q12 := (List.getD R g r0); Nat.le g q13 → splitB (decide ((↑g : Int) < q7)) (((0 : Int) ≤ (↑g : Int) ∧ (↑g : Int) < q7) ∧ splitB (q12.1 == t.1) ((decide (t.2.1 < q12.2.1) = false → fits IntKind.i64 (q12.2.1 + (↑(List.length q12.2.2) : Int))) ∧ fits IntKind.i64 ((↑g : Int) + (1 : Int)) ∧ ∃ (g' : Nat), Nat.le g' q13 ∧ List.length R - g' < List.length R - g ∧ (↑g : Int) + (1 : Int) = (↑g' : Int) ∧ whenE (bif decide (t.2.1 < q12.2.1) then true else decide (q12.2.1 + (↑(List.length q12.2.2) : Int) ≤ t.2.1)) (14 : Int) = oneTo R t.1 t.2.1 g' ∧ q7 = q7 ∧ R = R ∧ chkEds R L = chkEds R L ∧ chkEds R L = chkEds R L ∧ trcE R L t.1 t.2.1 = trcE R L t.1 t.2.1 ∧ R = R ∧ L = L ∧ needN R L = needN R L ∧ L = L ∧ trcN R L t.1 t.2.1 = trcN R L t.1 t.2.1 ∧ L = L ∧ t.1 = t.1 ∧ t.2.1 = t.2.1 ∧ t.2.2.1 = t.2.2.1 ∧ t.2.2.2 = t.2.2.2 ∧ True) (fits IntKind.i64 ((↑g : Int) + (1 : Int)) ∧ ∃ (g' : Nat), Nat.le g' q13 ∧ List.length R - g' < List.length R - g ∧ (↑g : Int) + (1 : Int) = (↑g' : Int) ∧ oneTo R t.1 t.2.1 g = oneTo R t.1 t.2.1 g' ∧ q7 = q7 ∧ R = R ∧ chkEds R L = chkEds R L ∧ chkEds R L = chkEds R L ∧ trcE R L t.1 t.2.1 = trcE R L t.1 t.2.1 ∧ R = R ∧ L = L ∧ needN R L = needN R L ∧ L = L ∧ trcN R L t.1 t.2.1 = trcN R L t.1 t.2.1 ∧ L = L ∧ t.1 = t.1 ∧ t.2.1 = t.2.1 ∧ t.2.2.1 = t.2.2.1 ∧ t.2.2.2 = t.2.2.2 ∧ True)) (splitB (oneTo R t.1 t.2.1 g == (0 : Int)) (EdsIn L ∧ ((0 : Int) < lenL L → PlsOk (ls L)) ∧ lenL L ≤ (10000 : Int) ∧ splitB q10 (ListOk R L ∧ List.length q9 ≤ q6 ∧ q3 ∧ q3 ∧ (bif bif bif bif decide q0 then trcE R L t.1 t.2.1 == oneTo R t.1 t.2.1 g else false then decide q5 else false then chkEds R L == chkEds R L else false then true else false) = true ∧ True) (List.length q9 ≤ q6 ∧ q3 ∧ q3 ∧ (bif bif bif bif decide q0 then trcE R L t.1 t.2.1 == oneTo R t.1 t.2.1 g else false then decide (needN R L = []) else false then chkEds R L == chkEds R L else false then true else false) = true ∧ True)) (splitB q10 (ListOk R L ∧ List.length q9 ≤ q6 ∧ q1 ∧ q1 ∧ (bif bif bif bif decide q11 then trcE R L t.1 t.2.1 == oneTo R t.1 t.2.1 g else false then decide q5 else false then chkEds R L == chkEds R L else false then true else false) = true ∧ True) (List.length q9 ≤ q6 ∧ q1 ∧ q1 ∧ (bif bif bif bif decide q11 then trcE R L t.1 t.2.1 == oneTo R t.1 t.2.1 g else false then decide (needN R L = []) else false then chkEds R L == chkEds R L else false then true else false) = true ∧ True)))) (splitB q10 (EdsIn L ∧ ((0 : Int) < lenL L → PlsOk (ls L)) ∧ lenL L ≤ (10000 : Int) ∧ splitB q10 (ListOk R L ∧ List.length q9 ≤ q6 ∧ q4 ∧ q4 ∧ (bif bif bif bif decide q0 then trcE R L t.1 t.2.1 == chkEds R L else false then decide q5 else false then chkEds R L == chkEds R L else false then true else false) = true ∧ True) (List.length q9 ≤ q6 ∧ q4 ∧ q4 ∧ (bif bif bif bif decide q0 then trcE R L t.1 t.2.1 == chkEds R L else false then decide (needN R L = []) else false then chkEds R L == chkEds R L else false then true else false) = true ∧ True)) (splitB q10 (ListOk R L ∧ List.length q9 ≤ q6 ∧ q2 ∧ q2 ∧ (bif bif bif bif decide q11 then trcE R L t.1 t.2.1 == chkEds R L else false then decide q5 else false then chkEds R L == chkEds R L else false then true else false) = true ∧ True) (List.length q9 ≤ q6 ∧ q2 ∧ q2 ∧ (bif bif bif bif decide q11 then trcE R L t.1 t.2.1 == chkEds R L else false then decide (needN R L = []) else false then chkEds R L == chkEds R L else false then true else false) = true ∧ True))))) := by
  kernel_rfl
end Go.Sx

/- Contracts. -/
namespace Go.Sx
open U
theorem so44n_ : SpecOk P1 gl1 44 sp44n := by
  intro vs ps r h hp
  simp only [sp44n] at h
  split at h
  · cases h
    exact fn44 _ _ (hp _ (.head _))
  · cases h
    exact Fn.args (fn44 _ [] (hp _ (.head _))) fun H vs d => by
      obtain ⟨v0, r0, rfl, h0, v1, r1, rfl, h1, hz⟩ := d
      exact ⟨_, _, rfl, h0, _, _, rfl, nil_sl h1, hz⟩
  · cases h
theorem so44n : Sp1 44 sp44n := ⟨so44n_, Proofs.Tryz.f44, _, by kernel_rfl, rfl, by kernel_rfl⟩
theorem hasTo_mono {ts : List Tk} {nm : List UInt8} {f : Int} {j : Nat} (h : hasTo ts nm f j = true) : ∀ k, hasTo ts nm f (j + k) = true
  | 0 => h
  | k + 1 => by
    have := hasTo_mono h k
    show (hasTo ts nm f (j + k) || _) = true
    rw [this]; rfl
theorem hasTo_iff (ts : List Tk) (nm : List UInt8) (f : Int) : ∀ j, j ≤ ts.length → (hasTo ts nm f j = true ↔ ∃ i, i < j ∧ (ts.getD i tk0).1 = nm ∧ (ts.getD i tk0).2.1 = f)
  | 0, _ => by simp [hasTo]
  | j + 1, hj => by
    have ih := hasTo_iff ts nm f j (by omega)
    simp only [hasTo, Bool.or_eq_true, Bool.and_eq_true, beq_iff_eq, ih]
    constructor
    · rintro (⟨i, h1, h2⟩ | h)
      · exact ⟨i, by omega, h2⟩
      · exact ⟨j, by omega, h⟩
    · rintro ⟨i, h1, h2⟩
      by_cases e : i = j
      · subst e; exact .inr h2
      · exact .inl ⟨i, by omega, h2⟩
theorem hasT_iff (ts : List Tk) (nm : List UInt8) (f : Int) : hasT ts nm f = true ↔ ∃ x ∈ ts, x.1 = nm ∧ x.2.1 = f := by
  unfold hasT
  rw [hasTo_iff ts nm f _ (Nat.le_refl _)]
  constructor
  · rintro ⟨i, h1, h2⟩
    exact ⟨_, getD_mem h1, h2⟩
  · rintro ⟨x, hx, h2⟩
    obtain ⟨i, hi, rfl⟩ := mem_getD tk0 hx
    exact ⟨i, hi, h2⟩
theorem takesN_len (p : List Pl) (fr : Int) : (takesN p fr).length ≤ 2 := by
  unfold takesN takesE
  split <;> simp
theorem trTo_len (p : List Pl) (nm : List UInt8) (f : Int) : ∀ n, (trTo p nm f n).length ≤ n
  | 0 => Nat.le_refl _
  | n + 1 => by
    have ih := trTo_len p nm f n
    simp only [trTo]
    cases hasT (takesN p n) nm f
    · simp only [cond_false, List.append_nil]; omega
    · simp only [cond_true, List.length_append, List.length_cons, List.length_nil]; omega
theorem trTo_hit {p : List Pl} {nm : List UInt8} {f : Int} {n : Nat} (h : hasT (takesN p n) nm f = true) : trTo p nm f n ++ [(n : Int)] = trTo p nm f (n + 1) := by
  show _ = trTo p nm f n ++ _
  rw [h]; rfl
theorem trTo_miss {p : List Pl} {nm : List UInt8} {f : Int} {n : Nat} (h : hasT (takesN p n) nm f = false) : trTo p nm f n = trTo p nm f (n + 1) := by
  show _ = trTo p nm f n ++ _
  rw [h]; simp
theorem trTo_pos (p : List Pl) (nm : List UInt8) (f : Int) : ∀ n, 0 < (trTo p nm f n).length ↔ ∃ u, u < n ∧ ∃ x ∈ takesN p (u : Int), x.1 = nm ∧ x.2.1 = f
  | 0 => by simp [trTo]
  | n + 1 => by
    have ih := trTo_pos p nm f n
    cases h : hasT (takesN p n) nm f with
    | true =>
      rw [← trTo_hit h]
      simp only [List.length_append, List.length_cons, List.length_nil]
      exact ⟨fun _ => ⟨n, by omega, (hasT_iff _ _ _).1 h⟩, fun _ => by omega⟩
    | false =>
      rw [← trTo_miss h, ih]
      constructor
      · rintro ⟨u, h1, h2⟩; exact ⟨u, by omega, h2⟩
      · rintro ⟨u, h1, h2⟩
        by_cases e : u = n
        · subst e
          rw [(hasT_iff _ _ _).2 h2] at h; cases h
        · exact ⟨u, by omega, h2⟩
theorem hrTo_iff (p : List Pl) (nm : List UInt8) (f : Int) : ∀ n, hrTo p nm f n = true ↔ ∃ u, u < n ∧ (soundN p (u : Int)).1 = nm ∧ (soundN p (u : Int)).2.1 = f
  | 0 => by simp [hrTo]
  | n + 1 => by
    have ih := hrTo_iff p nm f n
    simp only [hrTo, Bool.or_eq_true, Bool.and_eq_true, beq_iff_eq, ih]
    constructor
    · rintro (⟨i, h1, h2⟩ | h)
      · exact ⟨i, by omega, h2⟩
      · exact ⟨n, by omega, h⟩
    · rintro ⟨i, h1, h2⟩
      by_cases e : i = n
      · subst e; exact .inr h2
      · exact .inl ⟨i, by omega, h2⟩
theorem ndB_used (p : List Pl) (n : Nat) (nm : List UInt8) (f : Int) : ndB p n nm f = usedB (usedTo p n) nm f := by
  rw [Bool.eq_iff_iff, used_iff]
  unfold ndB
  rw [Bool.or_eq_true, decide_eq_true_eq, trTo_pos, hrTo_iff]
theorem fn147 (x t : Tk)  : Fn P1 gl1 147 [tkV x, .one (.ref tkT t)] (.val (bV (x.1 == t.1 && x.2.1 == t.2.1))) true := by
  refine Fn.flat ?_ rfl
  refine fn_of false [] [] h0 0 Proofs.Tryz.f147 trivial trivial (by kernel_rfl) rfl (by kernel_rfl) rfl rfl rfl ?_
  rw [vc147]
  try simp only [splitB_iff, -eq_self]
  refine ⟨?_, trivial⟩
  simp [eqT]
theorem so147_ : SpecOk P1 gl1 147 sp147 := by
  intro vs ps r h _
  simp only [sp147] at h
  split at h
  · cases h; exact fn147 (_, _, _, _) _ 
  · cases h
theorem so147 : Sp1 147 sp147 := ⟨so147_, Proofs.Tryz.f147, _, by kernel_rfl, rfl, by kernel_rfl⟩
theorem fn68 (R : List Rl) (L : List Ed) (t : Tk) (hl : R.length ≤ 1000000000) (hR : ∀ r ∈ R, r.2.2.length ≤ 1000000) (hL : L.length ≤ 1000000000) : Fn P1 gl1 68 [.one (.sl rlT R), .one (.sl edT L), tkV t] (.tup [.one (.frs (.int .i64) (trcN R L t.1 t.2.1)), iV (trcE R L t.1 t.2.1)]) true := by
  refine Fn.flat ?_ rfl
  refine fn_of false [(43, sp43), (120, sp120), (107, sp107), (106, sp106), (112, sp112), (155, sp155n), (147, sp147)] [fb123, fb174, fb146, fb193] h68 5 Proofs.Tryz.f68 ⟨so43, so120, so107, so106, so112, so155n, so147, trivial⟩ ⟨⟨by kernel_rfl, by kernel_rfl, _, rfl, by kernel_rfl⟩, ⟨by kernel_rfl, by kernel_rfl, _, rfl, by kernel_rfl⟩, ⟨by kernel_rfl, by kernel_rfl, _, rfl, by kernel_rfl⟩, ⟨by kernel_rfl, by kernel_rfl, _, rfl, by kernel_rfl⟩, trivial⟩ (by kernel_rfl) rfl (by kernel_rfl) rfl rfl rfl ?_
  rw [vc68]
  try simp only [splitB_iff, -eq_self]
  obtain ⟨nm, f, c, d⟩ := t
  simp only [eq_self, true_and, and_true, and_self]
  refine ⟨hl, hR, hL, fun h => ?_, fun h => ?_⟩
  · have h' : chkEds R L ≠ 0 := by simpa using h
    have e : trcE R L nm f = chkEds R L := by unfold trcE; rw [if_pos h']
    exact ⟨by unfold trcN; rw [e, if_neg h'], e.symm⟩
  · have h' : chkEds R L = 0 := by simpa using h
    have hk := chkEds_zero.1 h'
    have hn := lenL_nn hk
    have hbig := hk.big
    have hN : begN L L.length = lenL L := rfl
    have hP : plTo L L.length = ls L := rfl
    have e : trcE R L nm f = frE R nm f := by unfold trcE; rw [if_neg (by simpa using h')]
    have hr := reel_bd hk.rs nm
    have hms := mapR_some (rs_nodup hk.rs) nm
    have hne : first [whenE (!Option.isSome (U.mapGet .str (.pair .str (.pair (.int .i64) (.sl (.int .i64)))) (mapR R R.length) nm)) 10, whenE (bif decide (f < (Option.getD (U.mapGet .str (.pair .str (.pair (.int .i64) (.sl (.int .i64)))) (mapR R R.length) nm) r0).2.1) then true else decide ((Option.getD (U.mapGet .str (.pair .str (.pair (.int .i64) (.sl (.int .i64)))) (mapR R R.length) nm) r0).2.1 + ((Option.getD (U.mapGet .str (.pair .str (.pair (.int .i64) (.sl (.int .i64)))) (mapR R R.length) nm) r0).2.2.length : Int) ≤ f)) 14] = frE R nm f := by
      unfold frE
      rw [hms]
      by_cases hi : idxN nm R < R.length
      · rw [if_pos hi, if_pos hi]
        simp only [Option.isSome_some, Option.getD_some, Bool.not_true, bcond_l]
        generalize (decide (f < (rlOf R nm).2.1) || decide ((rlOf R nm).2.1 + ((rlOf R nm).2.2.length : Int) ≤ f)) = b
        cases b <;> rfl
      · rw [if_neg hi, if_neg hi]
        rfl
    have hfit : fits .i64 ((Option.getD (U.mapGet .str (.pair .str (.pair (.int .i64) (.sl (.int .i64)))) (mapR R R.length) nm) r0).2.1 + ((Option.getD (U.mapGet .str (.pair .str (.pair (.int .i64) (.sl (.int .i64)))) (mapR R R.length) nm) r0).2.2.length : Int)) := by
      rw [hms]
      by_cases hi : idxN nm R < R.length
      · rw [if_pos hi]
        show fits .i64 ((rlOf R nm).2.1 + ((rlOf R nm).2.2.length : Int))
        have h1 := hr.2.2.1
        unfold endR at h1
        simp only [fits]; omega
      · rw [if_neg hi]
        show fits .i64 ((0 : Int) + ((([] : List Int).length : Nat) : Int))
        simp only [fits, List.length_nil]; omega
    refine ⟨hl, hk.eds, fun _ => hfit, by decide, fun hb => ?_, fun hb => ?_⟩
    · rw [hne] at hb ⊢
      have hb' : frE R nm f ≠ 0 := by simpa using hb
      exact ⟨by unfold trcN; rw [e, if_neg hb'], e.symm⟩
    · rw [hne] at hb
      have hb' : frE R nm f = 0 := by simpa using hb
      simp only [hN, hP]
      refine ⟨⟨0, Nat.zero_le _, rfl, rfl⟩, fun g hg => ⟨fun hlt => ?_, fun hge => ?_⟩⟩
      · have hlt' : (g : Int) < lenL L := of_decide_eq_true hlt
        have hgn : g + 1 ≤ (lenL L).toNat := by omega
        have hl2 := trTo_len (ls L) nm f g
        refine ⟨hk.pls' (by omega) hlt', ⟨by omega, hk.frame hlt'⟩, ⟨0, ⟨Nat.zero_le _, rfl⟩, rfl⟩, fun j hj => ⟨fun hjl => ?_, fun hjg => ?_⟩⟩
        · have hjl' : j < (takesN (ls L) (g : Int)).length := by simpa using hjl
          have h2 := takesN_len (ls L) (g : Int)
          refine ⟨⟨by omega, by omega⟩, hjl', fun hm => ?_, fun hm => ?_⟩
          · have hh : hasTo (takesN (ls L) (g : Int)) nm f (j + 1) = true := by
              show (_ || _) = true
              rw [hm, Bool.or_true]
            have hT : hasT (takesN (ls L) (g : Int)) nm f = true := by
              have := hasTo_mono hh ((takesN (ls L) (g : Int)).length - (j + 1))
              rw [show j + 1 + ((takesN (ls L) (g : Int)).length - (j + 1)) = (takesN (ls L) (g : Int)).length by omega] at this
              exact this
            exact ⟨by simp only [room]; omega, by simp only [fits]; omega, g + 1, hgn, by omega, by omega, trTo_hit hT⟩
          · refine ⟨by simp only [fits]; omega, j + 1, ⟨hjl', ?_⟩, by omega, by omega⟩
            show (_ || _) = false
            rw [hj.2, hm]; rfl
        · have hjg' : j = (takesN (ls L) (g : Int)).length := by have : ¬ j < (takesN (ls L) (g : Int)).length := by simpa using hjg
                                                                 omega
          have hT : hasT (takesN (ls L) (g : Int)) nm f = false := by unfold hasT; rw [← hjg']; exact hj.2
          exact ⟨by simp only [fits]; omega, g + 1, hgn, by omega, by omega, trTo_miss hT⟩
      · have hge' : ¬ (g : Int) < lenL L := of_decide_eq_false hge
        have : g = (lenL L).toNat := by have : g ≤ (lenL L).toNat := hg
                                        omega
        subst this
        rw [e, hb']
        exact ⟨by unfold trcN; rw [e, if_pos hb'], rfl⟩
theorem so68_ : SpecOk P1 gl1 68 sp68 := by
  intro vs ps r h hp
  simp only [sp68] at h
  split at h
  · cases h; exact fn68 _ _ (_, _, _, _) (hp _ (.head _)) (hp _ (.tail _ (.head _))) (hp _ (.tail _ (.tail _ (.head _))))
  · cases h
theorem so68 : Sp1 68 sp68 := ⟨so68_, Proofs.Tryz.f68, _, by kernel_rfl, rfl, by kernel_rfl⟩
theorem fn71 (L : List Ed) (t : Tk) (hL : EdsIn L) (hp : 0 < lenL L → PlsOk (ls L)) (hn : lenL L ≤ 10000) : Fn P1 gl1 71 [.one (.sl edT L), tkV t] (.val (.one (.frs (.int .i64) (trTo (ls L) t.1 t.2.1 (lenL L).toNat)))) true := by
  refine Fn.flat ?_ rfl
  refine fn_of false [(39, sp39), (40, sp40)] [] h71 0 Proofs.Tryz.f71 ⟨so39, so40, trivial⟩ trivial (by kernel_rfl) rfl (by kernel_rfl) rfl rfl rfl ?_
  rw [vc71]
  try simp only [splitB_iff, -eq_self]
  obtain ⟨nm, f, c, d⟩ := t
  simp only [eq_self, true_and, and_true, and_self]
  refine ⟨hL, ⟨0, Nat.zero_le _, rfl, rfl⟩, fun g hg => ⟨fun hlt => ?_, fun hge => ?_⟩⟩
  · have hlt' : (g : Int) < lenL L := of_decide_eq_true hlt
    have hgn : g + 1 ≤ (lenL L).toNat := by omega
    have hl2 := trTo_len (ls L) nm f g
    refine ⟨hL, hp (by omega), ⟨by omega, by omega⟩, ⟨0, Nat.zero_le _, rfl, rfl⟩, fun j hj => ⟨fun hjl => ?_, fun hjg => ?_⟩⟩
    · have hjl' : j < (takesN (ls L) (g : Int)).length := by simpa using hjl
      have h2 := takesN_len (ls L) (g : Int)
      refine ⟨fun _ => ⟨by omega, by omega⟩, fun _ => ⟨by omega, by omega⟩, by simp only [fits]; omega, j + 1, hjl', by omega, by omega, ?_⟩
      show _ = (_ || (_ && _))
      cases hasTo (takesN (ls L) (g : Int)) nm f j <;> cases (List.getD (takesN (ls L) (g : Int)) j tk0).1 == nm <;> rfl
    · have hjg' : j = (takesN (ls L) (g : Int)).length := by have : ¬ j < (takesN (ls L) (g : Int)).length := by simpa using hjg
                                                             have : j ≤ (takesN (ls L) (g : Int)).length := hj
                                                             omega
      subst hjg'
      exact ⟨fun hT => ⟨by simp only [room]; omega, by simp only [fits]; omega, g + 1, hgn, by omega, by omega, trTo_hit hT⟩, fun hT => ⟨by simp only [fits]; omega, g + 1, hgn, by omega, by omega, trTo_miss hT⟩⟩
  · have hge' : ¬ (g : Int) < lenL L := of_decide_eq_false hge
    have : g = (lenL L).toNat := by have : g ≤ (lenL L).toNat := hg
                                    have := hL.1
                                    omega
    rw [this]
theorem so71_ : SpecOk P1 gl1 71 sp71 := by
  intro vs ps r h hp
  simp only [sp71] at h
  split at h
  · cases h; exact fn71 _ (_, _, _, _) (hp _ (.head _)) (hp _ (.tail _ (.head _))) (hp _ (.tail _ (.tail _ (.head _))))
  · cases h
theorem so71 : Sp1 71 sp71 := ⟨so71_, Proofs.Tryz.f71, _, by kernel_rfl, rfl, by kernel_rfl⟩
theorem fn150 (L : List Ed) (nm : List UInt8) (f : Int) (hL : EdsIn L) (hp : 0 < lenL L → PlsOk (ls L)) (hn : lenL L ≤ 10000) (hz : 0 < lenL L → (L.getD 0 e0).2.2.2.2 = 0) : Fn P1 gl1 150 [.one (.sl edT L), .one (.str nm), iV f] (.val (bV (ndB (ls L) (lenL L).toNat nm f))) true := by
  refine Fn.flat ?_ rfl
  refine fn_of false [(39, sp39), (71, sp71), (41, sp41)] [] h150 0 Proofs.Tryz.f150 ⟨so39, so71, so41, trivial⟩ trivial (by kernel_rfl) rfl (by kernel_rfl) rfl rfl rfl ?_
  rw [vc150]
  try simp only [splitB_iff, -eq_self]
  simp only [eq_self, and_true, and_self]
  refine ⟨hL, hp, hn, fun h => ?_, fun h => ?_⟩
  · unfold ndB
    rw [show decide (0 < (trTo (ls L) nm f (lenL L).toNat).length) = true from decide_eq_true (by have := of_decide_eq_true h; omega)]
    rfl
  · have h0 : ¬ 0 < (trTo (ls L) nm f (lenL L).toNat).length := by have := of_decide_eq_false h; omega
    have hnd : ndB (ls L) (lenL L).toNat nm f = hrTo (ls L) nm f (lenL L).toNat := by
      unfold ndB
      rw [decide_eq_false h0]; rfl
    rw [hnd]
    refine ⟨hL, ⟨0, ⟨Nat.zero_le _, rfl⟩, rfl⟩, fun g hg => ⟨fun hlt => ?_, fun hge => ?_⟩⟩
    · have hlt' : (g : Int) < lenL L := of_decide_eq_true hlt
      refine ⟨hL, hp (by omega), ⟨by omega, by omega⟩, hz (by omega), fun hm => ?_, fun hm => ?_⟩
      · refine ((hrTo_iff _ _ _ _).2 ⟨g, by omega, ?_⟩).symm
        simpa [bcond_l, bcond_r] using hm
      · refine ⟨by simp only [fits]; omega, g + 1, ⟨by omega, ?_⟩, by omega, by omega⟩
        show (_ || (_ && _)) = false
        rw [hg.2]
        rw [bcond_r] at hm
        rw [hm]; rfl
    · have hge' : ¬ (g : Int) < lenL L := of_decide_eq_false hge
      have : g = (lenL L).toNat := by have := hg.1; omega
      rw [← this]
      exact hg.2.symm
theorem so150_ : SpecOk P1 gl1 150 sp150 := by
  intro vs ps r h hp
  simp only [sp150] at h
  split at h
  · cases h; exact fn150 _ _ _ (hp _ (.head _)) (hp _ (.tail _ (.head _))) (hp _ (.tail _ (.tail _ (.head _)))) (hp _ (.tail _ (.tail _ (.tail _ (.head _)))))
  · cases h
theorem so150 : Sp1 150 sp150 := ⟨so150_, Proofs.Tryz.f150, _, by kernel_rfl, rfl, by kernel_rfl⟩
theorem set_lastI {α : Type} {d : α} (o : List α) (x y : α) : (o ++ [x]).set ((((o ++ [x]).length : Nat) : Int) - 1).toNat y = o ++ [y] ∧ (o ++ [x]).getD ((((o ++ [x]).length : Nat) : Int) - 1).toNat d = x := by
  have e : ((((o ++ [x]).length : Nat) : Int) - 1).toNat = o.length := by rw [List.length_append]; simp
  rw [e]
  constructor
  · rw [List.set_append_right _ _ (Nat.le_refl _), Nat.sub_self]; rfl
  · rw [List.getD_eq_getElem?_getD, List.getElem?_append_right (Nat.le_refl _), Nat.sub_self]; rfl
theorem addSp_new {o : List (Int × Int)} {n : Int} (h : 0 < o.length → (o.getD (o.length - 1) sp0).2 ≠ n) : addSp o n = o ++ [(n, n + 1)] := by
  unfold addSp
  rw [if_neg (fun q => h q.1 q.2)]
theorem addSp_old {o : List (Int × Int)} {n : Int} (h0 : 0 < o.length) (h : (o.getD (o.length - 1) sp0).2 = n) : addSp o n = o.set (o.length - 1) ((o.getD (o.length - 1) sp0).1, n + 1) := by
  unfold addSp
  rw [if_pos ⟨h0, h⟩, h]
theorem spTo_hit {is : Int → Bool} {a : Int} {j : Nat} (h : is (a + (j : Int)) = true) : spTo is a (j + 1) = addSp (spTo is a j) (a + (j : Int)) := by
  show (if _ then _ else _) = _
  rw [if_pos h]
theorem spTo_miss {is : Int → Bool} {a : Int} {j : Nat} (h : is (a + (j : Int)) = false) : spTo is a (j + 1) = spTo is a j := by
  show (if _ then _ else _) = _
  rw [if_neg (by rw [h]; decide)]
theorem fn72 (R : List Rl) (L : List Ed) (h : ListOk R L) : Fn P1 gl1 72 [.one (.sl rlT R), .one (.sl edT L)] (.val (.one (.frs ndT (needTo (usedTo (ls L) (lenL L).toNat) R R.length)))) true := by
  refine Fn.flat ?_ rfl
  refine fn_of false [(150, sp150)] [] h72 0 Proofs.Tryz.f72 ⟨so150, trivial⟩ trivial (by kernel_rfl) rfl (by kernel_rfl) rfl rfl rfl ?_
  rw [vc72]
  try simp only [splitB_iff, -eq_self]
  have hn := lenL_nn h
  have hbig := h.big
  have hp : 0 < lenL L → PlsOk (ls L) := fun h0 => h.pls' (Int.le_refl 0) h0
  have hz : 0 < lenL L → (L.getD 0 e0).2.2.2.2 = 0 := fun h0 => by
    have h1 := (hp h0).1
    rw [ls_len] at h1
    exact ((chkEd_ok (h.ed 0 h1)).first rfl).2
  have h8 := rs_at h.rs
  have hrl : ∀ i, (R.getD i r0).2.2.length ≤ 256 := fun i => by
    by_cases hi : i < R.length
    · exact (h8.2 _ (getD_mem hi)).len
    · rw [List.getD_eq_getElem?_getD, List.getElem?_eq_none (by omega)]; decide
  have hnd : ∀ nm f, ndB (ls L) (lenL L).toNat nm f = usedB (usedTo (ls L) (lenL L).toNat) nm f := ndB_used _ _
  simp only [eq_self, true_and, and_true, and_self, hnd]
  generalize hm : usedTo (ls L) (lenL L).toNat = m at *
  refine ⟨⟨0, Nat.zero_le _, rfl, rfl⟩, fun g hg => ⟨fun hlt => ?_, fun hge => ?_⟩⟩
  · have hlt' : g < R.length := by simpa using hlt
    have hro := h8.2 _ (getD_mem (d := r0) hlt')
    have h1 := hro.start
    have h2 := hro.fin
    have h3 := hro.len
    have hNl := need_len (m := m) hrl g
    have hstep : needTo m R (g + 1) = needTo m R g ++ (spTo (usedB m (R.getD g r0).1) (R.getD g r0).2.1 (R.getD g r0).2.2.length).map fun s => ((R.getD g r0).1, s.1, s.2) := rfl
    generalize R.getD g r0 = r at *
    obtain ⟨nm, a, l⟩ := r
    dsimp only at *
    generalize needTo m R g = N at *
    refine ⟨⟨by omega, by omega⟩, ⟨0, Nat.zero_le _, by omega, rfl, by simp [spTo]⟩, fun j hj => ⟨by simp only [fits]; omega, fun hjl => ?_, fun hjg => ?_⟩⟩
    · have hjl' : j < l.length := by have := of_decide_eq_true hjl; omega
      have hSl := spTo_len (usedB m nm) a j
      obtain ⟨hend, hend2⟩ := spTo_end (usedB m nm) a j
      have hbef : befB m nm a (j + 1) = usedB m nm (a + (j : Int)) := rfl
      have hb1 : befB m nm a j = true → 0 < j ∧ usedB m nm (a + (j : Int) - 1) = true := fun q => by
        cases j with
        | zero => cases q
        | succ j =>
          have q' : usedB m nm (a + (j : Int)) = true := q
          exact ⟨by omega, by rw [show a + ((j + 1 : Nat) : Int) - 1 = a + (j : Int) by omega]; exact q'⟩
      have hb0 : befB m nm a j = false → 0 < (spTo (usedB m nm) a j).length → ((spTo (usedB m nm) a j).getD ((spTo (usedB m nm) a j).length - 1) sp0).2 ≠ a + (j : Int) := fun q hp => by
        cases j with
        | zero => simp [spTo] at hp
        | succ j =>
          have q' : usedB m nm (a + (j : Int)) = false := q
          have := (hend2 (by omega)).2 (by rw [show a + ((j + 1 : Nat) : Int) - 1 = a + (j : Int) by omega]; exact q') hp
          omega
      refine ⟨h.eds, hp, by omega, hz, fun hc => ?_, fun hc => ?_⟩
      · rw [bcond_r, Bool.and_eq_true, Bool.not_eq_true'] at hc
        have hS := spTo_hit hc.1
        rw [addSp_new (hb0 hc.2)] at hS
        refine ⟨by simp only [room, List.length_append, List.length_map]; omega, fun _ => ?_, fun hc2 => by rw [hc.1] at hc2; cases hc2⟩
        have hsl := fun y => set_lastI (d := (([] : List UInt8), (0 : Int), (0 : Int))) (N ++ (spTo (usedB m nm) a j).map fun x => (nm, x.1, x.2)) (nm, a + (j : Int), a + (j : Int)) y
        have hlen : ((((N ++ (spTo (usedB m nm) a j).map fun x => (nm, x.1, x.2)) ++ [(nm, a + (j : Int), a + (j : Int))]).length : Nat) : Int) = ((N ++ (spTo (usedB m nm) a j).map fun x => (nm, x.1, x.2)).length : Int) + 1 := by rw [List.length_append]; simp
        have hll : (N ++ (spTo (usedB m nm) a j).map fun x => (nm, x.1, x.2)).length ≤ 10000 := by simp only [List.length_append, List.length_map]; omega
        refine ⟨by rw [hlen]; simp only [fits]; omega, by simp only [fits]; omega, ⟨by rw [hlen]; omega, by omega⟩, by rw [← Int.ofNat_lt, hlen]; omega, by simp only [fits]; omega, j + 1, hjl', by omega, by omega, ?_, ?_⟩
        · rw [hbef]
        · rw [(hsl (nm, 0, 0)).2, (hsl _).1, hS, List.map_append, List.append_assoc]
          rfl
      · rw [bcond_r, Bool.and_eq_false_iff] at hc
        refine ⟨fun hc2 => ?_, fun hc2 => ?_⟩
        · have hb : befB m nm a j = true := by
            rcases hc with hc | hc
            · rw [hc] at hc2; cases hc2
            · simpa using hc
          obtain ⟨j0, hu⟩ := hb1 hb
          obtain ⟨hpos, hle⟩ := (hend2 j0).1 hu
          have hS := spTo_hit hc2
          rw [addSp_old hpos hle] at hS
          have hlen : (N ++ (spTo (usedB m nm) a j).map fun x => (nm, x.1, x.2)).length = N.length + (spTo (usedB m nm) a j).length := by simp
          have hix : (((N ++ (spTo (usedB m nm) a j).map fun x => (nm, x.1, x.2)).length : Int) - 1).toNat = N.length + ((spTo (usedB m nm) a j).length - 1) := by omega
          rw [hix, hlen]
          refine ⟨by simp only [fits]; omega, by simp only [fits]; omega, ⟨by omega, by omega⟩, by omega, by simp only [fits]; omega, j + 1, hjl', by omega, by omega, by rw [hbef], ?_⟩
          rw [hS, List.set_append_right _ _ (by omega), Nat.add_sub_cancel_left, List.getD_eq_getElem?_getD, List.getElem?_append_right (by omega), Nat.add_sub_cancel_left, List.getElem?_map]
          rw [List.getD_eq_getElem?_getD] at *
          rw [List.getElem?_eq_getElem (show (spTo (usedB m nm) a j).length - 1 < (spTo (usedB m nm) a j).length by omega)]
          simp only [Option.map_some, Option.getD_some, List.map_set]
        · have hS := spTo_miss (is := usedB m nm) hc2
          exact ⟨by simp only [fits]; omega, j + 1, hjl', by omega, by omega, by rw [hbef], by rw [hS]⟩
    · have hjg' : j = l.length := by have := of_decide_eq_false hjg; have : j ≤ l.length := hj; omega
      subst hjg'
      exact ⟨by simp only [fits]; omega, g + 1, hlt', by omega, by omega, hstep.symm⟩
  · have hge' : g = R.length := by have := of_decide_eq_false hge; have : g ≤ R.length := hg; omega
    rw [hge']
theorem so72_ : SpecOk P1 gl1 72 sp72 := by
  intro vs ps r h hp
  simp only [sp72] at h
  split at h
  · cases h; exact fn72 _ _ (hp _ (.head _))
  · cases h
theorem so72 : Sp1 72 sp72 := ⟨so72_, Proofs.Tryz.f72, _, by kernel_rfl, rfl, by kernel_rfl⟩
theorem oneTo_none {R : List Rl} {nm : List UInt8} {f : Int} : ∀ n, (∀ i, i < n → (R.getD i r0).1 ≠ nm) → oneTo R nm f n = 10
  | 0, _ => rfl
  | n + 1, h => by
    show (if _ then _ else _) = _
    rw [if_neg (h n (by omega))]
    exact oneTo_none n fun i hi => h i (by omega)
theorem oneTo_at {R : List Rl} (hd : NoDup R) {nm : List UInt8} {f : Int} {i : Nat} (e : (R.getD i r0).1 = nm) : ∀ n, i < n → n ≤ R.length → oneTo R nm f n = whenE (decide (f < (R.getD i r0).2.1) || decide ((R.getD i r0).2.1 + ((R.getD i r0).2.2.length : Int) ≤ f)) 14
  | 0, h, _ => absurd h (by omega)
  | n + 1, h, hn => by
    show (if _ then _ else _) = _
    by_cases q : i = n
    · subst q; rw [if_pos e]
    · rw [if_neg (fun z => hd i n (by omega) (by omega) (e.trans z.symm))]
      exact oneTo_at hd e n (by omega) (by omega)
theorem oneTo_all {R : List Rl} (hd : NoDup R) (nm : List UInt8) (f : Int) : oneTo R nm f R.length = frE R nm f := by
  unfold frE
  split
  · rename_i h
    exact oneTo_at hd (idxN_name h) _ h (Nat.le_refl _)
  · rename_i h
    refine oneTo_none _ fun i hi e => h ?_
    have := idxN_at (d := r0) hi e
    omega
theorem fn9 (R : List Rl) (L : List Ed) (t : Tk) (hl : R.length ≤ 9223372036854775807) (hL : L.length ≤ 9223372036854775807) (hF : ∀ x ∈ L, fits .i64 x.2.2.1) : Fn P1 gl1 9 [.one (.sl rlT R), .one (.sl edT L), tkV t] (.val (bV true)) true := by
  refine Fn.flat ?_ rfl
  refine fn_of false [(17, sp17), (18, sp18), (25, sp25), (34, sp34), (68, sp68), (69, sp69), (38, sp38), (70, sp70), (71, sp71), (72, sp72), (44, sp44n), (74, sp74), (73, sp73)] [] h9 0 Proofs.Tryz.f9 ⟨so17, so18, so25, so34, so68, so69, so38, so70, so71, so72, so44n, so74, so73, trivial⟩ trivial (by kernel_rfl) rfl (by kernel_rfl) rfl rfl rfl ?_
  rw [vc9]
  try simp only [splitB_iff, -eq_self]
  obtain ⟨nm, f, c, d⟩ := t
  simp only [eq_self, and_true, and_self]
  have hsh : (bif !shortB R L then true else decide (40 < (nm.length : Int))) = false → (R.length ≤ 9 ∧ ∀ r ∈ R, r.2.2.length ≤ 257 ∧ r.1.length ≤ 40) ∧ L.length ≤ 17 := fun h => by
    rw [bcond_l, Bool.or_eq_false_iff, decide_eq_false_iff_not] at h
    obtain ⟨h, h5⟩ := h
    simp only [Bool.not_eq_false', shortB, shortE, shortR, Bool.and_eq_true, Bool.or_eq_true, List.all_eq_true, decide_eq_true_eq] at h
    obtain ⟨h1, h2, h3, h4⟩ := h
    exact ⟨⟨by omega, fun r hr => by have := h1 r hr; omega⟩, by omega⟩
  refine ⟨hl, hL, fun _ => trivial, fun h => ?_⟩
  obtain ⟨⟨hR9, hRx⟩, hL17⟩ := hsh h
  have hR2 : ∀ r ∈ R, r.2.2.length ≤ 1000000 := fun r hr => by have := hRx r hr; omega
  have hR3 : ∀ r ∈ R, r.2.2.length ≤ 1000000 ∧ r.1.length ≤ 1000000000 := fun r hr => by have := hRx r hr; omega
  clear h hsh
  refine ⟨by omega, hR2, by omega, by omega, hR2, by omega, by omega, hR2, by omega, by omega, hR2, by omega, by omega, hR3, by omega, hF, fun h0 => ?_, fun h0 => ?_⟩
  · have hE : chkEds R L = 0 := by simpa using h0
    have hk := chkEds_zero.1 hE
    have hn := lenL_nn hk
    have hbig := hk.big
    have h8 := rs_at hk.rs
    have hp : 0 < lenL L → PlsOk (ls L) := fun q => hk.pls' (Int.le_refl 0) q
    have hrl : ∀ i, (R.getD i r0).2.2.length ≤ 256 := fun i => by
      by_cases hi : i < R.length
      · exact (h8.2 _ (getD_mem hi)).len
      · rw [List.getD_eq_getElem?_getD, List.getElem?_eq_none (by omega)]; decide
    have eT : trcE R L nm f = frE R nm f := by unfold trcE; rw [if_neg (by simpa using hE)]
    have eN : needN R L = needTo (usedTo (ls L) (lenL L).toNat) R R.length := by unfold needN; rw [if_pos hE]
    have lN : (needN R L).length ≤ 1000000 := by
      rw [eN]
      have := need_len (m := usedTo (ls L) (lenL L).toNat) hrl R.length
      omega
    have lT : (trcN R L nm f).length ≤ 1000000000 := by
      unfold trcN
      split
      · have := trTo_len (ls L) nm f (lenL L).toNat; omega
      · simp
    have hone := oneTo_all (rs_nodup hk.rs) nm f
    refine ⟨⟨0, Nat.zero_le _, rfl, rfl⟩, fun g hg => ⟨fun hlt => ?_, fun hge => ?_⟩⟩
    · have hlt' : g < R.length := by simpa using hlt
      have hro := h8.2 _ (getD_mem (d := r0) hlt')
      have h1 := hro.start
      have h2 := hro.fin
      refine ⟨⟨by omega, by omega⟩, fun hq => ⟨fun _ => by simp only [fits]; omega, by simp only [fits]; omega, g + 1, hlt', by omega, by omega, ?_⟩, fun hq => ⟨by simp only [fits]; omega, g + 1, hlt', by omega, by omega, ?_⟩⟩
      · show _ = if _ then _ else _
        rw [if_pos (by simpa using hq), bcond_l]
      · show _ = if _ then _ else _
        rw [if_neg (by simpa using hq)]
    · have hge' : g = R.length := by have := of_decide_eq_false hge; have : g ≤ R.length := hg; omega
      subst hge'
      rw [hone]
      refine ⟨fun h1 => ⟨hk.eds, hp, by omega, fun _ => ⟨hk, lT, fun _ => lN, fun _ => lN, ?_⟩, fun h2 => by rw [h0] at h2; cases h2⟩, fun h1 => ⟨fun _ => ⟨hk, lT, fun _ => lN, fun _ => lN, ?_⟩, fun h2 => by rw [h0] at h2; cases h2⟩⟩
      · have h1' : frE R nm f = 0 := by simpa using h1
        have e1 : trcN R L nm f = trTo (ls L) nm f (lenL L).toNat := by unfold trcN; rw [eT, if_pos h1']
        rw [e1, eT, eN]
        simp
      · have h1' : frE R nm f ≠ 0 := by simpa using h1
        have e1 : trcN R L nm f = [] := by unfold trcN; rw [eT, if_neg h1']
        rw [e1, eT, eN]
        simp
  · have hE : chkEds R L ≠ 0 := by simpa using h0
    have eT : trcE R L nm f = chkEds R L := by unfold trcE; rw [if_pos hE]
    have e1 : trcN R L nm f = [] := by unfold trcN; rw [eT, if_neg hE]
    have eN : needN R L = [] := by unfold needN; rw [if_neg hE]
    rw [e1, eT, eN]
    refine ⟨fun h1 => absurd (by simpa using h1) hE, fun _ => ⟨fun h1 => absurd (by simpa using h1) hE, fun _ => ⟨by simp, fun _ => by simp, fun _ => by simp, by simp⟩⟩⟩

end Go.Sx
