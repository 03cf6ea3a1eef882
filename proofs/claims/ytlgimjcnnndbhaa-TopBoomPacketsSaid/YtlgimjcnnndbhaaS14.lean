/- A verified symbolic run of functions, part 14: lemmas, no claim of their own. -/
import Derived.Test.YtlgimjcnnndbhaaS13
namespace Go.Sx.U
def pcheck (k c : Int) : Int := first [within k 0 255, within c 0 255]
def frame0 (k c : Int) (d : List Int) : List Int := [171, k % 256, c % 256] ++ d
def frame1 (k c : Int) (d : List Int) : List Int := frame0 k c d ++ [par ((frame0 k c d).drop 1)]
def frame (k c : Int) (d : List Int) : List Int := frame1 k c d ++ word (sum 251 65521 (frame1 k c d))
def zero10 : List Int := List.replicate 10 0
def zero16 : List Int := List.replicate 16 0
def pkEnc (k c : Int) (d : List Int) : List Int × Int := if pcheck k c = 0 then (frame k c d, 0) else (zero16, pcheck k c)
def dat (s : List Int) : List Int := (s.drop 3).take 10
def pkDec (s : List Int) : (Int × Int × List Int) × Int :=
  if s.getD 0 0 = 171 then
    if frame (s.getD 1 0) (s.getD 2 0) (dat s) = s then ((s.getD 1 0, s.getD 2 0, dat s), 0) else ((0, 0, zero10), 27)
  else ((0, 0, zero10), 1)
abbrev Pk := Int × Int × List Int
def skip (sk : List (Int × Int)) (i : Nat) : List (Int × Int) :=
  if 0 < sk.length ∧ (sk.getD (sk.length - 1) (0, 0)).2 = i then sk.set (sk.length - 1) ((sk.getD (sk.length - 1) (0, 0)).1, (i : Int) + 1) else sk ++ [((i : Int), (i : Int) + 1)]
def blk (s : List Int) (i : Nat) : List Int := (s.drop i).take 16
def rstep (s : List Int) (st : List Pk × List (Int × Int) × Int) (i : Nat) : List Pk × List (Int × Int) × Int :=
  if (i : Int) < st.2.2 then st
  else if (blk s i).length = 16 ∧ (pkDec (blk s i)).2 = 0 then (st.1 ++ [(pkDec (blk s i)).1], st.2.1, (i : Int) + 16)
  else (st.1, skip st.2.1 i, (i : Int) + 1)
def rst (s : List Int) (i : Nat) : List Pk × List (Int × Int) × Int := (List.range i).foldl (rstep s) ([], [], 0)
def received (s : List Int) : List Pk × List (Int × Int) × Int := if 16384 < s.length then ([], [], 26) else ((rst s s.length).1, (rst s s.length).2.1, 0)
def d0 : Pk := (0, 0, List.replicate 10 0)
def cnt (l : List Pk) (i : Nat) : Int := (l.getD i d0).2.1
def gap (a b : Int) : List Int := (List.range ((b - a - 1) % 256).toNat).map fun (j : Nat) => (a + 1 + (j : Int)) % 256
def lostTo (l : List Pk) : Nat → List Int
  | 0 => []
  | i + 1 => lostTo l i ++ gap (cnt l i) (cnt l (i + 1))
end Go.Sx.U
namespace Go.Sx
open U
@[reducible] def pkV (k c : Int) (d : List Int) : V := .agg [.one (.int .i64 k), .one (.int .i64 c), .arr 10 (.int .u8) d]
abbrev pT : Ty := .pair (.int .i64) (.pair (.int .i64) (.arr 10 (.int .u8)))
def hPar (f key tl tn ti tp : Nat) (keep : List Nat) : Hints := ⟨fun f' k s => if f' = f ∧ k = key then match listOf s tl with
    | some ⟨.int .u8, xs⟩ => some ⟨Nat, fun i => s.at (tl :: tn :: keep) [tI ti i, tU tp (par (List.take i xs))], fun i => i ≤ List.length xs, fun i => List.length xs - i⟩
    | _ => none
  else none, 0⟩
def h51 : Hints := hPar 51 4 19 20 21 4 [3, 2]
def h19 : Hints := ⟨fun f k s => match f, k with
  | 77, 1 => match liveO [] s.ob with
    | [(a, some (.box [.one (.sl (.int .u8) xs)])), (b, _), (c, _), (d, _)] =>
      some ⟨Nat, fun i => ⟨tI 6 i :: keepT [0, 1, 5] s.tm, [(a, some (.box [.one (.sl (.int .u8) xs)])), (b, some (.box [.one (.int .i64 (rst xs i).2.2)])), (c, some (.box [.one (.own s.nx)])), (d, some (.box [.one (.own (s.nx + 1))])),
          (s.nx, some (.row spT (rst xs i).2.1)), (s.nx + 1, some (.row pT (rst xs i).1))], s.nx + 2, s.lr⟩, fun i => i ≤ List.length xs, fun i => List.length xs - i⟩
    | _ => none
  | _, _ => none, 0⟩
def hMapPk : Hints := ⟨fun f k s => match f, k with
  | 58, 3 => match listAs s 8 pT with
    | some xs => some ⟨Nat, fun i => ⟨[tI 10 i, (5, .val (.one (.own s.nx)))] ++ keepT [1, 8, 9] s.tm, (s.nx, some (.row (.int .i64) ((List.take i xs).map fun p => pcheck p.1 p.2.1))) :: lessO s [5], s.nx + 1, s.lr⟩, fun i => i ≤ List.length xs, fun i => List.length xs - i⟩
    | _ => none
  | _, _ => none, 0⟩
def h22 : Hints := ⟨fun f k s => match f, k with
  | 79, 2 => match listAs s 6 pT with
    | some xs => some ⟨Nat, fun i => s.at [0, 1, 6, 7] [tI 8 i], fun i => i ≤ List.length xs, fun i => List.length xs - i⟩
    | _ => none
  | 22, 10 => match listAs s 7 pT with
    | some xs => some ⟨Nat, fun i => ⟨[tI 10 ((i : Int) + 1), (8, .val (.one (.own s.nx))), (9, .val (bV false))] ++ keepT [7] s.tm, (s.nx, some (.row (.int .i64) (lostTo xs i))) :: lessO s [8], s.nx + 1, s.lr⟩, fun i => i = 0 ∨ i < List.length xs, fun i => List.length xs - i⟩
    | _ => none
  | 22, 13 => match listAs s 7 pT, intOfT s 10, listAs s 8 (.int .i64) with
    | some xs, some i, some out => some ⟨Nat, fun j => ⟨[tI 11 ((cnt xs (i - 1).toNat + 1 + (j : Int)) % 256), (8, .val (.one (.own s.nx)))] ++ keepT [7, 9, 10] s.tm,
        (s.nx, some (.row (.int .i64) (out ++ List.take j (gap (cnt xs (i - 1).toNat) (cnt xs i.toNat))))) :: lessO s [8], s.nx + 1, s.lr⟩, fun j => j ≤ (gap (cnt xs (i - 1).toNat) (cnt xs i.toNat)).length, fun j => (gap (cnt xs (i - 1).toNat) (cnt xs i.toNat)).length - j⟩
    | _, _, _ => none
  | _, _ => none, 0⟩
@[reducible] noncomputable def fb52 : Nat × Func := (52, Proofs.Try.f52)
@[reducible] noncomputable def fb77 : Nat × Func := (77, Proofs.Try.f77)
@[reducible] noncomputable def fb60 : Nat × Func := (60, Proofs.Try.f60)
@[reducible] noncomputable def fb59 : Nat × Func := (59, Proofs.Try.f59)
@[reducible] noncomputable def fb79 : Nat × Func := (79, Proofs.Try.f79)
@[reducible] noncomputable def fb61 : Nat × Func := (61, Proofs.Try.f61)
end Go.Sx
namespace Go.Sx
open U
def sp50 : FSpec := ⟨fun vs => match vs with
  | [.agg [.one (.int .i64 k), .one (.int .i64 c), .arr 10 (.int .u8) _d]] => some ([], .val (iV (pcheck k c)))
  | _ => none, true⟩
def sp51 : FSpec := ⟨fun vs => match vs with
  | [.agg [.one (.int .i64 k), .one (.int .i64 c), .arr 10 (.int .u8) d]] => some ([List.length d = 10 ∧ Bytes d], .val (aV 16 (frame k c d)))
  | _ => none, true⟩
def sp18 : FSpec := ⟨fun vs => match vs with
  | [.agg [.one (.int .i64 k), .one (.int .i64 c), .arr 10 (.int .u8) d]] => some ([List.length d = 10 ∧ Bytes d], .tup [aV 16 (pkEnc k c d).1, iV (pkEnc k c d).2])
  | _ => none, true⟩
def sp53 : FSpec := ⟨fun vs => match vs with
  | [.agg [.arr 16 (.int .u8) s]] => some ([List.length s = 16 ∧ Bytes s], .tup [pkV (pkDec s).1.1 (pkDec s).1.2.1 (pkDec s).1.2.2, iV (pkDec s).2])
  | _ => none, true⟩
def sp19 : FSpec := ⟨fun vs => match vs with
  | [.one (.sl (.int .u8) s)] => some ([Bytes s, List.length s ≤ 1000000000], .tup [.one (.frs pT (received s).1), .one (.frs spT (received s).2.1), iV (received s).2.2])
  | _ => none, true⟩
def sp58 : FSpec := ⟨fun vs => match vs with
  | [.one (.sl (.pair (.int .i64) (.pair (.int .i64) (.arr 10 (.int .u8)))) l), .one (.fn 50 [] [])] => some ([List.length l ≤ 1000000], .val (.one (.frs (.int .i64) (List.map (fun (p : Pk) => pcheck p.1 p.2.1) l))))
  | _ => none, true⟩
def sp22 : FSpec := ⟨fun vs => match vs with
  | [.one (.sl (.pair (.int .i64) (.pair (.int .i64) (.arr 10 (.int .u8)))) l), .one (.int .i64 k)] => some ([List.length l ≤ 1024, ∀ p ∈ (show List Pk from l), p.1 = k ∧ pcheck p.1 p.2.1 = 0, within k 0 255 = 0, (lostTo l (List.length l - 1)).length ≤ 256], .tup [.one (.frs (.int .i64) (lostTo l (List.length l - 1))), iV 0])
  | _ => none, true⟩
end Go.Sx

namespace Go.Sx
open U
theorem vc50 (k c : Int) (d : List Int) : exF (env false [(35, sp35), (28, sp28)] []) h0 0 50 Proofs.Try.f50 [pkV k c d] (.val (iV (pcheck k c))) = ((2 : Nat) ≤ (1000000000 : Nat) ∧ first [within k (0 : Int) (255 : Int), within c (0 : Int) (255 : Int)] = pcheck k c ∧ True) := by
  kernel_rfl
theorem vc51 (k c : Int) (d : List Int) : exF (env false [(76, sp76)] [fb75]) h51 1 51 Proofs.Try.f51 [pkV k c d] (.val (aV 16 (frame k c d))) = (let q1 := ([(171 : Int), k % (256 : Int), c % (256 : Int)] ++ List.take (10 : Nat) d); let q0 := (List.take (List.length q1 - (1 : Nat)) (List.drop (1 : Nat) q1)); let q4 := (↑(List.length q1 - (1 : Nat)) : Int); let q5 := ((1 : Nat) = (1 : Nat) ∧ List.length q1 - (1 : Nat) = List.length q1 - (1 : Nat)); let q6 := (↑(List.length q1) : Int); ((0 : Int) ≤ (0 : Int) ∧ (0 : Int) ≤ (10 : Int) ∧ (10 : Int) ≤ (10 : Int)) ∧ List.length (List.take (10 : Nat) d) = (10 : Nat) ∧ room ((3 : Nat) + List.length (List.take (10 : Nat) d)) (1 : Nat) ∧ ((0 : Int) ≤ (1 : Int) ∧ (1 : Int) ≤ q6 ∧ q6 ≤ q6) ∧ (∃ (g : Nat), Nat.le g (List.length q0) ∧ (0 : Int) = (↑g : Int) ∧ (0 : Int) = par (List.take g q0) ∧ q4 = q4 ∧ q5 ∧ [(171 : Int), k % (256 : Int), c % (256 : Int)] ++ List.take (10 : Nat) d = [(171 : Int), k % (256 : Int), c % (256 : Int)] ++ List.take (10 : Nat) d ∧ List.replicate (16 : Nat) (0 : Int) = List.replicate (16 : Nat) (0 : Int) ∧ k = k ∧ c = c ∧ d = d ∧ True) ∧ ∀ (g : Nat), let q3 := ([(171 : Int), k % (256 : Int), c % (256 : Int)] ++ List.take (10 : Nat) d ++ [par (List.take g q0)]); let q2 := ([(171 : Int), k % (256 : Int), c % (256 : Int)] ++ List.take (10 : Nat) d ++ [par (List.take g q0)] ++ [sum (251 : Int) (65521 : Int) q3 / (256 : Int) % (256 : Int), sum (251 : Int) (65521 : Int) q3 % (256 : Int)]); Nat.le g (List.length q0) → splitB (decide ((↑g : Int) < q4)) (((0 : Int) ≤ (↑g : Int) ∧ (↑g : Int) < q4) ∧ (1 : Nat) + g < List.length q1 ∧ fits IntKind.i64 ((↑g : Int) + (1 : Int)) ∧ ∃ (g' : Nat), Nat.le g' (List.length q0) ∧ List.length q0 - g' < List.length q0 - g ∧ (↑g : Int) + (1 : Int) = (↑g' : Int) ∧ bits BinOp.xor IntKind.u8 (par (List.take g q0)) (List.getD q1 ((1 : Nat) + g) (0 : Int)) = par (List.take g' q0) ∧ q4 = q4 ∧ q5 ∧ [(171 : Int), k % (256 : Int), c % (256 : Int)] ++ List.take (10 : Nat) d = [(171 : Int), k % (256 : Int), c % (256 : Int)] ++ List.take (10 : Nat) d ∧ List.replicate (16 : Nat) (0 : Int) = List.replicate (16 : Nat) (0 : Int) ∧ k = k ∧ c = c ∧ d = d ∧ True) (room (List.length q1 + (1 : Nat)) (1 : Nat) ∧ List.length q3 ≤ (1000000000 : Nat) ∧ Bytes q3 ∧ ((0 : Int) ≤ (251 : Int) ∧ (251 : Int) ≤ (1000 : Int)) ∧ ((1 : Int) < (65521 : Int) ∧ (65521 : Int) ≤ (1000000000 : Int)) ∧ ((0 : Int) ≤ (8 : Int) ∧ (8 : Nat) ≤ IntKind.bits IntKind.i64) ∧ room (List.length q3 + (2 : Nat)) (1 : Nat) ∧ (16 : Nat) ≤ List.length q2 ∧ List.length (List.take (16 : Nat) q2) = (16 : Nat) ∧ List.take (16 : Nat) q2 = frame k c d ∧ True)) := by
  kernel_rfl
theorem vc18 (k c : Int) (d : List Int) : exF (env false [(50, sp50), (51, sp51)] []) h0 0 18 Proofs.Try.f18 [pkV k c d] (.tup [aV 16 (pkEnc k c d).1, iV (pkEnc k c d).2]) = (splitB (pcheck k c != (0 : Int)) (List.replicate (16 : Nat) (0 : Int) = Prod.fst (pkEnc k c d) ∧ pcheck k c = Prod.snd (pkEnc k c d) ∧ True) ((List.length d = (10 : Nat) ∧ Bytes d) ∧ frame k c d = Prod.fst (pkEnc k c d) ∧ (0 : Int) = Prod.snd (pkEnc k c d) ∧ True)) := by
  kernel_rfl
theorem vc53 (s : List Int) : exF (env false [(51, sp51)] []) h0 0 53 Proofs.Try.f53 [aV 16 s] (.tup [pkV (pkDec s).1.1 (pkDec s).1.2.1 (pkDec s).1.2.2, iV (pkDec s).2]) = (let q0 := (List.take (10 : Nat) (List.drop (3 : Nat) s)); ((0 : Int) ≤ (0 : Int) ∧ (0 : Int) < (16 : Int)) ∧ (0 : Nat) < List.length s ∧ splitB (List.getD s (0 : Nat) (0 : Int) != (171 : Int)) ((0 : Int) = (pkDec s).1.1 ∧ (0 : Int) = (pkDec s).1.2.1 ∧ List.replicate (10 : Nat) (0 : Int) = (pkDec s).1.2.2 ∧ (1 : Int) = (pkDec s).2 ∧ True) (((0 : Int) ≤ (1 : Int) ∧ (1 : Int) < (16 : Int)) ∧ (1 : Nat) < List.length s ∧ fits IntKind.i64 (List.getD s (1 : Nat) (0 : Int)) ∧ ((0 : Int) ≤ (2 : Int) ∧ (2 : Int) < (16 : Int)) ∧ (2 : Nat) < List.length s ∧ fits IntKind.i64 (List.getD s (2 : Nat) (0 : Int)) ∧ ((0 : Int) ≤ (3 : Int) ∧ (3 : Int) ≤ (13 : Int) ∧ (13 : Int) ≤ (16 : Int)) ∧ (10 : Nat) ≤ (10 : Nat) ∧ List.length q0 = (10 : Nat) ∧ (List.length q0 = (10 : Nat) ∧ Bytes q0) ∧ splitB (!eqT (Ty.arr (16 : Nat) (Ty.int IntKind.u8)) (frame (List.getD s (1 : Nat) (0 : Int)) (List.getD s (2 : Nat) (0 : Int)) q0) s) ((0 : Int) = (pkDec s).1.1 ∧ (0 : Int) = (pkDec s).1.2.1 ∧ List.replicate (10 : Nat) (0 : Int) = (pkDec s).1.2.2 ∧ (27 : Int) = (pkDec s).2 ∧ True) (List.getD s (1 : Nat) (0 : Int) = (pkDec s).1.1 ∧ List.getD s (2 : Nat) (0 : Int) = (pkDec s).1.2.1 ∧ List.take (10 : Nat) (List.drop (3 : Nat) s) = (pkDec s).1.2.2 ∧ (0 : Int) = (pkDec s).2 ∧ True))) := by
  kernel_rfl
theorem vc19 (s : List Int) : exF (env false [(53, sp53)] [fb52, fb77]) h19 2 19 Proofs.Try.f19 [.one (.sl (.int .u8) s)] (.tup [.one (.frs pT (received s).1), .one (.frs spT (received s).2.1), iV (received s).2.2]) = (let q7 := (List.length s); let q2 := (↑q7 : Int); splitB (decide ((16384 : Int) < q2)) ((received s).1 = [] ∧ (received s).2.1 = [] ∧ (26 : Int) = (received s).2.2 ∧ True) ((∃ (g : Nat), Nat.le g q7 ∧ (0 : Int) = (↑g : Int) ∧ q2 = q2 ∧ s = s ∧ (0 : Int) = (rst s g).2.2 ∧ (rst s g).2.1 = [] ∧ (rst s g).1 = [] ∧ True) ∧ ∀ (g : Nat), let q0 := (↑(List.length (rst s g).2.1) : Int); let q8 := ((↑g : Int) + (16 : Int)); let q1 := (List.take (Int.toNat (min q2 q8) - g) (List.drop g s)); let q5 := (q0 - (1 : Int)); let q3 := (List.getD (rst s g).2.1 (Int.toNat q5) ((0 : Int), (0 : Int))); let q4 := ((↑g : Int) + (1 : Int)); let q6 := (List.take (16 : Nat) q1); let q9 := ((0 : Int) < q0); let q10 := (decide q9 = true → (0 : Int) ≤ q0 - (1 : Int) ∧ q0 - (1 : Int) < q0); let q11 := (decide q9 = true → Int.toNat q5 < List.length (rst s g).2.1); let q12 := (bif decide q9 then q3.2 == (↑g : Int) else false); let q13 := ((0 : Int) ≤ q0 - (1 : Int) ∧ q0 - (1 : Int) < q0); Nat.le g q7 → splitB (decide ((↑g : Int) < q2)) (fits IntKind.i64 q8 ∧ ((0 : Int) ≤ (↑g : Int) ∧ (↑g : Int) ≤ min q2 q8 ∧ min q2 q8 ≤ q2) ∧ splitB (decide ((↑g : Int) < (rst s g).2.2)) (fits IntKind.i64 q4 ∧ ∃ (g' : Nat), Nat.le g' q7 ∧ List.length s - g' < List.length s - g ∧ (↑g : Int) + (1 : Int) = (↑g' : Int) ∧ q2 = q2 ∧ s = s ∧ (rst s g).2.2 = (rst s g').2.2 ∧ (rst s g).2.1 = (rst s g').2.1 ∧ (rst s g).1 = (rst s g').1 ∧ True) (splitB ((↑(List.length q1) : Int) == (16 : Int)) ((16 : Nat) ≤ List.length q1 ∧ (List.length q6 = (16 : Nat) ∧ Bytes q6) ∧ splitB ((pkDec q6).2 == (0 : Int)) (room (List.length (rst s g).1 + (1 : Nat)) (32 : Nat) ∧ fits IntKind.i64 q8 ∧ fits IntKind.i64 q4 ∧ ∃ (g' : Nat), Nat.le g' q7 ∧ List.length s - g' < List.length s - g ∧ (↑g : Int) + (1 : Int) = (↑g' : Int) ∧ q2 = q2 ∧ s = s ∧ (↑g : Int) + (16 : Int) = (rst s g').2.2 ∧ (rst s g).2.1 = (rst s g').2.1 ∧ (rst s g).1 ++ [((pkDec q6).1.1, (pkDec q6).1.2.1, (pkDec q6).1.2.2)] = (rst s g').1 ∧ True) (fits IntKind.i64 q4 ∧ (decide q9 = true → fits IntKind.i64 q5) ∧ q10 ∧ q11 ∧ splitB q12 (fits IntKind.i64 q5 ∧ q13 ∧ Int.toNat q5 < List.length (rst s g).2.1 ∧ fits IntKind.i64 q4 ∧ ∃ (g' : Nat), Nat.le g' q7 ∧ List.length s - g' < List.length s - g ∧ (↑g : Int) + (1 : Int) = (↑g' : Int) ∧ q2 = q2 ∧ s = s ∧ (↑g : Int) + (1 : Int) = (rst s g').2.2 ∧ List.set (rst s g).2.1 (Int.toNat q5) (q3.1, (↑g : Int) + (1 : Int)) = (rst s g').2.1 ∧ (rst s g).1 = (rst s g').1 ∧ True) (room (List.length (rst s g).2.1 + (1 : Nat)) (16 : Nat) ∧ fits IntKind.i64 q4 ∧ ∃ (g' : Nat), Nat.le g' q7 ∧ List.length s - g' < List.length s - g ∧ (↑g : Int) + (1 : Int) = (↑g' : Int) ∧ q2 = q2 ∧ s = s ∧ (↑g : Int) + (1 : Int) = (rst s g').2.2 ∧ (rst s g).2.1 ++ [((↑g : Int), (↑g : Int) + (1 : Int))] = (rst s g').2.1 ∧ (rst s g).1 = (rst s g').1 ∧ True))) (fits IntKind.i64 q4 ∧ (decide q9 = true → fits IntKind.i64 q5) ∧ q10 ∧ q11 ∧ splitB q12 (fits IntKind.i64 q5 ∧ q13 ∧ Int.toNat q5 < List.length (rst s g).2.1 ∧ fits IntKind.i64 q4 ∧ ∃ (g' : Nat), Nat.le g' q7 ∧ List.length s - g' < List.length s - g ∧ (↑g : Int) + (1 : Int) = (↑g' : Int) ∧ q2 = q2 ∧ s = s ∧ (↑g : Int) + (1 : Int) = (rst s g').2.2 ∧ List.set (rst s g).2.1 (Int.toNat q5) (q3.1, (↑g : Int) + (1 : Int)) = (rst s g').2.1 ∧ (rst s g).1 = (rst s g').1 ∧ True) (room (List.length (rst s g).2.1 + (1 : Nat)) (16 : Nat) ∧ fits IntKind.i64 q4 ∧ ∃ (g' : Nat), Nat.le g' q7 ∧ List.length s - g' < List.length s - g ∧ (↑g : Int) + (1 : Int) = (↑g' : Int) ∧ q2 = q2 ∧ s = s ∧ (↑g : Int) + (1 : Int) = (rst s g').2.2 ∧ (rst s g).2.1 ++ [((↑g : Int), (↑g : Int) + (1 : Int))] = (rst s g').2.1 ∧ (rst s g).1 = (rst s g').1 ∧ True)))) ((rst s g).1 = (received s).1 ∧ (rst s g).2.1 = (received s).2.1 ∧ (0 : Int) = (received s).2.2 ∧ True))) := by
  kernel_rfl
theorem vc58 (l : List Pk) : exF (env false [(50, sp50)] []) hMapPk 0 58 Proofs.Try.f58 [.one (.sl pT l), .one (.fn 50 [] [])] (.val (.one (.frs (.int .i64) (List.map (fun (p : Pk) => pcheck p.1 p.2.1) l)))) = (let q0 := (↑(List.length l) : Int); (∃ (g : Nat), Nat.le g (List.length l) ∧ (0 : Int) = (↑g : Int) ∧ q0 = q0 ∧ l = l ∧ List.map (fun (p : Int × Int × List Int) => pcheck p.1 p.2.1) (List.take g l) = [] ∧ True) ∧ ∀ (g : Nat), let q1 := (List.getD l g ((0 : Int), (0 : Int), List.replicate (10 : Nat) (0 : Int))); Nat.le g (List.length l) → splitB (decide ((↑g : Int) < q0)) (((0 : Int) ≤ (↑g : Int) ∧ (↑g : Int) < q0) ∧ room (List.length (List.map (fun (p : Int × Int × List Int) => pcheck p.1 p.2.1) (List.take g l)) + (1 : Nat)) (8 : Nat) ∧ fits IntKind.i64 ((↑g : Int) + (1 : Int)) ∧ ∃ (g' : Nat), Nat.le g' (List.length l) ∧ List.length l - g' < List.length l - g ∧ (↑g : Int) + (1 : Int) = (↑g' : Int) ∧ q0 = q0 ∧ l = l ∧ List.map (fun (p : Int × Int × List Int) => pcheck p.1 p.2.1) (List.take g l) ++ [pcheck q1.1 q1.2.1] = List.map (fun (p : Int × Int × List Int) => pcheck p.1 p.2.1) (List.take g' l) ∧ True) (List.map (fun (p : Int × Int × List Int) => pcheck p.1 p.2.1) (List.take g l) = List.map (fun (p : Pk) => pcheck p.1 p.2.1) l ∧ True)) := by
  kernel_rfl
theorem vc22 (l : List Pk) (k : Int) : exF (env false [(50, sp50), (28, sp28), (35, sp35), (58, sp58)] [fb60, fb59, fb79, fb61]) h22 4 22 Proofs.Try.f22 [.one (.sl pT l), iV k] (.tup [.one (.frs (.int .i64) (lostTo l (l.length - 1))), iV 0]) = (let q1 := ((0 : Int), (0 : Int), List.replicate (10 : Nat) (0 : Int)); let q3 := (↑(List.length l) : Int); let q5 := (List.length l - (1 : Nat)); let q8 := (lostTo l q5 = [] ∧ (5 : Int) = (0 : Int) ∧ True); splitB (decide ((1024 : Int) < q3)) q8 (List.length l ≤ (1000000 : Nat) ∧ List.length (List.map (fun (p : Pk) => pcheck p.1 p.2.1) l) ≤ (1000000000 : Nat) ∧ (2 : Nat) ≤ (1000000000 : Nat) ∧ splitB (first [first (List.map (fun (p : Pk) => pcheck p.1 p.2.1) l), within k (0 : Int) (255 : Int)] != (0 : Int)) (lostTo l q5 = [] ∧ first [first (List.map (fun (p : Pk) => pcheck p.1 p.2.1) l), within k (0 : Int) (255 : Int)] = (0 : Int) ∧ True) (∀ (b : Bool), (b = true → List.length l = (0 : Nat)) → splitB (b != false) ((∃ (g : Nat), Nat.le g (0 : Nat) ∧ (0 : Int) = (↑g : Int) ∧ (0 : Int) = (0 : Int) ∧ [first (List.map (fun (p : Pk) => pcheck p.1 p.2.1) l), within k (0 : Int) (255 : Int)] = [first (List.map (fun (p : Pk) => pcheck p.1 p.2.1) l), within k (0 : Int) (255 : Int)] ∧ List.map (fun (p : Pk) => pcheck p.1 p.2.1) l = List.map (fun (p : Pk) => pcheck p.1 p.2.1) l ∧ k = k ∧ True) ∧ ∀ (g : Nat), Nat.le g (0 : Nat) → (∃ (g : Nat), (g = (0 : Nat) ∨ g < (0 : Nat)) ∧ (1 : Int) = (↑g : Int) + (1 : Int) ∧ false = false ∧ lostTo [] g = [] ∧ [first (List.map (fun (p : Pk) => pcheck p.1 p.2.1) l), within k (0 : Int) (255 : Int)] = [first (List.map (fun (p : Pk) => pcheck p.1 p.2.1) l), within k (0 : Int) (255 : Int)] ∧ List.map (fun (p : Pk) => pcheck p.1 p.2.1) l = List.map (fun (p : Pk) => pcheck p.1 p.2.1) l ∧ k = k ∧ True) ∧ ∀ (g : Nat), g = (0 : Nat) ∨ g < (0 : Nat) → lostTo [] g = lostTo l q5 ∧ (0 : Int) = (0 : Int) ∧ True) (room ((0 : Nat) + List.length l) (32 : Nat) ∧ (∃ (g : Nat), Nat.le g (List.length l) ∧ (0 : Int) = (↑g : Int) ∧ q3 = q3 ∧ l = l ∧ [first (List.map (fun (p : Pk) => pcheck p.1 p.2.1) l), within k (0 : Int) (255 : Int)] = [first (List.map (fun (p : Pk) => pcheck p.1 p.2.1) l), within k (0 : Int) (255 : Int)] ∧ List.map (fun (p : Pk) => pcheck p.1 p.2.1) l = List.map (fun (p : Pk) => pcheck p.1 p.2.1) l ∧ k = k ∧ True) ∧ ∀ (g : Nat), let q7 := (List.getD l g q1); Nat.le g (List.length l) → splitB (decide ((↑g : Int) < q3)) (((0 : Int) ≤ (↑g : Int) ∧ (↑g : Int) < q3) ∧ g < List.length l ∧ splitB (!eqT (Ty.pair (Ty.int IntKind.i64) (Ty.pair (Ty.int IntKind.i64) (Ty.arr (10 : Nat) (Ty.int IntKind.u8)))) (q7.1, q7.2.1, q7.2.2) (k, q7.2.1, q7.2.2)) (fits IntKind.i64 ((↑g : Int) + (1 : Int)) ∧ False) (fits IntKind.i64 ((↑g : Int) + (1 : Int)) ∧ ∃ (g' : Nat), Nat.le g' (List.length l) ∧ List.length l - g' < List.length l - g ∧ (↑g : Int) + (1 : Int) = (↑g' : Int) ∧ q3 = q3 ∧ l = l ∧ [first (List.map (fun (p : Pk) => pcheck p.1 p.2.1) l), within k (0 : Int) (255 : Int)] = [first (List.map (fun (p : Pk) => pcheck p.1 p.2.1) l), within k (0 : Int) (255 : Int)] ∧ List.map (fun (p : Pk) => pcheck p.1 p.2.1) l = List.map (fun (p : Pk) => pcheck p.1 p.2.1) l ∧ k = k ∧ True)) ((∃ (g : Nat), (g = (0 : Nat) ∨ g < List.length l) ∧ (1 : Int) = (↑g : Int) + (1 : Int) ∧ false = false ∧ lostTo l g = [] ∧ l = l ∧ [first (List.map (fun (p : Pk) => pcheck p.1 p.2.1) l), within k (0 : Int) (255 : Int)] = [first (List.map (fun (p : Pk) => pcheck p.1 p.2.1) l), within k (0 : Int) (255 : Int)] ∧ List.map (fun (p : Pk) => pcheck p.1 p.2.1) l = List.map (fun (p : Pk) => pcheck p.1 p.2.1) l ∧ k = k ∧ True) ∧ ∀ (g : Nat), let q6 := ((↑g : Int) + (1 : Int) - (1 : Int)); let q2 := (Int.toNat q6); let q0 := (gap (cnt l q2) (cnt l (Int.toNat ((↑g : Int) + (1 : Int))))); g = (0 : Nat) ∨ g < List.length l → splitB (decide ((↑g : Int) + (1 : Int) < q3)) (fits IntKind.i64 q6 ∧ ((0 : Int) ≤ (↑g : Int) + (1 : Int) - (1 : Int) ∧ (↑g : Int) + (1 : Int) - (1 : Int) < q3) ∧ Int.toNat q6 < List.length l ∧ fits IntKind.i64 ((List.getD l q2 q1).2.1 + (1 : Int)) ∧ (∃ (g_1 : Nat), Nat.le g_1 (List.length q0) ∧ bits BinOp.and IntKind.i64 ((List.getD l q2 q1).2.1 + (1 : Int)) (255 : Int) = (cnt l q2 + (1 : Int) + (↑g_1 : Int)) % (256 : Int) ∧ (↑g : Int) + (1 : Int) = (↑g : Int) + (1 : Int) ∧ false = false ∧ lostTo l g = lostTo l g ++ List.take g_1 q0 ∧ l = l ∧ [first (List.map (fun (p : Pk) => pcheck p.1 p.2.1) l), within k (0 : Int) (255 : Int)] = [first (List.map (fun (p : Pk) => pcheck p.1 p.2.1) l), within k (0 : Int) (255 : Int)] ∧ List.map (fun (p : Pk) => pcheck p.1 p.2.1) l = List.map (fun (p : Pk) => pcheck p.1 p.2.1) l ∧ k = k ∧ True) ∧ ∀ (g_1 : Nat), let q4 := (cnt l q2 + (1 : Int) + (↑g_1 : Int)); Nat.le g_1 (List.length q0) → ((0 : Int) ≤ (↑g : Int) + (1 : Int) ∧ (↑g : Int) + (1 : Int) < q3) ∧ Int.toNat ((↑g : Int) + (1 : Int)) < List.length l ∧ splitB (q4 % (256 : Int) != (List.getD l (Int.toNat ((↑g : Int) + (1 : Int))) q1).2.1) (splitB ((↑(List.length (lostTo l g ++ List.take g_1 q0)) : Int) == (256 : Int)) q8 (room (List.length (lostTo l g ++ List.take g_1 q0) + (1 : Nat)) (8 : Nat) ∧ fits IntKind.i64 (q4 % (256 : Int) + (1 : Int)) ∧ ∃ (g' : Nat), Nat.le g' (List.length q0) ∧ List.length q0 - g' < List.length q0 - g_1 ∧ bits BinOp.and IntKind.i64 (q4 % (256 : Int) + (1 : Int)) (255 : Int) = (cnt l q2 + (1 : Int) + (↑g' : Int)) % (256 : Int) ∧ (↑g : Int) + (1 : Int) = (↑g : Int) + (1 : Int) ∧ false = false ∧ lostTo l g ++ List.take g_1 q0 ++ [q4 % (256 : Int)] = lostTo l g ++ List.take g' q0 ∧ l = l ∧ [first (List.map (fun (p : Pk) => pcheck p.1 p.2.1) l), within k (0 : Int) (255 : Int)] = [first (List.map (fun (p : Pk) => pcheck p.1 p.2.1) l), within k (0 : Int) (255 : Int)] ∧ List.map (fun (p : Pk) => pcheck p.1 p.2.1) l = List.map (fun (p : Pk) => pcheck p.1 p.2.1) l ∧ k = k ∧ True)) (fits IntKind.i64 ((↑g : Int) + (1 : Int) + (1 : Int)) ∧ ∃ (g' : Nat), (g' = (0 : Nat) ∨ g' < List.length l) ∧ List.length l - g' < List.length l - g ∧ (↑g : Int) + (1 : Int) + (1 : Int) = (↑g' : Int) + (1 : Int) ∧ false = false ∧ lostTo l g ++ List.take g_1 q0 = lostTo l g' ∧ l = l ∧ [first (List.map (fun (p : Pk) => pcheck p.1 p.2.1) l), within k (0 : Int) (255 : Int)] = [first (List.map (fun (p : Pk) => pcheck p.1 p.2.1) l), within k (0 : Int) (255 : Int)] ∧ List.map (fun (p : Pk) => pcheck p.1 p.2.1) l = List.map (fun (p : Pk) => pcheck p.1 p.2.1) l ∧ k = k ∧ True)) (lostTo l g = lostTo l q5 ∧ (0 : Int) = (0 : Int) ∧ True)))))) := by
  kernel_rfl
end Go.Sx

namespace Go.Sx
open U
theorem fn50 (k c : Int) (d : List Int)  : Fn P1 gl1 50 [pkV k c d] (.val (iV (pcheck k c))) true := by
  refine Fn.flat ?_ rfl
  refine fn_of false [(35, sp35), (28, sp28)] [] h0 0 Proofs.Try.f50 ⟨so35, so28, trivial⟩ trivial (by kernel_rfl) rfl (by kernel_rfl) rfl rfl rfl ?_
  rw [vc50]
  try simp only [splitB_iff, -eq_self]
  simp [pcheck]
theorem so50_ : SpecOk P1 gl1 50 sp50 := by
  intro vs ps r h _
  simp only [sp50] at h
  split at h
  · cases h; exact fn50 _ _ _ 
  · cases h
theorem so50 : Sp1 50 sp50 := ⟨so50_, Proofs.Try.f50, _, by kernel_rfl, rfl, by kernel_rfl⟩
theorem bxor_bd (a b : Int) : 0 ≤ bxor a b ∧ bxor a b ≤ 255 := by
  unfold bxor bits
  simp only [IntKind.wrap, IntKind.bits, IntKind.signed]
  simp
  omega
theorem par_bd (s : List Int) : 0 ≤ par s ∧ par s ≤ 255 := by
  have key : ∀ (s : List Int) (x : Int), 0 ≤ x ∧ x ≤ 255 → 0 ≤ s.foldl bxor x ∧ s.foldl bxor x ≤ 255 := by
    intro s
    induction s with
    | nil => intro x h; exact h
    | cons b s ih => intro x _; exact ih _ (bxor_bd _ _)
  exact key s 0 (by omega)
theorem par_snoc (xs : List Int) (g : Nat) (h : g < xs.length) : par (xs.take (g + 1)) = bxor (par (xs.take g)) xs[g] := by
  unfold par
  rw [List.take_succ_eq_append_getElem h, List.foldl_append]
  rfl
theorem frame0_bytes (k c : Int) {d : List Int} (h : Bytes d) : Bytes (frame0 k c d) := by
  refine byApp ?_ h
  intro x hx
  simp only [List.mem_cons, List.not_mem_nil, or_false] at hx
  rcases hx with rfl | rfl | rfl <;> omega
theorem frame0_len (k c : Int) (d : List Int) : (frame0 k c d).length = d.length + 3 := by simp [frame0]
theorem frame1_bytes (k c : Int) {d : List Int} (h : Bytes d) : Bytes (frame1 k c d) := by
  refine byApp (frame0_bytes k c h) ?_
  intro x hx
  simp only [List.mem_singleton] at hx
  subst hx
  exact par_bd _
theorem fn51 (k c : Int) (d : List Int) (hq : d.length = 10 ∧ Bytes d) : Fn P1 gl1 51 [pkV k c d] (.val (aV 16 (frame k c d))) true := by
  refine Fn.flat ?_ rfl
  refine fn_of false [(76, sp76)] [fb75] h51 1 Proofs.Try.f51 ⟨so76, trivial⟩ ⟨⟨by kernel_rfl, by kernel_rfl, _, rfl, by kernel_rfl⟩, trivial⟩ (by kernel_rfl) rfl (by kernel_rfl) rfl rfl rfl ?_
  rw [vc51]
  try simp only [splitB_iff, -eq_self]
  obtain ⟨hd, hb⟩ := hq
  have ht : d.take 10 = d := List.take_of_length_le (by omega)
  rw [ht]
  have hr : [171, k % 256, c % 256] ++ d = frame0 k c d := rfl
  rw [hr]
  have hl := frame0_len k c d
  have hdr : (List.drop 1 (frame0 k c d)).length = 12 := by simp [hl, hd]
  have ht2 : List.take ((frame0 k c d).length - 1) (List.drop 1 (frame0 k c d)) = List.drop 1 (frame0 k c d) := List.take_of_length_le (by simp)
  rw [ht2]
  refine ⟨by omega, hd, by simp only [room]; omega, by omega, ⟨0, Nat.zero_le _, rfl, by simp [par], by simp⟩, fun g hg => ⟨fun hlt => ?_, fun hge => ?_⟩⟩
  · have hlt' : g < (List.drop 1 (frame0 k c d)).length := by simp at hlt ⊢; omega
    have hlt2 : 1 + g < (frame0 k c d).length := by omega
    refine ⟨by omega, hlt2, by simp only [fits]; omega, g + 1, hlt', by omega, by simp, ?_, by simp⟩
    rw [par_snoc _ g hlt', getD_of hlt2]
    simp only [bxor, List.getElem_drop]
  · have hge' : (List.drop 1 (frame0 k c d)).length ≤ g := by simp at hge ⊢; omega
    have ht3 : List.take g (List.drop 1 (frame0 k c d)) = List.drop 1 (frame0 k c d) := List.take_of_length_le hge'
    rw [ht3]
    have hr1 : frame0 k c d ++ [par (List.drop 1 (frame0 k c d))] = frame1 k c d := rfl
    rw [hr1]
    have hl1 : (frame1 k c d).length = 14 := by simp [frame1, hl, hd]
    have hr2 : frame1 k c d ++ [sum 251 65521 (frame1 k c d) / 256 % 256, sum 251 65521 (frame1 k c d) % 256] = frame k c d := rfl
    rw [hr2]
    have hl2 : (frame k c d).length = 16 := by simp [frame, word, hl1]
    have ht4 : List.take 16 (frame k c d) = frame k c d := List.take_of_length_le (by omega)
    rw [ht4]
    exact ⟨by simp only [room]; omega, by omega, frame1_bytes k c hb, by omega, by omega, by simp [IntKind.bits], by simp only [room]; omega, by omega, hl2, rfl, trivial⟩
theorem so51_ : SpecOk P1 gl1 51 sp51 := by
  intro vs ps r h hp
  simp only [sp51] at h
  split at h
  · cases h; exact fn51 _ _ _ (hp _ (.head _))
  · cases h
theorem so51 : Sp1 51 sp51 := ⟨so51_, Proofs.Try.f51, _, by kernel_rfl, rfl, by kernel_rfl⟩
theorem frame_len (k c : Int) {d : List Int} (hd : d.length = 10) : (frame k c d).length = 16 := by simp [frame, word, frame1, frame0, hd]
theorem frame_bytes (k c : Int) {d : List Int} (h : Bytes d) : Bytes (frame k c d) := by
  refine byApp (frame1_bytes k c h) ?_
  intro x hx
  simp only [word, List.mem_cons, List.not_mem_nil, or_false] at hx
  rcases hx with rfl | rfl <;> omega
theorem fn18 (k c : Int) (d : List Int) (hq : d.length = 10 ∧ Bytes d) : Fn P1 gl1 18 [pkV k c d] (.tup [aV 16 (pkEnc k c d).1, iV (pkEnc k c d).2]) true := by
  refine Fn.flat ?_ rfl
  refine fn_of false [(50, sp50), (51, sp51)] [] h0 0 Proofs.Try.f18 ⟨so50, so51, trivial⟩ trivial (by kernel_rfl) rfl (by kernel_rfl) rfl rfl rfl ?_
  rw [vc18]
  try simp only [splitB_iff, -eq_self]
  obtain ⟨hd, hb⟩ := hq
  refine ⟨fun h => ?_, fun h => ?_⟩
  · have h' : ¬ pcheck k c = 0 := by simpa using h
    simp [pkEnc, h', zero16]
  · have h' : pcheck k c = 0 := by simpa using h
    simp [pkEnc, h', hd, hb]
theorem so18_ : SpecOk P1 gl1 18 sp18 := by
  intro vs ps r h hp
  simp only [sp18] at h
  split at h
  · cases h; exact fn18 _ _ _ (hp _ (.head _))
  · cases h
theorem so18 : Sp1 18 sp18 := ⟨so18_, Proofs.Try.f18, _, by kernel_rfl, rfl, by kernel_rfl⟩
theorem byAt {s : List Int} (h : Bytes s) {i : Nat} (hi : i < s.length) : 0 ≤ List.getD s i 0 ∧ List.getD s i 0 ≤ 255 := by
  rw [getD_of hi]; exact h _ (List.getElem_mem hi)
theorem fn53 (s : List Int) (hq : s.length = 16 ∧ Bytes s) : Fn P1 gl1 53 [aV 16 s] (.tup [pkV (pkDec s).1.1 (pkDec s).1.2.1 (pkDec s).1.2.2, iV (pkDec s).2]) true := by
  refine Fn.flat ?_ rfl
  refine fn_of false [(51, sp51)] [] h0 0 Proofs.Try.f53 ⟨so51, trivial⟩ trivial (by kernel_rfl) rfl (by kernel_rfl) rfl rfl rfl ?_
  rw [vc53]
  try simp only [splitB_iff, -eq_self]
  obtain ⟨hs, hb⟩ := hq
  have h1 := byAt hb (i := 1) (by omega)
  have h2 := byAt hb (i := 2) (by omega)
  have hdl : (List.take 10 (List.drop 3 s)).length = 10 := by simp; omega
  have hdb : Bytes (List.take 10 (List.drop 3 s)) := byTake (byDrop hb 3) 10
  have hfl := frame_len (List.getD s 1 0) (List.getD s 2 0) hdl
  rw [eqT_int .u8 16 _ s hfl hs]
  refine ⟨by omega, by omega, fun h => ?_, fun h => ?_⟩
  · have h' : ¬ s.getD 0 0 = 171 := by simpa using h
    simp only [pkDec, if_neg h', zero10]
    simp
  · have h' : s.getD 0 0 = 171 := by simpa using h
    refine ⟨by omega, by omega, by simp only [fits]; omega, by omega, by omega, by simp only [fits]; omega, by omega, by omega, hdl, ⟨hdl, hdb⟩, fun hn => ?_, fun hy => ?_⟩
    · have hn' : ¬ frame (List.getD s 1 0) (List.getD s 2 0) (dat s) = s := by simpa [dat] using hn
      simp only [pkDec, if_pos h', if_neg hn', zero10]
      simp
    · have hy' : frame (List.getD s 1 0) (List.getD s 2 0) (dat s) = s := by simpa [dat] using hy
      have he : pkDec s = ((s.getD 1 0, s.getD 2 0, dat s), 0) := by unfold pkDec; rw [if_pos h', if_pos hy']
      rw [he]
      exact ⟨rfl, rfl, rfl, rfl, trivial⟩
theorem so53_ : SpecOk P1 gl1 53 sp53 := by
  intro vs ps r h hp
  simp only [sp53] at h
  split at h
  · cases h; exact fn53 _ (hp _ (.head _))
  · cases h
theorem so53 : Sp1 53 sp53 := ⟨so53_, Proofs.Try.f53, _, by kernel_rfl, rfl, by kernel_rfl⟩
theorem rst_succ (s : List Int) (g : Nat) : rst s (g + 1) = rstep s (rst s g) g := by
  unfold rst
  rw [List.range_succ, List.foldl_append]
  rfl
theorem skip_len (sk : List (Int × Int)) (i : Nat) : (skip sk i).length ≤ sk.length + 1 := by
  unfold skip
  split <;> simp
theorem rst_len (s : List Int) (g : Nat) : (rst s g).1.length ≤ g ∧ (rst s g).2.1.length ≤ g := by
  induction g with
  | zero => simp [rst]
  | succ g ih =>
    rw [rst_succ]
    unfold rstep
    split
    · omega
    · split
      · simp; omega
      · have := skip_len (rst s g).2.1 g
        simp; omega
theorem blk_eq (s : List Int) (g : Nat) (h : g ≤ s.length) : List.take (Int.toNat (min (s.length : Int) ((g : Int) + 16)) - g) (List.drop g s) = blk s g := by
  unfold blk
  have e : Int.toNat (min (s.length : Int) ((g : Int) + 16)) - g = min (s.length - g) 16 := by omega
  rw [e]
  rcases Nat.le_total (s.length - g) 16 with h1 | h1
  · rw [Nat.min_eq_left h1, List.take_of_length_le (by simp), List.take_of_length_le (by simp; omega)]
  · rw [Nat.min_eq_right h1]
theorem blk_take (s : List Int) (g : Nat) : List.take 16 (blk s g) = blk s g := by
  unfold blk
  rw [List.take_take]; simp
theorem toNat_sub1 (n : Nat) : Int.toNat ((n : Int) - 1) = n - 1 := by omega
theorem fn19 (s : List Int) (hb : Bytes s) (hl : s.length ≤ 1000000000) : Fn P1 gl1 19 [.one (.sl (.int .u8) s)] (.tup [.one (.frs pT (received s).1), .one (.frs spT (received s).2.1), iV (received s).2.2]) true := by
  refine Fn.flat ?_ rfl
  refine fn_of false [(53, sp53)] [fb52, fb77] h19 2 Proofs.Try.f19 ⟨so53, trivial⟩ ⟨⟨by kernel_rfl, by kernel_rfl, _, rfl, by kernel_rfl⟩, ⟨by kernel_rfl, by kernel_rfl, _, rfl, by kernel_rfl⟩, trivial⟩ (by kernel_rfl) rfl (by kernel_rfl) rfl rfl rfl ?_
  rw [vc19]
  try simp only [splitB_iff, -eq_self]
  refine ⟨fun h => ?_, fun h => ?_⟩
  · have h' : 16384 < s.length := by simp at h; omega
    simp [received, h']
  · have hlen : ¬ 16384 < s.length := by simp at h; omega
    have hrec : received s = ((rst s s.length).1, (rst s s.length).2.1, 0) := by unfold received; rw [if_neg hlen]
    refine ⟨⟨0, Nat.zero_le _, by simp [rst]⟩, fun g hg => ⟨fun hlt => ?_, fun hge => ?_⟩⟩
    · have hlt' : g < s.length := by simpa using hlt
      have hrl := rst_len s g
      rw [blk_eq s g (by omega), blk_take]
      have hs := rst_succ s g
      generalize hR : rst s g = R at *
      obtain ⟨out, sk, nxt⟩ := R
      simp only [] at hrl hs ⊢
      simp only [toNat_sub1]
      refine ⟨by simp only [fits]; omega, by omega, fun h1 => ⟨by simp only [fits]; omega, g + 1, hlt', by omega, by simp, trivial, trivial, ?_⟩, fun h1 => ⟨fun h2 => ?_, fun h2 => ?_⟩⟩
      · have h1' : (g : Int) < nxt := by simpa using h1
        have : rst s (g + 1) = (out, sk, nxt) := by rw [hs]; unfold rstep; rw [if_pos h1']
        rw [this]
        exact ⟨rfl, rfl, rfl, trivial⟩
      · have h1' : ¬ (g : Int) < nxt := by simpa using h1
        have h2' : (blk s g).length = 16 := by simp at h2; omega
        refine ⟨by omega, ⟨h2', byTake (byDrop hb g) 16⟩, fun h3 => ?_, fun h3 => ?_⟩
        · have h3' : (pkDec (blk s g)).2 = 0 := by simpa using h3
          have : rst s (g + 1) = (out ++ [(pkDec (blk s g)).1], sk, (g : Int) + 16) := by rw [hs]; unfold rstep; rw [if_neg h1', if_pos ⟨h2', h3'⟩]
          refine ⟨by simp only [room]; omega, by simp only [fits]; omega, by simp only [fits]; omega, g + 1, hlt', by omega, by simp, trivial, trivial, ?_⟩
          rw [this]
          exact ⟨rfl, rfl, rfl, trivial⟩
        · have h3' : ¬ (pkDec (blk s g)).2 = 0 := by simpa using h3
          have hst : rst s (g + 1) = (out, skip sk g, (g : Int) + 1) := by rw [hs]; unfold rstep; rw [if_neg h1', if_neg (fun h => h3' h.2)]
          refine ⟨by simp only [fits]; omega, fun h => by simp only [fits]; simp at h; omega, fun h => by simp at h; omega, fun h => by simp at h; omega, fun h => ?_, fun h => ?_⟩
          · have hc : 0 < sk.length ∧ (sk.getD (sk.length - 1) (0, 0)).2 = g := by
              by_cases h0 : 0 < sk.length
              · have : decide ((0 : Int) < (sk.length : Int)) = true := decide_eq_true (by omega)
                rw [this, cond_true, beq_iff_eq] at h
                exact ⟨h0, h⟩
              · have : decide ((0 : Int) < (sk.length : Int)) = false := decide_eq_false (by omega)
                rw [this, cond_false] at h; cases h
            have hsk : skip sk g = sk.set (sk.length - 1) ((sk.getD (sk.length - 1) (0, 0)).1, (g : Int) + 1) := by unfold skip; rw [if_pos hc]
            refine ⟨by simp only [fits]; omega, by omega, by omega, by simp only [fits]; omega, g + 1, hlt', by omega, by simp, trivial, trivial, ?_⟩
            rw [hst, hsk]
            exact ⟨rfl, rfl, rfl, trivial⟩
          · have hc : ¬ (0 < sk.length ∧ (sk.getD (sk.length - 1) (0, 0)).2 = g) := by
              rintro ⟨h0, h1⟩
              have : decide ((0 : Int) < (sk.length : Int)) = true := decide_eq_true (by omega)
              rw [this, cond_true, h1] at h
              simp at h
            have hsk : skip sk g = sk ++ [((g : Int), (g : Int) + 1)] := by unfold skip; rw [if_neg hc]
            refine ⟨by simp only [room]; omega, by simp only [fits]; omega, g + 1, hlt', by omega, by simp, trivial, trivial, ?_⟩
            rw [hst, hsk]
            exact ⟨rfl, rfl, rfl, trivial⟩
      · have h1' : ¬ (g : Int) < nxt := by simpa using h1
        have h2' : ¬ (blk s g).length = 16 := by simp at h2; omega
        have hst : rst s (g + 1) = (out, skip sk g, (g : Int) + 1) := by rw [hs]; unfold rstep; rw [if_neg h1', if_neg (fun h => h2' h.1)]
        refine ⟨by simp only [fits]; omega, fun h => by simp only [fits]; simp at h; omega, fun h => by simp at h; omega, fun h => by simp at h; omega, fun h => ?_, fun h => ?_⟩
        · have hc : 0 < sk.length ∧ (sk.getD (sk.length - 1) (0, 0)).2 = g := by
            by_cases h0 : 0 < sk.length
            · have : decide ((0 : Int) < (sk.length : Int)) = true := decide_eq_true (by omega)
              rw [this, cond_true, beq_iff_eq] at h
              exact ⟨h0, h⟩
            · have : decide ((0 : Int) < (sk.length : Int)) = false := decide_eq_false (by omega)
              rw [this, cond_false] at h; cases h
          have hsk : skip sk g = sk.set (sk.length - 1) ((sk.getD (sk.length - 1) (0, 0)).1, (g : Int) + 1) := by unfold skip; rw [if_pos hc]
          refine ⟨by simp only [fits]; omega, by omega, by omega, by simp only [fits]; omega, g + 1, hlt', by omega, by simp, trivial, trivial, ?_⟩
          rw [hst, hsk]
          exact ⟨rfl, rfl, rfl, trivial⟩
        · have hc : ¬ (0 < sk.length ∧ (sk.getD (sk.length - 1) (0, 0)).2 = g) := by
            rintro ⟨h0, h1⟩
            have : decide ((0 : Int) < (sk.length : Int)) = true := decide_eq_true (by omega)
            rw [this, cond_true, h1] at h
            simp at h
          have hsk : skip sk g = sk ++ [((g : Int), (g : Int) + 1)] := by unfold skip; rw [if_neg hc]
          refine ⟨by simp only [room]; omega, by simp only [fits]; omega, g + 1, hlt', by omega, by simp, trivial, trivial, ?_⟩
          rw [hst, hsk]
          exact ⟨rfl, rfl, rfl, trivial⟩
    · have hge' : ¬ g < s.length := by simpa using hge
      have hg' : g ≤ s.length := hg
      have : g = s.length := by omega
      subst this
      rw [hrec]
      exact ⟨rfl, rfl, rfl, trivial⟩
theorem so19_ : SpecOk P1 gl1 19 sp19 := by
  intro vs ps r h hp
  simp only [sp19] at h
  split at h
  · cases h; exact fn19 _ (hp _ (.head _)) (hp _ (.tail _ (.head _)))
  · cases h
theorem so19 : Sp1 19 sp19 := ⟨so19_, Proofs.Try.f19, _, by kernel_rfl, rfl, by kernel_rfl⟩
theorem fn58 (l : List Pk) (hl : l.length ≤ 1000000) : Fn P1 gl1 58 [.one (.sl pT l), .one (.fn 50 [] [])] (.val (.one (.frs (.int .i64) (List.map (fun (p : Pk) => pcheck p.1 p.2.1) l)))) true := by
  refine Fn.flat ?_ rfl
  refine fn_of false [(50, sp50)] [] hMapPk 0 Proofs.Try.f58 ⟨so50, trivial⟩ trivial (by kernel_rfl) rfl (by kernel_rfl) rfl rfl rfl ?_
  rw [vc58]
  try simp only [splitB_iff, -eq_self]
  refine ⟨⟨0, Nat.zero_le _, by simp⟩, fun g hg => ⟨fun hlt => ?_, fun hge => ?_⟩⟩
  · have hlt' : g < l.length := by simpa using hlt
    refine ⟨by omega, by simp only [room, List.length_map, List.length_take]; omega, by simp only [fits]; omega, g + 1, hlt', by omega, by simp, rfl, rfl, ?_, trivial⟩
    rw [getD_of hlt', List.take_succ_eq_append_getElem hlt', List.map_append]
    rfl
  · have hge' : ¬ g < l.length := by simpa using hge
    rw [List.take_of_length_le (by omega)]
    exact ⟨rfl, trivial⟩
theorem so58_ : SpecOk P1 gl1 58 sp58 := by
  intro vs ps r h hp
  simp only [sp58] at h
  split at h
  · cases h; exact fn58 _ (hp _ (.head _))
  · cases h
theorem so58 : Sp1 58 sp58 := ⟨so58_, Proofs.Try.f58, _, by kernel_rfl, rfl, by kernel_rfl⟩
theorem first_zer : ∀ (l : List Int), (∀ x ∈ l, x = 0) → first l = 0
  | [], _ => rfl
  | x :: r, h => by
    have hx := h x (by simp)
    simp only [first, hx, if_true]
    exact first_zer r (fun y hy => h y (by simp [hy]))
theorem band255 (x : Int) (h0 : 0 ≤ x) (h1 : x < 9223372036854775808) : bits .and .i64 x 255 = x % 256 := by
  obtain ⟨n, rfl⟩ := Int.eq_ofNat_of_zero_le h0
  show IntKind.wrap .i64 (((BitVec.ofInt 64 (n : Int) &&& BitVec.ofInt 64 255).toNat : Nat) : Int) = _
  have e1 : (BitVec.ofInt 64 (n : Int) &&& BitVec.ofInt 64 255).toNat = n % 256 := by
    rw [BitVec.toNat_and]
    have h2 : (BitVec.ofInt 64 (n : Int)).toNat = n := by
      rw [BitVec.toNat_ofInt]; omega
    have h3 : (BitVec.ofInt 64 255).toNat = 2 ^ 8 - 1 := rfl
    rw [h2, h3, Nat.and_two_pow_sub_one_eq_mod]
  rw [e1]
  have : IntKind.wrap .i64 ((n % 256 : Nat) : Int) = ((n % 256 : Nat) : Int) := fits_wrap (by simp only [fits]; omega)
  rw [this]
  omega
theorem eqT_pk (k a b : Int) (d : List Int) : eqT pT (a, b, d) (k, b, d) = decide (a = k) := by
  have h : eqT pT (a, b, d) (k, b, d) = ((a == k) && ((b == b) && (List.range 10).all fun i => (List.getD d i 0 == List.getD d i 0))) := rfl
  rw [h]
  by_cases e : a = k <;> simp [e]
theorem gap_len (a b : Int) : (gap a b).length = ((b - a - 1) % 256).toNat := by simp [gap]
theorem gap_at (a b : Int) (j : Nat) (h : j < (gap a b).length) : (gap a b)[j] = (a + 1 + j) % 256 := by simp [gap]
theorem cnt_bd {l : List Pk} (h : ∀ p ∈ l, pcheck p.1 p.2.1 = 0) (i : Nat) (hi : i < l.length) : 0 ≤ cnt l i ∧ cnt l i ≤ 255 := by
  unfold cnt
  rw [getD_of hi]
  have := h _ (List.getElem_mem hi)
  unfold pcheck at this
  simp only [first] at this
  split at this
  · split at this
    · rename_i h1 h2
      unfold within at h2
      split at h2 <;> omega
    · omega
  · omega
theorem lostTo_mono (l : List Pk) (i j : Nat) (h : i ≤ j) : (lostTo l i).length ≤ (lostTo l j).length := by
  induction j with
  | zero => have : i = 0 := by omega
            subst this; exact Nat.le_refl _
  | succ j ih =>
    by_cases e : i = j + 1
    · subst e; exact Nat.le_refl _
    · have := ih (by omega)
      simp only [lostTo, List.length_append]
      omega
theorem fn22 (l : List Pk) (k : Int) (h1 : l.length ≤ 1024) (h2 : ∀ p ∈ l, p.1 = k ∧ pcheck p.1 p.2.1 = 0) (hk : within k 0 255 = 0) (h3 : (lostTo l (l.length - 1)).length ≤ 256) : Fn P1 gl1 22 [.one (.sl pT l), iV k] (.tup [.one (.frs (.int .i64) (lostTo l (l.length - 1))), iV 0]) true := by
  refine Fn.flat ?_ rfl
  refine fn_of false [(50, sp50), (28, sp28), (35, sp35), (58, sp58)] [fb60, fb59, fb79, fb61] h22 4 Proofs.Try.f22 ⟨so50, so28, so35, so58, trivial⟩ ⟨⟨by kernel_rfl, by kernel_rfl, _, rfl, by kernel_rfl⟩, ⟨by kernel_rfl, by kernel_rfl, _, rfl, by kernel_rfl⟩, ⟨by kernel_rfl, by kernel_rfl, _, rfl, by kernel_rfl⟩, ⟨by kernel_rfl, by kernel_rfl, _, rfl, by kernel_rfl⟩, trivial⟩ (by kernel_rfl) rfl (by kernel_rfl) rfl rfl rfl ?_
  rw [vc22]
  try simp only [splitB_iff, -eq_self]
  have hf : first [first (List.map (fun (p : Pk) => pcheck (Prod.fst p) (Prod.fst (Prod.snd p))) l), within k (0 : Int) (255 : Int)] = 0 := by
    rw [first_zer (List.map _ l) (by intro x hx; obtain ⟨p, hp, rfl⟩ := List.mem_map.1 hx; exact (h2 p hp).2), hk]
    rfl
  rw [hf]
  simp only [eq_self, and_true, true_and, bne_self_eq_false, Bool.false_eq_true, false_implies, Bool.bne_false, decide_eq_true_eq, decide_eq_false_iff_not, List.length_map, forall_const]
  have hcb := fun i hi => cnt_bd (l := l) (fun p hp => (h2 p hp).2) i hi
  refine ⟨fun h => by omega, fun _ => ⟨by omega, by omega, by omega, fun b hb => ⟨fun hbt => ?_, fun hbf => ?_⟩⟩⟩
  · have hl0 : l = [] := List.length_eq_zero_iff.1 (hb hbt)
    subst hl0
    refine ⟨⟨0, Nat.zero_le _, rfl⟩, fun g hg => ⟨⟨0, .inl rfl, rfl, rfl⟩, fun g hg => ?_⟩⟩
    have : g = 0 := by omega
    subst this; rfl
  · refine ⟨by simp only [room]; omega, ⟨0, Nat.zero_le _, rfl⟩, fun g hg => ⟨fun hlt => ⟨by omega, by omega, fun he => ?_, fun he => ?_⟩, fun hge => ⟨⟨0, .inl rfl, rfl, rfl⟩, fun g hg => ⟨fun hlt => ?_, fun hge => ?_⟩⟩⟩⟩
    · have hg' : g < l.length := by omega
      rw [eqT_pk, getD_of hg', (h2 _ (List.getElem_mem hg')).1] at he
      simp at he
    · exact ⟨by simp only [fits]; omega, g + 1, by show g + 1 ≤ _; omega, by omega, by simp⟩
    · have e1 : ((g : Int) + 1 - 1).toNat = g := by omega
      have e2 : ((g : Int) + 1).toNat = g + 1 := by omega
      rw [e1, e2]
      have hlt' : g + 1 < l.length := by omega
      have c1 := hcb g (by omega)
      have c2 := hcb (g + 1) hlt'
      have d1 : (l.getD g (0, 0, List.replicate 10 0)).2.1 = cnt l g := rfl
      have d2 : (l.getD (g + 1) (0, 0, List.replicate 10 0)).2.1 = cnt l (g + 1) := rfl
      rw [d1, d2]
      have hgl := gap_len (cnt l g) (cnt l (g + 1))
      have hlm := lostTo_mono l (g + 1) (l.length - 1) (by omega)
      simp only [lostTo, List.length_append] at hlm
      refine ⟨by simp only [fits]; omega, by omega, by omega, by simp only [fits]; omega, ⟨0, Nat.zero_le _, ?_, by simp⟩, fun j hj => ⟨by omega, hlt', fun hne => ⟨fun h256 => ?_, fun h256 => ?_⟩, fun heq => ?_⟩⟩
      · rw [band255 _ (by omega) (by omega)]
        simp
      · have hj' : j ≤ (gap (cnt l g) (cnt l (g + 1))).length := hj
        have hne' : ¬ (cnt l g + 1 + (j : Int)) % 256 = cnt l (g + 1) := by simpa using hne
        have hjl : ¬ j = (gap (cnt l g) (cnt l (g + 1))).length := by
          intro e
          apply hne'
          omega
        have : (lostTo l g ++ List.take j (gap (cnt l g) (cnt l (g + 1)))).length = 256 := by
          have := beq_iff_eq.1 h256
          omega
        rw [List.length_append, List.length_take] at this
        omega
      · have hj' : j ≤ (gap (cnt l g) (cnt l (g + 1))).length := hj
        have hne' : ¬ (cnt l g + 1 + (j : Int)) % 256 = cnt l (g + 1) := by simpa using hne
        have hjl : j < (gap (cnt l g) (cnt l (g + 1))).length := by
          rcases Nat.lt_or_ge j (gap (cnt l g) (cnt l (g + 1))).length with h | h
          · exact h
          · exact absurd (by omega) hne'
        refine ⟨by simp only [room, List.length_append, List.length_take]; omega, by simp only [fits]; omega, j + 1, hjl, by omega, ?_, ?_⟩
        · rw [band255 _ (by omega) (by omega)]
          omega
        · rw [List.take_succ_eq_append_getElem hjl, gap_at, List.append_assoc]
      · have hj' : j ≤ (gap (cnt l g) (cnt l (g + 1))).length := hj
        have heq' : (cnt l g + 1 + (j : Int)) % 256 = cnt l (g + 1) := by simpa using heq
        have hjl : j = (gap (cnt l g) (cnt l (g + 1))).length := by omega
        refine ⟨by simp only [fits]; omega, g + 1, .inr hlt', by omega, by simp, ?_⟩
        rw [hjl, List.take_length]
        rfl
    · have : l.length - 1 = g := by omega
      rw [this]
theorem so22_ : SpecOk P1 gl1 22 sp22 := by
  intro vs ps r h hp
  simp only [sp22] at h
  split at h
  · cases h; exact fn22 _ _ (hp _ (.head _)) (hp _ (.tail _ (.head _))) (hp _ (.tail _ (.tail _ (.head _)))) (hp _ (.tail _ (.tail _ (.tail _ (.head _)))))
  · cases h
theorem so22 : Sp1 22 sp22 := ⟨so22_, Proofs.Try.f22, _, by kernel_rfl, rfl, by kernel_rfl⟩
end Go.Sx

namespace Go.Sx.U
def number (s : List Int) : Int := s.foldl (fun x b => 256 * x + b) 0
def wordAt (r : List Int) (i : Nat) : Int := number (List.take 4 (List.drop (4 * i) r))
def minusTo (r : List Int) (i : Nat) : Bool := (List.range i).any fun j => decide (wordAt r j = 2147483648)
def smpsTo (r : List Int) (i : Nat) : List Nat := tab i fun j => (wordAt r j).toNat
noncomputable def hd {α : Type} (x : α) : α := Classical.choose (⟨x, rfl⟩ : ∃ y, y = x)
theorem hd_eq {α : Type} (x : α) : hd x = x := Classical.choose_spec (⟨x, rfl⟩ : ∃ y, y = x)
def pz : Pic := ([], 0, 0, [])
def unpkE (s : List Int) (nm : List UInt8) (w h : Int) (rest left : List Int) : Pic × Int :=
  if 0 < left.length then (pz, 2)
  else if number (List.drop (4 * (w * h)).toNat rest) = sum 263 16777183 (List.take (s.length - 4) s) then
    (let q := smpsTo (List.take (4 * (w * h)).toNat rest) (w * h).toNat
     let e := first [chkPic nm w h q, whenE (minusTo (List.take (4 * (w * h)).toNat rest) (w * h).toNat) 1]
     if e = 0 then ((nm, w, h, q), 0) else (pz, e))
  else (pz, 27)
def unpk (s : List Int) : Pic × Int :=
  if 400000 < s.length then (pz, 26) else if s.length < 4 then (pz, 28) else
  if bytesOf (List.take 4 s) = [80, 73, 67, 84] then
    (let r0 := List.drop 4 s
     if r0.length < 1 then (pz, 28) else
     let L := number (List.take 1 r0)
     let r1 := List.drop 1 r0
     if (r1.length : Int) < L then (pz, 28) else
     let nm := bytesOf (List.take L.toNat r1)
     let r2 := List.drop L.toNat r1
     if r2.length < 1 then (pz, 28) else
     let w := number (List.take 1 r2)
     let r3 := List.drop 1 r2
     if r3.length < 1 then (pz, 28) else
     let h := number (List.take 1 r3)
     let r4 := List.drop 1 r3
     if (r4.length : Int) < 4 * (w * h) + 4 then (pz, 28) else
     unpkE s nm w h (List.take (4 * (w * h) + 4).toNat r4) (List.drop (4 * (w * h) + 4).toNat r4))
  else (pz, 1)
noncomputable def upk (s : List Int) : Pic × Int := hd (unpk s)
end Go.Sx.U
namespace Go.Sx
open U
def h54 : Hints := ⟨fun f k s => match f, k with
  | 54, 3 => match listAs s 6 (.int .u8) with
    | some xs => some ⟨Nat, fun i => s.at [6, 7] [tI 8 i, tI 3 (number (List.take i xs))], fun i => i ≤ List.length xs, fun i => List.length xs - i⟩
    | _ => none
  | _, _ => none, 0⟩
def findPic : List (Nat × Option AObj) → Option (Nat × Ch × Ch × Ch)
  | [] => none
  | (id, some (.box [.one (.str a), b, c, .one _])) :: _ => some (id, .one (.str a), b, c)
  | _ :: r => findPic r
def findBool : List (Nat × Option AObj) → Option Nat
  | [] => none
  | (id, some (.box [.one (.bool _)])) :: _ => some id
  | _ :: r => findBool r
def h21 : Hints := ⟨fun f k s => match f, k with
  | 78, 1 => match lookT s.tm 1 with
    | some (.val (.one (.ptr sb 0))) => match lookO s.ob sb, findPic (liveO [] s.ob), findBool (liveO [] s.ob) with
      | some (.box [.one (.sl (.int .u8) xs)]), some (pb, a, b, c), some mb => some ⟨Nat, fun i => ⟨tI 4 (4 * (i : Nat)) :: keepT [0, 1, 2] s.tm, (pb, some (.box [a, b, c, .one (.own s.nx)])) :: (s.nx, some (.row (.flt .f32) (smpsTo xs i))) :: (mb, some (.box [.one (.bool (minusTo xs i))])) :: (liveO [] s.ob).filter (fun x => x.1 != pb && x.1 != mb), s.nx + 1, s.lr⟩, fun i => 4 * i ≤ List.length xs, fun i => List.length xs - 4 * i⟩
      | _, _, _ => none
    | _ => none
  | _, _ => none, 0⟩
@[reducible] noncomputable def fb55 : Nat × Func := (55, Proofs.Try.f55)
@[reducible] noncomputable def fb56 : Nat × Func := (56, Proofs.Try.f56)
@[reducible] noncomputable def fb78 : Nat × Func := (78, Proofs.Try.f78)
end Go.Sx
namespace Go.Sx
open U
def sp54 : FSpec := ⟨fun vs => match vs with
  | [.one (.sl (.int .u8) s)] => some ([List.length s ≤ 4 ∧ Bytes s], .val (iV (number s)))
  | [.one .nils] => some ([List.length ([] : List Int) ≤ 4 ∧ Bytes ([] : List Int)], .val (iV (number ([] : List Int))))
  | _ => none, true⟩
noncomputable def sp21 : FSpec := ⟨fun vs => match vs with
  | [.one (.sl (.int .u8) s)] => some ([Bytes s, List.length s ≤ 1000000000], .tup [picV (upk s).1.1 (upk s).1.2.1 (upk s).1.2.2.1 (upk s).1.2.2.2, iV (upk s).2])
  | _ => none, true⟩
end Go.Sx

namespace Go.Sx
open U
theorem vc54 (s : List Int) : exF (env false [] []) h54 0 54 Proofs.Try.f54 [.one (.sl (.int .u8) s)] (.val (iV (number s))) = (let q0 := (↑(List.length s) : Int); (∃ (g : Nat), Nat.le g (List.length s) ∧ (0 : Int) = (↑g : Int) ∧ (0 : Int) = number (List.take g s) ∧ q0 = q0 ∧ s = s ∧ True) ∧ ∀ (g : Nat), Nat.le g (List.length s) → splitB (decide ((↑g : Int) < q0)) (((0 : Int) ≤ (↑g : Int) ∧ (↑g : Int) < q0) ∧ ((0 : Int) ≤ (8 : Int) ∧ (8 : Nat) ≤ IntKind.bits IntKind.i64 ∧ fits IntKind.i64 (number (List.take g s) * (256 : Int))) ∧ fits IntKind.i64 (List.getD s g (0 : Int)) ∧ fits IntKind.i64 ((↑g : Int) + (1 : Int)) ∧ ∃ (g' : Nat), Nat.le g' (List.length s) ∧ List.length s - g' < List.length s - g ∧ (↑g : Int) + (1 : Int) = (↑g' : Int) ∧ bits BinOp.or IntKind.i64 (number (List.take g s) * (256 : Int)) (List.getD s g (0 : Int)) = number (List.take g' s) ∧ q0 = q0 ∧ s = s ∧ True) (number (List.take g s) = number s ∧ True)) := by
  kernel_rfl
theorem vc21 (s : List Int) : exFr (env false [(43, sp43), (28, sp28), (54, sp54), (76, sp76), (29, sp29)] [fb55, fb49, fb56, fb78]) h21 3 21 Proofs.Try.f21 [.one (.sl (.int .u8) s)] (.tup [picV (upk s).1.1 (upk s).1.2.1 (upk s).1.2.2.1 (upk s).1.2.2.2, iV (upk s).2]) = (let q9 := (List.drop (4 : Nat) s); let q17 := (List.take (1 : Nat) q9); let q0 := (List.drop (Int.toNat (number q17)) (List.drop (1 : Nat) q9)); let q10 := (List.take (1 : Nat) (List.drop (1 : Nat) q0)); let q12 := (List.take (1 : Nat) q0); let q2 := (number q12 * number q10); let q16 := (Int.toNat ((4 : Int) * q2)); let q3 := (List.drop (1 : Nat) (List.drop (1 : Nat) q0)); let q5 := (Int.toNat ((4 : Int) * q2 + (4 : Int))); let q19 := (List.take q5 q3); let q1 := (List.take q16 q19); let q6 := (List.take (Int.toNat (number q17)) (List.drop (1 : Nat) q9)); let q7 := (↑(List.length s) : Int); let q11 := (decide ((0 : Int) < (↑(List.length (List.drop q5 q3)) : Int))); let q13 := (↑(List.length (List.drop (1 : Nat) q9)) : Int); let q14 := (↑(List.length (List.drop (1 : Nat) q0)) : Int); let q15 := ((0 : Nat) ≤ (4 : Nat) ∧ Bytes []); let q18 := (number [] * number []); let q20 := (decide ((400000 : Int) < q7)); let q21 := (1000000000 : Nat); let q22 := (decide (q7 < (4 : Int))); let q23 := (↑(List.length q9) : Int); let q24 := (↑(List.length q0) : Int); let q25 := (↑(List.length q3) : Int); let q26 := (List.length q1); let q28 := (List.take (Int.toNat (q7 - (4 : Int))) s); let q29 := (↑(List.length q19) : Int); let q30 := ((4 : Int) * q18 + (4 : Int)); (2 : Nat) ≤ q21 ∧ splitB (first [whenE q20 (26 : Int), whenE q22 (28 : Int)] != (0 : Int)) ([] = (upk s).1.1 ∧ (0 : Int) = (upk s).1.2.1 ∧ (0 : Int) = (upk s).1.2.2.1 ∧ (upk s).1.2.2.2 = [] ∧ first [whenE q20 (26 : Int), whenE q22 (28 : Int)] = (upk s).2 ∧ True) (((0 : Int) ≤ (0 : Int) ∧ (0 : Int) ≤ (4 : Int) ∧ (4 : Int) ≤ q7) ∧ splitB (bytesOf (List.take (4 : Nat) s) != Array.toList (ByteArray.data { data := #[(80 : UInt8), (73 : UInt8), (67 : UInt8), (84 : UInt8)] })) ([] = (upk s).1.1 ∧ (0 : Int) = (upk s).1.2.1 ∧ (0 : Int) = (upk s).1.2.2.1 ∧ (upk s).1.2.2.2 = [] ∧ (1 : Int) = (upk s).2 ∧ True) (((0 : Int) ≤ (4 : Int) ∧ (4 : Int) ≤ q7 ∧ q7 ≤ q7) ∧ splitB (bif false then true else decide (q23 < (1 : Int))) (q15 ∧ q15 ∧ q15 ∧ fits IntKind.i64 q18 ∧ fits IntKind.i64 ((4 : Int) * q18) ∧ fits IntKind.i64 q30 ∧ (2 : Nat) ≤ q21 ∧ [] = (upk s).1.1 ∧ (0 : Int) = (upk s).1.2.1 ∧ (0 : Int) = (upk s).1.2.2.1 ∧ (upk s).1.2.2.2 = [] ∧ first [whenE true (28 : Int), whenE (decide ((0 : Int) < q23)) (2 : Int)] = (upk s).2 ∧ True) (((0 : Int) ≤ (0 : Int) ∧ (0 : Int) ≤ (1 : Int) ∧ (1 : Int) ≤ q23) ∧ ((0 : Int) ≤ (1 : Int) ∧ (1 : Int) ≤ q23 ∧ q23 ≤ q23) ∧ (List.length q17 ≤ (4 : Nat) ∧ Bytes q17) ∧ splitB (bif false then true else decide (q13 < number q17)) (q15 ∧ q15 ∧ fits IntKind.i64 q18 ∧ fits IntKind.i64 ((4 : Int) * q18) ∧ fits IntKind.i64 q30 ∧ (2 : Nat) ≤ q21 ∧ [] = (upk s).1.1 ∧ (0 : Int) = (upk s).1.2.1 ∧ (0 : Int) = (upk s).1.2.2.1 ∧ (upk s).1.2.2.2 = [] ∧ first [whenE true (28 : Int), whenE (decide ((0 : Int) < q13)) (2 : Int)] = (upk s).2 ∧ True) (((0 : Int) ≤ (0 : Int) ∧ (0 : Int) ≤ number q17 ∧ number q17 ≤ q13) ∧ ((0 : Int) ≤ number q17 ∧ number q17 ≤ q13 ∧ q13 ≤ q13) ∧ splitB (bif false then true else decide (q24 < (1 : Int))) (q15 ∧ q15 ∧ fits IntKind.i64 q18 ∧ fits IntKind.i64 ((4 : Int) * q18) ∧ fits IntKind.i64 q30 ∧ (2 : Nat) ≤ q21 ∧ [] = (upk s).1.1 ∧ (0 : Int) = (upk s).1.2.1 ∧ (0 : Int) = (upk s).1.2.2.1 ∧ (upk s).1.2.2.2 = [] ∧ first [whenE true (28 : Int), whenE (decide ((0 : Int) < q24)) (2 : Int)] = (upk s).2 ∧ True) (((0 : Int) ≤ (0 : Int) ∧ (0 : Int) ≤ (1 : Int) ∧ (1 : Int) ≤ q24) ∧ ((0 : Int) ≤ (1 : Int) ∧ (1 : Int) ≤ q24 ∧ q24 ≤ q24) ∧ (List.length q12 ≤ (4 : Nat) ∧ Bytes q12) ∧ splitB (bif false then true else decide (q14 < (1 : Int))) (q15 ∧ fits IntKind.i64 (number q12 * number []) ∧ fits IntKind.i64 ((4 : Int) * (number q12 * number [])) ∧ fits IntKind.i64 ((4 : Int) * (number q12 * number []) + (4 : Int)) ∧ (2 : Nat) ≤ q21 ∧ [] = (upk s).1.1 ∧ (0 : Int) = (upk s).1.2.1 ∧ (0 : Int) = (upk s).1.2.2.1 ∧ (upk s).1.2.2.2 = [] ∧ first [whenE true (28 : Int), whenE (decide ((0 : Int) < q14)) (2 : Int)] = (upk s).2 ∧ True) (((0 : Int) ≤ (0 : Int) ∧ (0 : Int) ≤ (1 : Int) ∧ (1 : Int) ≤ q14) ∧ ((0 : Int) ≤ (1 : Int) ∧ (1 : Int) ≤ q14 ∧ q14 ≤ q14) ∧ (List.length q10 ≤ (4 : Nat) ∧ Bytes q10) ∧ fits IntKind.i64 q2 ∧ fits IntKind.i64 ((4 : Int) * q2) ∧ fits IntKind.i64 ((4 : Int) * q2 + (4 : Int)) ∧ splitB (bif false then true else decide (q25 < (4 : Int) * q2 + (4 : Int))) ((2 : Nat) ≤ q21 ∧ [] = (upk s).1.1 ∧ (0 : Int) = (upk s).1.2.1 ∧ (0 : Int) = (upk s).1.2.2.1 ∧ (upk s).1.2.2.2 = [] ∧ first [whenE true (28 : Int), whenE (decide ((0 : Int) < q25)) (2 : Int)] = (upk s).2 ∧ True) (((0 : Int) ≤ (0 : Int) ∧ (0 : Int) ≤ (4 : Int) * q2 + (4 : Int) ∧ (4 : Int) * q2 + (4 : Int) ≤ q25) ∧ ((0 : Int) ≤ (4 : Int) * q2 + (4 : Int) ∧ (4 : Int) * q2 + (4 : Int) ≤ q25 ∧ q25 ≤ q25) ∧ (2 : Nat) ≤ q21 ∧ splitB (first [whenE false (28 : Int), whenE q11 (2 : Int)] != (0 : Int)) ([] = (upk s).1.1 ∧ (0 : Int) = (upk s).1.2.1 ∧ (0 : Int) = (upk s).1.2.2.1 ∧ (upk s).1.2.2.2 = [] ∧ first [whenE false (28 : Int), whenE q11 (2 : Int)] = (upk s).2 ∧ True) (fits IntKind.i64 ((4 : Int) * q2) ∧ ((0 : Int) ≤ (4 : Int) * q2 ∧ (4 : Int) * q2 ≤ q29 ∧ q29 ≤ q29) ∧ (List.length (List.drop q16 q19) ≤ (4 : Nat) ∧ Bytes (List.drop q16 q19)) ∧ fits IntKind.i64 (q7 - (4 : Int)) ∧ ((0 : Int) ≤ (0 : Int) ∧ (0 : Int) ≤ q7 - (4 : Int) ∧ q7 - (4 : Int) ≤ q7) ∧ List.length q28 ≤ q21 ∧ Bytes q28 ∧ ((0 : Int) ≤ (263 : Int) ∧ (263 : Int) ≤ (1000 : Int)) ∧ ((1 : Int) < (16777183 : Int) ∧ (16777183 : Int) ≤ (1000000000 : Int)) ∧ splitB (number (List.drop q16 q19) != sum (263 : Int) (16777183 : Int) q28) ([] = (upk s).1.1 ∧ (0 : Int) = (upk s).1.2.1 ∧ (0 : Int) = (upk s).1.2.2.1 ∧ (upk s).1.2.2.2 = [] ∧ (27 : Int) = (upk s).2 ∧ True) (fits IntKind.i64 ((4 : Int) * q2) ∧ ((0 : Int) ≤ (0 : Int) ∧ (0 : Int) ≤ (4 : Int) * q2 ∧ (4 : Int) * q2 ≤ q29) ∧ (∃ (g : Nat), Nat.le ((4 : Nat) * g) q26 ∧ (0 : Int) = (4 : Int) * (↑g : Int) ∧ bytesOf q6 = bytesOf q6 ∧ number q12 = number q12 ∧ number q10 = number q10 ∧ smpsTo q1 g = [] ∧ false = minusTo q1 g ∧ (4 : Int) = (4 : Int) ∧ List.take q16 q19 = List.take q16 q19 ∧ [whenE false (28 : Int), whenE q11 (2 : Int)] = [whenE false (28 : Int), whenE q11 (2 : Int)] ∧ List.drop q5 q3 = List.drop q5 q3 ∧ false = false ∧ [whenE q20 (26 : Int), whenE q22 (28 : Int)] = [whenE q20 (26 : Int), whenE q22 (28 : Int)] ∧ nilB = [] ∧ (0 : Int) = (0 : Int) ∧ (0 : Int) = (0 : Int) ∧ True) ∧ ∀ (g : Nat), let q31 := (List.drop (Int.toNat ((4 : Int) * (↑g : Int))) q1); let q8 := (↑(List.length q31) : Int); let q27 := ((4 : Int) * (↑g : Int) + min (4 : Int) q8); let q4 := (List.take (Int.toNat q27 - Int.toNat ((4 : Int) * (↑g : Int))) q31); Nat.le ((4 : Nat) * g) q26 → splitB (decide ((4 : Int) * (↑g : Int) < (↑q26 : Int))) (((0 : Int) ≤ (4 : Int) * (↑g : Int) ∧ (4 : Int) * (↑g : Int) ≤ (↑q26 : Int) ∧ (↑q26 : Int) ≤ (↑q26 : Int)) ∧ fits IntKind.i64 q27 ∧ fits IntKind.i64 q27 ∧ ((0 : Int) ≤ (4 : Int) * (↑g : Int) ∧ (4 : Int) * (↑g : Int) ≤ (4 : Int) * (↑g : Int) + min (4 : Int) q8 ∧ (4 : Int) * (↑g : Int) + min (4 : Int) q8 ≤ (4 : Int) * (↑g : Int) + min (4 : Int) q8 ∧ (4 : Int) * (↑g : Int) + min (4 : Int) q8 ≤ (↑q26 : Int)) ∧ (List.length q4 ≤ (4 : Nat) ∧ Bytes q4) ∧ fits IntKind.u32 (number q4) ∧ room (List.length (smpsTo q1 g) + (1 : Nat)) (4 : Nat) ∧ fits IntKind.i64 ((4 : Int) * (↑g : Int) + (4 : Int)) ∧ ∃ (g' : Nat), Nat.le ((4 : Nat) * g') q26 ∧ List.length q1 - (4 : Nat) * g' < List.length q1 - (4 : Nat) * g ∧ (4 : Int) * (↑g : Int) + (4 : Int) = (4 : Int) * (↑g' : Int) ∧ bytesOf q6 = bytesOf q6 ∧ number q12 = number q12 ∧ number q10 = number q10 ∧ smpsTo q1 g ++ [Int.toNat (number q4)] = smpsTo q1 g' ∧ (bif minusTo q1 g then true else number q4 == (2147483648 : Int)) = minusTo q1 g' ∧ (4 : Int) = (4 : Int) ∧ List.take q16 q19 = List.take q16 q19 ∧ [whenE false (28 : Int), whenE q11 (2 : Int)] = [whenE false (28 : Int), whenE q11 (2 : Int)] ∧ List.drop q5 q3 = List.drop q5 q3 ∧ false = false ∧ [whenE q20 (26 : Int), whenE q22 (28 : Int)] = [whenE q20 (26 : Int), whenE q22 (28 : Int)] ∧ nilB = [] ∧ (0 : Int) = (0 : Int) ∧ (0 : Int) = (0 : Int) ∧ True) (List.length (smpsTo q1 g) ≤ (1000000 : Nat) ∧ (2 : Nat) ≤ q21 ∧ splitB (first [chkPic (bytesOf q6) (number q12) (number q10) (smpsTo q1 g), whenE (minusTo q1 g) (1 : Int)] != (0 : Int)) ([] = (upk s).1.1 ∧ (0 : Int) = (upk s).1.2.1 ∧ (0 : Int) = (upk s).1.2.2.1 ∧ (upk s).1.2.2.2 = [] ∧ first [chkPic (bytesOf q6) (number q12) (number q10) (smpsTo q1 g), whenE (minusTo q1 g) (1 : Int)] = (upk s).2 ∧ True) (bytesOf q6 = (upk s).1.1 ∧ number q12 = (upk s).1.2.1 ∧ number q10 = (upk s).1.2.2.1 ∧ smpsTo q1 g = (upk s).1.2.2.2 ∧ (0 : Int) = (upk s).2 ∧ True)))))))))))) := by
  kernel_rfl
end Go.Sx

namespace Go.Sx
open U
theorem nil_sl {H : IH} {t : Ty} {v : Value} (h : DenV ρ0 H (.one .nils) v) : DenV ρ0 H (.one (.sl t [])) v := by
  rw [show v = _ from h]
  exact ⟨none, 0, rfl, Nat.le_refl _, .inl rfl⟩
theorem bor256 (x b : Int) (h0 : 0 ≤ x) (h1 : x * 256 + 255 ≤ 9223372036854775807) (hb : 0 ≤ b ∧ b ≤ 255) : bits .or .i64 (x * 256) b = 256 * x + b := by
  obtain ⟨n, rfl⟩ := Int.eq_ofNat_of_zero_le h0
  obtain ⟨m, rfl⟩ := Int.eq_ofNat_of_zero_le hb.1
  have hm : m < 256 := by omega
  show IntKind.wrap .i64 (((BitVec.ofInt 64 ((n : Int) * 256) ||| BitVec.ofInt 64 (m : Int)).toNat : Nat) : Int) = _
  have e1 : (BitVec.ofInt 64 ((n : Int) * 256) ||| BitVec.ofInt 64 (m : Int)).toNat = n * 256 + m := by
    rw [BitVec.toNat_or]
    have h2 : (BitVec.ofInt 64 ((n : Int) * 256)).toNat = n * 256 := by
      rw [BitVec.toNat_ofInt]; omega
    have h3 : (BitVec.ofInt 64 (m : Int)).toNat = m := by
      rw [BitVec.toNat_ofInt]; omega
    rw [h2, h3]
    have := Nat.two_pow_add_eq_or_of_lt (i := 8) (b := m) (by omega) n
    rw [show (2 : Nat) ^ 8 = 256 from rfl] at this
    rw [Nat.mul_comm n 256]
    exact this.symm
  rw [e1]
  have : IntKind.wrap .i64 ((n * 256 + m : Nat) : Int) = ((n * 256 + m : Nat) : Int) := fits_wrap (by simp only [fits]; omega)
  rw [this]
  omega
theorem number_bd : ∀ (n : Nat) (s : List Int), Bytes s → s.length ≤ n → 0 ≤ number s ∧ number s < 256 ^ n := by
  have key : ∀ (s : List Int) (x : Int) (n m : Nat), Bytes s → 0 ≤ x → x < 256 ^ m → s.length + m ≤ n → 0 ≤ s.foldl (fun x b => 256 * x + b) x ∧ s.foldl (fun x b => 256 * x + b) x < 256 ^ n := by
    intro s
    induction s with
    | nil =>
      intro x n m _ h0 h1 h2
      refine ⟨h0, Int.lt_of_lt_of_le h1 ?_⟩
      have e : ∀ k : Nat, (256 : Int) ^ k = ((256 ^ k : Nat) : Int) := fun k => by simp
      rw [e, e]
      exact Int.ofNat_le.2 (Nat.pow_le_pow_right (by decide) (by simpa using h2))
    | cons b s ih =>
      intro x n m hb h0 h1 h2
      have hb0 := hb b (by simp)
      refine ih (256 * x + b) n (m + 1) (fun y hy => hb y (by simp [hy])) (by omega) ?_ (by simp at h2; omega)
      rw [Int.pow_succ]
      omega
  intro n s hb hl
  exact key s 0 n 0 hb (by omega) (by decide) (by omega)
theorem number_snoc (xs : List Int) (g : Nat) (h : g < xs.length) : number (xs.take (g + 1)) = 256 * number (xs.take g) + xs[g] := by
  unfold number
  rw [List.take_succ_eq_append_getElem h, List.foldl_append]
  rfl
theorem fn54 (s : List Int) (hq : s.length ≤ 4 ∧ Bytes s) : Fn P1 gl1 54 [.one (.sl (.int .u8) s)] (.val (iV (number s))) true := by
  refine Fn.flat ?_ rfl
  refine fn_of false [] [] h54 0 Proofs.Try.f54 trivial trivial (by kernel_rfl) rfl (by kernel_rfl) rfl rfl rfl ?_
  rw [vc54]
  try simp only [splitB_iff, -eq_self]
  obtain ⟨hl, hb⟩ := hq
  refine ⟨⟨0, Nat.zero_le _, rfl, rfl, rfl, rfl, trivial⟩, fun g hg => ⟨fun hlt => ?_, fun hge => ?_⟩⟩
  · have hlt' : g < s.length := by simpa using hlt
    rw [getD_of hlt']
    have h1 := number_bd 4 (s.take g) (fun y hy => hb y (List.mem_of_mem_take hy)) (by simp; omega)
    have h2 := hb _ (List.getElem_mem hlt')
    have e4 : (256 : Int) ^ 4 = 4294967296 := by decide
    rw [e4] at h1
    refine ⟨by omega, ⟨by decide, by decide, by simp only [fits]; omega⟩, by simp only [fits]; omega, by simp only [fits]; omega, g + 1, hlt', by omega, by simp, ?_, rfl, rfl, trivial⟩
    rw [bor256 _ _ h1.1 (by omega) h2, number_snoc s g hlt']
  · have hge' : ¬ g < s.length := by simpa using hge
    rw [List.take_of_length_le (by omega)]
    exact ⟨rfl, trivial⟩
theorem so54_ : SpecOk P1 gl1 54 sp54 := by
  intro vs ps r h hp
  simp only [sp54] at h
  split at h
  · cases h; exact fn54 _ (hp _ (.head _))
  · cases h; exact Fn.args (fn54 [] (hp _ (.head _))) fun H vs d => by
      obtain ⟨v0, r0, rfl, h0, hz⟩ := d
      exact ⟨_, _, rfl, nil_sl h0, hz⟩
  · cases h
theorem so54 : Sp1 54 sp54 := ⟨so54_, Proofs.Try.f54, _, by kernel_rfl, rfl, by kernel_rfl⟩
theorem fn21 (s : List Int) (hb : Bytes s) (hl : s.length ≤ 1000000000) : Fn P1 gl1 21 [.one (.sl (.int .u8) s)] (.tup [picV (upk s).1.1 (upk s).1.2.1 (upk s).1.2.2.1 (upk s).1.2.2.2, iV (upk s).2]) true := by
  refine fn_ofr false [(43, sp43), (28, sp28), (54, sp54), (76, sp76), (29, sp29)] [fb55, fb49, fb56, fb78] h21 3 Proofs.Try.f21 ⟨so43, so28, so54, so76, so29, trivial⟩ ⟨⟨by kernel_rfl, by kernel_rfl, _, rfl, by kernel_rfl⟩, ⟨by kernel_rfl, by kernel_rfl, _, rfl, by kernel_rfl⟩, ⟨by kernel_rfl, by kernel_rfl, _, rfl, by kernel_rfl⟩, ⟨by kernel_rfl, by kernel_rfl, _, rfl, by kernel_rfl⟩, trivial⟩ (by kernel_rfl) rfl (by kernel_rfl) rfl rfl rfl ?_
  rw [vc21]
  try simp only [splitB_iff, -eq_self]
  simp only [cond_false, -eq_self]
  have hU : upk s = unpk s := hd_eq _
  have n0 : number [] = 0 := rfl
  have bnil : Bytes [] := fun x hx => by cases hx
  have t28 : ∀ b : Int, first [whenE true 28, b] = 28 := fun _ => rfl
  have nb1 : ∀ r : List Int, Bytes r → 0 ≤ number (List.take 1 r) ∧ number (List.take 1 r) < 256 := fun r hr => by
    have := number_bd 1 (List.take 1 r) (byTake hr 1) (by simp; omega)
    have e : (256 : Int) ^ 1 = 256 := by decide
    rwa [e] at this
  have nb4 : ∀ r : List Int, Bytes r → r.length ≤ 4 → 0 ≤ number r ∧ number r < 4294967296 := fun r hr hl => by
    have := number_bd 4 r hr hl
    have e : (256 : Int) ^ 4 = 4294967296 := by decide
    rwa [e] at this
  by_cases k1 : 400000 < s.length
  · have c : first [whenE (decide (400000 < (s.length : Int))) 26, whenE (decide ((s.length : Int) < 4)) 28] = 26 := by rw [decide_eq_true (by omega)]; rfl
    rw [c, hU]
    unfold unpk
    rw [if_pos k1]
    exact ⟨by omega, fun _ => ⟨rfl, rfl, rfl, rfl, rfl, trivial⟩, fun h => absurd h (by decide)⟩
  by_cases k2 : s.length < 4
  · have c : first [whenE (decide (400000 < (s.length : Int))) 26, whenE (decide ((s.length : Int) < 4)) 28] = 28 := by rw [decide_eq_false (by omega), decide_eq_true (by omega)]; rfl
    rw [c, hU]
    unfold unpk
    rw [if_neg k1, if_pos k2]
    exact ⟨by omega, fun _ => ⟨rfl, rfl, rfl, rfl, rfl, trivial⟩, fun h => absurd h (by decide)⟩
  have c : first [whenE (decide (400000 < (s.length : Int))) 26, whenE (decide ((s.length : Int) < 4)) 28] = 0 := by rw [decide_eq_false (by omega), decide_eq_false (by omega)]; rfl
  rw [c]
  simp only [unpk, unpkE, if_neg k1, if_neg k2] at hU
  refine ⟨by omega, no (by decide), fun _ => ⟨by omega, fun h => ?_, fun h => ?_⟩⟩
  · have k3 : ¬ bytesOf (List.take 4 s) = [80, 73, 67, 84] := by simpa using h
    rw [if_neg k3] at hU
    rw [hU]
    exact ⟨rfl, rfl, rfl, rfl, rfl, trivial⟩
  have k3 : bytesOf (List.take 4 s) = [80, 73, 67, 84] := by simpa using h
  rw [if_pos k3] at hU
  clear h k3 c
  have hl0 : (List.drop 4 s).length = s.length - 4 := by simp
  have hb0 : Bytes (List.drop 4 s) := byDrop hb 4
  generalize List.drop 4 s = r0 at *
  refine ⟨by omega, fun h => ?_, fun h => ?_⟩
  · have k4 : r0.length < 1 := by have := of_decide_eq_true h; omega
    rw [if_pos k4] at hU
    rw [hU]; simp only [n0, t28, Int.mul_zero, Int.zero_mul, Int.zero_add, -eq_self]; (repeat' apply And.intro) <;> first | trivial | assumption | rfl | omega | (simp only [fits]; omega)
  have k4 : ¬ r0.length < 1 := by have := of_decide_eq_false h; omega
  rw [if_neg k4] at hU
  clear h
  have hL := nb1 r0 hb0
  have hl1 : (List.drop 1 r0).length = r0.length - 1 := by simp
  have hb1 : Bytes (List.drop 1 r0) := byDrop hb0 1
  have ht0 : (List.take 1 r0).length ≤ 4 ∧ Bytes (List.take 1 r0) := ⟨by simp; omega, byTake hb0 1⟩
  refine ⟨by omega, by omega, ht0, ?_⟩
  generalize List.drop 1 r0 = r1 at *
  generalize hn0 : List.take 1 r0 = tk0 at *
  generalize number tk0 = L at *
  refine ⟨fun h => ?_, fun h => ?_⟩
  · have k5 : (r1.length : Int) < L := of_decide_eq_true h
    rw [if_pos k5] at hU
    rw [hU]; simp only [n0, t28, Int.mul_zero, Int.zero_mul, Int.zero_add, -eq_self]; (repeat' apply And.intro) <;> first | trivial | assumption | rfl | omega | (simp only [fits]; omega)
  have k5 : ¬ (r1.length : Int) < L := of_decide_eq_false h
  rw [if_neg k5] at hU
  clear h
  refine ⟨by omega, by omega, ?_⟩
  have hl2 : (List.drop L.toNat r1).length = r1.length - L.toNat := by simp
  have hb2 : Bytes (List.drop L.toNat r1) := byDrop hb1 _
  generalize List.drop L.toNat r1 = r2 at *
  refine ⟨fun h => ?_, fun h => ?_⟩
  · have k6 : r2.length < 1 := by have := of_decide_eq_true h; omega
    rw [if_pos k6] at hU
    rw [hU]; simp only [n0, t28, Int.mul_zero, Int.zero_mul, Int.zero_add, -eq_self]; (repeat' apply And.intro) <;> first | trivial | assumption | rfl | omega | (simp only [fits]; omega)
  have k6 : ¬ r2.length < 1 := by have := of_decide_eq_false h; omega
  rw [if_neg k6] at hU
  clear h
  have hw := nb1 r2 hb2
  have hl3 : (List.drop 1 r2).length = r2.length - 1 := by simp
  have hb3 : Bytes (List.drop 1 r2) := byDrop hb2 1
  have ht2 : (List.take 1 r2).length ≤ 4 ∧ Bytes (List.take 1 r2) := ⟨by simp; omega, byTake hb2 1⟩
  refine ⟨by omega, by omega, ht2, ?_⟩
  generalize List.drop 1 r2 = r3 at *
  generalize number (List.take 1 r2) = w at *
  refine ⟨fun h => ?_, fun h => ?_⟩
  · have k7 : r3.length < 1 := by have := of_decide_eq_true h; omega
    rw [if_pos k7] at hU
    rw [hU]; simp only [n0, t28, Int.mul_zero, Int.zero_mul, Int.zero_add, -eq_self]; (repeat' apply And.intro) <;> first | trivial | assumption | rfl | omega | (simp only [fits]; omega)
  have k7 : ¬ r3.length < 1 := by have := of_decide_eq_false h; omega
  rw [if_neg k7] at hU
  clear h
  have hh := nb1 r3 hb3
  have hl4 : (List.drop 1 r3).length = r3.length - 1 := by simp
  have hb4 : Bytes (List.drop 1 r3) := byDrop hb3 1
  have ht3 : (List.take 1 r3).length ≤ 4 ∧ Bytes (List.take 1 r3) := ⟨by simp; omega, byTake hb3 1⟩
  generalize List.drop 1 r3 = r4 at *
  generalize number (List.take 1 r3) = h at *
  have hm : 0 ≤ w * h ∧ w * h ≤ 255 * 255 := mul_le (by omega) (by omega)
  generalize w * h = m at *
  refine ⟨by omega, by omega, ht3, by simp only [fits]; omega, by simp only [fits]; omega, by simp only [fits]; omega, fun hh1 => ?_, fun hh1 => ?_⟩
  · have k8 : (r4.length : Int) < 4 * m + 4 := of_decide_eq_true hh1
    rw [if_pos k8] at hU
    rw [hU]; simp only [n0, t28, Int.mul_zero, Int.zero_mul, Int.zero_add, -eq_self]; (repeat' apply And.intro) <;> first | trivial | assumption | rfl | omega | (simp only [fits]; omega)
  have k8 : ¬ (r4.length : Int) < 4 * m + 4 := of_decide_eq_false hh1
  rw [if_neg k8] at hU
  clear hh1
  refine ⟨by omega, by omega, by omega, ?_⟩
  obtain ⟨M, rfl⟩ := Int.eq_ofNat_of_zero_le hm.1
  have e1 : (4 * (M : Int)).toNat = 4 * M := by omega
  have e2 : (4 * (M : Int) + 4).toNat = 4 * M + 4 := by omega
  have e3 : ((s.length : Int) - 4).toNat = s.length - 4 := by omega
  simp only [e1, e2, e3, Int.toNat_natCast, -eq_self] at hU ⊢
  have hlr : (List.take (4 * M + 4) r4).length = 4 * M + 4 := by rw [List.length_take]; omega
  have hbr : Bytes (List.take (4 * M + 4) r4) := byTake hb4 _
  generalize List.take (4 * M + 4) r4 = rest at *
  generalize List.drop (4 * M + 4) r4 = left at *
  by_cases k9 : 0 < left.length
  · have c : first [whenE false 28, whenE (decide (0 < (left.length : Int))) 2] = 2 := by rw [decide_eq_true (by omega)]; rfl
    rw [if_pos k9] at hU
    rw [c, hU]
    exact ⟨fun _ => ⟨rfl, rfl, rfl, rfl, rfl, trivial⟩, fun h => absurd h (by decide)⟩
  have c : first [whenE false 28, whenE (decide (0 < (left.length : Int))) 2] = 0 := by rw [decide_eq_false (by omega)]; rfl
  rw [if_neg k9] at hU
  rw [c]
  have hl5 : (List.drop (4 * M) rest).length = 4 := by rw [List.length_drop]; omega
  have hlb : (List.take (4 * M) rest).length = 4 * M := by rw [List.length_take]; omega
  have hbb : Bytes (List.take (4 * M) rest) := byTake hbr _
  refine ⟨no (by decide), fun _ => ⟨by simp only [fits]; omega, by omega, ⟨by omega, byDrop hbr _⟩, by simp only [fits]; omega, by omega, by rw [List.length_take]; omega, byTake hb _, by omega, by omega, fun h1 => ?_, fun h1 => ?_⟩⟩
  · have k10 : ¬ number (List.drop (4 * M) rest) = sum 263 16777183 (List.take (s.length - 4) s) := by simpa using h1
    rw [if_neg k10] at hU
    rw [hU]
    exact ⟨rfl, rfl, rfl, rfl, rfl, trivial⟩
  have k10 : number (List.drop (4 * M) rest) = sum 263 16777183 (List.take (s.length - 4) s) := by simpa using h1
  rw [if_pos k10] at hU
  generalize List.take (4 * M) rest = body at *
  have smS : ∀ g, smpsTo body (g + 1) = smpsTo body g ++ [(wordAt body g).toNat] := fun g => tab_succ _ _
  have mnS : ∀ g, (bif minusTo body g then true else wordAt body g == 2147483648) = minusTo body (g + 1) := fun g => by
    unfold minusTo
    rw [List.range_succ, List.any_append]
    simp only [List.any_cons, List.any_nil, Bool.or_false]
    cases (List.range g).any fun j => decide (wordAt body j = 2147483648) <;> rfl
  refine ⟨by simp only [fits]; omega, by omega, ⟨0, Nat.zero_le _, rfl, ?_⟩, fun g hg => ⟨fun hlt => ?_, fun hge => ?_⟩⟩
  · repeat' (first | exact trivial | exact rfl | apply And.intro)
  · have hlt : 4 * (g : Int) < (body.length : Int) := of_decide_eq_true hlt
    have e5 : (4 * (g : Int)).toNat = 4 * g := by omega
    have hd : (List.drop (4 * g) body).length = 4 * M - 4 * g := by rw [List.length_drop]; omega
    simp only [e5, -eq_self]
    have e6 : min (4 : Int) ((List.drop (4 * g) body).length : Int) = 4 := by omega
    have e7 : (4 * (g : Int) + 4).toNat - 4 * g = 4 := by omega
    simp only [e6, e7, -eq_self]
    have hw4 : (List.take 4 (List.drop (4 * g) body)).length ≤ 4 ∧ Bytes (List.take 4 (List.drop (4 * g) body)) := ⟨by rw [List.length_take]; omega, byTake (byDrop hbb _) _⟩
    have hn4 := nb4 _ hw4.2 hw4.1
    refine ⟨by omega, by simp only [fits]; omega, by simp only [fits]; omega, by omega, hw4, by simp only [fits]; omega, by simp only [room, smpsTo, tab_len]; omega, by simp only [fits]; omega, g + 1, by show 4 * (g + 1) ≤ _; omega, by omega, by omega, rfl, rfl, rfl, (smS g).symm, mnS g, ?_⟩
    repeat' (first | exact trivial | exact rfl | apply And.intro)
  · have hge : ¬ 4 * (g : Int) < (body.length : Int) := of_decide_eq_false hge
    have hg : 4 * g ≤ body.length := hg
    have e : g = M := by omega
    subst e
    refine ⟨by simp only [smpsTo, tab_len]; omega, by omega, fun h2 => ?_, fun h2 => ?_⟩
    · rw [if_neg (by simpa using h2)] at hU
      rw [hU]
      exact ⟨rfl, rfl, rfl, rfl, rfl, trivial⟩
    · rw [if_pos (by simpa using h2)] at hU
      rw [hU]
      exact ⟨rfl, rfl, rfl, rfl, rfl, trivial⟩
theorem so21_ : SpecOk P1 gl1 21 sp21 := by
  intro vs ps r h hp
  simp only [sp21] at h
  split at h
  · cases h; exact fn21 _ (hp _ (.head _)) (hp _ (.tail _ (.head _)))
  · cases h
theorem so21 : Sp1 21 sp21 := ⟨so21_, Proofs.Try.f21, _, by kernel_rfl, rfl, by kernel_rfl⟩
end Go.Sx

namespace Go.Sx.U
def pkD (c : List Int) (i : Nat) : List Int := (c.drop (10 * i)).take 10 ++ List.replicate (10 - (c.length - 10 * i)) 0
def pkI (c : List Int) (i : Nat) : Pk := (3, (i : Int), pkD c i)
def encP (p : Pk) : List Int := frame p.1 p.2.1 p.2.2
def frI (c : List Int) (i : Nat) : List Int := encP (pkI c i)
def outTo (k : Int) (xs : List (List Int)) : Nat → List Int
  | 0 => []
  | i + 1 => if (i : Int) = k then outTo k xs i else outTo k xs i ++ xs.getD i []
def datTo (xs : List Pk) (j : Nat) : List Int := ((xs.take j).map fun p => p.2.2).flatten
end Go.Sx.U
namespace Go.Sx
open U
def hSame (f : Nat) (t : Ty) (d : t.T) : Hints := ⟨fun f' k s => if f' = f ∧ k = 4 then match listAs s 0 t, listAs s 1 t with
    | some xs, some ys => some ⟨Nat, fun i => s.at [0, 1] [tI 5 i], fun i => i ≤ List.length xs ∧ List.take i xs = List.take i ys, fun i => List.length xs - i⟩
    | _, _ => none
  else none, 0⟩
end Go.Sx
namespace Go.Sx
open U
def sp23 : FSpec := ⟨fun vs => match vs with
  | [.one (.sl (.int .i64) xs), .one (.sl (.int .i64) ys)] => some ([List.length xs ≤ 1000000000], .val (bV (decide ((show List Int from xs) = ys))))
  | _ => none, true⟩
def sp20 : FSpec := ⟨fun vs => match vs with
  | [.one (.sl (.pair (.int .i64) (.int .i64)) xs), .one (.sl (.pair (.int .i64) (.int .i64)) ys)] => some ([List.length xs ≤ 1000000000], .val (bV (decide ((show List (Int × Int) from xs) = ys))))
  | _ => none, true⟩
end Go.Sx

namespace Go.Sx
open U
theorem vc23 (xs ys : List Int) : exF (env false [] []) (hSame 23 (.int .i64) (0 : Int)) 0 23 Proofs.Try.f23 [.one (.sl (.int .i64) xs), .one (.sl (.int .i64) ys)] (.val (bV (decide (xs = ys)))) = (let q0 := (↑(List.length xs) : Int); splitB (q0 != (↑(List.length ys) : Int)) (false = decide (xs = ys) ∧ True) ((∃ (g : Nat), (g ≤ List.length xs ∧ List.take g xs = List.take g ys) ∧ (0 : Int) = (↑g : Int) ∧ xs = xs ∧ ys = ys ∧ True) ∧ ∀ (g : Nat), g ≤ List.length xs ∧ List.take g xs = List.take g ys → splitB (decide ((↑g : Int) < q0)) (((0 : Int) ≤ (↑g : Int) ∧ (↑g : Int) < q0) ∧ ((0 : Int) ≤ (↑g : Int) ∧ (↑g : Int) < (↑(List.length ys) : Int)) ∧ splitB (List.getD xs g (0 : Int) != List.getD ys g (0 : Int)) (false = decide (xs = ys) ∧ True) (fits IntKind.i64 ((↑g : Int) + (1 : Int)) ∧ ∃ (g' : Nat), (g' ≤ List.length xs ∧ List.take g' xs = List.take g' ys) ∧ List.length xs - g' < List.length xs - g ∧ (↑g : Int) + (1 : Int) = (↑g' : Int) ∧ xs = xs ∧ ys = ys ∧ True)) (true = decide (xs = ys) ∧ True))) := by
  kernel_rfl
theorem vc20 (xs ys : List (Int × Int)) : exF (env false [] []) (hSame 20 spT ((0, 0) : Int × Int)) 0 20 Proofs.Try.f20 [.one (.sl spT xs), .one (.sl spT ys)] (.val (bV (decide (xs = ys)))) = (let q0 := ((0 : Int), (0 : Int)); let q1 := (↑(List.length xs) : Int); splitB (q1 != (↑(List.length ys) : Int)) (false = decide (xs = ys) ∧ True) ((∃ (g : Nat), (g ≤ List.length xs ∧ List.take g xs = List.take g ys) ∧ (0 : Int) = (↑g : Int) ∧ xs = xs ∧ ys = ys ∧ True) ∧ ∀ (g : Nat), g ≤ List.length xs ∧ List.take g xs = List.take g ys → splitB (decide ((↑g : Int) < q1)) (((0 : Int) ≤ (↑g : Int) ∧ (↑g : Int) < q1) ∧ ((0 : Int) ≤ (↑g : Int) ∧ (↑g : Int) < (↑(List.length ys) : Int)) ∧ splitB (!eqT (Ty.pair (Ty.int IntKind.i64) (Ty.int IntKind.i64)) ((List.getD xs g q0).1, (List.getD xs g q0).2) ((List.getD ys g q0).1, (List.getD ys g q0).2)) (false = decide (xs = ys) ∧ True) (fits IntKind.i64 ((↑g : Int) + (1 : Int)) ∧ ∃ (g' : Nat), (g' ≤ List.length xs ∧ List.take g' xs = List.take g' ys) ∧ List.length xs - g' < List.length xs - g ∧ (↑g : Int) + (1 : Int) = (↑g' : Int) ∧ xs = xs ∧ ys = ys ∧ True)) (true = decide (xs = ys) ∧ True))) := by
  kernel_rfl
end Go.Sx

namespace Go.Sx
open U
theorem fn23 (xs ys : List Int) (hl : xs.length ≤ 1000000000) : Fn P1 gl1 23 [.one (.sl (.int .i64) xs), .one (.sl (.int .i64) ys)] (.val (bV (decide (xs = ys)))) true := by
  refine Fn.flat ?_ rfl
  refine fn_of false [] [] (hSame 23 (.int .i64) (0 : Int)) 0 Proofs.Try.f23 trivial trivial (by kernel_rfl) rfl (by kernel_rfl) rfl rfl rfl ?_
  rw [vc23]
  try simp only [splitB_iff, -eq_self]
  refine ⟨fun h => ⟨?_, trivial⟩, fun h => ⟨⟨0, ⟨Nat.zero_le _, rfl⟩, rfl, rfl, rfl, trivial⟩, fun g hg => ⟨fun hlt => ?_, fun hge => ⟨?_, trivial⟩⟩⟩⟩
  · symm
    rw [decide_eq_false_iff_not]
    rintro rfl
    simp at h
  · have hlt' : g < xs.length := by simpa using hlt
    have he : xs.length = ys.length := by simp at h; omega
    have hlt2 : g < ys.length := by omega
    rw [getD_of hlt', getD_of hlt2]
    refine ⟨by omega, by omega, fun h => ⟨?_, trivial⟩, fun h => ⟨by simp only [fits]; omega, g + 1, ⟨hlt', ?_⟩, by omega, by simp, rfl, rfl, trivial⟩⟩
    · symm
      rw [decide_eq_false_iff_not]
      rintro rfl
      simp at h
    · rw [List.take_succ_eq_append_getElem hlt', List.take_succ_eq_append_getElem hlt2, hg.2]
      simp at h
      rw [h]
  · have he : xs.length = ys.length := by simp at h; omega
    have hge' : ¬ g < xs.length := by simpa using hge
    have := hg.2
    rw [List.take_of_length_le (by omega), List.take_of_length_le (by omega)] at this
    simp [this]
theorem so23_ : SpecOk P1 gl1 23 sp23 := by
  intro vs ps r h hp
  simp only [sp23] at h
  split at h
  · cases h; exact fn23 _ _ (hp _ (.head _))
  · cases h
theorem so23 : Sp1 23 sp23 := ⟨so23_, Proofs.Try.f23, _, by kernel_rfl, rfl, by kernel_rfl⟩
theorem eqT_sp (a b : Int × Int) : eqT spT a b = decide (a = b) := by
  obtain ⟨a1, a2⟩ := a
  obtain ⟨b1, b2⟩ := b
  have h : eqT spT (a1, a2) (b1, b2) = ((a1 == b1) && (a2 == b2)) := rfl
  rw [h]
  by_cases e : a1 = b1 <;> by_cases e' : a2 = b2 <;> simp [e, e']
theorem fn20 (xs ys : List (Int × Int)) (hl : xs.length ≤ 1000000000) : Fn P1 gl1 20 [.one (.sl spT xs), .one (.sl spT ys)] (.val (bV (decide (xs = ys)))) true := by
  refine Fn.flat ?_ rfl
  refine fn_of false [] [] (hSame 20 spT ((0, 0) : Int × Int)) 0 Proofs.Try.f20 trivial trivial (by kernel_rfl) rfl (by kernel_rfl) rfl rfl rfl ?_
  rw [vc20]
  try simp only [splitB_iff, -eq_self]
  refine ⟨fun h => ⟨?_, trivial⟩, fun h => ⟨⟨0, ⟨Nat.zero_le _, rfl⟩, rfl, rfl, rfl, trivial⟩, fun g hg => ⟨fun hlt => ?_, fun hge => ⟨?_, trivial⟩⟩⟩⟩
  · symm
    rw [decide_eq_false_iff_not]
    rintro rfl
    simp at h
  · have hlt' : g < xs.length := by simpa using hlt
    have he : xs.length = ys.length := by simp at h; omega
    have hlt2 : g < ys.length := by omega
    rw [getD_of hlt', getD_of hlt2, eqT_sp]
    refine ⟨by omega, by omega, fun h => ⟨?_, trivial⟩, fun h => ⟨by simp only [fits]; omega, g + 1, ⟨hlt', ?_⟩, by omega, by simp, rfl, rfl, trivial⟩⟩
    · symm
      rw [decide_eq_false_iff_not]
      rintro rfl
      simp at h
    · rw [List.take_succ_eq_append_getElem hlt', List.take_succ_eq_append_getElem hlt2, hg.2]
      simp at h
      rw [Prod.ext h.1 h.2]
  · have he : xs.length = ys.length := by simp at h; omega
    have hge' : ¬ g < xs.length := by simpa using hge
    have := hg.2
    rw [List.take_of_length_le (by omega), List.take_of_length_le (by omega)] at this
    simp [this]
theorem so20_ : SpecOk P1 gl1 20 sp20 := by
  intro vs ps r h hp
  simp only [sp20] at h
  split at h
  · cases h; exact fn20 _ _ (hp _ (.head _))
  · cases h
theorem so20 : Sp1 20 sp20 := ⟨so20_, Proofs.Try.f20, _, by kernel_rfl, rfl, by kernel_rfl⟩
end Go.Sx
