/- A verified symbolic run of functions, part 17: lemmas, no claim of their own. -/
import Derived.Test.YtjbfcdgbjgjliaaGreatDoorS16
import Derived.Lib.AppendIntMem
import Derived.Shelf.Strconv.Itoa3
import Derived.Shelf.Strings.OnBuilder
import Derived.Shelf.LaysM
import Derived.Test.YtjbfcdgbjgjliaaGreatDoorProg
/- Plain functions and hints. -/
namespace Go.Sx
open U
abbrev resT : Ty := .arr 4 (.cpx .f64)
def h79 : Hints := ⟨fun f k s => match f, k with
  | 145, 3 => hMapG (.int .i64) (.int .i64) (fun n => within n (-1000) 1000) 8 10 5 [1, 9] s
  | 76, 6 => match listAs s 0 (.int .i64) with
    | some t => some ⟨Nat, fun i => s.at [0] [tI 3 i], fun i => i ≤ List.length t ∧ first (List.map (fun n => within n (-1000) 1000) t) = first (List.drop i (List.map (fun n => within n (-1000) 1000) t)), fun i => List.length t - i⟩
    | none => none
  | _, _ => none, 6⟩
def h142 : Hints := ⟨fun f k s => match f, k with
  | 178, 3 => match boxS s, listAs s 1 (.int .i64), intOfT s 2 with
    | [(_, cb)], some t, some w => match rowC s cb with
      | some L => some ⟨Nat, fun i => ⟨[tI 16 i, (9, .val (.one (.own s.nx)))] ++ keepT [0, 1, 2, 3, 15] s.tm, (s.nx, some (.row (.int .i64) (tab i fun i => swTo (List.length L) (lat L) t w i (List.length t)))) :: lessO s [9], s.nx + 1, s.lr⟩, fun i => i ≤ List.length L, fun i => List.length L - i⟩
      | none => none
    | _, _, _ => none
  | 178, 7 => match boxS s, listAs s 1 (.int .i64), intOfT s 2, intOfT s 10 with
    | [(_, cb)], some t, some w, some i => match rowC s cb with
      | some L => some ⟨Nat, fun j => s.at [0, 1, 2, 3, 9, 10, 15, 16, 19, 20] [tI 21 j, tI 11 (swTo (List.length L) (lat L) t w i.toNat j)], fun j => j ≤ List.length t, fun j => List.length t - j⟩
      | none => none
    | _, _, _, _ => none
  | 78, 4 => match listAs s 8 (.int .i64), listAs s 1 (.int .i64), intOfT s 2, ownM s 9 with
    | some L, some t, some w, some id => some ⟨Nat, fun i => ⟨tI 10 i :: keepT [1, 2, 8, 9] s.tm, (id, some (.row (.int .i64) (fillTo 0 (List.length L) (fun i => swTo (List.length L) (lat L) t w i (List.length t)) i))) :: dropO s [id], s.nx, s.lr⟩, fun i => i ≤ List.length L, fun i => List.length L - i⟩
    | _, _, _, _ => none
  | 78, 7 => match listAs s 8 (.int .i64), listAs s 1 (.int .i64), intOfT s 2, ownM s 9, intOfT s 10 with
    | some L, some t, some w, some id, some i => some ⟨Nat, fun j => ⟨tI 11 j :: keepT [1, 2, 8, 9, 10] s.tm, (id, some (.row (.int .i64) (List.set (fillTo 0 (List.length L) (fun i => swTo (List.length L) (lat L) t w i (List.length t)) i.toNat) i.toNat (swTo (List.length L) (lat L) t w i.toNat j)))) :: dropO s [id], s.nx, s.lr⟩, fun j => j ≤ List.length t, fun j => List.length t - j⟩
    | _, _, _, _, _ => none
  | _, _ => none, 0⟩
@[reducible] noncomputable def fb178 : Nat × Func := (178, Proofs.Tryz.f178)
@[reducible] noncomputable def fb179 : Nat × Func := (179, Proofs.Tryz.f179)
end Go.Sx
namespace Go.Sx
open U
def sp146 : FSpec := ⟨fun vs => match vs with
  | [.one (.int .i64 n)] => some ([], .val (iV (within n (-1000) 1000)))
  | _ => none, true⟩
def sp145 : FSpec := ⟨fun vs => match vs with
  | [.one (.sl (.int .i64) l), .one (.fn 146 [] [])] => some ([List.length l ≤ 1000000], .val (.one (.frs (.int .i64) (List.map (fun n => within n (-1000) 1000) l))))
  | _ => none, true⟩
def sp79 : FSpec := ⟨fun vs => match vs with
  | [.one (.sl (.int .i64) t)] => some ([], .val (iV (chkTap t)))
  | _ => none, true⟩
def sp76 : FSpec := ⟨fun vs => match vs with
  | [.one (.sl (.int .i64) t)] => some ([], .val (iV (chkTap t)))
  | _ => none, true⟩
def sp72 : FSpec := ⟨fun vs => match vs with
  | [.one (.sl (.int .i64) t)] => some ([], .tup [.agg [.arr 4 (.cpx .f64) (resN t)], iV (chkTap t)])
  | _ => none, true⟩
def sp142 : FSpec := ⟨fun vs => match vs with
  | [.one (.sl (.flt .f32) l), .one (.sl (.int .i64) t), .one (.int .i64 w)] => some ([w = 1 ∨ w = -1], .tup [.one (.frs (.flt .f32) (fltN l t w)), iV (fltE l t w)])
  | _ => none, true⟩
def sp74 : FSpec := ⟨fun vs => match vs with
  | [.one (.sl (.flt .f32) l), .one (.sl (.int .i64) t)] => some ([], .tup [.one (.frs (.flt .f32) (fltN l t 1)), iV (fltE l t 1)])
  | _ => none, true⟩
def sp75 : FSpec := ⟨fun vs => match vs with
  | [.one (.sl (.flt .f32) l), .one (.sl (.int .i64) t)] => some ([], .tup [.one (.frs (.flt .f32) (fltN l t (-1))), iV (fltE l t (-1))])
  | _ => none, true⟩
def sp78 : FSpec := ⟨fun vs => match vs with
  | [.one (.sl (.flt .f32) l), .one (.sl (.int .i64) t), .one (.int .i64 w)] => some ([w = 1 ∨ w = -1, fltB l t = 0], .tup [.one (.frs (.flt .f32) (smpsN (fltI (sixs l) t w))), iV (lgE (fltI (sixs l) t w))])
  | _ => none, true⟩
def sp73 : FSpec := ⟨fun vs => match vs with
  | [.one (.sl (.int .i64) l)] => some ([List.length l ≤ 1000000], .val (.one (.frs (.int .i64) l)))
  | _ => none, true⟩
end Go.Sx

/- What the engine asks, written out (printed by a program). -/
namespace Go.Sx
open U
theorem vc146 (n : Int) : exF (env false [(96, sp96)] []) h0 0 146 Proofs.Tryz.f146 [iV n] (.val (iV (within n (-1000) 1000))) = (within n (-1000 : Int) (1000 : Int) = within n (-1000 : Int) (1000 : Int) ∧ True) := by
  kernel_rfl
theorem vc145 (l : List Int) : exF (env false [(146, sp146)] []) h79 0 145 Proofs.Tryz.f145 [.one (.sl (.int .i64) l), .one (.fn 146 [] [])] (.val (.one (.frs (.int .i64) (l.map fun n => within n (-1000) 1000)))) = (let q0 := (↑(List.length l) : Int); (∃ (g : Nat), Nat.le g (List.length l) ∧ (0 : Int) = (↑g : Int) ∧ q0 = q0 ∧ l = l ∧ List.map (fun (n : Int) => within n (-1000 : Int) (1000 : Int)) (List.take g l) = [] ∧ True) ∧ ∀ (g : Nat), Nat.le g (List.length l) → splitB (decide ((↑g : Int) < q0)) (((0 : Int) ≤ (↑g : Int) ∧ (↑g : Int) < q0) ∧ room (List.length (List.map (fun (n : Int) => within n (-1000 : Int) (1000 : Int)) (List.take g l)) + (1 : Nat)) (8 : Nat) ∧ fits IntKind.i64 ((↑g : Int) + (1 : Int)) ∧ ∃ (g' : Nat), Nat.le g' (List.length l) ∧ List.length l - g' < List.length l - g ∧ (↑g : Int) + (1 : Int) = (↑g' : Int) ∧ q0 = q0 ∧ l = l ∧ List.map (fun (n : Int) => within n (-1000 : Int) (1000 : Int)) (List.take g l) ++ [within (List.getD l g (0 : Int)) (-1000 : Int) (1000 : Int)] = List.map (fun (n : Int) => within n (-1000 : Int) (1000 : Int)) (List.take g' l) ∧ True) (List.map (fun (n : Int) => within n (-1000 : Int) (1000 : Int)) (List.take g l) = List.map (fun (n : Int) => within n (-1000 : Int) (1000 : Int)) l ∧ True)) := by
  kernel_rfl
theorem vc79 (t : List Int) : exF (env false [(104, sp104), (95, sp95), (145, sp145)] []) h0 0 79 Proofs.Tryz.f79 [.one (.sl (.int .i64) t)] (.val (iV (chkTap t))) = (let q0 := (↑(List.length t) : Int); (2 : Nat) ≤ (1000000000 : Nat) ∧ splitB (first [whenE (q0 == (0 : Int)) (12 : Int), whenE (decide ((8 : Int) < q0)) (5 : Int)] != (0 : Int)) (first [whenE (q0 == (0 : Int)) (12 : Int), whenE (decide ((8 : Int) < q0)) (5 : Int)] = chkTap t ∧ True) (List.length t ≤ (1000000 : Nat) ∧ List.length (List.map (fun (n : Int) => within n (-1000 : Int) (1000 : Int)) t) ≤ (1000000000 : Nat) ∧ first (List.map (fun (n : Int) => within n (-1000 : Int) (1000 : Int)) t) = chkTap t ∧ True)) := by
  kernel_rfl
theorem vc76 (t : List Int) : exF (env false [(24, sp24)] []) h79 0 76 Proofs.Tryz.f76 [.one (.sl (.int .i64) t)] (.val (iV (chkTap t))) = (let q0 := (↑(List.length t) : Int); splitB (q0 == (0 : Int)) ((12 : Int) = chkTap t ∧ True) (splitB (decide ((8 : Int) < q0)) ((5 : Int) = chkTap t ∧ True) ((∃ (g : Nat), (g ≤ List.length t ∧ first (List.map (fun (n : Int) => within n (-1000 : Int) (1000 : Int)) t) = first (List.drop g (List.map (fun (n : Int) => within n (-1000 : Int) (1000 : Int)) t))) ∧ (0 : Int) = (↑g : Int) ∧ t = t ∧ True) ∧ ∀ (g : Nat), g ≤ List.length t ∧ first (List.map (fun (n : Int) => within n (-1000 : Int) (1000 : Int)) t) = first (List.drop g (List.map (fun (n : Int) => within n (-1000 : Int) (1000 : Int)) t)) → splitB (decide ((↑g : Int) < q0)) (((0 : Int) ≤ (↑g : Int) ∧ (↑g : Int) < q0) ∧ splitB (within (List.getD t g (0 : Int)) (-1000 : Int) (1000 : Int) != (0 : Int)) (within (List.getD t g (0 : Int)) (-1000 : Int) (1000 : Int) = chkTap t ∧ True) (fits IntKind.i64 ((↑g : Int) + (1 : Int)) ∧ ∃ (g' : Nat), (g' ≤ List.length t ∧ first (List.map (fun (n : Int) => within n (-1000 : Int) (1000 : Int)) t) = first (List.drop g' (List.map (fun (n : Int) => within n (-1000 : Int) (1000 : Int)) t))) ∧ List.length t - g' < List.length t - g ∧ (↑g : Int) + (1 : Int) = (↑g' : Int) ∧ t = t ∧ True)) ((0 : Int) = chkTap t ∧ True)))) := by
  kernel_rfl
theorem vc72 (t : List Int) : exF (env false [(79, sp79), (109, sp109)] []) h79 0 72 Proofs.Tryz.f72 [.one (.sl (.int .i64) t)] (.tup [.agg [.arr 4 (.cpx .f64) (resN t)], iV (chkTap t)]) = (let q0 := (tab (4 : Nat) (qu t)); let q1 := ((0 : Int), (0 : Int)); let q2 := ((0 : Int) ≤ (0 : Int) ∧ (0 : Int) < (4 : Int)); let q3 := ((0 : Int) ≤ (1 : Int) ∧ (1 : Int) < (4 : Int)); let q4 := ((0 : Int) ≤ (2 : Int) ∧ (2 : Int) < (4 : Int)); let q5 := ((0 : Int) ≤ (3 : Int) ∧ (3 : Int) < (4 : Int)); splitB (chkTap t != (0 : Int)) (List.replicate (4 : Nat) ((0 : Nat), (0 : Nat)) = resN t ∧ chkTap t = chkTap t ∧ True) (List.length t ≤ (1000 : Nat) ∧ Bd (1000000 : Int) t ∧ q2 ∧ q2 ∧ (0 : Nat) < (4 : Nat) ∧ fits IntKind.i64 (1 : Int) ∧ q3 ∧ q3 ∧ (1 : Nat) < (4 : Nat) ∧ fits IntKind.i64 (2 : Int) ∧ q4 ∧ q4 ∧ (2 : Nat) < (4 : Nat) ∧ fits IntKind.i64 (3 : Int) ∧ q5 ∧ q5 ∧ (3 : Nat) < (4 : Nat) ∧ fits IntKind.i64 (4 : Int) ∧ [(FloatKind.nearest FloatKind.f64 (List.getD q0 (0 : Nat) q1).1, FloatKind.nearest FloatKind.f64 (List.getD q0 (0 : Nat) q1).2), (FloatKind.nearest FloatKind.f64 (List.getD q0 (1 : Nat) q1).1, FloatKind.nearest FloatKind.f64 (List.getD q0 (1 : Nat) q1).2), (FloatKind.nearest FloatKind.f64 (List.getD q0 (2 : Nat) q1).1, FloatKind.nearest FloatKind.f64 (List.getD q0 (2 : Nat) q1).2), (FloatKind.nearest FloatKind.f64 (List.getD q0 (3 : Nat) q1).1, FloatKind.nearest FloatKind.f64 (List.getD q0 (3 : Nat) q1).2)] = resN t ∧ (0 : Int) = chkTap t ∧ True)) := by
  kernel_rfl
theorem vc142 (l : List Nat) (t : List Int) (w : Int) : exF (env false [(41, sp41), (79, sp79), (95, sp95), (108, sp108), (138, sp138)] [fb178, fb179]) h142 3 142 Proofs.Tryz.f142 [.one (.sl (.flt .f32) l), .one (.sl (.int .i64) t), iV w] (.tup [.one (.frs (.flt .f32) (fltN l t w)), iV (fltE l t w)]) = (let q0 := (List.length (sixs l)); let q1 := (List.length t); let q2 := (lat (sixs l)); (2 : Nat) ≤ (1000000000 : Nat) ∧ splitB (first [chkSig l, chkTap t] != (0 : Int)) (fltN l t w = [] ∧ first [chkSig l, chkTap t] = fltE l t w ∧ True) (List.length l ≤ (1000000 : Nat) ∧ OkS l ∧ (∃ (g : Nat), Nat.le g q0 ∧ (0 : Int) = (↑g : Int) ∧ (↑q0 : Int) = (↑q0 : Int) ∧ (↑q0 : Int) = (↑q0 : Int) ∧ t = t ∧ w = w ∧ (tab g fun (i : Nat) => swTo q0 q2 t w i q1) = [] ∧ sixs l = sixs l ∧ [chkSig l, chkTap t] = [chkSig l, chkTap t] ∧ True) ∧ ∀ (g : Nat), Nat.le g q0 → splitB (decide ((↑g : Int) < (↑q0 : Int))) ((∃ (g_1 : Nat), Nat.le g_1 q1 ∧ (0 : Int) = (↑g_1 : Int) ∧ (0 : Int) = swTo q0 q2 t w g g_1 ∧ (↑q1 : Int) = (↑q1 : Int) ∧ t = t ∧ (↑g : Int) = (↑g : Int) ∧ (↑g : Int) = (↑g : Int) ∧ (↑q0 : Int) = (↑q0 : Int) ∧ (↑q0 : Int) = (↑q0 : Int) ∧ t = t ∧ w = w ∧ ((tab g fun (i : Nat) => swTo q0 q2 t w i q1) = tab g fun (i : Nat) => swTo q0 q2 t w i q1) ∧ sixs l = sixs l ∧ [chkSig l, chkTap t] = [chkSig l, chkTap t] ∧ True) ∧ ∀ (g_1 : Nat), let q3 := ((↑g : Int) - w * (↑g_1 : Int)); Nat.le g_1 q1 → splitB (decide ((↑g_1 : Int) < (↑q1 : Int))) (((0 : Int) ≤ (↑g_1 : Int) ∧ (↑g_1 : Int) < (↑q1 : Int)) ∧ fits IntKind.i64 (w * (↑g_1 : Int)) ∧ fits IntKind.i64 q3 ∧ splitB (bif decide ((0 : Int) ≤ (↑g : Int) - w * (↑g_1 : Int)) then decide ((↑g : Int) - w * (↑g_1 : Int) < (↑q0 : Int)) else false) (((0 : Int) ≤ (↑g : Int) - w * (↑g_1 : Int) ∧ (↑g : Int) - w * (↑g_1 : Int) < (↑q0 : Int)) ∧ Int.toNat q3 < List.length (sixs l) ∧ fits IntKind.i64 (List.getD t g_1 (0 : Int) * List.getD (sixs l) (Int.toNat q3) (0 : Int)) ∧ fits IntKind.i64 (swTo q0 q2 t w g g_1 + List.getD t g_1 (0 : Int) * List.getD (sixs l) (Int.toNat q3) (0 : Int)) ∧ fits IntKind.i64 ((↑g_1 : Int) + (1 : Int)) ∧ ∃ (g' : Nat), Nat.le g' q1 ∧ List.length t - g' < List.length t - g_1 ∧ (↑g_1 : Int) + (1 : Int) = (↑g' : Int) ∧ swTo q0 q2 t w g g_1 + List.getD t g_1 (0 : Int) * List.getD (sixs l) (Int.toNat q3) (0 : Int) = swTo q0 q2 t w g g' ∧ (↑q1 : Int) = (↑q1 : Int) ∧ t = t ∧ (↑g : Int) = (↑g : Int) ∧ (↑g : Int) = (↑g : Int) ∧ (↑q0 : Int) = (↑q0 : Int) ∧ (↑q0 : Int) = (↑q0 : Int) ∧ t = t ∧ w = w ∧ ((tab g fun (i : Nat) => swTo q0 q2 t w i q1) = tab g fun (i : Nat) => swTo q0 q2 t w i q1) ∧ sixs l = sixs l ∧ [chkSig l, chkTap t] = [chkSig l, chkTap t] ∧ True) (fits IntKind.i64 ((↑g_1 : Int) + (1 : Int)) ∧ ∃ (g' : Nat), Nat.le g' q1 ∧ List.length t - g' < List.length t - g_1 ∧ (↑g_1 : Int) + (1 : Int) = (↑g' : Int) ∧ swTo q0 q2 t w g g_1 = swTo q0 q2 t w g g' ∧ (↑q1 : Int) = (↑q1 : Int) ∧ t = t ∧ (↑g : Int) = (↑g : Int) ∧ (↑g : Int) = (↑g : Int) ∧ (↑q0 : Int) = (↑q0 : Int) ∧ (↑q0 : Int) = (↑q0 : Int) ∧ t = t ∧ w = w ∧ ((tab g fun (i : Nat) => swTo q0 q2 t w i q1) = tab g fun (i : Nat) => swTo q0 q2 t w i q1) ∧ sixs l = sixs l ∧ [chkSig l, chkTap t] = [chkSig l, chkTap t] ∧ True)) (room (List.length (tab g fun (i : Nat) => swTo q0 q2 t w i q1) + (1 : Nat)) (8 : Nat) ∧ fits IntKind.i64 ((↑g : Int) + (1 : Int)) ∧ ∃ (g' : Nat), Nat.le g' q0 ∧ List.length (sixs l) - g' < List.length (sixs l) - g ∧ (↑g : Int) + (1 : Int) = (↑g' : Int) ∧ (↑q0 : Int) = (↑q0 : Int) ∧ (↑q0 : Int) = (↑q0 : Int) ∧ t = t ∧ w = w ∧ ((tab g fun (i : Nat) => swTo q0 q2 t w i q1) ++ [swTo q0 q2 t w g g_1] = tab g' fun (i : Nat) => swTo q0 q2 t w i q1) ∧ sixs l = sixs l ∧ [chkSig l, chkTap t] = [chkSig l, chkTap t] ∧ True)) (List.length (tab g fun (i : Nat) => swTo q0 q2 t w i q1) ≤ (1000000 : Nat) ∧ smpsN (tab g fun (i : Nat) => swTo q0 q2 t w i q1) = fltN l t w ∧ lgE (tab g fun (i : Nat) => swTo q0 q2 t w i q1) = fltE l t w ∧ True))) := by
  kernel_rfl
theorem vc74 (l : List Nat) (t : List Int) : exF (env false [(142, sp142)] []) h0 0 74 Proofs.Tryz.f74 [.one (.sl (.flt .f32) l), .one (.sl (.int .i64) t)] (.tup [.one (.frs (.flt .f32) (fltN l t 1)), iV (fltE l t 1)]) = (((1 : Int) = (1 : Int) ∨ (1 : Int) = (-1 : Int)) ∧ fltN l t (1 : Int) = fltN l t (1 : Int) ∧ fltE l t (1 : Int) = fltE l t (1 : Int) ∧ True) := by
  kernel_rfl
theorem vc75 (l : List Nat) (t : List Int) : exF (env false [(142, sp142)] []) h0 0 75 Proofs.Tryz.f75 [.one (.sl (.flt .f32) l), .one (.sl (.int .i64) t)] (.tup [.one (.frs (.flt .f32) (fltN l t (-1))), iV (fltE l t (-1))]) = (((-1 : Int) = (1 : Int) ∨ (-1 : Int) = (-1 : Int)) ∧ fltN l t (-1 : Int) = fltN l t (-1 : Int) ∧ fltE l t (-1 : Int) = fltE l t (-1 : Int) ∧ True) := by
  kernel_rfl
theorem vc78 (l : List Nat) (t : List Int) (w : Int) : exF (env false [(100, sp100), (102, sp102)] []) h142 0 78 Proofs.Tryz.f78 [.one (.sl (.flt .f32) l), .one (.sl (.int .i64) t), iV w] (.tup [.one (.frs (.flt .f32) (smpsN (fltI (sixs l) t w))), iV (lgE (fltI (sixs l) t w))]) = (let q0 := (List.length (sixs l)); let q1 := (lat (sixs l)); let q2 := (List.length t); List.length l ≤ (1000000 : Nat) ∧ OkS l ∧ (0 : Int) ≤ (↑q0 : Int) ∧ room q0 (8 : Nat) ∧ (∃ (g : Nat), Nat.le g q0 ∧ (0 : Int) = (↑g : Int) ∧ t = t ∧ w = w ∧ List.replicate q0 (0 : Int) = fillTo (0 : Int) q0 (fun (i : Nat) => swTo q0 q1 t w i q2) g ∧ sixs l = sixs l ∧ True) ∧ ∀ (g : Nat), Nat.le g q0 → splitB (decide ((↑g : Int) < (↑q0 : Int))) ((∃ (g_1 : Nat), Nat.le g_1 q2 ∧ (0 : Int) = (↑g_1 : Int) ∧ (↑g : Int) = (↑g : Int) ∧ t = t ∧ w = w ∧ fillTo (0 : Int) q0 (fun (i : Nat) => swTo q0 q1 t w i q2) g = List.set (fillTo (0 : Int) q0 (fun (i : Nat) => swTo q0 q1 t w i q2) g) g (swTo q0 q1 t w g g_1) ∧ sixs l = sixs l ∧ True) ∧ ∀ (g_1 : Nat), let q3 := (swTo q0 q1 t w g g_1); let q4 := ((↑g : Int) - w * (↑g_1 : Int)); Nat.le g_1 q2 → splitB (decide ((↑g_1 : Int) < (↑q2 : Int))) (fits IntKind.i64 (w * (↑g_1 : Int)) ∧ fits IntKind.i64 q4 ∧ splitB (bif decide ((0 : Int) ≤ (↑g : Int) - w * (↑g_1 : Int)) then decide ((↑g : Int) - w * (↑g_1 : Int) < (↑q0 : Int)) else false) (((0 : Int) ≤ (↑g : Int) ∧ (↑g : Int) < (↑(List.length (List.set (fillTo (0 : Int) q0 (fun (i : Nat) => swTo q0 q1 t w i q2) g) g q3)) : Int)) ∧ g < List.length (List.set (fillTo (0 : Int) q0 (fun (i : Nat) => swTo q0 q1 t w i q2) g) g q3) ∧ ((0 : Int) ≤ (↑g_1 : Int) ∧ (↑g_1 : Int) < (↑q2 : Int)) ∧ ((0 : Int) ≤ (↑g : Int) - w * (↑g_1 : Int) ∧ (↑g : Int) - w * (↑g_1 : Int) < (↑q0 : Int)) ∧ Int.toNat q4 < List.length (sixs l) ∧ fits IntKind.i64 (List.getD t g_1 (0 : Int) * List.getD (sixs l) (Int.toNat q4) (0 : Int)) ∧ fits IntKind.i64 (List.getD (List.set (fillTo (0 : Int) q0 (fun (i : Nat) => swTo q0 q1 t w i q2) g) g q3) g (0 : Int) + List.getD t g_1 (0 : Int) * List.getD (sixs l) (Int.toNat q4) (0 : Int)) ∧ ((0 : Int) ≤ (↑g : Int) ∧ (↑g : Int) < (↑(List.length (List.set (fillTo (0 : Int) q0 (fun (i : Nat) => swTo q0 q1 t w i q2) g) g q3)) : Int)) ∧ g < List.length (List.set (fillTo (0 : Int) q0 (fun (i : Nat) => swTo q0 q1 t w i q2) g) g q3) ∧ fits IntKind.i64 ((↑g_1 : Int) + (1 : Int)) ∧ ∃ (g' : Nat), Nat.le g' q2 ∧ List.length t - g' < List.length t - g_1 ∧ (↑g_1 : Int) + (1 : Int) = (↑g' : Int) ∧ (↑g : Int) = (↑g : Int) ∧ t = t ∧ w = w ∧ List.set (List.set (fillTo (0 : Int) q0 (fun (i : Nat) => swTo q0 q1 t w i q2) g) g q3) g (List.getD (List.set (fillTo (0 : Int) q0 (fun (i : Nat) => swTo q0 q1 t w i q2) g) g q3) g (0 : Int) + List.getD t g_1 (0 : Int) * List.getD (sixs l) (Int.toNat q4) (0 : Int)) = List.set (fillTo (0 : Int) q0 (fun (i : Nat) => swTo q0 q1 t w i q2) g) g (swTo q0 q1 t w g g') ∧ sixs l = sixs l ∧ True) (fits IntKind.i64 ((↑g_1 : Int) + (1 : Int)) ∧ ∃ (g' : Nat), Nat.le g' q2 ∧ List.length t - g' < List.length t - g_1 ∧ (↑g_1 : Int) + (1 : Int) = (↑g' : Int) ∧ (↑g : Int) = (↑g : Int) ∧ t = t ∧ w = w ∧ List.set (fillTo (0 : Int) q0 (fun (i : Nat) => swTo q0 q1 t w i q2) g) g q3 = List.set (fillTo (0 : Int) q0 (fun (i : Nat) => swTo q0 q1 t w i q2) g) g (swTo q0 q1 t w g g') ∧ sixs l = sixs l ∧ True)) (fits IntKind.i64 ((↑g : Int) + (1 : Int)) ∧ ∃ (g' : Nat), Nat.le g' q0 ∧ List.length (sixs l) - g' < List.length (sixs l) - g ∧ (↑g : Int) + (1 : Int) = (↑g' : Int) ∧ t = t ∧ w = w ∧ List.set (fillTo (0 : Int) q0 (fun (i : Nat) => swTo q0 q1 t w i q2) g) g q3 = fillTo (0 : Int) q0 (fun (i : Nat) => swTo q0 q1 t w i q2) g' ∧ sixs l = sixs l ∧ True)) (List.length (fillTo (0 : Int) q0 (fun (i : Nat) => swTo q0 q1 t w i q2) g) ≤ (1000000 : Nat) ∧ smpsN (fillTo (0 : Int) q0 (fun (i : Nat) => swTo q0 q1 t w i q2) g) = smpsN (fltI (sixs l) t w) ∧ lgE (fillTo (0 : Int) q0 (fun (i : Nat) => swTo q0 q1 t w i q2) g) = lgE (fltI (sixs l) t w) ∧ True)) := by
  kernel_rfl
theorem vc73 (l : List Int) : exF (env false [] []) h0 0 73 Proofs.Tryz.f73 [.one (.sl (.int .i64) l)] (.val (.one (.frs (.int .i64) l))) = (room ((0 : Nat) + List.length l) (8 : Nat) ∧ l = l ∧ True) := by
  kernel_rfl
end Go.Sx

/- Contracts. -/
namespace Go.Sx
open U
theorem fn146 (n : Int)  : Fn P1 gl1 146 [iV n] (.val (iV (within n (-1000) 1000))) true := by
  refine Fn.flat ?_ rfl
  refine fn_of false [(96, sp96)] [] h0 0 Proofs.Tryz.f146 ⟨so96, trivial⟩ trivial (by kernel_rfl) rfl (by kernel_rfl) rfl rfl rfl ?_
  rw [vc146]
  try simp only [splitB_iff, -eq_self]
  exact ⟨rfl, trivial⟩
theorem so146_ : SpecOk P1 gl1 146 sp146 := by
  intro vs ps r h _
  simp only [sp146] at h
  split at h
  · cases h; exact fn146 _ 
  · cases h
theorem so146 : Sp1 146 sp146 := ⟨so146_, Proofs.Tryz.f146, _, by kernel_rfl, rfl, by kernel_rfl⟩
theorem fn145 (l : List Int) (hl : l.length ≤ 1000000) : Fn P1 gl1 145 [.one (.sl (.int .i64) l), .one (.fn 146 [] [])] (.val (.one (.frs (.int .i64) (l.map fun n => within n (-1000) 1000)))) true := by
  refine Fn.flat ?_ rfl
  refine fn_of false [(146, sp146)] [] h79 0 Proofs.Tryz.f145 ⟨so146, trivial⟩ trivial (by kernel_rfl) rfl (by kernel_rfl) rfl rfl rfl ?_
  rw [vc145]
  try simp only [splitB_iff, -eq_self]
  refine ⟨⟨0, Nat.zero_le _, rfl, rfl, rfl, by simp⟩, fun g hg => ⟨fun hlt => ?_, fun hge => ?_⟩⟩
  · have hlt' : g < l.length := by simpa using hlt
    refine ⟨by omega, by simp only [room, List.length_map, List.length_take]; omega, by simp only [fits]; omega, g + 1, hlt', by omega, by simp, rfl, rfl, ?_, trivial⟩
    rw [getD_of hlt', List.take_succ_eq_append_getElem hlt', List.map_append]
    rfl
  · have hge' : ¬ g < l.length := by simpa using hge
    rw [List.take_of_length_le (by omega)]
    exact ⟨rfl, trivial⟩
theorem so145_ : SpecOk P1 gl1 145 sp145 := by
  intro vs ps r h hp
  simp only [sp145] at h
  split at h
  · cases h; exact fn145 _ (hp _ (.head _))
  · cases h
theorem so145 : Sp1 145 sp145 := ⟨so145_, Proofs.Tryz.f145, _, by kernel_rfl, rfl, by kernel_rfl⟩
theorem fn79 (t : List Int)  : Fn P1 gl1 79 [.one (.sl (.int .i64) t)] (.val (iV (chkTap t))) true := by
  refine Fn.flat ?_ rfl
  refine fn_of false [(104, sp104), (95, sp95), (145, sp145)] [] h0 0 Proofs.Tryz.f79 ⟨so104, so95, so145, trivial⟩ trivial (by kernel_rfl) rfl (by kernel_rfl) rfl rfl rfl ?_
  rw [vc79]
  try simp only [splitB_iff, -eq_self]
  unfold chkTap
  by_cases h1 : t.length = 0
  · have e : (t.length : Int) = 0 := by omega
    simp [h1, whenE, first]
  · have e : ¬ (t.length : Int) = 0 := by omega
    by_cases h2 : 8 < t.length
    · have e2 : (8 : Int) < (t.length : Int) := by omega
      have e3 : ¬ t = [] := fun k => h1 (by rw [k]; rfl)
      simp [h2, e2, e3, whenE, first]
    · have e2 : ¬ (8 : Int) < (t.length : Int) := by omega
      have e3 : ¬ t = [] := fun k => h1 (by rw [k]; rfl)
      simp [h2, e2, e3, whenE, first]; omega
theorem so79_ : SpecOk P1 gl1 79 sp79 := by
  intro vs ps r h _
  simp only [sp79] at h
  split at h
  · cases h; exact fn79 _ 
  · cases h
theorem so79 : Sp1 79 sp79 := ⟨so79_, Proofs.Tryz.f79, _, by kernel_rfl, rfl, by kernel_rfl⟩
theorem fn76 (t : List Int)  : Fn P1 gl1 76 [.one (.sl (.int .i64) t)] (.val (iV (chkTap t))) true := by
  refine Fn.flat ?_ rfl
  refine fn_of false [(24, sp24)] [] h79 0 Proofs.Tryz.f76 ⟨so24, trivial⟩ trivial (by kernel_rfl) rfl (by kernel_rfl) rfl rfl rfl ?_
  rw [vc76]
  try simp only [splitB_iff, -eq_self]
  unfold chkTap
  refine ⟨fun h => ?_, fun h => ⟨fun h2 => ?_, fun h2 => ⟨⟨0, ⟨by omega, rfl⟩, rfl, rfl, trivial⟩, fun g hg => ⟨fun hlt => ?_, fun hge => ?_⟩⟩⟩⟩
  · have h : (t.length : Int) = 0 := by simpa using h
    rw [if_pos (by omega)]
    exact ⟨rfl, trivial⟩
  · have h : ¬ (t.length : Int) = 0 := by simpa using h
    have h2 : (8 : Int) < (t.length : Int) := of_decide_eq_true h2
    rw [if_neg (by omega), if_pos (by omega)]
    exact ⟨rfl, trivial⟩
  · have h : ¬ (t.length : Int) = 0 := by simpa using h
    have h2 : ¬ (8 : Int) < (t.length : Int) := of_decide_eq_false h2
    have hlt : g < t.length := by simpa using hlt
    have e : first (List.drop g (t.map fun n => within n (-1000) 1000)) = if within (List.getD t g 0) (-1000) 1000 = 0 then first (List.drop (g + 1) (t.map fun n => within n (-1000) 1000)) else within (List.getD t g 0) (-1000) 1000 := by
      rw [first_drop _ _ (by simpa using hlt), List.getElem_map, getD_of hlt]
    rw [if_neg (by omega), if_neg (by omega)]
    refine ⟨by omega, fun h => ⟨?_, trivial⟩, fun h => ⟨by simp only [fits]; omega, g + 1, ⟨by omega, ?_⟩, by omega, by simp, rfl, trivial⟩⟩
    · rw [hg.2, e, if_neg (by simpa using h)]
    · rw [hg.2, e, if_pos (by simpa using h)]
  · have h : ¬ (t.length : Int) = 0 := by simpa using h
    have h2 : ¬ (8 : Int) < (t.length : Int) := of_decide_eq_false h2
    have hge : ¬ g < t.length := by simpa using hge
    rw [if_neg (by omega), if_neg (by omega), hg.2, List.drop_of_length_le (by rw [List.length_map]; omega)]
    exact ⟨rfl, trivial⟩
theorem so76_ : SpecOk P1 gl1 76 sp76 := by
  intro vs ps r h _
  simp only [sp76] at h
  split at h
  · cases h; exact fn76 _ 
  · cases h
theorem so76 : Sp1 76 sp76 := ⟨so76_, Proofs.Tryz.f76, _, by kernel_rfl, rfl, by kernel_rfl⟩
theorem fn72 (t : List Int)  : Fn P1 gl1 72 [.one (.sl (.int .i64) t)] (.tup [.agg [.arr 4 (.cpx .f64) (resN t)], iV (chkTap t)]) true := by
  refine Fn.flat ?_ rfl
  refine fn_of false [(79, sp79), (109, sp109)] [] h79 0 Proofs.Tryz.f72 ⟨so79, so109, trivial⟩ trivial (by kernel_rfl) rfl (by kernel_rfl) rfl rfl rfl ?_
  rw [vc72]
  try simp only [splitB_iff, -eq_self]
  simp only [tab_get (show 0 < 4 by decide), tab_get (show 1 < 4 by decide), tab_get (show 2 < 4 by decide), tab_get (show 3 < 4 by decide), -eq_self]
  unfold resN
  refine ⟨fun h => ?_, fun h => ?_⟩
  · have h := bneZ.1 h
    rw [if_neg h]
    exact ⟨rfl, rfl, trivial⟩
  · have h := bneF.1 h
    obtain ⟨h1, h2, h3⟩ := chkTap_zero.1 h
    rw [if_pos h]
    simp only [fits, -eq_self]
    exact ⟨by omega, bd_le h3 (by omega), by omega, by omega, by omega, by omega, by omega, by omega, by omega, by omega, by omega, by omega, by omega, by omega, by omega, by omega, by omega, by omega, rfl, h.symm, trivial⟩
theorem so72_ : SpecOk P1 gl1 72 sp72 := by
  intro vs ps r h _
  simp only [sp72] at h
  split at h
  · cases h; exact fn72 _ 
  · cases h
theorem so72 : Sp1 72 sp72 := ⟨so72_, Proofs.Tryz.f72, _, by kernel_rfl, rfl, by kernel_rfl⟩
theorem fn142 (l : List Nat) (t : List Int) (w : Int) (hw : w = 1 ∨ w = -1) : Fn P1 gl1 142 [.one (.sl (.flt .f32) l), .one (.sl (.int .i64) t), iV w] (.tup [.one (.frs (.flt .f32) (fltN l t w)), iV (fltE l t w)]) true := by
  refine Fn.flat ?_ rfl
  refine fn_of false [(41, sp41), (79, sp79), (95, sp95), (108, sp108), (138, sp138)] [fb178, fb179] h142 3 Proofs.Tryz.f142 ⟨so41, so79, so95, so108, so138, trivial⟩ ⟨⟨by kernel_rfl, by kernel_rfl, _, rfl, by kernel_rfl⟩, ⟨by kernel_rfl, by kernel_rfl, _, rfl, by kernel_rfl⟩, trivial⟩ (by kernel_rfl) rfl (by kernel_rfl) rfl rfl rfl ?_
  rw [vc142]
  try simp only [splitB_iff, -eq_self]
  refine ⟨by decide, fun h => ?_, fun h => ?_⟩
  · have h : ¬ fltB l t = 0 := bneZ.1 h
    unfold fltN fltE
    rw [if_neg h, if_neg h]
    exact ⟨rfl, rfl, trivial⟩
  · have h : fltB l t = 0 := bneF.1 h
    have hz := first_zero.1 h
    obtain ⟨k1, k2, k3⟩ := chkSig_zero.1 (hz _ (.head _))
    obtain ⟨t1, t2, t3⟩ := chkTap_zero.1 (hz _ (.tail _ (.head _)))
    have hb := bd_sixs k3
    unfold fltN fltE fltI
    rw [if_pos h, if_pos h]
    simp only [sixs_len, fits, room, tab_len, -eq_self]
    refine ⟨by omega, k3, ⟨0, Nat.zero_le _, rfl, rfl, rfl, rfl, rfl, rfl, rfl, rfl, trivial⟩, fun g hg => ⟨fun hlt => ⟨⟨0, Nat.zero_le _, rfl, rfl, rfl, rfl, rfl, rfl, rfl, rfl, rfl, rfl, rfl, rfl, rfl, trivial⟩, fun j hj => ⟨fun hlt2 => ?_, fun hge2 => ?_⟩⟩, fun hge => ?_⟩⟩
    · have hlt : g < l.length := by simpa using hlt
      have hlt2 : j < t.length := by simpa using hlt2
      have hwj : -(j : Int) ≤ w * (j : Int) ∧ w * (j : Int) ≤ (j : Int) := by rcases hw with e | e <;> rw [e] <;> omega
      have hp := mul_bd (bd_get t3 (i := j) (by omega)) (bd_get hb (i := Int.toNat ((g : Int) - w * (j : Int))) (by omega))
      have hs := swTo_bd (n := l.length) (w := w) (by omega) (lat_bd hb (by omega)) t3 g j
      refine ⟨by omega, by omega, by omega, fun k => ?_, fun k => ?_⟩
      · rw [bcond_r, Bool.and_eq_true] at k
        have k4 := of_decide_eq_true k.1
        have k5 := of_decide_eq_true k.2
        refine ⟨by omega, by omega, by omega, by omega, by omega, j + 1, hlt2, by omega, by simp, ?_, rfl, rfl, rfl, rfl, rfl, rfl, rfl, rfl, rfl, rfl, rfl, trivial⟩
        show _ = if _ then _ else _
        rw [if_pos ⟨k4, k5⟩]
        rfl
      · rw [bcond_r, Bool.and_eq_false_iff] at k
        have k4 : ¬ (0 ≤ (g : Int) - w * (j : Int) ∧ (g : Int) - w * (j : Int) < (l.length : Int)) := by
          rintro ⟨a1, a2⟩
          rcases k with k | k
          · exact of_decide_eq_false k a1
          · exact of_decide_eq_false k a2
        refine ⟨by omega, j + 1, hlt2, by omega, by simp, ?_, rfl, rfl, rfl, rfl, rfl, rfl, rfl, rfl, rfl, rfl, rfl, trivial⟩
        show _ = if _ then _ else _
        rw [if_neg k4]
    · have hlt : g < l.length := by simpa using hlt
      have hj : j ≤ t.length := hj
      have hge2 : ¬ j < t.length := by simpa using hge2
      have e : j = t.length := by omega
      subst e
      exact ⟨by omega, by omega, g + 1, hlt, by omega, by simp, rfl, rfl, rfl, rfl, (tab_succ _ _).symm, rfl, rfl, trivial⟩
    · have hg : g ≤ l.length := hg
      have hge : ¬ g < l.length := by simpa using hge
      have e : g = l.length := by omega
      subst e
      exact ⟨by omega, rfl, rfl, trivial⟩
theorem so142_ : SpecOk P1 gl1 142 sp142 := by
  intro vs ps r h hp
  simp only [sp142] at h
  split at h
  · cases h; exact fn142 _ _ _ (hp _ (.head _))
  · cases h
theorem so142 : Sp1 142 sp142 := ⟨so142_, Proofs.Tryz.f142, _, by kernel_rfl, rfl, by kernel_rfl⟩
theorem fn74 (l : List Nat) (t : List Int)  : Fn P1 gl1 74 [.one (.sl (.flt .f32) l), .one (.sl (.int .i64) t)] (.tup [.one (.frs (.flt .f32) (fltN l t 1)), iV (fltE l t 1)]) true := by
  refine Fn.flat ?_ rfl
  refine fn_of false [(142, sp142)] [] h0 0 Proofs.Tryz.f74 ⟨so142, trivial⟩ trivial (by kernel_rfl) rfl (by kernel_rfl) rfl rfl rfl ?_
  rw [vc74]
  try simp only [splitB_iff, -eq_self]
  exact ⟨.inl rfl, rfl, rfl, trivial⟩
theorem so74_ : SpecOk P1 gl1 74 sp74 := by
  intro vs ps r h _
  simp only [sp74] at h
  split at h
  · cases h; exact fn74 _ _ 
  · cases h
theorem so74 : Sp1 74 sp74 := ⟨so74_, Proofs.Tryz.f74, _, by kernel_rfl, rfl, by kernel_rfl⟩
theorem fn75 (l : List Nat) (t : List Int)  : Fn P1 gl1 75 [.one (.sl (.flt .f32) l), .one (.sl (.int .i64) t)] (.tup [.one (.frs (.flt .f32) (fltN l t (-1))), iV (fltE l t (-1))]) true := by
  refine Fn.flat ?_ rfl
  refine fn_of false [(142, sp142)] [] h0 0 Proofs.Tryz.f75 ⟨so142, trivial⟩ trivial (by kernel_rfl) rfl (by kernel_rfl) rfl rfl rfl ?_
  rw [vc75]
  try simp only [splitB_iff, -eq_self]
  exact ⟨.inr rfl, rfl, rfl, trivial⟩
theorem so75_ : SpecOk P1 gl1 75 sp75 := by
  intro vs ps r h _
  simp only [sp75] at h
  split at h
  · cases h; exact fn75 _ _ 
  · cases h
theorem so75 : Sp1 75 sp75 := ⟨so75_, Proofs.Tryz.f75, _, by kernel_rfl, rfl, by kernel_rfl⟩
theorem fn78 (l : List Nat) (t : List Int) (w : Int) (hw : w = 1 ∨ w = -1) (h : fltB l t = 0) : Fn P1 gl1 78 [.one (.sl (.flt .f32) l), .one (.sl (.int .i64) t), iV w] (.tup [.one (.frs (.flt .f32) (smpsN (fltI (sixs l) t w))), iV (lgE (fltI (sixs l) t w))]) true := by
  refine Fn.flat ?_ rfl
  refine fn_of false [(100, sp100), (102, sp102)] [] h142 0 Proofs.Tryz.f78 ⟨so100, so102, trivial⟩ trivial (by kernel_rfl) rfl (by kernel_rfl) rfl rfl rfl ?_
  rw [vc78]
  try simp only [splitB_iff, -eq_self]
  have hz := first_zero.1 h
  obtain ⟨k1, k2, k3⟩ := chkSig_zero.1 (hz _ (.head _))
  obtain ⟨t1, t2, t3⟩ := chkTap_zero.1 (hz _ (.tail _ (.head _)))
  have hb := bd_sixs k3
  unfold fltI
  simp only [sixs_len, fits, room, fillTo_len, List.length_set, -eq_self]
  refine ⟨by omega, k3, by omega, by omega, ⟨0, Nat.zero_le _, rfl, rfl, rfl, (fillTo_zero _ _ _).symm, rfl, trivial⟩, fun g hg => ⟨fun hlt => ⟨⟨0, Nat.zero_le _, rfl, rfl, rfl, rfl, ?_, rfl, trivial⟩, fun j hj => ⟨fun hlt2 => ?_, fun hge2 => ?_⟩⟩, fun hge => ?_⟩⟩
  · have hlt : g < l.length := by simpa using hlt
    unfold fillTo
    rw [tab_set]
    refine tab_ext fun q _ => ?_
    by_cases e : q = g
    · subst e; rw [if_pos rfl, if_neg (by omega)]; rfl
    · rw [if_neg e]
  · have hlt : g < l.length := by simpa using hlt
    have hlt2 : j < t.length := by simpa using hlt2
    have hwj : -(j : Int) ≤ w * (j : Int) ∧ w * (j : Int) ≤ (j : Int) := by rcases hw with e | e <;> rw [e] <;> omega
    have hp := mul_bd (bd_get t3 (i := j) (by omega)) (bd_get hb (i := Int.toNat ((g : Int) - w * (j : Int))) (by omega))
    have hs := swTo_bd (n := l.length) (w := w) (by omega) (lat_bd hb (by omega)) t3 g j
    have hgs : ∀ (f : Nat → Int) (v : Int), List.getD (List.set (fillTo 0 l.length f g) g v) g 0 = v := fun f v => by
      unfold fillTo
      rw [tab_set, tab_get hlt, if_pos rfl]
    have hss : ∀ (f : Nat → Int) (v v' : Int), List.set (List.set (fillTo 0 l.length f g) g v) g v' = List.set (fillTo 0 l.length f g) g v' := fun f v v' => by
      rw [List.set_set]
    rw [hgs, hss]
    refine ⟨by omega, by omega, fun k => ?_, fun k => ?_⟩
    · rw [bcond_r, Bool.and_eq_true] at k
      have k4 := of_decide_eq_true k.1
      have k5 := of_decide_eq_true k.2
      refine ⟨by omega, by omega, by omega, by omega, by omega, by omega, by omega, by omega, by omega, by omega, j + 1, hlt2, by omega, by simp, rfl, rfl, rfl, ?_, rfl, trivial⟩
      congr 1
      show _ = if _ then _ else _
      rw [if_pos ⟨k4, k5⟩]
      rfl
    · rw [bcond_r, Bool.and_eq_false_iff] at k
      have k4 : ¬ (0 ≤ (g : Int) - w * (j : Int) ∧ (g : Int) - w * (j : Int) < (l.length : Int)) := by
        rintro ⟨a1, a2⟩
        rcases k with k | k
        · exact of_decide_eq_false k a1
        · exact of_decide_eq_false k a2
      refine ⟨by omega, j + 1, hlt2, by omega, by simp, rfl, rfl, rfl, ?_, rfl, trivial⟩
      congr 1
      show _ = if _ then _ else _
      rw [if_neg k4]
  · have hlt : g < l.length := by simpa using hlt
    have hj : j ≤ t.length := hj
    have hge2 : ¬ j < t.length := by simpa using hge2
    have e : j = t.length := by omega
    subst e
    exact ⟨by omega, g + 1, hlt, by omega, by simp, rfl, rfl, fillTo_set _ _ _ _, rfl, trivial⟩
  · have hge : ¬ g < l.length := by simpa using hge
    rw [fillTo_all _ _ _ _ (by omega)]
    exact ⟨by omega, rfl, rfl, trivial⟩
theorem so78_ : SpecOk P1 gl1 78 sp78 := by
  intro vs ps r h hp
  simp only [sp78] at h
  split at h
  · cases h; exact fn78 _ _ _ (hp _ (.head _)) (hp _ (.tail _ (.head _)))
  · cases h
theorem so78 : Sp1 78 sp78 := ⟨so78_, Proofs.Tryz.f78, _, by kernel_rfl, rfl, by kernel_rfl⟩
theorem fn73 (l : List Int) (hl : l.length ≤ 1000000) : Fn P1 gl1 73 [.one (.sl (.int .i64) l)] (.val (.one (.frs (.int .i64) l))) true := by
  refine Fn.flat ?_ rfl
  refine fn_of false [] [] h0 0 Proofs.Tryz.f73 trivial trivial (by kernel_rfl) rfl (by kernel_rfl) rfl rfl rfl ?_
  rw [vc73]
  try simp only [splitB_iff, -eq_self]
  exact ⟨by simp only [room]; omega, rfl, trivial⟩
theorem so73_ : SpecOk P1 gl1 73 sp73 := by
  intro vs ps r h hp
  simp only [sp73] at h
  split at h
  · cases h; exact fn73 _ (hp _ (.head _))
  · cases h
theorem so73 : Sp1 73 sp73 := ⟨so73_, Proofs.Tryz.f73, _, by kernel_rfl, rfl, by kernel_rfl⟩
end Go.Sx

/- Contracts of strconv.Itoa and strings.Join, out of the kit's shelf, as the engine uses them. -/
namespace Go.Sx
open Go.Proofs Go.RowKit Go.Shelf Go.Lib
theorem arr_tab {H : IH} {k : IntKind} {n : Nat} {zs : List Int} {c : Array Value} (h : Rd H (.arr n (.int k)) zs (seg c 0 (Ty.arr n (.int k)).sz)) (hs : c.size = (Ty.arr n (.int k)).sz) : c = (zs.map fun z => Value.int k z).toArray := by
  obtain ⟨h1, _, h3⟩ := h
  have hz : c.size = zs.length := by rw [hs, show zs.length = n from h1]; simp [Ty.sz]
  apply Array.ext
  · simp [hz]
  · intro i hi hi'
    have hiz : i < zs.length := by omega
    have h4 : ((seg c 0 (Ty.arr n (.int k)).sz).drop (i * (Ty.int k).sz)).take (Ty.int k).sz = [Value.int k zs[i]] := h3 i hiz
    rw [seg_seg (by rw [← hs]; simp [Ty.sz]; omega)] at h4
    have h5 := seg_get (c := c) (o := 0 + i * (Ty.int k).sz) (n := (Ty.int k).sz) (j := 0) (v := Value.int k zs[i]) (by rw [h4]; rfl)
    have e : 0 + i * (Ty.int k).sz + 0 = i := by simp [Ty.sz]
    rw [e, Array.getElem?_eq_getElem hi] at h5
    rw [Option.some.inj h5]
    simp
theorem fn_str {P : Program} {f : FuncId} {w : World} {args : Array Value} {l : List UInt8}
    (h : Calls P f args w fun e w' => e = .returned (.string ⟨l.toArray⟩) ∧ Below w.heap.size w w') :
    Calls P f args w fun e w' => ∃ v H', e = .returned v ∧ Below w.heap.size w w' ∧ Agree H' w' ∧ (∀ b, b < w.heap.size → H' b = if true then none else (fun _ => none : IH) b) ∧ DenRSV w' w.heap.size H' (.val (.one (.str l))) v :=
  h.mono fun _ _ ⟨he, hb⟩ => ⟨_, fun _ => none, he, hb, fun _ _ h => (by cases h), fun _ _ => rfl, rfl, rfl⟩
theorem itoa_fn {P : Program} {ρ : Ren} (L : LaysM.n171 P ρ) {gl : Nat → Option ((t : Ty) × t.T)} {g : Nat} (hg : P.globalNamed "internal/strconv.uint64pow10" = some g)
    (hgl : gl g = some ⟨.arr 20 (.int .u64), Lib.pow10Tab⟩) (n : Int) (hn : fits .i64 n) : Fn P gl (ρ.f 171) [.one (.int .i64 n)] (.val (.one (.str (Lib.itoa n)))) true := by
  intro w H vs hA hG hD
  obtain ⟨v, r, rfl, hv, hr⟩ := hD
  obtain rfl : r = [] := hr
  obtain rfl : v = .int .i64 n := hv
  obtain ⟨c, e, fr, h1, h2, h3⟩ := hG g _ hgl
  have ht : Lib.TabIs P w "internal/strconv.uint64pow10" .u64 Lib.pow10Tab := by
    unfold Lib.TabIs World.var?
    rw [hg]
    simp only [Option.bind_some, hA g _ h1]
    rw [arr_tab h2 h3]
  refine fn_str ((Any.strconv_Itoa L n (by simp only [fits] at hn; omega) (by simp only [fits] at hn; omega) w ht).mono fun e w' ⟨he, k, os, hw⟩ => ⟨he, ?_⟩)
  rw [hw]
  exact below_grow _ _ (Nat.le_refl _) _ _
theorem join_fn {P : Program} {ρ : Ren} (L : Lays.n156 P ρ) (X : Builder.Extra P ρ) {gl : Nat → Option ((t : Ty) × t.T)} (xs : List (List UInt8)) (sep : List UInt8) (h1 : xs.length ≤ 1000000)
    (h2 : (Lib.join xs sep).length ≤ 140737488355328) : Fn P gl (ρ.f 156) [.one (.sl .str xs), .one (.str sep)] (.val (.one (.str (Lib.join xs sep)))) true := by
  intro w H vs hA hG hD
  obtain ⟨v, r, rfl, hv, v2, r2, rfl, hv2, hr⟩ := hD
  obtain rfl : r2 = [] := hr
  obtain rfl : v2 = .string ⟨⟨sep⟩⟩ := hv2
  obtain ⟨a, cap, hc, hcap, hx⟩ := (show Rd H (.sl .str) xs [v] from hv)
  obtain rfl : v = .slice a (List.length xs) cap := by simpa using hc
  refine fn_str ?_
  rcases hx with h0 | ⟨b, off, c, e, fr, rfl, hb, hr⟩
  · obtain rfl : xs = [] := List.length_eq_zero_iff.1 h0
    exact (Any.strings_Join_none L X a cap _ w).mono fun e w' ⟨he, hw⟩ => ⟨by rw [he]; rfl, hw ▸ Below.refl _ _⟩
  · have hbw := hA b _ hb
    have hbs : b < w.heap.size := by
      rcases Nat.lt_or_ge b w.heap.size with h | h
      · exact h
      · rw [Array.getElem?_eq_none h] at hbw; cases hbw
    have e1 : ((xs.map fun x => (⟨⟨x⟩⟩ : ByteArray)).map (·.data.toList)) = xs := by simp [List.map_map, Function.comp_def]
    have := Any.strings_Join L X b off cap (xs.map fun x => (⟨⟨x⟩⟩ : ByteArray)) ⟨⟨sep⟩⟩ w (fun j x hj => ?_) hbs (by simp only [List.length_map]; omega) (by simpa using hcap) (by rw [e1]; exact h2)
    · rw [e1, List.length_map] at this
      exact this
    · rw [List.getElem?_map] at hj
      obtain ⟨y, hy, rfl⟩ := Option.map_eq_some_iff.1 hj
      obtain ⟨hlt, hyj⟩ := List.getElem?_eq_some_iff.1 hy
      have h4 : seg c (off + j * Ty.str.sz) Ty.str.sz = [.string ⟨⟨xs[j]⟩⟩] := hr j hlt
      have h5 := cell_seg (w := w) hbw (o := off + j * Ty.str.sz) (n := Ty.str.sz) 0 (.string ⟨⟨xs[j]⟩⟩) (by rw [h4]; rfl)
      rw [← hyj]
      have e2 : off + j * Ty.str.sz = off + j := by simp [Ty.sz]
      rw [e2] at h5
      exact h5
end Go.Sx

/- Structures of the shelf at this program, in plain words. -/
namespace Go.Proofs
open Go.Shelf
def Tryz.lays156_ren : Go.Shelf.Ren := ⟨fun | 156 => 152 | 165 => 185 | 166 => 186 | 169 => 187 | 240 => 203 | 241 => 204 | 276 => 221 | 277 => 222 | n => n, fun | 31 => 155 | 9 => 9 | 3 => 3 | 4 => 4 | 0 => 0 | 20 => 20 | 72 => 250 | 76 => 254 | 70 => 247 | 37 => 248 | 75 => 253 | 127 => 266 | 164 => 281 | 5 => 5 | 80 => 256 | n => n, fun | n => n⟩
theorem Tryz.lays156 : Go.Proofs.Lays.n156 Tryz.prog Tryz.lays156_ren := {
  mixed := by kernel_rfl
  f156 := Tryz.func152.trans (congrArg some (by kernel_rfl))
  f165 := Tryz.func185.trans (congrArg some (by kernel_rfl))
  f166 := Tryz.func186.trans (congrArg some (by kernel_rfl))
  f169 := Tryz.func187.trans (congrArg some (by kernel_rfl))
  f240 := Tryz.func203.trans (congrArg some (by kernel_rfl))
  f241 := Tryz.func204.trans (congrArg some (by kernel_rfl))
  f276 := Tryz.func221.trans (congrArg some (by kernel_rfl))
  f277 := Tryz.func222.trans (congrArg some (by kernel_rfl))
  t0 := Tryz.underlying0
  a0 := Tryz.isAgg0
  z0 := Tryz.sizeOf0
  v0 := Tryz.zeroValue0
  t3 := Tryz.underlying3
  a3 := Tryz.isAgg3
  z3 := Tryz.sizeOf3
  v3 := Tryz.zeroValue3
  t4 := Tryz.underlying4
  a4 := Tryz.isAgg4
  z4 := Tryz.sizeOf4
  v4 := Tryz.zeroValue4
  t9 := Tryz.underlying9
  a9 := Tryz.isAgg9
  z9 := Tryz.sizeOf9
  v9 := Tryz.zeroValue9
  t20 := Tryz.underlying20
  a20 := Tryz.isAgg20
  z20 := Tryz.sizeOf20
  v20 := Tryz.zeroValue20
  t31 := Tryz.underlying155
  a31 := Tryz.isAgg155
  z31 := Tryz.sizeOf155
  v31 := Tryz.zeroValue155
  t37 := Tryz.underlying248
  a37 := Tryz.isAgg248
  z37 := Tryz.sizeOf248
  v37 := Tryz.zeroValue248
  t70 := Tryz.underlying247
  a70 := Tryz.isAgg247
  z70 := Tryz.sizeOf247
  v70 := Tryz.zeroValue247
  t72 := Tryz.underlying250
  a72 := Tryz.isAgg250
  z72 := Tryz.sizeOf250
  v72 := Tryz.zeroValue250
  t75 := Tryz.underlying253
  a75 := Tryz.isAgg253
  z75 := Tryz.sizeOf253
  v75 := Tryz.zeroValue253
  t76 := Tryz.underlying254
  a76 := Tryz.isAgg254
  z76 := Tryz.sizeOf254
  v76 := Tryz.zeroValue254
  t127 := Tryz.underlying266
  a127 := Tryz.isAgg266
  z127 := Tryz.sizeOf266
  v127 := Tryz.zeroValue266
  t164 := Tryz.underlying281
  a164 := Tryz.isAgg281
  z164 := Tryz.sizeOf281
  v164 := Tryz.zeroValue281 }
theorem Tryz.Builder_Extra_156 : Builder.Extra Tryz.prog Tryz.lays156_ren := {
  sizeBuilder := by kernel_rfl
  liesBuilder := by kernel_rfl
  t5 := Tryz.underlying5
  a5 := Tryz.isAgg5
  z5 := Tryz.sizeOf5
  v5 := Tryz.zeroValue5
  infoByte := by kernel_rfl
  cellsByte := by kernel_rfl
  sizeByte := by kernel_rfl
  neB5 := by decide }
def Tryz.laysM171_ren : Go.Shelf.Ren := ⟨fun | 171 => 151 | 243 => 184 | 246 => 202 | 283 => 217 | 284 => 218 | 285 => 219 | 286 => 220 | 129 => 238 | 317 => 237 | 318 => 239 | 319 => 240 | 320 => 241 | 337 => 251 | 338 => 252 | n => n, fun | 3 => 3 | 9 => 9 | 2 => 2 | 4 => 4 | 171 => 276 | 0 => 0 | 53 => 272 | 37 => 248 | 5 => 5 | 173 => 279 | 212 => 296 | 51 => 297 | 20 => 20 | 213 => 298 | 46 => 299 | 232 => 318 | 233 => 319 | n => n, fun | 17 => 2 | 18 => 8 | 19 => 9 | n => n⟩
theorem Tryz.laysM171 : Go.Proofs.LaysM.n171 Tryz.prog Tryz.laysM171_ren := {
  mixed := by kernel_rfl
  f129 := Tryz.func238.trans (congrArg some (by kernel_rfl))
  f171 := Tryz.func151.trans (congrArg some (by kernel_rfl))
  f243 := Tryz.func184.trans (congrArg some (by kernel_rfl))
  f246 := Tryz.func202.trans (congrArg some (by kernel_rfl))
  f283 := Tryz.func217.trans (congrArg some (by kernel_rfl))
  f284 := Tryz.func218.trans (congrArg some (by kernel_rfl))
  f285 := Tryz.func219.trans (congrArg some (by kernel_rfl))
  f286 := Tryz.func220.trans (congrArg some (by kernel_rfl))
  f317 := Tryz.func237.trans (congrArg some (by kernel_rfl))
  f318 := Tryz.func239.trans (congrArg some (by kernel_rfl))
  f319 := Tryz.func240.trans (congrArg some (by kernel_rfl))
  f320 := Tryz.func241.trans (congrArg some (by kernel_rfl))
  f337 := Tryz.func251.trans (congrArg some (by kernel_rfl))
  f338 := Tryz.func252.trans (congrArg some (by kernel_rfl))
  t0 := Tryz.underlying0
  a0 := Tryz.isAgg0
  z0 := Tryz.sizeOf0
  v0 := Tryz.zeroValue0
  t2 := Tryz.underlying2
  a2 := Tryz.isAgg2
  z2 := Tryz.sizeOf2
  v2 := Tryz.zeroValue2
  t3 := Tryz.underlying3
  a3 := Tryz.isAgg3
  z3 := Tryz.sizeOf3
  v3 := Tryz.zeroValue3
  t4 := Tryz.underlying4
  a4 := Tryz.isAgg4
  z4 := Tryz.sizeOf4
  v4 := Tryz.zeroValue4
  t5 := Tryz.underlying5
  a5 := Tryz.isAgg5
  z5 := Tryz.sizeOf5
  v5 := Tryz.zeroValue5
  t9 := Tryz.underlying9
  a9 := Tryz.isAgg9
  z9 := Tryz.sizeOf9
  v9 := Tryz.zeroValue9
  t20 := Tryz.underlying20
  a20 := Tryz.isAgg20
  z20 := Tryz.sizeOf20
  v20 := Tryz.zeroValue20
  t37 := Tryz.underlying248
  a37 := Tryz.isAgg248
  z37 := Tryz.sizeOf248
  v37 := Tryz.zeroValue248
  t46 := Tryz.underlying299
  a46 := Tryz.isAgg299
  z46 := Tryz.sizeOf299
  v46 := Tryz.zeroValue299
  t51 := Tryz.underlying297
  a51 := Tryz.isAgg297
  z51 := Tryz.sizeOf297
  v51 := Tryz.zeroValue297
  t53 := Tryz.underlying272
  a53 := Tryz.isAgg272
  z53 := Tryz.sizeOf272
  v53 := Tryz.zeroValue272
  t171 := Tryz.underlying276
  a171 := Tryz.isAgg276
  z171 := Tryz.sizeOf276
  v171 := Tryz.zeroValue276
  t173 := Tryz.underlying279
  a173 := Tryz.isAgg279
  z173 := Tryz.sizeOf279
  v173 := Tryz.zeroValue279
  t212 := Tryz.underlying296
  a212 := Tryz.isAgg296
  z212 := Tryz.sizeOf296
  v212 := Tryz.zeroValue296
  t213 := Tryz.underlying298
  a213 := Tryz.isAgg298
  z213 := Tryz.sizeOf298
  t232 := Tryz.underlying318
  a232 := Tryz.isAgg318
  z232 := Tryz.sizeOf318
  v232 := Tryz.zeroValue318
  t233 := Tryz.underlying319
  a233 := Tryz.isAgg319
  z233 := Tryz.sizeOf319
  v233 := Tryz.zeroValue319
  g17 := by kernel_rfl
  g18 := by kernel_rfl
  g19 := by kernel_rfl
  i0 := by kernel_rfl
  i2 := by kernel_rfl
  i3 := by kernel_rfl
  i4 := by kernel_rfl
  i5 := by kernel_rfl
  i9 := by kernel_rfl
  i20 := by kernel_rfl
  i37 := by kernel_rfl
  i46 := by kernel_rfl
  i51 := by kernel_rfl
  i53 := by kernel_rfl
  i171 := by kernel_rfl
  i173 := by kernel_rfl
  i212 := by kernel_rfl
  i232 := by kernel_rfl
  i233 := by kernel_rfl
  m17 := by kernel_rfl
  m18 := by kernel_rfl
  m19 := by kernel_rfl }
end Go.Proofs

/- The library's contracts in this seat. -/
namespace Go.Sx
theorem itoa1 (n : Int) (hn : fits .i64 n) : Fn P1 gl1 151 [iV n] (.val (sV (Lib.itoa n))) true :=
  itoa_fn Proofs.Tryz.laysM171 (g := 2) (by kernel_rfl) rfl n hn
theorem join1 (xs : List (List UInt8)) (sep : List UInt8) (h1 : xs.length ≤ 1000000) (h2 : (Lib.join xs sep).length ≤ 140737488355328) : Fn P1 gl1 152 [.one (.sl .str xs), sV sep] (.val (sV (Lib.join xs sep))) true :=
  join_fn Proofs.Tryz.lays156 Proofs.Tryz.Builder_Extra_156 xs sep h1 h2
end Go.Sx

/- Plain functions and hints. -/
namespace Go.Sx.U
def lineW (w : List UInt8) (l : List Nat) : List UInt8 := Lib.join (w :: (sixs l).map Lib.itoa) [32] ++ [10]
def prtN (y u v : List Nat) : List UInt8 := lineW [108, 117, 109, 97] y ++ lineW [117] u ++ lineW [118] v
def prN (y u v : List Nat) : List UInt8 := if chkPt y u v = 0 then prtN y u v else []
def fldM : List (Int × List UInt8 × Option Nat) := [(0, [108, 117, 109, 97], some 181), (1, [117], some 182), (2, [118], some 183)]
end Go.Sx.U
namespace Go.Sx
open U
abbrev fieldT : Ty := .pair .str .fnp
def h88 : Hints := ⟨fun f k s => match f, k with
  | 150, 3 => hMapG (.int .i64) .str Lib.itoa 8 10 5 [1, 9] s
  | _, _ => none, 4⟩
def sp151 : FSpec := ⟨fun vs => match vs with
  | [.one (.int .i64 n)] => some ([fits .i64 n], .val (.one (.str (Lib.itoa n))))
  | _ => none, true⟩
def sp152 : FSpec := ⟨fun vs => match vs with
  | [.one (.sl .str xs), .one (.str sep)] => some ([List.length xs ≤ 1000000, List.length (Lib.join xs sep) ≤ 140737488355328], .val (.one (.str (Lib.join xs sep))))
  | _ => none, true⟩
end Go.Sx
namespace Go.Sx
open U
def sp150 : FSpec := ⟨fun vs => match vs with
  | [.one (.sl (.int .i64) l), .one (.fn 151 [] [])] => some ([List.length l ≤ 1000000, Bd 1000000 l], .val (.one (.frs .str (List.map Lib.itoa l))))
  | _ => none, true⟩
def sp149 : FSpec := ⟨fun vs => match vs with
  | [] => some ([], .val (.one (.mp false true (.int .i64) fieldT fldM)))
  | _ => none, false⟩
def sp88 : FSpec := ⟨fun vs => match vs with
  | [.agg [.one (.sl (.flt .f32) y), .one (.sl (.flt .f32) u), .one (.sl (.flt .f32) v)]] => some ([List.length y ≤ 1000000000], .tup [sV (prN y u v), iV (chkPt y u v)])
  | _ => none, true⟩
end Go.Sx

/- What the engine asks, written out (printed by a program). -/
namespace Go.Sx
open U
theorem vc150 (l : List Int) : exF (env false [(151, sp151)] []) h88 0 150 Proofs.Tryz.f150 [.one (.sl (.int .i64) l), .one (.fn 151 [] [])] (.val (.one (.frs .str (l.map Lib.itoa)))) = (let q0 := (↑(List.length l) : Int); (∃ (g : Nat), Nat.le g (List.length l) ∧ (0 : Int) = (↑g : Int) ∧ q0 = q0 ∧ l = l ∧ List.map Lib.itoa (List.take g l) = [] ∧ True) ∧ ∀ (g : Nat), Nat.le g (List.length l) → splitB (decide ((↑g : Int) < q0)) (((0 : Int) ≤ (↑g : Int) ∧ (↑g : Int) < q0) ∧ fits IntKind.i64 (List.getD l g (0 : Int)) ∧ room (List.length (List.map Lib.itoa (List.take g l)) + (1 : Nat)) (16 : Nat) ∧ fits IntKind.i64 ((↑g : Int) + (1 : Int)) ∧ ∃ (g' : Nat), Nat.le g' (List.length l) ∧ List.length l - g' < List.length l - g ∧ (↑g : Int) + (1 : Int) = (↑g' : Int) ∧ q0 = q0 ∧ l = l ∧ List.map Lib.itoa (List.take g l) ++ [Lib.itoa (List.getD l g (0 : Int))] = List.map Lib.itoa (List.take g' l) ∧ True) (List.map Lib.itoa (List.take g l) = List.map Lib.itoa l ∧ True)) := by
  kernel_rfl
theorem vc149 (_u : Unit) : exF (env false [] []) h0 0 149 Proofs.Tryz.f149 [] (.val (.one (.mp false true (.int .i64) fieldT fldM))) = (mapPut (Ty.int IntKind.i64) (Ty.pair Ty.str Ty.fnp) (mapPut (Ty.int IntKind.i64) (Ty.pair Ty.str Ty.fnp) (mapPut (Ty.int IntKind.i64) (Ty.pair Ty.str Ty.fnp) [] (0 : Int) (Array.toList (ByteArray.data { data := #[(108 : UInt8), (117 : UInt8), (109 : UInt8), (97 : UInt8)] }), some (181 : Nat))) (1 : Int) (Array.toList (ByteArray.data { data := #[(117 : UInt8)] }), some (182 : Nat))) (2 : Int) (Array.toList (ByteArray.data { data := #[(118 : UInt8)] }), some (183 : Nat)) = fldM ∧ True) := by
  kernel_rfl
theorem vc88 (y u v : List Nat) : exF (env false [(26, sp26), (108, sp108), (150, sp150), (152, sp152), (149, sp149)] []) h88 0 88 Proofs.Tryz.f88 [ptV y u v] (.tup [sV (prN y u v), iV (chkPt y u v)]) = (let q2 := (Array.toList (ByteArray.data { data := #[(32 : UInt8)] })); let q4 := ([(Option.getD (mapGet (Ty.int IntKind.i64) (Ty.pair Ty.str Ty.fnp) fldM (0 : Int)) ([], none)).1] ++ List.map Lib.itoa (sixs y)); let q5 := (ByteArray.data { data := #[(10 : UInt8)] }); let q0 := (Lib.join q4 q2 ++ Array.toList q5); let q1 := ([(Option.getD (mapGet (Ty.int IntKind.i64) (Ty.pair Ty.str Ty.fnp) fldM (1 : Int)) ([], none)).1] ++ List.map Lib.itoa (sixs u)); let q3 := ([(Option.getD (mapGet (Ty.int IntKind.i64) (Ty.pair Ty.str Ty.fnp) fldM (2 : Int)) ([], none)).1] ++ List.map Lib.itoa (sixs v)); let q6 := (9223372036854775807 : Nat); let q7 := (ByteArray.data { data := #[] }); let q8 := (1000000 : Nat); let q9 := (Lib.join q1 q2 ++ Array.toList q5); List.length y ≤ (1000000000 : Nat) ∧ splitB (chkPt y u v != (0 : Int)) (Array.toList q7 = prN y u v ∧ chkPt y u v = chkPt y u v ∧ True) (List.length y ≤ q8 ∧ OkS y ∧ List.length (sixs y) ≤ q8 ∧ Bd (1000000 : Int) (sixs y) ∧ room ((1 : Nat) + List.length (List.map Lib.itoa (sixs y))) (16 : Nat) ∧ List.length q4 ≤ q8 ∧ List.length (Lib.join q4 q2) ≤ (140737488355328 : Nat) ∧ List.length (Lib.join q4 q2) + List.length (Array.toList q5) ≤ q6 ∧ List.length (Array.toList q7) + List.length q0 ≤ q6 ∧ fits IntKind.i64 (1 : Int) ∧ List.length u ≤ q8 ∧ OkS u ∧ List.length (sixs u) ≤ q8 ∧ Bd (1000000 : Int) (sixs u) ∧ room ((1 : Nat) + List.length (List.map Lib.itoa (sixs u))) (16 : Nat) ∧ List.length q1 ≤ q8 ∧ List.length (Lib.join q1 q2) ≤ (140737488355328 : Nat) ∧ List.length (Lib.join q1 q2) + List.length (Array.toList q5) ≤ q6 ∧ List.length (Array.toList q7 ++ q0) + List.length q9 ≤ q6 ∧ fits IntKind.i64 (2 : Int) ∧ List.length v ≤ q8 ∧ OkS v ∧ List.length (sixs v) ≤ q8 ∧ Bd (1000000 : Int) (sixs v) ∧ room ((1 : Nat) + List.length (List.map Lib.itoa (sixs v))) (16 : Nat) ∧ List.length q3 ≤ q8 ∧ List.length (Lib.join q3 q2) ≤ (140737488355328 : Nat) ∧ List.length (Lib.join q3 q2) + List.length (Array.toList q5) ≤ q6 ∧ List.length (Array.toList q7 ++ q0 ++ q9) + List.length (Lib.join q3 q2 ++ Array.toList q5) ≤ q6 ∧ fits IntKind.i64 (3 : Int) ∧ Array.toList q7 ++ q0 ++ q9 ++ (Lib.join q3 q2 ++ Array.toList q5) = prN y u v ∧ (0 : Int) = chkPt y u v ∧ True)) := by
  kernel_rfl
end Go.Sx

/- Contracts. -/
namespace Go.Sx
open U
theorem so151 : Sp1 151 sp151 := by
  refine ⟨fun vs ps r h hp => ?_, Proofs.Tryz.f151, _, by kernel_rfl, rfl, by kernel_rfl⟩
  simp only [sp151] at h
  split at h
  · cases h; exact itoa1 _ (hp _ (by simp))
  · cases h
theorem so152 : Sp1 152 sp152 := by
  refine ⟨fun vs ps r h hp => ?_, Proofs.Tryz.f152, _, by kernel_rfl, rfl, by kernel_rfl⟩
  simp only [sp152] at h
  split at h
  · cases h; exact join1 _ _ (hp _ (by simp)) (hp _ (by simp))
  · cases h
theorem get0 : (Option.getD (U.mapGet (.int .i64) (.pair .str .fnp) fldM 0) ([], none)).1 = [108, 117, 109, 97] := rfl
theorem get1 : (Option.getD (U.mapGet (.int .i64) (.pair .str .fnp) fldM 1) ([], none)).1 = [117] := rfl
theorem get2 : (Option.getD (U.mapGet (.int .i64) (.pair .str .fnp) fldM 2) ([], none)).1 = [118] := rfl
theorem nd_le : ∀ (k u : Nat), u < 10 ^ (k + 1) → Lib.nDigits u ≤ k + 1
  | 0, u, h => by rw [Lib.nDigits_small (by simpa using h)]; omega
  | k + 1, u, h => by
    by_cases h1 : u < 10
    · rw [Lib.nDigits_small h1]; omega
    · rw [Lib.nDigits_big h1]
      have := nd_le k (u / 10) (by rw [Nat.pow_succ] at h; omega)
      omega
theorem itoa_len {n : Int} (h : -1000000 ≤ n ∧ n ≤ 1000000) : (Lib.itoa n).length ≤ 8 := by
  have h1 : ∀ u : Nat, u < 10 ^ 7 → (Lib.decDigits u).length ≤ 7 := fun u hu => by rw [Lib.decDigits_length]; exact nd_le 6 u hu
  unfold Lib.itoa
  split
  · have := h1 n.natAbs (by omega)
    simp only [List.length_cons]; omega
  · have := h1 n.toNat (by omega)
    omega
theorem lens_le : ∀ {l : List Int}, Bd 1000000 l → Lib.lens (l.map Lib.itoa) ≤ 8 * l.length
  | [], _ => by simp [Lib.lens]
  | n :: r, h => by
    have h1 := itoa_len (h n List.mem_cons_self)
    have h2 := lens_le (l := r) fun m hm => h m (List.mem_cons_of_mem _ hm)
    simp only [Lib.lens, List.map_cons, List.sum_cons, List.length_cons] at h2 ⊢
    omega
theorem line_len (w : List UInt8) {l : List Int} (h : Bd 1000000 l) : (Lib.join ([w] ++ l.map Lib.itoa) [32]).length ≤ w.length + 9 * l.length := by
  have h1 := lens_le h
  have e : [w] ++ l.map Lib.itoa = w :: l.map Lib.itoa := rfl
  rw [e, Lib.join_length]
  simp only [Lib.lens, List.map_cons, List.sum_cons, List.length_cons, List.length_nil, List.length_map] at h1 ⊢
  omega
theorem fn150 (l : List Int) (hl : l.length ≤ 1000000) (hb : Bd 1000000 l) : Fn P1 gl1 150 [.one (.sl (.int .i64) l), .one (.fn 151 [] [])] (.val (.one (.frs .str (l.map Lib.itoa)))) true := by
  refine Fn.flat ?_ rfl
  refine fn_of false [(151, sp151)] [] h88 0 Proofs.Tryz.f150 ⟨so151, trivial⟩ trivial (by kernel_rfl) rfl (by kernel_rfl) rfl rfl rfl ?_
  rw [vc150]
  try simp only [splitB_iff, -eq_self]
  refine ⟨⟨0, Nat.zero_le _, rfl, rfl, rfl, by simp⟩, fun g hg => ⟨fun hlt => ?_, fun hge => ?_⟩⟩
  · have hlt' : g < l.length := by simpa using hlt
    have hk := bd_get hb (i := g) (by omega)
    refine ⟨by omega, by simp only [fits]; omega, by simp only [room, List.length_map, List.length_take]; omega, by simp only [fits]; omega, g + 1, hlt', by omega, by simp, rfl, rfl, ?_, trivial⟩
    rw [getD_of hlt', List.take_succ_eq_append_getElem hlt', List.map_append]
    rfl
  · have hge' : ¬ g < l.length := by simpa using hge
    rw [List.take_of_length_le (by omega)]
    exact ⟨rfl, trivial⟩
theorem so150_ : SpecOk P1 gl1 150 sp150 := by
  intro vs ps r h hp
  simp only [sp150] at h
  split at h
  · cases h; exact fn150 _ (hp _ (.head _)) (hp _ (.tail _ (.head _)))
  · cases h
theorem so150 : Sp1 150 sp150 := ⟨so150_, Proofs.Tryz.f150, _, by kernel_rfl, rfl, by kernel_rfl⟩
theorem fn149   : Fn P1 gl1 149 [] (.val (.one (.mp false true (.int .i64) fieldT fldM))) false := by
  refine fn_of false [] [] h0 0 Proofs.Tryz.f149 trivial trivial (by kernel_rfl) rfl (by kernel_rfl) rfl rfl rfl ?_
  rw [vc149 ()]
  try simp only [-eq_self]
  exact ⟨rfl, trivial⟩
theorem so149_ : SpecOk P1 gl1 149 sp149 := by
  intro vs ps r h _
  simp only [sp149] at h
  split at h
  · cases h; exact fn149  
  · cases h
theorem so149 : Sp1 149 sp149 := ⟨so149_, Proofs.Tryz.f149, _, by kernel_rfl, rfl, by kernel_rfl⟩
theorem fn88 (y u v : List Nat) (hl : y.length ≤ 1000000000) : Fn P1 gl1 88 [ptV y u v] (.tup [sV (prN y u v), iV (chkPt y u v)]) true := by
  refine Fn.flat ?_ rfl
  refine fn_of false [(26, sp26), (108, sp108), (150, sp150), (152, sp152), (149, sp149)] [] h88 0 Proofs.Tryz.f88 ⟨so26, so108, so150, so152, so149, trivial⟩ trivial (by kernel_rfl) rfl (by kernel_rfl) rfl rfl rfl ?_
  rw [vc88]
  try simp only [splitB_iff, -eq_self]
  rw [get0, get1, get2]
  refine ⟨hl, fun h => ?_, fun h => ?_⟩
  · have h := bneZ.1 h
    unfold prN
    rw [if_neg h]
    exact ⟨rfl, rfl, trivial⟩
  · have h := bneF.1 h
    obtain ⟨h1, h2, h3, h4, h5⟩ := chkPt_zero.1 h
    obtain ⟨k1, k2, k3⟩ := chkSig_zero.1 h1
    have j1 := line_len [108, 117, 109, 97] (bd_le (bd_sixs k3) (by omega))
    have j2 := line_len [117] (bd_le (bd_sixs h4) (by omega))
    have j3 := line_len [118] (bd_le (bd_sixs h5) (by omega))
    unfold prN
    rw [if_pos h]
    simp only [sixs_len, List.length_append, List.length_map, List.length_cons, List.length_nil, room, fits, -eq_self] at j1 j2 j3 ⊢
    exact ⟨by omega, k3, by omega, bd_le (bd_sixs k3) (by omega), by omega, by omega, by omega, by omega, by omega, by omega, by omega, h4, by omega, bd_le (bd_sixs h4) (by omega), by omega, by omega, by omega, by omega, by omega, by omega, by omega, h5, by omega, bd_le (bd_sixs h5) (by omega), by omega, by omega, by omega, by omega, by omega, by omega, rfl, h.symm, trivial⟩
theorem so88_ : SpecOk P1 gl1 88 sp88 := by
  intro vs ps r h hp
  simp only [sp88] at h
  split at h
  · cases h; exact fn88 _ _ _ (hp _ (.head _))
  · cases h
theorem so88 : Sp1 88 sp88 := ⟨so88_, Proofs.Tryz.f88, _, by kernel_rfl, rfl, by kernel_rfl⟩
end Go.Sx

/- Plain functions and hints. -/
namespace Go.Sx
open U
def sp20h : FSpec := ⟨fun vs => match vs with
  | [.agg [.one (.sl (.flt .f32) a), .one (.sl (.flt .f32) b), .one (.sl (.flt .f32) d)], .one (.int .i64 n)] => if (show Int from n) = 0 then some ([n = 0, a = [1092616192, 1101004800, 1092616192, 1101004800], b = [1077936128], d = [3221225472]], .tup [.one (.frs (.flt .f32) [1095761920, 1099956224, 1088421888, 1102053376]), iV 0]) else some ([n = 1, a = [1092616192, 1101004800, 1092616192, 1101004800], b = [1077936128], d = [3221225472]], .tup [.one (.frs (.flt .f32) [1088421888, 1102053376, 1095761920, 1099956224]), iV 0])
  | _ => none, true⟩
def sp33h : FSpec := ⟨fun vs => match vs with
  | [.one (.sl (.flt .f32) a)] => some ([a = [1095761920, 1099956224, 1088421888, 1102053376]], .tup [.one (.frs panT [[(1114636288, 0), (1086324736, 1082130432), (3248488448, 0), (1086324736, 3229614080)]]), iV 0])
  | _ => none, true⟩
def sp43h : FSpec := ⟨fun vs => match vs with
  | [.one (.sl (.flt .f32) a), .one (.int .i64 n)] => if (show List Nat from a) = [1095761920, 1099956224, 1088421888, 1102053376] then some ([a = [1095761920, 1099956224, 1088421888, 1102053376], n = 0], .tup [ptV [1092616192, 1101004800, 1092616192, 1101004800] [1077936128] [3221225472], iV 0]) else some ([a = [1095761920, 1099956224, 1093664768, 1102053376], n = 0], .tup [ptV [1094713344, 1101004800, 1094713344, 1101004800] [1065353216] [3221225472], iV 0])
  | _ => none, true⟩
def sp57h : FSpec := ⟨fun vs => match vs with
  | [.agg [.one (.sl (.flt .f32) a), .one (.sl (.flt .f32) b), .one (.sl (.flt .f32) d)]] => some ([a = [1092616192, 1101004800, 1096810496, 1101004800], b = [1077936128], d = [3221225472]], .tup [fV 1073741824, iV 0])
  | _ => none, true⟩
def sp58h : FSpec := ⟨fun vs => match vs with
  | [.agg [.one (.sl (.flt .f32) a), .one (.sl (.flt .f32) b), .one (.sl (.flt .f32) d)], .agg [.one (.sl (.flt .f32) e), .one (.sl (.flt .f32) f), .one (.sl (.flt .f32) g)]] => some ([a = [1092616192, 1101004800, 1096810496, 1101004800], b = [1077936128], d = [3221225472], e = [1094713344, 1101004800, 1094713344, 1101004800], f = [1065353216], g = [3221225472]], .tup [.agg [.arr 2 (.flt .f32) [1073741824, 1073741824]], iV 0])
  | _ => none, true⟩
def sp47h : FSpec := ⟨fun vs => match vs with
  | [.one (.sl (.sl (.flt .f32)) a), .one (.int .i64 n)] => some ([a = [[1095761920, 1099956224, 1093664768, 1102053376], [1088421888, 1102053376, 1099431936, 1099956224]], n = 0], .tup [ptV [1092616192, 1101004800, 1096810496, 1101004800] [1077936128] [3221225472], iV 0])
  | _ => none, true⟩
def sp48h : FSpec := ⟨fun vs => match vs with
  | [.one (.sl (.sl (.flt .f32)) a), .one (.int .i64 n)] => some ([a = [[1095761920, 1099956224, 1093664768, 1102053376], [1088421888, 1102577664, 1100480512, 1100480512], [1099431936, 1101004800, 1093664768, 1103101952]], n = 1], .tup [ptV [1093664768, 1101529088, 1097859072, 1101529088] [1082130432] [3221225472], iV 0])
  | _ => none, true⟩
def sp62h : FSpec := ⟨fun vs => match vs with
  | [.agg [.arr 4 (.flt .f32) a]] => some ([a = [0, 1084227584, 0, 3231711232]], .tup [gsV (0, 160), iV 0])
  | _ => none, true⟩
def sp63h : FSpec := ⟨fun vs => match vs with
  | [.agg [.arr 4 (.flt .f32) a], .one (.int .i64 n)] => some ([a = [0, 1084227584, 0, 3231711232], n = 160], .tup [iV 1, iV 0])
  | _ => none, true⟩
def sp67h : FSpec := ⟨fun vs => match vs with
  | [.one (.sl (.flt .f32) a), .one (.int .i64 n)] => some ([a = [1065353216, 1073741824, 1077936128, 1082130432, 1084227584, 1086324736, 1088421888, 1090519040], n = 1], .tup [.one (.frs (.flt .f32) [1073741824, 1077936128, 1082130432, 1084227584]), iV 0])
  | _ => none, true⟩
def sp68h : FSpec := ⟨fun vs => match vs with
  | [.one (.sl (.flt .f32) a), .agg [.one (.int .i64 m), .one (.int .i64 n)], .one (.flt .f32 b)] => some ([a = [1077936128, 1084227584, 1088421888, 1091567616], m = 0, n = 2, b = 1065353216], .tup [.one (.frs (.flt .f32) [0, 1073741824, 1082130432, 1086324736]), iV 0])
  | _ => none, true⟩
def sp72h : FSpec := ⟨fun vs => match vs with
  | [.one (.sl (.int .i64) a)] => some ([a = [1, 0, -1]], .tup [.agg [.arr 4 (.cpx .f64) [(0, 0), (4611686018427387904, 0), (0, 0), (4611686018427387904, 0)]], iV 0])
  | _ => none, true⟩
def sp74h : FSpec := ⟨fun vs => match vs with
  | [.one (.sl (.flt .f32) a), .one (.sl (.int .i64) t)] => some ([a = [1065353216, 1073741824, 1082130432, 1090519040], t = [1, 0, -1]], .tup [.one (.frs (.flt .f32) [1065353216, 1073741824, 1077936128, 1086324736]), iV 0])
  | _ => none, true⟩
def sp75h : FSpec := ⟨fun vs => match vs with
  | [.one (.sl (.flt .f32) a), .one (.sl (.int .i64) t)] => some ([a = [1065353216, 1073741824, 1082130432, 1090519040], t = [1, 0, -1]], .tup [.one (.frs (.flt .f32) [3225419776, 3233808384, 1082130432, 1090519040]), iV 0])
  | _ => none, true⟩
def sp88h : FSpec := ⟨fun vs => match vs with
  | [.agg [.one (.sl (.flt .f32) a), .one (.sl (.flt .f32) b), .one (.sl (.flt .f32) d)]] => some ([a = [1092616192, 1101004800, 1092616192, 1101004800], b = [1077936128], d = [3221225472]], .tup [sV [108, 117, 109, 97, 32, 49, 54, 48, 32, 51, 50, 48, 32, 49, 54, 48, 32, 51, 50, 48, 10, 117, 32, 52, 56, 10, 118, 32, 45, 51, 50, 10], iV 0])
  | _ => none, true⟩
def sp27h : FSpec := ⟨fun vs => match vs with
  | [.one (.sl (.flt .f32) a), .one (.sl (.flt .f32) b)] => if (show List Nat from a) = b then some ([chkSs a = 0, List.length a ≤ 1000000000], .val (bV true)) else none
  | _ => none, true⟩
def sp45h : FSpec := ⟨fun vs => match vs with
  | [.agg [.one (.sl (.flt .f32) y), .one (.sl (.flt .f32) u), .one (.sl (.flt .f32) v)], .agg [.one (.sl (.flt .f32) y'), .one (.sl (.flt .f32) u'), .one (.sl (.flt .f32) v')]] => if (show Pt from (y, u, v)) = (y', u', v') then some ([chkSs y = 0, List.length y ≤ 1000000000, chkSs u = 0, List.length u ≤ 1000000000, chkSs v = 0, List.length v ≤ 1000000000], .val (bV true)) else none
  | _ => none, true⟩
end Go.Sx
namespace Go.Sx
open U
def sp93 : FSpec := ⟨fun vs => match vs with
  | [] => some ([], .val (ptV [1092616192, 1101004800, 1092616192, 1101004800] [1077936128] [3221225472]))
  | _ => none, true⟩
def sp94 : FSpec := ⟨fun vs => match vs with
  | [] => some ([], .val (ptV [1092616192, 1101004800, 1096810496, 1101004800] [1077936128] [3221225472]))
  | _ => none, true⟩
def sp19 : FSpec := ⟨fun vs => match vs with
  | [] => some ([], .val (bV true))
  | _ => none, true⟩
end Go.Sx

/- What the engine asks, written out (printed by a program). -/
namespace Go.Sx
open U
theorem vc93 (_u : Unit) : exFr (env false [] []) h0 0 93 Proofs.Tryz.f93 [] (.val (ptV [1092616192, 1101004800, 1092616192, 1101004800] [1077936128] [3221225472])) = ([(1092616192 : Nat), (1101004800 : Nat), (1092616192 : Nat), (1101004800 : Nat)] = [(1092616192 : Nat), (1101004800 : Nat), (1092616192 : Nat), (1101004800 : Nat)] ∧ [(1077936128 : Nat)] = [(1077936128 : Nat)] ∧ [(3221225472 : Nat)] = [(3221225472 : Nat)] ∧ True) := by
  kernel_rfl
theorem vc94 (_u : Unit) : exFr (env false [] []) h0 0 94 Proofs.Tryz.f94 [] (.val (ptV [1092616192, 1101004800, 1096810496, 1101004800] [1077936128] [3221225472])) = ([(1092616192 : Nat), (1101004800 : Nat), (1096810496 : Nat), (1101004800 : Nat)] = [(1092616192 : Nat), (1101004800 : Nat), (1096810496 : Nat), (1101004800 : Nat)] ∧ [(1077936128 : Nat)] = [(1077936128 : Nat)] ∧ [(3221225472 : Nat)] = [(3221225472 : Nat)] ∧ True) := by
  kernel_rfl
theorem vc19 (_u : Unit) : exF (env false [(93, sp93), (94, sp94), (46, sp46), (20, sp20h), (33, sp33h), (43, sp43h), (57, sp57h), (58, sp58h), (47, sp47h), (48, sp48h), (62, sp62h), (63, sp63h), (67, sp67h), (68, sp68h), (72, sp72h), (74, sp74h), (75, sp75h), (88, sp88h), (27, sp27h), (45, sp45h)] []) h0 0 19 Proofs.Tryz.f19 [] (.val (bV true)) = ((0 : Int) = (0 : Int) ∧ [(1092616192 : Nat), (1101004800 : Nat), (1092616192 : Nat), (1101004800 : Nat)] = [(1092616192 : Nat), (1101004800 : Nat), (1092616192 : Nat), (1101004800 : Nat)] ∧ [(1077936128 : Nat)] = [(1077936128 : Nat)] ∧ [(3221225472 : Nat)] = [(3221225472 : Nat)] ∧ (1 : Int) = (1 : Int) ∧ [(1092616192 : Nat), (1101004800 : Nat), (1092616192 : Nat), (1101004800 : Nat)] = [(1092616192 : Nat), (1101004800 : Nat), (1092616192 : Nat), (1101004800 : Nat)] ∧ [(1077936128 : Nat)] = [(1077936128 : Nat)] ∧ [(3221225472 : Nat)] = [(3221225472 : Nat)] ∧ [(1095761920 : Nat), (1099956224 : Nat), (1088421888 : Nat), (1102053376 : Nat)] = [(1095761920 : Nat), (1099956224 : Nat), (1088421888 : Nat), (1102053376 : Nat)] ∧ [(1095761920 : Nat), (1099956224 : Nat), (1088421888 : Nat), (1102053376 : Nat)] = [(1095761920 : Nat), (1099956224 : Nat), (1088421888 : Nat), (1102053376 : Nat)] ∧ (0 : Int) = (0 : Int) ∧ [(1095761920 : Nat), (1099956224 : Nat), (1093664768 : Nat), (1102053376 : Nat)] = [(1095761920 : Nat), (1099956224 : Nat), (1093664768 : Nat), (1102053376 : Nat)] ∧ (0 : Int) = (0 : Int) ∧ [(1092616192 : Nat), (1101004800 : Nat), (1096810496 : Nat), (1101004800 : Nat)] = [(1092616192 : Nat), (1101004800 : Nat), (1096810496 : Nat), (1101004800 : Nat)] ∧ [(1077936128 : Nat)] = [(1077936128 : Nat)] ∧ [(3221225472 : Nat)] = [(3221225472 : Nat)] ∧ [(1092616192 : Nat), (1101004800 : Nat), (1096810496 : Nat), (1101004800 : Nat)] = [(1092616192 : Nat), (1101004800 : Nat), (1096810496 : Nat), (1101004800 : Nat)] ∧ [(1077936128 : Nat)] = [(1077936128 : Nat)] ∧ [(3221225472 : Nat)] = [(3221225472 : Nat)] ∧ [(1094713344 : Nat), (1101004800 : Nat), (1094713344 : Nat), (1101004800 : Nat)] = [(1094713344 : Nat), (1101004800 : Nat), (1094713344 : Nat), (1101004800 : Nat)] ∧ [(1065353216 : Nat)] = [(1065353216 : Nat)] ∧ [(3221225472 : Nat)] = [(3221225472 : Nat)] ∧ fits IntKind.i64 (0 : Int) ∧ fits IntKind.i64 (0 : Int) ∧ fits IntKind.i64 (0 : Int) ∧ fits IntKind.i64 (0 : Int) ∧ fits IntKind.i64 (0 : Int) ∧ fits IntKind.i64 (0 : Int) ∧ (((0 : Int) != (0 : Int)) = false → chkSs [(1095761920 : Nat), (1099956224 : Nat), (1088421888 : Nat), (1102053376 : Nat)] = (0 : Int)) ∧ (((0 : Int) != (0 : Int)) = false → (4 : Nat) ≤ (1000000000 : Nat)) ∧ ((bif (0 : Int) != (0 : Int) then true else !true) = false → chkSs [(1088421888 : Nat), (1102053376 : Nat), (1095761920 : Nat), (1099956224 : Nat)] = (0 : Int)) ∧ ((bif (0 : Int) != (0 : Int) then true else !true) = false → (4 : Nat) ≤ (1000000000 : Nat)) ∧ ((bif bif bif (0 : Int) != (0 : Int) then true else !true then true else !true then true else (1 : Int) != (1 : Int)) = false → (0 : Int) ≤ (0 : Int) ∧ (0 : Int) < (1 : Int)) ∧ ((bif bif bif (0 : Int) != (0 : Int) then true else !true then true else !true then true else (1 : Int) != (1 : Int)) = false → (0 : Nat) < (1 : Nat)) ∧ ((bif bif bif bif (0 : Int) != (0 : Int) then true else !true then true else !true then true else (1 : Int) != (1 : Int) then true else !eqT (Ty.arr (4 : Nat) (Ty.cpx FloatKind.f32)) [((1114636288 : Nat), (0 : Nat)), ((1086324736 : Nat), (1082130432 : Nat)), ((3248488448 : Nat), (0 : Nat)), ((1086324736 : Nat), (3229614080 : Nat))] [((1114636288 : Nat), (0 : Nat)), ((1086324736 : Nat), (1082130432 : Nat)), ((3248488448 : Nat), (0 : Nat)), ((1086324736 : Nat), (3229614080 : Nat))]) = false → chkSs [(1092616192 : Nat), (1101004800 : Nat), (1092616192 : Nat), (1101004800 : Nat)] = (0 : Int)) ∧ ((bif bif bif bif (0 : Int) != (0 : Int) then true else !true then true else !true then true else (1 : Int) != (1 : Int) then true else !eqT (Ty.arr (4 : Nat) (Ty.cpx FloatKind.f32)) [((1114636288 : Nat), (0 : Nat)), ((1086324736 : Nat), (1082130432 : Nat)), ((3248488448 : Nat), (0 : Nat)), ((1086324736 : Nat), (3229614080 : Nat))] [((1114636288 : Nat), (0 : Nat)), ((1086324736 : Nat), (1082130432 : Nat)), ((3248488448 : Nat), (0 : Nat)), ((1086324736 : Nat), (3229614080 : Nat))]) = false → (4 : Nat) ≤ (1000000000 : Nat)) ∧ ((bif bif bif bif (0 : Int) != (0 : Int) then true else !true then true else !true then true else (1 : Int) != (1 : Int) then true else !eqT (Ty.arr (4 : Nat) (Ty.cpx FloatKind.f32)) [((1114636288 : Nat), (0 : Nat)), ((1086324736 : Nat), (1082130432 : Nat)), ((3248488448 : Nat), (0 : Nat)), ((1086324736 : Nat), (3229614080 : Nat))] [((1114636288 : Nat), (0 : Nat)), ((1086324736 : Nat), (1082130432 : Nat)), ((3248488448 : Nat), (0 : Nat)), ((1086324736 : Nat), (3229614080 : Nat))]) = false → chkSs [(1077936128 : Nat)] = (0 : Int)) ∧ ((bif bif bif bif (0 : Int) != (0 : Int) then true else !true then true else !true then true else (1 : Int) != (1 : Int) then true else !eqT (Ty.arr (4 : Nat) (Ty.cpx FloatKind.f32)) [((1114636288 : Nat), (0 : Nat)), ((1086324736 : Nat), (1082130432 : Nat)), ((3248488448 : Nat), (0 : Nat)), ((1086324736 : Nat), (3229614080 : Nat))] [((1114636288 : Nat), (0 : Nat)), ((1086324736 : Nat), (1082130432 : Nat)), ((3248488448 : Nat), (0 : Nat)), ((1086324736 : Nat), (3229614080 : Nat))]) = false → (1 : Nat) ≤ (1000000000 : Nat)) ∧ ((bif bif bif bif (0 : Int) != (0 : Int) then true else !true then true else !true then true else (1 : Int) != (1 : Int) then true else !eqT (Ty.arr (4 : Nat) (Ty.cpx FloatKind.f32)) [((1114636288 : Nat), (0 : Nat)), ((1086324736 : Nat), (1082130432 : Nat)), ((3248488448 : Nat), (0 : Nat)), ((1086324736 : Nat), (3229614080 : Nat))] [((1114636288 : Nat), (0 : Nat)), ((1086324736 : Nat), (1082130432 : Nat)), ((3248488448 : Nat), (0 : Nat)), ((1086324736 : Nat), (3229614080 : Nat))]) = false → chkSs [(3221225472 : Nat)] = (0 : Int)) ∧ ((bif bif bif bif (0 : Int) != (0 : Int) then true else !true then true else !true then true else (1 : Int) != (1 : Int) then true else !eqT (Ty.arr (4 : Nat) (Ty.cpx FloatKind.f32)) [((1114636288 : Nat), (0 : Nat)), ((1086324736 : Nat), (1082130432 : Nat)), ((3248488448 : Nat), (0 : Nat)), ((1086324736 : Nat), (3229614080 : Nat))] [((1114636288 : Nat), (0 : Nat)), ((1086324736 : Nat), (1082130432 : Nat)), ((3248488448 : Nat), (0 : Nat)), ((1086324736 : Nat), (3229614080 : Nat))]) = false → (1 : Nat) ≤ (1000000000 : Nat)) ∧ ((bif bif bif bif bif (0 : Int) != (0 : Int) then true else !true then true else !true then true else (1 : Int) != (1 : Int) then true else !eqT (Ty.arr (4 : Nat) (Ty.cpx FloatKind.f32)) [((1114636288 : Nat), (0 : Nat)), ((1086324736 : Nat), (1082130432 : Nat)), ((3248488448 : Nat), (0 : Nat)), ((1086324736 : Nat), (3229614080 : Nat))] [((1114636288 : Nat), (0 : Nat)), ((1086324736 : Nat), (1082130432 : Nat)), ((3248488448 : Nat), (0 : Nat)), ((1086324736 : Nat), (3229614080 : Nat))] then true else !true) = false → chkSs [(1094713344 : Nat), (1101004800 : Nat), (1094713344 : Nat), (1101004800 : Nat)] = (0 : Int)) ∧ ((bif bif bif bif bif (0 : Int) != (0 : Int) then true else !true then true else !true then true else (1 : Int) != (1 : Int) then true else !eqT (Ty.arr (4 : Nat) (Ty.cpx FloatKind.f32)) [((1114636288 : Nat), (0 : Nat)), ((1086324736 : Nat), (1082130432 : Nat)), ((3248488448 : Nat), (0 : Nat)), ((1086324736 : Nat), (3229614080 : Nat))] [((1114636288 : Nat), (0 : Nat)), ((1086324736 : Nat), (1082130432 : Nat)), ((3248488448 : Nat), (0 : Nat)), ((1086324736 : Nat), (3229614080 : Nat))] then true else !true) = false → (4 : Nat) ≤ (1000000000 : Nat)) ∧ ((bif bif bif bif bif (0 : Int) != (0 : Int) then true else !true then true else !true then true else (1 : Int) != (1 : Int) then true else !eqT (Ty.arr (4 : Nat) (Ty.cpx FloatKind.f32)) [((1114636288 : Nat), (0 : Nat)), ((1086324736 : Nat), (1082130432 : Nat)), ((3248488448 : Nat), (0 : Nat)), ((1086324736 : Nat), (3229614080 : Nat))] [((1114636288 : Nat), (0 : Nat)), ((1086324736 : Nat), (1082130432 : Nat)), ((3248488448 : Nat), (0 : Nat)), ((1086324736 : Nat), (3229614080 : Nat))] then true else !true) = false → chkSs [(1065353216 : Nat)] = (0 : Int)) ∧ ((bif bif bif bif bif (0 : Int) != (0 : Int) then true else !true then true else !true then true else (1 : Int) != (1 : Int) then true else !eqT (Ty.arr (4 : Nat) (Ty.cpx FloatKind.f32)) [((1114636288 : Nat), (0 : Nat)), ((1086324736 : Nat), (1082130432 : Nat)), ((3248488448 : Nat), (0 : Nat)), ((1086324736 : Nat), (3229614080 : Nat))] [((1114636288 : Nat), (0 : Nat)), ((1086324736 : Nat), (1082130432 : Nat)), ((3248488448 : Nat), (0 : Nat)), ((1086324736 : Nat), (3229614080 : Nat))] then true else !true) = false → (1 : Nat) ≤ (1000000000 : Nat)) ∧ ((bif bif bif bif bif (0 : Int) != (0 : Int) then true else !true then true else !true then true else (1 : Int) != (1 : Int) then true else !eqT (Ty.arr (4 : Nat) (Ty.cpx FloatKind.f32)) [((1114636288 : Nat), (0 : Nat)), ((1086324736 : Nat), (1082130432 : Nat)), ((3248488448 : Nat), (0 : Nat)), ((1086324736 : Nat), (3229614080 : Nat))] [((1114636288 : Nat), (0 : Nat)), ((1086324736 : Nat), (1082130432 : Nat)), ((3248488448 : Nat), (0 : Nat)), ((1086324736 : Nat), (3229614080 : Nat))] then true else !true) = false → chkSs [(3221225472 : Nat)] = (0 : Int)) ∧ ((bif bif bif bif bif (0 : Int) != (0 : Int) then true else !true then true else !true then true else (1 : Int) != (1 : Int) then true else !eqT (Ty.arr (4 : Nat) (Ty.cpx FloatKind.f32)) [((1114636288 : Nat), (0 : Nat)), ((1086324736 : Nat), (1082130432 : Nat)), ((3248488448 : Nat), (0 : Nat)), ((1086324736 : Nat), (3229614080 : Nat))] [((1114636288 : Nat), (0 : Nat)), ((1086324736 : Nat), (1082130432 : Nat)), ((3248488448 : Nat), (0 : Nat)), ((1086324736 : Nat), (3229614080 : Nat))] then true else !true) = false → (1 : Nat) ≤ (1000000000 : Nat)) ∧ [[(1095761920 : Nat), (1099956224 : Nat), (1093664768 : Nat), (1102053376 : Nat)], [(1088421888 : Nat), (1102053376 : Nat), (1099431936 : Nat), (1099956224 : Nat)]] = [[(1095761920 : Nat), (1099956224 : Nat), (1093664768 : Nat), (1102053376 : Nat)], [(1088421888 : Nat), (1102053376 : Nat), (1099431936 : Nat), (1099956224 : Nat)]] ∧ (0 : Int) = (0 : Int) ∧ [[(1095761920 : Nat), (1099956224 : Nat), (1093664768 : Nat), (1102053376 : Nat)], [(1088421888 : Nat), (1102577664 : Nat), (1100480512 : Nat), (1100480512 : Nat)], [(1099431936 : Nat), (1101004800 : Nat), (1093664768 : Nat), (1103101952 : Nat)]] = [[(1095761920 : Nat), (1099956224 : Nat), (1093664768 : Nat), (1102053376 : Nat)], [(1088421888 : Nat), (1102577664 : Nat), (1100480512 : Nat), (1100480512 : Nat)], [(1099431936 : Nat), (1101004800 : Nat), (1093664768 : Nat), (1103101952 : Nat)]] ∧ (1 : Int) = (1 : Int) ∧ [(0 : Nat), (1084227584 : Nat), (0 : Nat), (3231711232 : Nat)] = [(0 : Nat), (1084227584 : Nat), (0 : Nat), (3231711232 : Nat)] ∧ [(0 : Nat), (1084227584 : Nat), (0 : Nat), (3231711232 : Nat)] = [(0 : Nat), (1084227584 : Nat), (0 : Nat), (3231711232 : Nat)] ∧ (160 : Int) = (160 : Int) ∧ [(1065353216 : Nat), (1073741824 : Nat), (1077936128 : Nat), (1082130432 : Nat), (1084227584 : Nat), (1086324736 : Nat), (1088421888 : Nat), (1090519040 : Nat)] = [(1065353216 : Nat), (1073741824 : Nat), (1077936128 : Nat), (1082130432 : Nat), (1084227584 : Nat), (1086324736 : Nat), (1088421888 : Nat), (1090519040 : Nat)] ∧ (1 : Int) = (1 : Int) ∧ [(1077936128 : Nat), (1084227584 : Nat), (1088421888 : Nat), (1091567616 : Nat)] = [(1077936128 : Nat), (1084227584 : Nat), (1088421888 : Nat), (1091567616 : Nat)] ∧ (0 : Int) = (0 : Int) ∧ (2 : Int) = (2 : Int) ∧ (1065353216 : Nat) = (1065353216 : Nat) ∧ [(1 : Int), (0 : Int), (-1 : Int)] = [(1 : Int), (0 : Int), (-1 : Int)] ∧ [(1065353216 : Nat), (1073741824 : Nat), (1082130432 : Nat), (1090519040 : Nat)] = [(1065353216 : Nat), (1073741824 : Nat), (1082130432 : Nat), (1090519040 : Nat)] ∧ [(1 : Int), (0 : Int), (-1 : Int)] = [(1 : Int), (0 : Int), (-1 : Int)] ∧ [(1065353216 : Nat), (1073741824 : Nat), (1082130432 : Nat), (1090519040 : Nat)] = [(1065353216 : Nat), (1073741824 : Nat), (1082130432 : Nat), (1090519040 : Nat)] ∧ [(1 : Int), (0 : Int), (-1 : Int)] = [(1 : Int), (0 : Int), (-1 : Int)] ∧ [(1092616192 : Nat), (1101004800 : Nat), (1092616192 : Nat), (1101004800 : Nat)] = [(1092616192 : Nat), (1101004800 : Nat), (1092616192 : Nat), (1101004800 : Nat)] ∧ [(1077936128 : Nat)] = [(1077936128 : Nat)] ∧ [(3221225472 : Nat)] = [(3221225472 : Nat)] ∧ fits IntKind.i64 (0 : Int) ∧ fits IntKind.i64 (0 : Int) ∧ fits IntKind.i64 (0 : Int) ∧ fits IntKind.i64 (0 : Int) ∧ fits IntKind.i64 (0 : Int) ∧ fits IntKind.i64 (0 : Int) ∧ fits IntKind.i64 (0 : Int) ∧ fits IntKind.i64 (0 : Int) ∧ fits IntKind.i64 (0 : Int) ∧ (((0 : Int) == (0 : Int)) = true → chkSs [(1092616192 : Nat), (1101004800 : Nat), (1096810496 : Nat), (1101004800 : Nat)] = (0 : Int)) ∧ (((0 : Int) == (0 : Int)) = true → (4 : Nat) ≤ (1000000000 : Nat)) ∧ (((0 : Int) == (0 : Int)) = true → chkSs [(1077936128 : Nat)] = (0 : Int)) ∧ (((0 : Int) == (0 : Int)) = true → (1 : Nat) ≤ (1000000000 : Nat)) ∧ (((0 : Int) == (0 : Int)) = true → chkSs [(3221225472 : Nat)] = (0 : Int)) ∧ (((0 : Int) == (0 : Int)) = true → (1 : Nat) ≤ (1000000000 : Nat)) ∧ ((bif (0 : Int) == (0 : Int) then true else false) = true → chkSs [(1093664768 : Nat), (1101529088 : Nat), (1097859072 : Nat), (1101529088 : Nat)] = (0 : Int)) ∧ ((bif (0 : Int) == (0 : Int) then true else false) = true → (4 : Nat) ≤ (1000000000 : Nat)) ∧ ((bif (0 : Int) == (0 : Int) then true else false) = true → chkSs [(1082130432 : Nat)] = (0 : Int)) ∧ ((bif (0 : Int) == (0 : Int) then true else false) = true → (1 : Nat) ≤ (1000000000 : Nat)) ∧ ((bif (0 : Int) == (0 : Int) then true else false) = true → chkSs [(3221225472 : Nat)] = (0 : Int)) ∧ ((bif (0 : Int) == (0 : Int) then true else false) = true → (1 : Nat) ≤ (1000000000 : Nat)) ∧ ((bif bif bif bif (0 : Int) == (0 : Int) then true else false then true else false then eqT (Ty.pair (Ty.int IntKind.i64) (Ty.int IntKind.i64)) ((0 : Int), (160 : Int)) ((0 : Int), (160 : Int)) else false then (1 : Int) == (1 : Int) else false) = true → chkSs [(1073741824 : Nat), (1077936128 : Nat), (1082130432 : Nat), (1084227584 : Nat)] = (0 : Int)) ∧ ((bif bif bif bif (0 : Int) == (0 : Int) then true else false then true else false then eqT (Ty.pair (Ty.int IntKind.i64) (Ty.int IntKind.i64)) ((0 : Int), (160 : Int)) ((0 : Int), (160 : Int)) else false then (1 : Int) == (1 : Int) else false) = true → (4 : Nat) ≤ (1000000000 : Nat)) ∧ ((bif bif bif bif bif (0 : Int) == (0 : Int) then true else false then true else false then eqT (Ty.pair (Ty.int IntKind.i64) (Ty.int IntKind.i64)) ((0 : Int), (160 : Int)) ((0 : Int), (160 : Int)) else false then (1 : Int) == (1 : Int) else false then true else false) = true → chkSs [(0 : Nat), (1073741824 : Nat), (1082130432 : Nat), (1086324736 : Nat)] = (0 : Int)) ∧ ((bif bif bif bif bif (0 : Int) == (0 : Int) then true else false then true else false then eqT (Ty.pair (Ty.int IntKind.i64) (Ty.int IntKind.i64)) ((0 : Int), (160 : Int)) ((0 : Int), (160 : Int)) else false then (1 : Int) == (1 : Int) else false then true else false) = true → (4 : Nat) ≤ (1000000000 : Nat)) ∧ ((bif bif bif bif bif bif bif (0 : Int) == (0 : Int) then true else false then true else false then eqT (Ty.pair (Ty.int IntKind.i64) (Ty.int IntKind.i64)) ((0 : Int), (160 : Int)) ((0 : Int), (160 : Int)) else false then (1 : Int) == (1 : Int) else false then true else false then true else false then eqT (Ty.arr (4 : Nat) (Ty.cpx FloatKind.f64)) [((0 : Nat), (0 : Nat)), ((4611686018427387904 : Nat), (0 : Nat)), ((0 : Nat), (0 : Nat)), ((4611686018427387904 : Nat), (0 : Nat))] [((0 : Nat), (0 : Nat)), ((4611686018427387904 : Nat), (0 : Nat)), ((0 : Nat), (0 : Nat)), ((4611686018427387904 : Nat), (0 : Nat))] else false) = true → chkSs [(1065353216 : Nat), (1073741824 : Nat), (1077936128 : Nat), (1086324736 : Nat)] = (0 : Int)) ∧ ((bif bif bif bif bif bif bif (0 : Int) == (0 : Int) then true else false then true else false then eqT (Ty.pair (Ty.int IntKind.i64) (Ty.int IntKind.i64)) ((0 : Int), (160 : Int)) ((0 : Int), (160 : Int)) else false then (1 : Int) == (1 : Int) else false then true else false then true else false then eqT (Ty.arr (4 : Nat) (Ty.cpx FloatKind.f64)) [((0 : Nat), (0 : Nat)), ((4611686018427387904 : Nat), (0 : Nat)), ((0 : Nat), (0 : Nat)), ((4611686018427387904 : Nat), (0 : Nat))] [((0 : Nat), (0 : Nat)), ((4611686018427387904 : Nat), (0 : Nat)), ((0 : Nat), (0 : Nat)), ((4611686018427387904 : Nat), (0 : Nat))] else false) = true → (4 : Nat) ≤ (1000000000 : Nat)) ∧ ((bif bif bif bif bif bif bif bif (0 : Int) == (0 : Int) then true else false then true else false then eqT (Ty.pair (Ty.int IntKind.i64) (Ty.int IntKind.i64)) ((0 : Int), (160 : Int)) ((0 : Int), (160 : Int)) else false then (1 : Int) == (1 : Int) else false then true else false then true else false then eqT (Ty.arr (4 : Nat) (Ty.cpx FloatKind.f64)) [((0 : Nat), (0 : Nat)), ((4611686018427387904 : Nat), (0 : Nat)), ((0 : Nat), (0 : Nat)), ((4611686018427387904 : Nat), (0 : Nat))] [((0 : Nat), (0 : Nat)), ((4611686018427387904 : Nat), (0 : Nat)), ((0 : Nat), (0 : Nat)), ((4611686018427387904 : Nat), (0 : Nat))] else false then true else false) = true → chkSs [(3225419776 : Nat), (3233808384 : Nat), (1082130432 : Nat), (1090519040 : Nat)] = (0 : Int)) ∧ ((bif bif bif bif bif bif bif bif (0 : Int) == (0 : Int) then true else false then true else false then eqT (Ty.pair (Ty.int IntKind.i64) (Ty.int IntKind.i64)) ((0 : Int), (160 : Int)) ((0 : Int), (160 : Int)) else false then (1 : Int) == (1 : Int) else false then true else false then true else false then eqT (Ty.arr (4 : Nat) (Ty.cpx FloatKind.f64)) [((0 : Nat), (0 : Nat)), ((4611686018427387904 : Nat), (0 : Nat)), ((0 : Nat), (0 : Nat)), ((4611686018427387904 : Nat), (0 : Nat))] [((0 : Nat), (0 : Nat)), ((4611686018427387904 : Nat), (0 : Nat)), ((0 : Nat), (0 : Nat)), ((4611686018427387904 : Nat), (0 : Nat))] else false then true else false) = true → (4 : Nat) ≤ (1000000000 : Nat)) ∧ (bif bif bif bif bif bif bif bif bif bif (0 : Int) == (0 : Int) then true else false then true else false then eqT (Ty.pair (Ty.int IntKind.i64) (Ty.int IntKind.i64)) ((0 : Int), (160 : Int)) ((0 : Int), (160 : Int)) else false then (1 : Int) == (1 : Int) else false then true else false then true else false then eqT (Ty.arr (4 : Nat) (Ty.cpx FloatKind.f64)) [((0 : Nat), (0 : Nat)), ((4611686018427387904 : Nat), (0 : Nat)), ((0 : Nat), (0 : Nat)), ((4611686018427387904 : Nat), (0 : Nat))] [((0 : Nat), (0 : Nat)), ((4611686018427387904 : Nat), (0 : Nat)), ((0 : Nat), (0 : Nat)), ((4611686018427387904 : Nat), (0 : Nat))] else false then true else false then true else false then [(108 : UInt8), (117 : UInt8), (109 : UInt8), (97 : UInt8), (32 : UInt8), (49 : UInt8), (54 : UInt8), (48 : UInt8), (32 : UInt8), (51 : UInt8), (50 : UInt8), (48 : UInt8), (32 : UInt8), (49 : UInt8), (54 : UInt8), (48 : UInt8), (32 : UInt8), (51 : UInt8), (50 : UInt8), (48 : UInt8), (10 : UInt8), (117 : UInt8), (32 : UInt8), (52 : UInt8), (56 : UInt8), (10 : UInt8), (118 : UInt8), (32 : UInt8), (45 : UInt8), (51 : UInt8), (50 : UInt8), (10 : UInt8)] == Array.toList (ByteArray.data { data := #[(108 : UInt8), (117 : UInt8), (109 : UInt8), (97 : UInt8), (32 : UInt8), (49 : UInt8), (54 : UInt8), (48 : UInt8), (32 : UInt8), (51 : UInt8), (50 : UInt8), (48 : UInt8), (32 : UInt8), (49 : UInt8), (54 : UInt8), (48 : UInt8), (32 : UInt8), (51 : UInt8), (50 : UInt8), (48 : UInt8), (10 : UInt8), (117 : UInt8), (32 : UInt8), (52 : UInt8), (56 : UInt8), (10 : UInt8), (118 : UInt8), (32 : UInt8), (45 : UInt8), (51 : UInt8), (50 : UInt8), (10 : UInt8)] }) else false) = true ∧ True) := by
  kernel_rfl
end Go.Sx
