/- A verified symbolic run of functions, part 15: lemmas, no claim of their own. -/
import Derived.Test.YtjbfcdgbjgjliaaGreatDoorS14
namespace Go.Sx.U
def pw (n : Nat) : Int × Int := List.getD [(1, 0), (0, -1), (-1, 0), (0, 1)] (n % 4) (0, 0)
def quTo (l : List Int) (k : Nat) : Nat → Int × Int
  | 0 => (0, 0)
  | i + 1 => ((quTo l k i).1 + List.getD l i 0 * (pw (k * i)).1, (quTo l k i).2 + List.getD l i 0 * (pw (k * i)).2)
def qu (l : List Int) (k : Nat) : Int × Int := quTo l k l.length
def quSt (l : List Int) (k j : Nat) : List (Int × Int) := tab 4 fun q => if q < k then qu l q else if q = k then quTo l k j else (0, 0)
theorem pw_cases (n : Nat) : pw n = (1, 0) ∨ pw n = (0, -1) ∨ pw n = (-1, 0) ∨ pw n = (0, 1) := by
  unfold pw
  have h : n % 4 < 4 := Nat.mod_lt _ (by decide)
  generalize n % 4 = m at h
  match m, h with
  | 0, _ => exact .inl rfl
  | 1, _ => exact .inr (.inl rfl)
  | 2, _ => exact .inr (.inr (.inl rfl))
  | 3, _ => exact .inr (.inr (.inr rfl))
theorem pw_bd (n : Nat) {x B : Int} (h : -B ≤ x ∧ x ≤ B) : (-B ≤ x * (pw n).1 ∧ x * (pw n).1 ≤ B) ∧ (-B ≤ x * (pw n).2 ∧ x * (pw n).2 ≤ B) := by
  rcases pw_cases n with e | e | e | e <;> rw [e] <;> simp <;> omega
theorem quTo_bd {l : List Int} {B : Int} (h : Bd B l) (hB : 0 ≤ B) (k : Nat) : ∀ i : Nat, (-((i : Int) * B) ≤ (quTo l k i).1 ∧ (quTo l k i).1 ≤ (i : Int) * B) ∧ (-((i : Int) * B) ≤ (quTo l k i).2 ∧ (quTo l k i).2 ≤ (i : Int) * B)
  | 0 => by simp [quTo]
  | i + 1 => by
    have ih := quTo_bd h hB k i
    have hb := pw_bd (k * i) (bd_get h (i := i) hB)
    have e : ((i + 1 : Nat) : Int) * B = (i : Int) * B + B := by
      rw [Int.natCast_add, Int.add_mul]; simp
    rw [e]
    unfold quTo
    generalize (i : Int) * B = m at *
    simp only
    omega
theorem quSt_zero (l : List Int) (k : Nat) : quSt l k 0 = fillTo (0, 0) 4 (qu l) k := by
  unfold quSt fillTo
  refine tab_ext fun q _ => ?_
  by_cases h : q < k
  · rw [if_pos h, if_pos h]
  · rw [if_neg h, if_neg h]
    by_cases h2 : q = k
    · rw [if_pos h2]; rfl
    · rw [if_neg h2]
theorem quSt_get {l : List Int} {k j : Nat} (hk : k < 4) : List.getD (quSt l k j) k (0, 0) = quTo l k j := by
  unfold quSt
  rw [tab_get hk, if_neg (by omega), if_pos rfl]
theorem quSt_set (l : List Int) (k j : Nat) : (quSt l k j).set k (quTo l k (j + 1)) = quSt l k (j + 1) := by
  unfold quSt
  rw [tab_set]
  refine tab_ext fun q _ => ?_
  by_cases h : q = k
  · subst h; rw [if_pos rfl, if_neg (by omega), if_pos rfl]
  · rw [if_neg h]
    by_cases h2 : q < k
    · rw [if_pos h2, if_pos h2]
    · rw [if_neg h2, if_neg h2, if_neg h, if_neg h]
theorem quSt_all (l : List Int) (k : Nat) : quSt l k l.length = fillTo (0, 0) 4 (qu l) (k + 1) := by
  unfold quSt fillTo
  refine tab_ext fun q _ => ?_
  by_cases h : q < k
  · rw [if_pos h, if_pos (by omega)]
  · rw [if_neg h]
    by_cases h2 : q = k
    · subst h2; rw [if_pos rfl, if_pos (by omega)]; rfl
    · rw [if_neg h2, if_neg (by omega)]
theorem quSt_len (l : List Int) (k j : Nat) : (quSt l k j).length = 4 := by unfold quSt; rw [tab_len]
def panI (l : List Int) (c : Nat) : List (Nat × Nat) := tab 4 fun k => (smp (qu (List.take 4 (List.drop (4 * c) l)) k).1, smp (qu (List.take 4 (List.drop (4 * c) l)) k).2)
def panN (l : List Nat) : List (List (Nat × Nat)) := if chkSig l = 0 then tab (l.length / 4) (panI (sixs l)) else []
def maxTo (f : Nat → Int) : Nat → Int
  | 0 => 0
  | i + 1 => max (maxTo f i) (f i)
theorem maxTo_nonneg (f : Nat → Int) : ∀ i, 0 ≤ maxTo f i
  | 0 => Int.le_refl 0
  | i + 1 => by
    have := maxTo_nonneg f i
    unfold maxTo
    omega
theorem maxTo_bd {f : Nat → Int} {B : Int} (hB : 0 ≤ B) : ∀ {i : Nat}, (∀ j, j < i → f j ≤ B) → maxTo f i ≤ B
  | 0, _ => hB
  | i + 1, h => by
    have h1 := maxTo_bd hB (i := i) fun j hj => h j (by omega)
    have h2 := h i (by omega)
    unfold maxTo
    omega
theorem farI_nonneg (x y : Int) : 0 ≤ farI x y := by unfold farI; omega
def unAt (l : List Int) (n : Nat) : Int := if n % 4 < 2 then farI (List.getD l n 0) (List.getD l (n + 2) 0) else 0
def unevI (l : List Int) : Int := maxTo (unAt l) l.length
theorem unAt_bd {l : List Int} {B : Int} (h : Bd B l) (hB : 0 ≤ B) (n : Nat) : unAt l n ≤ 2 * B := by
  have h1 := bd_get h (i := n) hB
  have h2 := bd_get h (i := n + 2) hB
  unfold unAt farI
  split <;> omega
theorem unAt_step (l : List Int) (g : Nat) (m : Int) (hm : m = maxTo (unAt l) (4 * g)) :
    max (max (max (max m (List.getD l (4 * g) 0 - List.getD l (4 * g + 2) 0)) (List.getD l (4 * g + 2) 0 - List.getD l (4 * g) 0)) (List.getD l (4 * g + 1) 0 - List.getD l (4 * g + 3) 0)) (List.getD l (4 * g + 3) 0 - List.getD l (4 * g + 1) 0) = maxTo (unAt l) (4 * (g + 1)) := by
  have h0 := maxTo_nonneg (unAt l) (4 * g)
  rw [show 4 * (g + 1) = 4 * g + 1 + 1 + 1 + 1 by omega]
  simp only [maxTo]
  rw [← hm] at *
  have e0 : unAt l (4 * g) = farI (List.getD l (4 * g) 0) (List.getD l (4 * g + 2) 0) := by unfold unAt; rw [if_pos (by omega)]
  have e1 : unAt l (4 * g + 1) = farI (List.getD l (4 * g + 1) 0) (List.getD l (4 * g + 3) 0) := by unfold unAt; rw [if_pos (by omega)]
  have e2 : unAt l (4 * g + 1 + 1) = 0 := by unfold unAt; rw [if_neg (by omega)]
  have e3 : unAt l (4 * g + 1 + 1 + 1) = 0 := by unfold unAt; rw [if_neg (by omega)]
  rw [e0, e1, e2, e3]
  unfold farI
  omega
theorem unevI_bd {l : List Int} (h : Bd 16384 l) : 0 ≤ unevI l ∧ unevI l ≤ 32768 := ⟨maxTo_nonneg _ _, maxTo_bd (by omega) fun j _ => by have := unAt_bd h (by omega) j; omega⟩
def farN (a b : List Int) : Int := maxTo (fun i => farI (List.getD a i 0) (List.getD b i 0)) a.length
theorem farN_bd {a b : List Int} (ha : Bd 16384 a) (hb : Bd 16384 b) : 0 ≤ farN a b ∧ farN a b ≤ 32768 := ⟨maxTo_nonneg _ _, maxTo_bd (by omega) fun j _ => by
  have h1 := bd_get ha (i := j) (by omega)
  have h2 := bd_get hb (i := j) (by omega)
  unfold farI; omega⟩
def mxTo (l : List Int) : Nat → Int
  | 0 => List.getD l 0 0
  | i + 1 => max (mxTo l i) (List.getD l i 0)
theorem mxTo_far (f : Nat → Int) (hf : ∀ j, 0 ≤ f j) (n : Nat) : ∀ i, i ≤ n → 0 < i → mxTo (tab n f ++ [0]) i = maxTo f i
  | 0, _, h => absurd h (by omega)
  | i + 1, hi, _ => by
    have hg : List.getD (tab n f ++ [0]) i 0 = f i := by
      rw [List.getD_eq_getElem?_getD, List.getElem?_append_left (by rw [tab_len]; omega), ← List.getD_eq_getElem?_getD, tab_get (by omega)]
    unfold mxTo maxTo
    rw [hg]
    by_cases h0 : i = 0
    · subst h0
      have hg0 : mxTo (tab n f ++ [0]) 0 = f 0 := hg
      rw [hg0]
      have := hf 0
      unfold maxTo
      omega
    · rw [mxTo_far f hf n i (by omega) (by omega)]
theorem mxTo_comb (a b : List Int) : mxTo (combI farI a b ++ [0]) (combI farI a b ++ [0]).length = farN a b := by
  unfold combI farN
  rw [List.length_append, tab_len]
  show mxTo _ (a.length + 1) = _
  have hl : List.getD (tab a.length (fun i => farI (List.getD a i 0) (List.getD b i 0)) ++ [0]) a.length 0 = 0 := by
    rw [List.getD_eq_getElem?_getD, List.getElem?_append_right (by rw [tab_len]; omega), tab_len]
    simp
  unfold mxTo
  rw [hl]
  by_cases h : a.length = 0
  · rw [h]; simp [mxTo, maxTo, tab]
  · rw [mxTo_far _ (fun j => farI_nonneg _ _) _ _ (Nat.le_refl _) (by omega)]
    have := maxTo_nonneg (fun i => farI (List.getD a i 0) (List.getD b i 0)) a.length
    omega
def difE (y u v y' u' v' : List Nat) : Int :=
  if first [chkPt y u v, chkPt y' u' v'] = 0 then (if y.length = y'.length then (if farN (sixs y) (sixs y') ≤ 16384 ∧ max (farN (sixs u) (sixs u')) (farN (sixs v) (sixs v')) ≤ 16384 then 0 else 4) else 2)
  else first [chkPt y u v, chkPt y' u' v']
def difP (y u v y' u' v' : List Nat) : List Nat := if difE y u v y' u' v' = 0 then [smp (farN (sixs y) (sixs y')), smp (max (farN (sixs u) (sixs u')) (farN (sixs v) (sixs v')))] else [0, 0]
end Go.Sx.U

namespace Go.Sx
open U
abbrev panT : Ty := .arr 4 (.cpx .f32)
@[reducible] def gsV (z : Int × Int) : V := .agg [.one (.int .i64 z.1), .one (.int .i64 z.2)]
def ptrId (s : St) (t : Nat) : Option Nat := match lookT s.tm t with
  | some (.val (.one (.ptr id 0))) => some id
  | _ => none
def rowC (s : St) : List Ch → Option (List Int)
  | [.one c] => rowAs (lookO s.ob) (.int .i64) c
  | _ => none
def h33 : Hints := ⟨fun f k s => match f, k with
  | 109, 3 => match listAs s 0 (.int .i64), ptrId s 3 with
    | some l, some b => some ⟨Nat, fun i => ⟨tI 8 i :: keepT [0, 2, 3] s.tm, (b, some (.box [.arr 4 gsT (fillTo (0, 0) 4 (qu l) i)])) :: dropO s [b], s.nx, s.lr⟩, fun i => i ≤ 4, fun i => 4 - i⟩
    | _, _ => none
  | 109, 6 => match listAs s 0 (.int .i64), ptrId s 3, intOfT s 4 with
    | some l, some b, some k => some ⟨Nat, fun j => ⟨tI 13 j :: keepT [0, 2, 3, 4, 8, 11, 12] s.tm, (b, some (.box [.arr 4 gsT (quSt l k.toNat j)])) :: dropO s [b], s.nx, s.lr⟩, fun j => j ≤ List.length l, fun j => List.length l - j⟩
    | _, _, _ => none
  | 167, 1 => match boxS s with
    | [(bo, co), (_, cl)] => match rowC s cl with
      | some l => some ⟨Nat, fun i => ⟨tI 7 i :: keepT [0, 1, 6] s.tm, (bo, some (.box [.one (.own s.nx)])) :: (s.nx, some (.row panT (tab i (panI l)))) :: dropO s ([bo] ++ ownC co), s.nx + 1, s.lr⟩, fun i => i ≤ List.length l / 4, fun i => List.length l / 4 - i⟩
      | none => none
    | _ => none
  | 77, 3 => match listAs s 0 (.int .i64), ptrId s 5, intOfT s 1 with
    | some l, some b, some k => some ⟨Nat, fun j => ⟨tI 6 j :: keepT [0, 1, 4, 5] s.tm, (b, some (.box [.one (.int .i64 (quTo l k.toNat j).1), .one (.int .i64 (quTo l k.toNat j).2)])) :: dropO s [b], s.nx, s.lr⟩, fun j => j ≤ List.length l, fun j => List.length l - j⟩
    | _, _, _ => none
  | _, _ => none, 6⟩
def h128 : Hints := ⟨fun f k s => match f, k with
  | 167, 1 => match boxS s with
    | [_, (bo, _), (_, cl)] => match rowC s cl with
      | some l => some ⟨Nat, fun i => ⟨tI 7 i :: keepT [0, 1, 6] s.tm, (bo, some (.box [.one (.int .i64 (maxTo (unAt l) (4 * i)))])) :: dropO s [bo], s.nx, s.lr⟩, fun i => i ≤ List.length l / 4, fun i => List.length l / 4 - i⟩
      | none => none
    | _ => none
  | 134, 5 => match listAs s 0 (.int .i64) with
    | some l => some ⟨Nat, fun i => s.at [0] [tI 4 i, tI 3 (mxTo l i)], fun i => 1 ≤ i ∧ i ≤ List.length l, fun i => List.length l - i⟩
    | none => none
  | 59, 2 => match boxS s with
    | (_, .one (.sl (.flt .f32) y) :: _) :: _ => some ⟨Nat, fun i => s.at [1] [tI 3 i], fun i => i ≤ List.length y ∧ ∀ j, j < i → unAt (sixs y) j = 0, fun i => List.length y - i⟩
    | _ => none
  | 60, 3 => match listAs s 3 (.int .i64) with
    | some l => some ⟨Nat, fun i => s.at [1, 3] [tI 5 i, tI 4 (maxTo (unAt l) i)], fun i => i ≤ List.length l, fun i => List.length l - i⟩
    | _ => none
  | 132, 3 => match listAs s 5 (.int .i64), listAs s 6 (.int .i64) with
    | some a, some b => some ⟨Nat, fun i => s.at [5, 6] [tI 8 i, tI 7 (maxTo (fun i => farI (List.getD a i 0) (List.getD b i 0)) i)], fun i => i ≤ List.length a, fun i => List.length a - i⟩
    | _, _ => none
  | _, _ => none, 0⟩
end Go.Sx
namespace Go.Sx
open U
def sp109 : FSpec := ⟨fun vs => match vs with
  | [.one (.sl (.int .i64) l)] => some ([List.length l ≤ 1000, Bd 1000000 l], .val (.agg [.arr 4 gsT (tab 4 (qu l))]))
  | _ => none, true⟩
def sp128 : FSpec := ⟨fun vs => match vs with
  | [.agg [.one (.sl (.flt .f32) y), .one (.sl (.flt .f32) _u), .one (.sl (.flt .f32) _v)]] => some ([chkSig y = 0], .val (iV (unevI (sixs y))))
  | _ => none, true⟩
def sp134 : FSpec := ⟨fun vs => match vs with
  | [.one (.sl (.int .i64) l)] => some ([0 < List.length l ∧ List.length l ≤ 1000000000], .val (iV (mxTo l (List.length l))))
  | _ => none, true⟩
def sp129 : FSpec := ⟨fun vs => match vs with
  | [.one (.sl (.flt .f32) a), .one (.sl (.flt .f32) b)] => some ([OkS a, OkS b, List.length a ≤ 1000, List.length b = List.length a], .val (iV (farN (sixs a) (sixs b))))
  | _ => none, true⟩
end Go.Sx

namespace Go.Sx
open U
theorem vc109 (l : List Int) : exF (env false [] []) h33 0 109 Proofs.Tryz.f109 [.one (.sl (.int .i64) l)] (.val (.agg [.arr 4 gsT (tab 4 (qu l))])) = (let q1 := ((0 : Int), (0 : Int)); let q2 := (↑(List.length l) : Int); (∃ (g : Nat), Nat.le g (4 : Nat) ∧ (0 : Int) = (↑g : Int) ∧ l = l ∧ List.replicate (4 : Nat) q1 = fillTo q1 (4 : Nat) (qu l) g ∧ List.replicate (4 : Nat) q1 = List.replicate (4 : Nat) q1 ∧ True) ∧ ∀ (g : Nat), let q3 := ((0 : Int) ≤ (↑g : Int) ∧ (↑g : Int) < (4 : Int)); Nat.le g (4 : Nat) → splitB (decide ((↑g : Int) < (4 : Int))) ((∃ (g_1 : Nat), Nat.le g_1 (List.length l) ∧ (0 : Int) = (↑g_1 : Int) ∧ q2 = q2 ∧ l = l ∧ (↑g : Int) = (↑g : Int) ∧ (↑g : Int) = (↑g : Int) ∧ l = l ∧ fillTo q1 (4 : Nat) (qu l) g = quSt l g g_1 ∧ List.replicate (4 : Nat) q1 = List.replicate (4 : Nat) q1 ∧ True) ∧ ∀ (g_1 : Nat), let q0 := (List.getD [((1 : Int), (0 : Int)), ((0 : Int), (-1 : Int)), ((-1 : Int), (0 : Int)), ((0 : Int), (1 : Int))] (Int.toNat ((↑g : Int) * (↑g_1 : Int) % (4 : Int))) q1); let q4 := (List.getD (quSt l g g_1) g q1); Nat.le g_1 (List.length l) → splitB (decide ((↑g_1 : Int) < q2)) (((0 : Int) ≤ (↑g_1 : Int) ∧ (↑g_1 : Int) < q2) ∧ fits IntKind.i64 ((↑g : Int) * (↑g_1 : Int)) ∧ ((0 : Int) ≤ (↑g : Int) * (↑g_1 : Int) ∧ (0 : Int) < (4 : Int)) ∧ ((0 : Int) ≤ (↑g : Int) * (↑g_1 : Int) % (4 : Int) ∧ (↑g : Int) * (↑g_1 : Int) % (4 : Int) < (4 : Int)) ∧ q3 ∧ g < List.length (quSt l g g_1) ∧ fits IntKind.i64 (List.getD l g_1 (0 : Int) * q0.1) ∧ fits IntKind.i64 (q4.1 + List.getD l g_1 (0 : Int) * q0.1) ∧ q3 ∧ g < List.length (quSt l g g_1) ∧ fits IntKind.i64 (List.getD l g_1 (0 : Int) * q0.2) ∧ fits IntKind.i64 (q4.2 + List.getD l g_1 (0 : Int) * q0.2) ∧ q3 ∧ g < List.length (quSt l g g_1) ∧ fits IntKind.i64 ((↑g_1 : Int) + (1 : Int)) ∧ ∃ (g' : Nat), Nat.le g' (List.length l) ∧ List.length l - g' < List.length l - g_1 ∧ (↑g_1 : Int) + (1 : Int) = (↑g' : Int) ∧ q2 = q2 ∧ l = l ∧ (↑g : Int) = (↑g : Int) ∧ (↑g : Int) = (↑g : Int) ∧ l = l ∧ List.set (quSt l g g_1) g (q4.1 + List.getD l g_1 (0 : Int) * q0.1, q4.2 + List.getD l g_1 (0 : Int) * q0.2) = quSt l g g' ∧ List.replicate (4 : Nat) q1 = List.replicate (4 : Nat) q1 ∧ True) (fits IntKind.i64 ((↑g : Int) + (1 : Int)) ∧ ∃ (g' : Nat), Nat.le g' (4 : Nat) ∧ (4 : Nat) - g' < (4 : Nat) - g ∧ (↑g : Int) + (1 : Int) = (↑g' : Int) ∧ l = l ∧ quSt l g g_1 = fillTo q1 (4 : Nat) (qu l) g' ∧ List.replicate (4 : Nat) q1 = List.replicate (4 : Nat) q1 ∧ True)) (fillTo q1 (4 : Nat) (qu l) g = tab (4 : Nat) (qu l) ∧ True)) := by
  kernel_rfl
theorem vc33 (l : List Nat) : exF (env false [(41, sp41), (108, sp108), (109, sp109), (110, sp110)] [fb107, fb167]) h33 3 33 Proofs.Tryz.f33 [.one (.sl (.flt .f32) l)] (.tup [.one (.frs panT (panN l)), iV (chkSig l)]) = (let q1 := ((0 : Int), (0 : Int)); let q3 := (↑(List.length (sixs l)) : Int); let q8 := (-8388608 : Int); let q9 := (8388608 : Int); let q10 := (List.length (sixs l) / (4 : Nat)); let q13 := (panI (sixs l)); let q14 := ((0 : Int) ≤ (0 : Int) ∧ (0 : Int) < (4 : Int)); let q15 := ((0 : Int) ≤ (1 : Int) ∧ (1 : Int) < (4 : Int)); let q16 := ((0 : Int) ≤ (2 : Int) ∧ (2 : Int) < (4 : Int)); let q17 := ((0 : Int) ≤ (3 : Int) ∧ (3 : Int) < (4 : Int)); splitB (chkSig l != (0 : Int)) (panN l = [] ∧ chkSig l = chkSig l ∧ True) (List.length l ≤ (1000000 : Nat) ∧ OkS l ∧ ((0 : Int) ≤ q3 ∧ (0 : Int) < (4 : Int) ∧ fits IntKind.i64 (q3 / (4 : Int))) ∧ (∃ (g : Nat), Nat.le g q10 ∧ (0 : Int) = (↑g : Int) ∧ q3 / (4 : Int) = q3 / (4 : Int) ∧ tab g q13 = [] ∧ sixs l = sixs l ∧ True) ∧ ∀ (g : Nat), let q11 := ((4 : Int) * (↑g : Int)); let q2 := (List.take (4 : Nat) (List.drop (Int.toNat q11) (sixs l))); let q12 := (List.take (4 : Nat) q2); let q0 := (tab (4 : Nat) (qu q12)); let q4 := (List.getD q0 (0 : Nat) q1); let q5 := (List.getD q0 (1 : Nat) q1); let q6 := (List.getD q0 (2 : Nat) q1); let q7 := (List.getD q0 (3 : Nat) q1); Nat.le g q10 → splitB (decide ((↑g : Int) < q3 / (4 : Int))) (fits IntKind.i64 q11 ∧ fits IntKind.i64 q11 ∧ fits IntKind.i64 ((4 : Int) * (↑g : Int) + (4 : Int)) ∧ ((0 : Int) ≤ (4 : Int) * (↑g : Int) ∧ (4 : Int) * (↑g : Int) ≤ (4 : Int) * (↑g : Int) + (4 : Int) ∧ (4 : Int) * (↑g : Int) + (4 : Int) ≤ q3) ∧ (4 : Nat) ≤ Int.toNat ((4 : Int) * (↑g : Int) + (4 : Int)) - Int.toNat q11 ∧ List.length q2 = (4 : Nat) ∧ ((0 : Int) ≤ (0 : Int) ∧ (0 : Int) ≤ (4 : Int) ∧ (4 : Int) ≤ (4 : Int)) ∧ List.length q12 = (4 : Nat) ∧ List.length q12 ≤ (1000 : Nat) ∧ Bd (1000000 : Int) q12 ∧ q14 ∧ (q8 ≤ q4.1 ∧ q4.1 ≤ q9) ∧ (q8 ≤ q4.2 ∧ q4.2 ≤ q9) ∧ q14 ∧ (0 : Nat) < (4 : Nat) ∧ fits IntKind.i64 (1 : Int) ∧ q15 ∧ (q8 ≤ q5.1 ∧ q5.1 ≤ q9) ∧ (q8 ≤ q5.2 ∧ q5.2 ≤ q9) ∧ q15 ∧ (1 : Nat) < (4 : Nat) ∧ fits IntKind.i64 (2 : Int) ∧ q16 ∧ (q8 ≤ q6.1 ∧ q6.1 ≤ q9) ∧ (q8 ≤ q6.2 ∧ q6.2 ≤ q9) ∧ q16 ∧ (2 : Nat) < (4 : Nat) ∧ fits IntKind.i64 (3 : Int) ∧ q17 ∧ (q8 ≤ q7.1 ∧ q7.1 ≤ q9) ∧ (q8 ≤ q7.2 ∧ q7.2 ≤ q9) ∧ q17 ∧ (3 : Nat) < (4 : Nat) ∧ fits IntKind.i64 (4 : Int) ∧ room (List.length (tab g q13) + (1 : Nat)) (32 : Nat) ∧ fits IntKind.i64 ((↑g : Int) + (1 : Int)) ∧ ∃ (g' : Nat), Nat.le g' q10 ∧ List.length (sixs l) / (4 : Nat) - g' < List.length (sixs l) / (4 : Nat) - g ∧ (↑g : Int) + (1 : Int) = (↑g' : Int) ∧ q3 / (4 : Int) = q3 / (4 : Int) ∧ tab g q13 ++ [[(smp q4.1, smp q4.2), (smp q5.1, smp q5.2), (smp q6.1, smp q6.2), (smp q7.1, smp q7.2)]] = tab g' q13 ∧ sixs l = sixs l ∧ True) (tab g q13 = panN l ∧ (0 : Int) = chkSig l ∧ True))) := by
  kernel_rfl
theorem vc128 (y u v : List Nat) : exF (env false [(108, sp108)] [fb107, fb167]) h128 3 128 Proofs.Tryz.f128 [ptV y u v] (.val (iV (unevI (sixs y)))) = (let q1 := (↑(List.length (sixs y)) : Int); let q2 := (List.length (sixs y) / (4 : Nat)); let q4 := ((0 : Int) ≤ (0 : Int) ∧ (0 : Int) < (4 : Int)); let q5 := ((0 : Int) ≤ (2 : Int) ∧ (2 : Int) < (4 : Int)); let q6 := ((0 : Int) ≤ (1 : Int) ∧ (1 : Int) < (4 : Int)); let q7 := ((0 : Int) ≤ (3 : Int) ∧ (3 : Int) < (4 : Int)); List.length y ≤ (1000000 : Nat) ∧ OkS y ∧ ((0 : Int) ≤ q1 ∧ (0 : Int) < (4 : Int) ∧ fits IntKind.i64 (q1 / (4 : Int))) ∧ (∃ (g : Nat), Nat.le g q2 ∧ (0 : Int) = (↑g : Int) ∧ q1 / (4 : Int) = q1 / (4 : Int) ∧ (0 : Int) = maxTo (unAt (sixs y)) ((4 : Nat) * g) ∧ sixs y = sixs y ∧ y = y ∧ u = u ∧ v = v ∧ True) ∧ ∀ (g : Nat), let q3 := ((4 : Int) * (↑g : Int)); let q0 := (List.take (4 : Nat) (List.drop (Int.toNat q3) (sixs y))); Nat.le g q2 → splitB (decide ((↑g : Int) < q1 / (4 : Int))) (fits IntKind.i64 q3 ∧ fits IntKind.i64 q3 ∧ fits IntKind.i64 ((4 : Int) * (↑g : Int) + (4 : Int)) ∧ ((0 : Int) ≤ (4 : Int) * (↑g : Int) ∧ (4 : Int) * (↑g : Int) ≤ (4 : Int) * (↑g : Int) + (4 : Int) ∧ (4 : Int) * (↑g : Int) + (4 : Int) ≤ q1) ∧ (4 : Nat) ≤ Int.toNat ((4 : Int) * (↑g : Int) + (4 : Int)) - Int.toNat q3 ∧ List.length q0 = (4 : Nat) ∧ q4 ∧ (0 : Nat) < List.length q0 ∧ q5 ∧ (2 : Nat) < List.length q0 ∧ fits IntKind.i64 (List.getD q0 (0 : Nat) (0 : Int) - List.getD q0 (2 : Nat) (0 : Int)) ∧ q5 ∧ (2 : Nat) < List.length q0 ∧ q4 ∧ (0 : Nat) < List.length q0 ∧ fits IntKind.i64 (List.getD q0 (2 : Nat) (0 : Int) - List.getD q0 (0 : Nat) (0 : Int)) ∧ q6 ∧ (1 : Nat) < List.length q0 ∧ q7 ∧ (3 : Nat) < List.length q0 ∧ fits IntKind.i64 (List.getD q0 (1 : Nat) (0 : Int) - List.getD q0 (3 : Nat) (0 : Int)) ∧ q7 ∧ (3 : Nat) < List.length q0 ∧ q6 ∧ (1 : Nat) < List.length q0 ∧ fits IntKind.i64 (List.getD q0 (3 : Nat) (0 : Int) - List.getD q0 (1 : Nat) (0 : Int)) ∧ fits IntKind.i64 ((↑g : Int) + (1 : Int)) ∧ ∃ (g' : Nat), Nat.le g' q2 ∧ List.length (sixs y) / (4 : Nat) - g' < List.length (sixs y) / (4 : Nat) - g ∧ (↑g : Int) + (1 : Int) = (↑g' : Int) ∧ q1 / (4 : Int) = q1 / (4 : Int) ∧ List.foldl max (maxTo (unAt (sixs y)) ((4 : Nat) * g)) [List.getD q0 (0 : Nat) (0 : Int) - List.getD q0 (2 : Nat) (0 : Int), List.getD q0 (2 : Nat) (0 : Int) - List.getD q0 (0 : Nat) (0 : Int), List.getD q0 (1 : Nat) (0 : Int) - List.getD q0 (3 : Nat) (0 : Int), List.getD q0 (3 : Nat) (0 : Int) - List.getD q0 (1 : Nat) (0 : Int)] = maxTo (unAt (sixs y)) ((4 : Nat) * g') ∧ sixs y = sixs y ∧ y = y ∧ u = u ∧ v = v ∧ True) (maxTo (unAt (sixs y)) ((4 : Nat) * g) = unevI (sixs y) ∧ True)) := by
  kernel_rfl
theorem vc57 (y u v : List Nat) : exF (env false [(26, sp26), (128, sp128), (110, sp110)] []) h0 0 57 Proofs.Tryz.f57 [ptV y u v] (.tup [fV (if chkPt y u v = 0 then smp ((unevI (sixs y) + 1) / 2) else 0), iV (chkPt y u v)]) = (let q0 := (unevI (sixs y) + (1 : Int)); List.length y ≤ (1000000000 : Nat) ∧ splitB (chkPt y u v != (0 : Int)) (((0 : Nat) = if chkPt y u v = (0 : Int) then smp (q0 / (2 : Int)) else (0 : Nat)) ∧ chkPt y u v = chkPt y u v ∧ True) (chkSig y = (0 : Int) ∧ fits IntKind.i64 q0 ∧ ((0 : Int) ≤ unevI (sixs y) + (1 : Int) ∧ (0 : Int) < (2 : Int) ∧ fits IntKind.i64 (q0 / (2 : Int))) ∧ ((-8388608 : Int) ≤ q0 / (2 : Int) ∧ q0 / (2 : Int) ≤ (8388608 : Int)) ∧ (smp (q0 / (2 : Int)) = if chkPt y u v = (0 : Int) then smp (q0 / (2 : Int)) else (0 : Nat)) ∧ (0 : Int) = chkPt y u v ∧ True)) := by
  kernel_rfl
theorem vc134 (l : List Int) : exF (env false [] []) h128 0 134 Proofs.Tryz.f134 [.one (.sl (.int .i64) l)] (.val (iV (mxTo l l.length))) = (let q0 := (↑(List.length l) : Int); splitB (decide (q0 < (1 : Int))) False (((0 : Int) ≤ (0 : Int) ∧ (0 : Int) < q0) ∧ (∃ (g : Nat), ((1 : Nat) ≤ g ∧ g ≤ List.length l) ∧ (1 : Int) = (↑g : Int) ∧ List.getD l (0 : Nat) (0 : Int) = mxTo l g ∧ l = l ∧ True) ∧ ∀ (g : Nat), (1 : Nat) ≤ g ∧ g ≤ List.length l → splitB (decide ((↑g : Int) < q0)) (((0 : Int) ≤ (↑g : Int) ∧ (↑g : Int) < q0) ∧ fits IntKind.i64 ((↑g : Int) + (1 : Int)) ∧ ∃ (g' : Nat), ((1 : Nat) ≤ g' ∧ g' ≤ List.length l) ∧ List.length l - g' < List.length l - g ∧ (↑g : Int) + (1 : Int) = (↑g' : Int) ∧ max (mxTo l g) (List.getD l g (0 : Int)) = mxTo l g' ∧ l = l ∧ True) (mxTo l g = mxTo l (List.length l) ∧ True))) := by
  kernel_rfl
theorem vc129 (a b : List Nat) : exF (env false [(108, sp108), (117, sp117), (173, sp173), (134, sp134)] []) h0 0 129 Proofs.Tryz.f129 [.one (.sl (.flt .f32) a), .one (.sl (.flt .f32) b)] (.val (iV (farN (sixs a) (sixs b)))) = (List.length a ≤ (1000000 : Nat) ∧ OkS a ∧ List.length b ≤ (1000000 : Nat) ∧ OkS b ∧ List.length (sixs a) ≤ (100000 : Nat) ∧ List.length (sixs b) = List.length (sixs a) ∧ Bd (1000000 : Int) (sixs a) ∧ Bd (1000000 : Int) (sixs b) ∧ room (List.length (combI farI (sixs a) (sixs b)) + (1 : Nat)) (8 : Nat) ∧ ((0 : Nat) < List.length (combI farI (sixs a) (sixs b) ++ [(0 : Int)]) ∧ List.length (combI farI (sixs a) (sixs b) ++ [(0 : Int)]) ≤ (1000000000 : Nat)) ∧ mxTo (combI farI (sixs a) (sixs b) ++ [(0 : Int)]) (List.length (combI farI (sixs a) (sixs b) ++ [(0 : Int)])) = farN (sixs a) (sixs b) ∧ True) := by
  kernel_rfl
theorem vc58 (y u v y' u' v' : List Nat) : exF (env false [(26, sp26), (95, sp95), (103, sp103), (129, sp129), (130, sp130), (110, sp110)] []) h0 0 58 Proofs.Tryz.f58 [ptV y u v, ptV y' u' v'] (.tup [.agg [.arr 2 (.flt .f32) (difP y u v y' u' v')], iV (difE y u v y' u' v')]) = (let q0 := (farN (sixs u) (sixs u')); let q1 := (farN (sixs v) (sixs v')); List.length y ≤ (1000000000 : Nat) ∧ List.length y' ≤ (1000000000 : Nat) ∧ (2 : Nat) ≤ (1000000000 : Nat) ∧ splitB (first [chkPt y u v, chkPt y' u' v'] != (0 : Int)) (List.replicate (2 : Nat) (0 : Nat) = difP y u v y' u' v' ∧ first [chkPt y u v, chkPt y' u' v'] = difE y u v y' u' v' ∧ True) (splitB ((↑(List.length y) : Int) != (↑(List.length y') : Int)) (List.replicate (2 : Nat) (0 : Nat) = difP y u v y' u' v' ∧ (2 : Int) = difE y u v y' u' v' ∧ True) (OkS y ∧ OkS y' ∧ List.length y ≤ (1000 : Nat) ∧ List.length y' = List.length y ∧ OkS u ∧ OkS u' ∧ List.length u ≤ (1000 : Nat) ∧ List.length u' = List.length u ∧ OkS v ∧ OkS v' ∧ List.length v ≤ (1000 : Nat) ∧ List.length v' = List.length v ∧ splitB (bif lgI (farN (sixs y) (sixs y')) then true else lgI (max q0 q1)) (List.replicate (2 : Nat) (0 : Nat) = difP y u v y' u' v' ∧ (4 : Int) = difE y u v y' u' v' ∧ True) (((-8388608 : Int) ≤ farN (sixs y) (sixs y') ∧ farN (sixs y) (sixs y') ≤ (8388608 : Int)) ∧ ((-8388608 : Int) ≤ max q0 q1 ∧ max q0 q1 ≤ (8388608 : Int)) ∧ [smp (farN (sixs y) (sixs y')), smp (max q0 q1)] = difP y u v y' u' v' ∧ (0 : Int) = difE y u v y' u' v' ∧ True)))) := by
  kernel_rfl
end Go.Sx

namespace Go.Sx
open U
theorem fn109 (l : List Int) (hl : l.length ≤ 1000) (hb : Bd 1000000 l) : Fn P1 gl1 109 [.one (.sl (.int .i64) l)] (.val (.agg [.arr 4 gsT (tab 4 (qu l))])) true := by
  refine Fn.flat ?_ rfl
  refine fn_of false [] [] h33 0 Proofs.Tryz.f109 trivial trivial (by kernel_rfl) rfl (by kernel_rfl) rfl rfl rfl ?_
  rw [vc109]
  try simp only [splitB_iff, -eq_self]
  refine ⟨⟨0, Nat.zero_le _, rfl, rfl, (fillTo_zero _ _ _).symm, rfl, trivial⟩, fun g hg => ⟨fun hlt => ⟨⟨0, Nat.zero_le _, rfl, rfl, rfl, rfl, rfl, rfl, (quSt_zero _ _).symm, rfl, trivial⟩, fun j hj => ⟨fun hlt2 => ?_, fun hge2 => ?_⟩⟩, fun hge => ?_⟩⟩
  · have hlt : (g : Int) < 4 := by simpa using hlt
    have hlt2 : j < l.length := by simpa using hlt2
    have hgj : (g : Int) * (j : Int) = ((g * j : Nat) : Int) := (Int.natCast_mul g j).symm
    have hle : g * j ≤ 3 * 1000 := Nat.mul_le_mul (by omega) (by omega)
    have hp : List.getD [((1 : Int), (0 : Int)), (0, -1), (-1, 0), (0, 1)] (Int.toNat ((g : Int) * (j : Int) % 4)) (0, 0) = pw (g * j) := by
      rw [hgj, show Int.toNat (((g * j : Nat) : Int) % 4) = g * j % 4 by omega]; rfl
    rw [hp, quSt_get (by omega), hgj]
    obtain ⟨p1, p2⟩ := pw_bd (g * j) (bd_get hb (i := j) (by omega))
    obtain ⟨q1, q2⟩ := quTo_bd hb (by omega) g j
    simp only [fits, quSt_len, -eq_self]
    exact ⟨by omega, by omega, by omega, by omega, by omega, by omega, by omega, by omega, by omega, by omega, by omega, by omega, by omega, by omega, by omega, j + 1, hlt2, by omega, by simp, rfl, rfl, rfl, rfl, rfl, quSt_set l g j, rfl, trivial⟩
  · have hlt : (g : Int) < 4 := by simpa using hlt
    have hj : j ≤ l.length := hj
    have hge2 : ¬ j < l.length := by simpa using hge2
    have e : j = l.length := by omega
    subst e
    exact ⟨by simp only [fits]; omega, g + 1, show g + 1 ≤ 4 by omega, by omega, by simp, rfl, quSt_all l g, rfl, trivial⟩
  · have hge : ¬ (g : Int) < 4 := by simpa using hge
    exact ⟨fillTo_all _ _ _ _ (by omega), trivial⟩
theorem so109_ : SpecOk P1 gl1 109 sp109 := by
  intro vs ps r h hp
  simp only [sp109] at h
  split at h
  · cases h; exact fn109 _ (hp _ (.head _)) (hp _ (.tail _ (.head _)))
  · cases h
theorem so109 : Sp1 109 sp109 := ⟨so109_, Proofs.Tryz.f109, _, by kernel_rfl, rfl, by kernel_rfl⟩
theorem fn33 (l : List Nat)  : Fn P1 gl1 33 [.one (.sl (.flt .f32) l)] (.tup [.one (.frs panT (panN l)), iV (chkSig l)]) true := by
  refine Fn.flat ?_ rfl
  refine fn_of false [(41, sp41), (108, sp108), (109, sp109), (110, sp110)] [fb107, fb167] h33 3 Proofs.Tryz.f33 ⟨so41, so108, so109, so110, trivial⟩ ⟨⟨by kernel_rfl, by kernel_rfl, _, rfl, by kernel_rfl⟩, ⟨by kernel_rfl, by kernel_rfl, _, rfl, by kernel_rfl⟩, trivial⟩ (by kernel_rfl) rfl (by kernel_rfl) rfl rfl rfl ?_
  rw [vc33]
  try simp only [splitB_iff, -eq_self]
  refine ⟨fun h => ?_, fun h => ?_⟩
  · have h := bneZ.1 h
    unfold panN
    rw [if_neg h]
    exact ⟨rfl, rfl, trivial⟩
  · have h := bneF.1 h
    obtain ⟨k1, k2, k3⟩ := chkSig_zero.1 h
    simp only [sixs_len, -eq_self]
    refine ⟨by omega, k3, ⟨by omega, by omega, by simp only [fits]; omega⟩, ⟨0, Nat.zero_le _, rfl, rfl, rfl, rfl, trivial⟩, fun g hg => ⟨fun hlt => ?_, fun hge => ?_⟩⟩
    · have hlt : (g : Int) < (l.length : Int) / 4 := by simpa using hlt
      have e1 : Int.toNat (4 * (g : Int)) = 4 * g := by omega
      rw [e1]
      have ht : List.take 4 (List.take 4 (List.drop (4 * g) (sixs l))) = List.take 4 (List.drop (4 * g) (sixs l)) := by rw [List.take_take]; rfl
      rw [ht]
      have hc : (List.take 4 (List.drop (4 * g) (sixs l))).length = 4 := by rw [List.length_take, List.length_drop, sixs_len]; omega
      have hb : Bd 16384 (List.take 4 (List.drop (4 * g) (sixs l))) := fun n hn => bd_sixs k3 n (List.mem_of_mem_drop (List.mem_of_mem_take hn))
      have hq : ∀ k, (-8388608 ≤ (qu (List.take 4 (List.drop (4 * g) (sixs l))) k).1 ∧ (qu (List.take 4 (List.drop (4 * g) (sixs l))) k).1 ≤ 8388608) ∧ (-8388608 ≤ (qu (List.take 4 (List.drop (4 * g) (sixs l))) k).2 ∧ (qu (List.take 4 (List.drop (4 * g) (sixs l))) k).2 ≤ 8388608) := fun k => by
        have := quTo_bd hb (by omega) k 4
        unfold qu
        rw [hc]
        omega
      simp only [tab_get (show 0 < 4 by decide), tab_get (show 1 < 4 by decide), tab_get (show 2 < 4 by decide), tab_get (show 3 < 4 by decide), hc, tab_len, fits, room, -eq_self]
      exact ⟨by omega, by omega, by omega, by omega, by omega, rfl, by omega, rfl, by omega, bd_le hb (by omega), by omega, (hq 0).1, (hq 0).2, by omega, by omega, by omega, by omega, (hq 1).1, (hq 1).2, by omega, by omega, by omega, by omega, (hq 2).1, (hq 2).2, by omega, by omega, by omega, by omega, (hq 3).1, (hq 3).2, by omega, by omega, by omega, by omega, by omega, g + 1, show g + 1 ≤ _ by omega, by omega, by simp, rfl, (tab_succ g (panI (sixs l))).symm, rfl, trivial⟩
    · have hg : g ≤ l.length / 4 := hg
      have hge : ¬ (g : Int) < (l.length : Int) / 4 := by simpa using hge
      have e : g = l.length / 4 := by omega
      subst e
      unfold panN
      rw [if_pos h]
      exact ⟨rfl, h.symm, trivial⟩
theorem fn128 (y u v : List Nat) (h : chkSig y = 0) : Fn P1 gl1 128 [ptV y u v] (.val (iV (unevI (sixs y)))) true := by
  refine Fn.flat ?_ rfl
  refine fn_of false [(108, sp108)] [fb107, fb167] h128 3 Proofs.Tryz.f128 ⟨so108, trivial⟩ ⟨⟨by kernel_rfl, by kernel_rfl, _, rfl, by kernel_rfl⟩, ⟨by kernel_rfl, by kernel_rfl, _, rfl, by kernel_rfl⟩, trivial⟩ (by kernel_rfl) rfl (by kernel_rfl) rfl rfl rfl ?_
  rw [vc128]
  try simp only [splitB_iff, -eq_self]
  obtain ⟨k1, k2, k3⟩ := chkSig_zero.1 h
  simp only [sixs_len, -eq_self]
  refine ⟨by omega, k3, ⟨by omega, by omega, by simp only [fits]; omega⟩, ⟨0, Nat.zero_le _, rfl, rfl, rfl, rfl, rfl, rfl, rfl, trivial⟩, fun g hg => ⟨fun hlt => ?_, fun hge => ?_⟩⟩
  · have hlt : (g : Int) < (y.length : Int) / 4 := by simpa using hlt
    have e1 : Int.toNat (4 * (g : Int)) = 4 * g := by omega
    rw [e1]
    have hc : (List.take 4 (List.drop (4 * g) (sixs y))).length = 4 := by rw [List.length_take, List.length_drop, sixs_len]; omega
    have hb := bd_sixs k3
    have a0 := bd_get hb (i := 4 * g) (by omega)
    have a1 := bd_get hb (i := 4 * g + 1) (by omega)
    have a2 := bd_get hb (i := 4 * g + 2) (by omega)
    have a3 := bd_get hb (i := 4 * g + 3) (by omega)
    simp only [cyc_get _ g 0 (by omega), cyc_get _ g 1 (by omega), cyc_get _ g 2 (by omega), cyc_get _ g 3 (by omega), hc, fits, Nat.add_zero, -eq_self]
    exact ⟨by omega, by omega, by omega, by omega, by omega, rfl, by omega, by omega, by omega, by omega, by omega, by omega, by omega, by omega, by omega, by omega, by omega, by omega, by omega, by omega, by omega, by omega, by omega, by omega, by omega, by omega, by omega, g + 1, show g + 1 ≤ _ by omega, by omega, by simp, rfl, unAt_step _ _ _ rfl, rfl, rfl, rfl, rfl, trivial⟩
  · have hg : g ≤ y.length / 4 := hg
    have hge : ¬ (g : Int) < (y.length : Int) / 4 := by simpa using hge
    unfold unevI
    rw [sixs_len, show 4 * g = y.length by omega]
    exact ⟨rfl, trivial⟩
theorem so128_ : SpecOk P1 gl1 128 sp128 := by
  intro vs ps r h hp
  simp only [sp128] at h
  split at h
  · cases h; exact fn128 _ _ _ (hp _ (.head _))
  · cases h
theorem so128 : Sp1 128 sp128 := ⟨so128_, Proofs.Tryz.f128, _, by kernel_rfl, rfl, by kernel_rfl⟩
theorem fn57 (y u v : List Nat) (hl : y.length ≤ 1000000000) : Fn P1 gl1 57 [ptV y u v] (.tup [fV (if chkPt y u v = 0 then smp ((unevI (sixs y) + 1) / 2) else 0), iV (chkPt y u v)]) true := by
  refine Fn.flat ?_ rfl
  refine fn_of false [(26, sp26), (128, sp128), (110, sp110)] [] h0 0 Proofs.Tryz.f57 ⟨so26, so128, so110, trivial⟩ trivial (by kernel_rfl) rfl (by kernel_rfl) rfl rfl rfl ?_
  rw [vc57]
  try simp only [splitB_iff, -eq_self]
  refine ⟨hl, fun h => ?_, fun h => ?_⟩
  · have h := bneZ.1 h
    rw [if_neg h]
    exact ⟨rfl, rfl, trivial⟩
  · have h := bneF.1 h
    rw [if_pos h]
    have hs := (chkPt_zero.1 h).1
    have hb := unevI_bd (bd_sixs (chkSig_zero.1 hs).2.2)
    simp only [fits, -eq_self]
    exact ⟨hs, by omega, by omega, by omega, rfl, h.symm, trivial⟩
theorem fn134 (l : List Int) (hl : 0 < l.length ∧ l.length ≤ 1000000000) : Fn P1 gl1 134 [.one (.sl (.int .i64) l)] (.val (iV (mxTo l l.length))) true := by
  refine Fn.flat ?_ rfl
  refine fn_of false [] [] h128 0 Proofs.Tryz.f134 trivial trivial (by kernel_rfl) rfl (by kernel_rfl) rfl rfl rfl ?_
  rw [vc134]
  try simp only [splitB_iff, -eq_self]
  refine ⟨fun h => ?_, fun h => ⟨by omega, ⟨1, by omega, rfl, ?_, rfl, trivial⟩, fun g hg => ⟨fun hlt => ?_, fun hge => ?_⟩⟩⟩
  · have h : (l.length : Int) < 1 := of_decide_eq_true h
    omega
  · show _ = max (List.getD l 0 0) (List.getD l 0 0)
    omega
  · have hlt : g < l.length := by simpa using hlt
    exact ⟨by omega, by simp only [fits]; omega, g + 1, ⟨by omega, by omega⟩, by omega, by simp, rfl, rfl, trivial⟩
  · have hge : ¬ g < l.length := by simpa using hge
    have e : g = l.length := by omega
    subst e
    exact ⟨rfl, trivial⟩
theorem so134_ : SpecOk P1 gl1 134 sp134 := by
  intro vs ps r h hp
  simp only [sp134] at h
  split at h
  · cases h; exact fn134 _ (hp _ (.head _))
  · cases h
theorem so134 : Sp1 134 sp134 := ⟨so134_, Proofs.Tryz.f134, _, by kernel_rfl, rfl, by kernel_rfl⟩
theorem fn129 (a b : List Nat) (ha : OkS a) (hb : OkS b) (hl : a.length ≤ 1000) (hm : b.length = a.length) : Fn P1 gl1 129 [.one (.sl (.flt .f32) a), .one (.sl (.flt .f32) b)] (.val (iV (farN (sixs a) (sixs b)))) true := by
  refine Fn.flat ?_ rfl
  refine fn_of false [(108, sp108), (117, sp117), (173, sp173), (134, sp134)] [] h0 0 Proofs.Tryz.f129 ⟨so108, so117, so173, so134, trivial⟩ trivial (by kernel_rfl) rfl (by kernel_rfl) rfl rfl rfl ?_
  rw [vc129]
  try simp only [splitB_iff, -eq_self]
  have b1 := bd_sixs ha
  have b2 := bd_sixs hb
  rw [mxTo_comb]
  simp only [sixs_len, combI_len, List.length_append, List.length_cons, List.length_nil, room, -eq_self]
  exact ⟨by omega, ha, by omega, hb, by omega, by omega, bd_le b1 (by omega), bd_le b2 (by omega), by omega, by omega, rfl, trivial⟩
theorem so129_ : SpecOk P1 gl1 129 sp129 := by
  intro vs ps r h hp
  simp only [sp129] at h
  split at h
  · cases h; exact fn129 _ _ (hp _ (.head _)) (hp _ (.tail _ (.head _))) (hp _ (.tail _ (.tail _ (.head _)))) (hp _ (.tail _ (.tail _ (.tail _ (.head _)))))
  · cases h
theorem so129 : Sp1 129 sp129 := ⟨so129_, Proofs.Tryz.f129, _, by kernel_rfl, rfl, by kernel_rfl⟩
theorem fn58 (y u v y' u' v' : List Nat) (hl : y.length ≤ 1000000000) (hl' : y'.length ≤ 1000000000) : Fn P1 gl1 58 [ptV y u v, ptV y' u' v'] (.tup [.agg [.arr 2 (.flt .f32) (difP y u v y' u' v')], iV (difE y u v y' u' v')]) true := by
  refine Fn.flat ?_ rfl
  refine fn_of false [(26, sp26), (95, sp95), (103, sp103), (129, sp129), (130, sp130), (110, sp110)] [] h0 0 Proofs.Tryz.f58 ⟨so26, so95, so103, so129, so130, so110, trivial⟩ trivial (by kernel_rfl) rfl (by kernel_rfl) rfl rfl rfl ?_
  rw [vc58]
  try simp only [splitB_iff, -eq_self]
  refine ⟨hl, hl', by decide, fun h => ?_, fun h => ?_⟩
  · have h := bneZ.1 h
    have e : difE y u v y' u' v' = first [chkPt y u v, chkPt y' u' v'] := by unfold difE; rw [if_neg h]
    unfold difP
    rw [e, if_neg h]
    exact ⟨rfl, rfl, trivial⟩
  · have h := bneF.1 h
    have hz := first_zero.1 h
    obtain ⟨p1, p2, p3, p4, p5⟩ := chkPt_zero.1 (hz _ (.head _))
    obtain ⟨q1, q2, q3, q4, q5⟩ := chkPt_zero.1 (hz _ (.tail _ (.head _)))
    obtain ⟨a1, a2, a3⟩ := chkSig_zero.1 p1
    obtain ⟨b1, b2, b3⟩ := chkSig_zero.1 q1
    refine ⟨fun k => ?_, fun k => ?_⟩
    · have k : ¬ (y.length : Int) = (y'.length : Int) := bne_iff_ne.1 k
      have e : difE y u v y' u' v' = 2 := by unfold difE; rw [if_pos h, if_neg (by omega)]
      unfold difP
      rw [e]
      exact ⟨rfl, rfl, trivial⟩
    · have k : (y.length : Int) = (y'.length : Int) := bne_eq_false_iff_eq.1 k
      have f1 := farN_bd (bd_sixs a3) (bd_sixs b3)
      have f2 := farN_bd (bd_sixs p4) (bd_sixs q4)
      have f3 := farN_bd (bd_sixs p5) (bd_sixs q5)
      have ed : difE y u v y' u' v' = if farN (sixs y) (sixs y') ≤ 16384 ∧ max (farN (sixs u) (sixs u')) (farN (sixs v) (sixs v')) ≤ 16384 then 0 else 4 := by unfold difE; rw [if_pos h, if_pos (by omega)]
      refine ⟨a3, b3, by omega, by omega, p4, q4, by omega, by omega, p5, q5, by omega, by omega, fun g => ?_, fun g => ?_⟩
      · have e : difE y u v y' u' v' = 4 := by
          rw [ed, if_neg]
          intro hh
          have g1 := lgI_false (n := farN (sixs y) (sixs y')).2 (by omega)
          have g2 := lgI_false (n := max (farN (sixs u) (sixs u')) (farN (sixs v) (sixs v'))).2 (by omega)
          rw [g1, g2] at g
          cases g
        unfold difP
        rw [e]
        exact ⟨rfl, rfl, trivial⟩
      · rw [bcond_l, Bool.or_eq_false_iff] at g
        have g1 := lgI_false.1 g.1
        have g2 := lgI_false.1 g.2
        have e : difE y u v y' u' v' = 0 := by rw [ed, if_pos (by omega)]
        unfold difP
        rw [e, if_pos rfl]
        exact ⟨by omega, by omega, rfl, rfl, trivial⟩
end Go.Sx

namespace Go.Sx.U
def phI (b : List Nat) : Int × Int := (six (List.getD b 0 0) - six (List.getD b 2 0), six (List.getD b 1 0) - six (List.getD b 3 0))
def burZ (b : List Nat) : Int × Int := if chkSs b = 0 then phI b else (0, 0)
def four (z : Int × Int) : List Int := [z.1, z.2, -z.1, -z.2]
def fnd (l : List Int) (v : Int) : Nat → Int
  | 0 => -1
  | i + 1 => if fnd l v i = -1 then (if List.getD l i 0 = v then (i : Int) else -1) else fnd l v i
def amax (l : List Int) : Nat → Nat
  | 0 => 0
  | i + 1 => if List.getD l (amax l i) 0 < List.getD l i 0 then i else amax l i
theorem amax_lt (l : List Int) : ∀ i, 0 < i → amax l i < i
  | 0, h => absurd h (by omega)
  | i + 1, _ => by
    unfold amax
    split
    · omega
    · by_cases h : i = 0
      · subst h; simp [amax]
      · have := amax_lt l i (by omega); omega
theorem mx_amax (l : List Int) : ∀ i, 0 < i → mxTo l i = List.getD l (amax l i) 0
  | 0, h => absurd h (by omega)
  | i + 1, _ => by
    unfold mxTo amax
    by_cases h : i = 0
    · subst h
      have e : mxTo l 0 = List.getD l 0 0 := rfl
      have e2 : amax l 0 = 0 := rfl
      rw [e, e2, ite_self]
      omega
    · rw [mx_amax l i (by omega)]
      split <;> omega
theorem amax_ge (l : List Int) : ∀ i j, j < i → List.getD l j 0 ≤ List.getD l (amax l i) 0
  | 0, j, h => absurd h (by omega)
  | i + 1, j, h => by
    unfold amax
    by_cases e : j = i
    · subst e; split <;> omega
    · have := amax_ge l i j (by omega)
      split <;> omega
theorem amax_first (l : List Int) : ∀ i j, j < amax l i → List.getD l j 0 < List.getD l (amax l i) 0
  | 0, j, h => absurd h (by simp [amax])
  | i + 1, j, h => by
    by_cases hk : List.getD l (amax l i) 0 < List.getD l i 0
    · have e : amax l (i + 1) = i := by
        show (if _ then _ else _) = _
        rw [if_pos hk]
      rw [e] at h ⊢
      have := amax_ge l i j h
      omega
    · have e : amax l (i + 1) = amax l i := by
        show (if _ then _ else _) = _
        rw [if_neg hk]
      rw [e] at h ⊢
      exact amax_first l i j h
theorem fnd_none {l : List Int} {v : Int} : ∀ {i : Nat}, (∀ j, j < i → List.getD l j 0 ≠ v) → fnd l v i = -1
  | 0, _ => rfl
  | i + 1, h => by
    unfold fnd
    rw [if_pos (fnd_none fun j hj => h j (by omega)), if_neg (h i (by omega))]
theorem fnd_at {l : List Int} {v : Int} {k : Nat} (h1 : ∀ j, j < k → List.getD l j 0 ≠ v) (h2 : List.getD l k 0 = v) : ∀ {i : Nat}, k < i → fnd l v i = (k : Int)
  | 0, h => absurd h (by omega)
  | i + 1, h => by
    unfold fnd
    by_cases e : k = i
    · subst e
      rw [if_pos (fnd_none h1), if_pos h2]
    · rw [fnd_at h1 h2 (i := i) (by omega), if_neg (by omega)]
theorem fnd_ne {l : List Int} {v : Int} : ∀ {i j : Nat}, j < i → List.getD l j 0 = v → fnd l v i ≠ -1
  | 0, _, h, _ => absurd h (by omega)
  | i + 1, j, h, hv => by
    unfold fnd
    by_cases k : fnd l v i = -1
    · rw [if_pos k]
      by_cases e : j = i
      · subst e; rw [if_pos hv]; omega
      · exact absurd k (fnd_ne (by omega) hv)
    · rw [if_neg k]; exact k
theorem fnd_mx (l : List Int) (i : Nat) (h : 0 < i) : fnd l (mxTo l i) i = (amax l i : Int) := by
  refine fnd_at (fun j hj => ?_) (mx_amax l i h).symm (amax_lt l i h)
  have := amax_first l i j hj
  rw [mx_amax l i h]
  omega
def lckB (b : List Nat) (least : Int) : Int := first [chkSs b, within least 1 1048576]
def lckN (z : Int × Int) (least : Int) : Int := if mxTo (four z) 4 < least then 0 else (amax (four z) 4 : Int)
def lckE (z : Int × Int) (least : Int) : Int := if mxTo (four z) 4 < least then 7 else 0
def lkN (b : List Nat) (least : Int) : Int := if lckB b least = 0 then lckN (phI b) least else 0
def lkE (b : List Nat) (least : Int) : Int := if lckB b least = 0 then lckE (phI b) least else lckB b least
theorem take_all {α : Type} {l : List α} {n : Nat} (h : l.length = n) : List.take n l = l := List.take_of_length_le (by omega)
theorem ph_bd {b : List Nat} (h : OkS b) (hl : b.length = 4) : (-32768 ≤ (phI b).1 ∧ (phI b).1 ≤ 32768) ∧ (-32768 ≤ (phI b).2 ∧ (phI b).2 ≤ 32768) := by
  have k : ∀ i, i < 4 → -16384 ≤ six (List.getD b i 0) ∧ six (List.getD b i 0) ≤ 16384 := fun i hi => chk_six (h _ (getD_mem' (by omega)))
  have := k 0 (by omega)
  have := k 1 (by omega)
  have := k 2 (by omega)
  have := k 3 (by omega)
  unfold phI
  simp only
  omega
def algL (l : List Nat) (n : Nat) : List Nat := List.take ((l.drop n).length / 4 * 4) (l.drop n)
def algE (l : List Nat) (late : Int) : Int := first [chkSig l, within late 0 3]
def algN (l : List Nat) (late : Int) : List Nat := if algE l late = 0 then algL l late.toNat else []
def smTo (l : List Int) (f : Nat) : Nat → Int
  | 0 => 0
  | i + 1 => smTo l f i + List.getD l (f + i) 0
theorem smTo_bd {l : List Int} {B : Int} (h : Bd B l) (hB : 0 ≤ B) (f : Nat) : ∀ i : Nat, -((i : Int) * B) ≤ smTo l f i ∧ smTo l f i ≤ (i : Int) * B
  | 0 => by simp [smTo]
  | i + 1 => by
    have ih := smTo_bd h hB f i
    have hb := bd_get h (i := f + i) hB
    have e : ((i + 1 : Nat) : Int) * B = (i : Int) * B + B := by
      rw [Int.natCast_add, Int.add_mul]; simp
    rw [e]
    unfold smTo
    omega
def clBy (l : List Nat) (f t : Int) (lev : Nat) : Int := six lev - roundI (smTo (sixs l) f.toNat (t - f).toNat) (t - f)
def clI (l : List Nat) (f t : Int) (lev : Nat) : List Int := l.map fun b => six b + clBy l f t lev
def spE (l : List Nat) (f t : Int) : Int := if 0 ≤ f ∧ f < t ∧ t ≤ l.length then 0 else 14
def clB (l : List Nat) (f t : Int) (lev : Nat) : Int := first [chkSig l, spE l f t, chkS lev]
def clE (l : List Nat) (f t : Int) (lev : Nat) : Int := if clB l f t lev = 0 then lgE (clI l f t lev) else clB l f t lev
def clN (l : List Nat) (f t : Int) (lev : Nat) : List Nat := if clB l f t lev = 0 then smpsN (clI l f t lev) else []
theorem clB_zero {l : List Nat} {f t : Int} {lev : Nat} : clB l f t lev = 0 ↔ chkSig l = 0 ∧ (0 ≤ f ∧ f < t ∧ t ≤ l.length) ∧ chkS lev = 0 := by
  unfold clB
  rw [first_zero]
  have e : spE l f t = 0 ↔ (0 ≤ f ∧ f < t ∧ t ≤ l.length) := by
    unfold spE
    split
    · rename_i h; simp [h]
    · rename_i h; simp only [h, iff_false]; decide
  simp [e]
theorem sp_first (l : List Nat) (f t : Int) : whenE (bif bif decide (f < 0) then true else decide (t ≤ f) then true else decide ((l.length : Int) < t)) 14 = spE l f t := by
  unfold spE whenE
  by_cases h1 : f < 0
  · have : ¬ (0 ≤ f ∧ f < t ∧ t ≤ (l.length : Int)) := by omega
    rw [if_neg this]; simp [h1]
  · by_cases h2 : t ≤ f
    · have : ¬ (0 ≤ f ∧ f < t ∧ t ≤ (l.length : Int)) := by omega
      rw [if_neg this]; simp [h1, h2]
    · by_cases h3 : (l.length : Int) < t
      · have : ¬ (0 ≤ f ∧ f < t ∧ t ≤ (l.length : Int)) := by omega
        rw [if_neg this]; simp [h1, h2, h3]
      · have : (0 ≤ f ∧ f < t ∧ t ≤ (l.length : Int)) := by omega
        rw [if_pos this]; simp [h1, h2, h3]
end Go.Sx.U

namespace Go.Sx
open U
@[reducible] def b4V (b : List Nat) : V := .agg [.arr 4 (.flt .f32) b]
def intCh : List Ch → Option Int
  | [.one (.int .i64 n)] => some n
  | _ => none
def h63 : Hints := ⟨fun f k s => match f, k with
  | 135, 2 => match listAs s 0 (.int .i64), intOfT s 1 with
    | some l, some v => some ⟨Nat, fun i => s.at [0, 1, 7] [tI 8 i], fun i => i ≤ List.length l ∧ fnd l v i = -1, fun i => List.length l - i⟩
    | _, _ => none
  | 66, 5 => match listAs s 7 (.int .i64) with
    | some l => some ⟨Nat, fun i => s.at [1, 7] [tI 9 i, tI 8 (amax l i)], fun i => 1 ≤ i ∧ i ≤ 4, fun i => 4 - i⟩
    | none => none
  | 64, 2 => match listAs s 0 (.flt .f32) with
    | some xs => some ⟨Nat, fun i => s.at [0] [tI 3 i], fun i => i ≤ List.length xs ∧ chkSs xs = first (List.drop i (List.map chkS xs)), fun i => List.length xs - i⟩
    | _ => none
  | _, _ => none, 0⟩
def spanT (s : St) (t : Nat) : Option (Int × Int) := match ptrId s t with
  | some b => match lookO s.ob b with
    | some (.box [.one (.int .i64 f), .one (.int .i64 t)]) => some (f, t)
    | _ => none
  | none => none
def h68 : Hints := ⟨fun f k s => match f, k with
  | 68, 6 => match listAs s 0 (.flt .f32), spanT s 4 with
    | some l, some (f, t) => some ⟨Nat, fun i => s.at [0, 2, 4, 45, 46] [tI 47 i, tI 9 (smTo (sixs l) f.toNat i)], fun i => i ≤ (t - f).toNat, fun i => (t - f).toNat - i⟩
    | _, _ => none
  | 139, 3 => match boxS s with
    | [_, (_, cb)] => match intCh cb with
      | some n => hMapG (.flt .f32) (.int .i64) (fun b => six b + n) 8 10 5 [1, 9] s
      | none => none
    | _ => none
  | 71, 3 => match listAs s 8 (.int .i64), spanT s 4 with
    | some l, some (f, t) => some ⟨Nat, fun i => s.at [2, 4, 8] [tI 10 (f + (i : Int)), tI 9 (smTo l f.toNat i)], fun i => i ≤ (t - f).toNat, fun i => (t - f).toNat - i⟩
    | _, _ => none
  | 71, 8 => match ownM s 8, listAs s 8 (.int .i64), lookT s.tm 2, intOfT s 11 with
    | some id, some l, some (.val (.one (.flt .f32 lev))), some m => some ⟨Nat, fun i => ⟨tI 12 i :: keepT [2, 8, 11] s.tm, (id, some (.row (.int .i64) (putTo 0 l (fun n => List.getD l n 0 + six lev - m) i))) :: dropO s [id], s.nx, s.lr⟩, fun i => i ≤ List.length l, fun i => List.length l - i⟩
    | _, _, _, _ => none
  | 70, 3 => match listAs s 0 (.flt .f32), intOfT s 1 with
    | some l, some n => some ⟨Nat, fun i => ⟨[tI 6 (n + (i : Int)), (5, .val (.one (.own s.nx)))] ++ keepT [0] s.tm, (s.nx, some (.row (.flt .f32) (List.take i (List.drop n.toNat l)))) :: lessO s [5], s.nx + 1, s.lr⟩, fun i => i ≤ List.length l - n.toNat, fun i => List.length l - n.toNat - i⟩
    | _, _ => none
  | _, _ => none, 0⟩
@[reducible] noncomputable def fb139 : Nat × Func := (139, Proofs.Tryz.f139)
@[reducible] noncomputable def fb140 : Nat × Func := (140, Proofs.Tryz.f140)
end Go.Sx
namespace Go.Sx
open U
def sp133 : FSpec := ⟨fun vs => match vs with
  | [.agg [.arr 4 (.flt .f32) b]] => some ([List.length b = 4, OkS b], .val (gsV (phI b)))
  | _ => none, true⟩
def sp135 : FSpec := ⟨fun vs => match vs with
  | [.one (.sl (.int .i64) l), .one (.int .i64 v)] => some ([List.length l ≤ 1000000000], .val (iV (fnd l v (List.length l))))
  | _ => none, true⟩
end Go.Sx

namespace Go.Sx
open U
theorem vc133 (b : List Nat) : exF (env false [(137, sp137)] []) h0 0 133 Proofs.Tryz.f133 [b4V b] (.val (gsV (phI b))) = (((0 : Int) ≤ (0 : Int) ∧ (0 : Int) < (4 : Int)) ∧ (0 : Nat) < List.length b ∧ chkS (List.getD b (0 : Nat) (0 : Nat)) = (0 : Int) ∧ ((0 : Int) ≤ (2 : Int) ∧ (2 : Int) < (4 : Int)) ∧ (2 : Nat) < List.length b ∧ chkS (List.getD b (2 : Nat) (0 : Nat)) = (0 : Int) ∧ fits IntKind.i64 (six (List.getD b (0 : Nat) (0 : Nat)) - six (List.getD b (2 : Nat) (0 : Nat))) ∧ ((0 : Int) ≤ (1 : Int) ∧ (1 : Int) < (4 : Int)) ∧ (1 : Nat) < List.length b ∧ chkS (List.getD b (1 : Nat) (0 : Nat)) = (0 : Int) ∧ ((0 : Int) ≤ (3 : Int) ∧ (3 : Int) < (4 : Int)) ∧ (3 : Nat) < List.length b ∧ chkS (List.getD b (3 : Nat) (0 : Nat)) = (0 : Int) ∧ fits IntKind.i64 (six (List.getD b (1 : Nat) (0 : Nat)) - six (List.getD b (3 : Nat) (0 : Nat))) ∧ six (List.getD b (0 : Nat) (0 : Nat)) - six (List.getD b (2 : Nat) (0 : Nat)) = Prod.fst (phI b) ∧ six (List.getD b (1 : Nat) (0 : Nat)) - six (List.getD b (3 : Nat) (0 : Nat)) = Prod.snd (phI b) ∧ True) := by
  kernel_rfl
theorem vc62 (b : List Nat) : exF (env false [(105, sp105), (133, sp133)] []) h0 0 62 Proofs.Tryz.f62 [b4V b] (.tup [gsV (burZ b), iV (chkSs b)]) = (let q0 := (List.take (4 : Nat) b); ((0 : Int) ≤ (0 : Int) ∧ (0 : Int) ≤ (4 : Int) ∧ (4 : Int) ≤ (4 : Int)) ∧ List.length q0 = (4 : Nat) ∧ List.length q0 ≤ (1000000 : Nat) ∧ splitB (chkSs q0 != (0 : Int)) ((0 : Int) = (burZ b).1 ∧ (0 : Int) = (burZ b).2 ∧ chkSs q0 = chkSs b ∧ True) (List.length b = (4 : Nat) ∧ OkS b ∧ (phI b).1 = (burZ b).1 ∧ (phI b).2 = (burZ b).2 ∧ (0 : Int) = chkSs b ∧ True)) := by
  kernel_rfl
theorem vc135 (l : List Int) (v : Int) : exF (env false [] []) h63 0 135 Proofs.Tryz.f135 [.one (.sl (.int .i64) l), iV v] (.val (iV (fnd l v l.length))) = (let q0 := (↑(List.length l) : Int); (∃ (g : Nat), (g ≤ List.length l ∧ fnd l v g = (-1 : Int)) ∧ (0 : Int) = (↑g : Int) ∧ q0 = q0 ∧ l = l ∧ v = v ∧ True) ∧ ∀ (g : Nat), g ≤ List.length l ∧ fnd l v g = (-1 : Int) → splitB (decide ((↑g : Int) < q0)) (((0 : Int) ≤ (↑g : Int) ∧ (↑g : Int) < q0) ∧ splitB (v == List.getD l g (0 : Int)) ((↑g : Int) = fnd l v (List.length l) ∧ True) (fits IntKind.i64 ((↑g : Int) + (1 : Int)) ∧ ∃ (g' : Nat), (g' ≤ List.length l ∧ fnd l v g' = (-1 : Int)) ∧ List.length l - g' < List.length l - g ∧ (↑g : Int) + (1 : Int) = (↑g' : Int) ∧ q0 = q0 ∧ l = l ∧ v = v ∧ True)) ((-1 : Int) = fnd l v (List.length l) ∧ True)) := by
  kernel_rfl
theorem vc63 (b : List Nat) (least : Int) : exF (env false [(105, sp105), (96, sp96), (95, sp95), (133, sp133), (134, sp134), (135, sp135)] []) h0 0 63 Proofs.Tryz.f63 [b4V b, iV least] (.tup [iV (lkN b least), iV (lkE b least)]) = (let q0 := (List.take (4 : Nat) b); let q1 := ((0 : Int) = lkN b least ∧ (7 : Int) = lkE b least ∧ True); ((0 : Int) ≤ (0 : Int) ∧ (0 : Int) ≤ (4 : Int) ∧ (4 : Int) ≤ (4 : Int)) ∧ List.length q0 = (4 : Nat) ∧ List.length q0 ≤ (1000000 : Nat) ∧ (2 : Nat) ≤ (1000000000 : Nat) ∧ splitB (first [chkSs q0, within least (1 : Int) (1048576 : Int)] != (0 : Int)) ((0 : Int) = lkN b least ∧ first [chkSs q0, within least (1 : Int) (1048576 : Int)] = lkE b least ∧ True) (List.length b = (4 : Nat) ∧ OkS b ∧ splitB (eqT (Ty.pair (Ty.int IntKind.i64) (Ty.int IntKind.i64)) ((phI b).1, (phI b).2) ((0 : Int), (0 : Int))) q1 (fits IntKind.i64 (-(phI b).1) ∧ fits IntKind.i64 (-(phI b).2) ∧ ((0 : Nat) < (4 : Nat) ∧ (4 : Nat) ≤ (1000000000 : Nat)) ∧ splitB (decide (mxTo [(phI b).1, (phI b).2, -(phI b).1, -(phI b).2] (4 : Nat) < least)) q1 ((4 : Nat) ≤ (1000000000 : Nat) ∧ fnd [(phI b).1, (phI b).2, -(phI b).1, -(phI b).2] (mxTo [(phI b).1, (phI b).2, -(phI b).1, -(phI b).2] (4 : Nat)) (4 : Nat) = lkN b least ∧ (0 : Int) = lkE b least ∧ True)))) := by
  kernel_rfl
theorem vc67 (l : List Nat) (late : Int) : exF (env false [(41, sp41), (96, sp96), (95, sp95)] []) h0 0 67 Proofs.Tryz.f67 [.one (.sl (.flt .f32) l), iV late] (.tup [.one (.frs (.flt .f32) (algN l late)), iV (algE l late)]) = (let q2 := (↑(List.length l) : Int); let q0 := (↑(List.length (List.drop (Int.toNat (min late q2)) l)) : Int); let q3 := (q0 / (4 : Int) * (4 : Int)); let q1 := (List.replicate (Int.toNat q3) (0 : Nat)); (2 : Nat) ≤ (1000000000 : Nat) ∧ splitB (first [chkSig l, within late (0 : Int) (3 : Int)] != (0 : Int)) (algN l late = [] ∧ first [chkSig l, within late (0 : Int) (3 : Int)] = algE l late ∧ True) (((0 : Int) ≤ min late q2 ∧ min late q2 ≤ q2 ∧ q2 ≤ q2) ∧ ((0 : Int) ≤ q0 ∧ (0 : Int) < (4 : Int) ∧ fits IntKind.i64 (q0 / (4 : Int))) ∧ fits IntKind.i64 q3 ∧ (0 : Int) ≤ q0 / (4 : Int) * (4 : Int) ∧ room (Int.toNat q3) (4 : Nat) ∧ (0 : Nat) + List.length q1 ≤ List.length q1 ∧ copyL (0 : Nat) (List.length q1) q1 (List.drop (Int.toNat (min late q2)) l) = algN l late ∧ (0 : Int) = algE l late ∧ True)) := by
  kernel_rfl
theorem vc68 (l : List Nat) (f t : Int) (lev : Nat) : exF (env false [(41, sp41), (104, sp104), (95, sp95), (136, sp136), (137, sp137), (120, sp120), (138, sp138)] [fb139, fb140]) h68 3 68 Proofs.Tryz.f68 [.one (.sl (.flt .f32) l), gsV (f, t), fV lev] (.tup [.one (.frs (.flt .f32) (clN l f t lev)), iV (clE l f t lev)]) = (let q3 := (↑(List.length l) : Int); let q0 := (bif bif decide (f < (0 : Int)) then true else decide (t ≤ f) then true else decide (q3 < t)); let q7 := (List.drop (Int.toNat f) l); let q6 := (Int.toNat t - Int.toNat f); let q1 := (List.take q6 q7); let q5 := (↑(List.length q1) : Int); (3 : Nat) ≤ (1000000000 : Nat) ∧ splitB (first [chkSig l, whenE q0 (14 : Int), chkS lev] != (0 : Int)) (clN l f t lev = [] ∧ first [chkSig l, whenE q0 (14 : Int), chkS lev] = clE l f t lev ∧ True) (((0 : Int) ≤ f ∧ f ≤ t ∧ t ≤ q3) ∧ (∃ (g : Nat), Nat.le g (Int.toNat (t - f)) ∧ (0 : Int) = (↑g : Int) ∧ (0 : Int) = smTo (sixs l) (Int.toNat f) g ∧ q5 = q5 ∧ List.take q6 q7 = List.take q6 q7 ∧ l = l ∧ lev = lev ∧ [chkSig l, whenE q0 (14 : Int), chkS lev] = [chkSig l, whenE q0 (14 : Int), chkS lev] ∧ f = f ∧ t = t ∧ True) ∧ ∀ (g : Nat), let q4 := (smTo (sixs l) (Int.toNat f) g); let q2 := (six lev - roundI q4 (t - f)); let q10 := (List.getD q1 g (0 : Nat)); Nat.le g (Int.toNat (t - f)) → splitB (decide ((↑g : Int) < q5)) (((0 : Int) ≤ (↑g : Int) ∧ (↑g : Int) < q5) ∧ chkS q10 = (0 : Int) ∧ fits IntKind.i64 (smTo (sixs l) (Int.toNat f) g + six q10) ∧ fits IntKind.i64 ((↑g : Int) + (1 : Int)) ∧ ∃ (g' : Nat), Nat.le g' (Int.toNat (t - f)) ∧ Int.toNat (t - f) - g' < Int.toNat (t - f) - g ∧ (↑g : Int) + (1 : Int) = (↑g' : Int) ∧ smTo (sixs l) (Int.toNat f) g + six q10 = smTo (sixs l) (Int.toNat f) g' ∧ q5 = q5 ∧ List.take q6 q7 = List.take q6 q7 ∧ l = l ∧ lev = lev ∧ [chkSig l, whenE q0 (14 : Int), chkS lev] = [chkSig l, whenE q0 (14 : Int), chkS lev] ∧ f = f ∧ t = t ∧ True) (chkS lev = (0 : Int) ∧ fits IntKind.i64 (t - f) ∧ ((-1000000000 : Int) ≤ smTo (sixs l) (Int.toNat f) g ∧ smTo (sixs l) (Int.toNat f) g ≤ (1000000000 : Int)) ∧ ((0 : Int) < t - f ∧ t - f ≤ (1000000000 : Int)) ∧ fits IntKind.i64 q2 ∧ (∃ (g_1 : Nat), Nat.le g_1 (List.length l) ∧ (0 : Int) = (↑g_1 : Int) ∧ q3 = q3 ∧ l = l ∧ List.map (fun (b : Nat) => six b + q2) (List.take g_1 l) = [] ∧ six lev - roundI q4 (t - f) = six lev - roundI q4 (t - f) ∧ [chkSig l, whenE q0 (14 : Int), chkS lev] = [chkSig l, whenE q0 (14 : Int), chkS lev] ∧ f = f ∧ t = t ∧ True) ∧ ∀ (g_1 : Nat), let q8 := (List.take g_1 l); let q9 := (List.getD l g_1 (0 : Nat)); Nat.le g_1 (List.length l) → splitB (decide ((↑g_1 : Int) < q3)) (((0 : Int) ≤ (↑g_1 : Int) ∧ (↑g_1 : Int) < q3) ∧ chkS q9 = (0 : Int) ∧ fits IntKind.i64 (six q9 + q2) ∧ room (List.length (List.map (fun (b : Nat) => six b + q2) q8) + (1 : Nat)) (8 : Nat) ∧ fits IntKind.i64 ((↑g_1 : Int) + (1 : Int)) ∧ ∃ (g' : Nat), Nat.le g' (List.length l) ∧ List.length l - g' < List.length l - g_1 ∧ (↑g_1 : Int) + (1 : Int) = (↑g' : Int) ∧ q3 = q3 ∧ l = l ∧ List.map (fun (b : Nat) => six b + q2) q8 ++ [six q9 + q2] = List.map (fun (b : Nat) => six b + q2) (List.take g' l) ∧ six lev - roundI q4 (t - f) = six lev - roundI q4 (t - f) ∧ [chkSig l, whenE q0 (14 : Int), chkS lev] = [chkSig l, whenE q0 (14 : Int), chkS lev] ∧ f = f ∧ t = t ∧ True) (List.length (List.map (fun (b : Nat) => six b + q2) q8) ≤ (1000000 : Nat) ∧ smpsN (List.map (fun (b : Nat) => six b + q2) q8) = clN l f t lev ∧ lgE (List.map (fun (b : Nat) => six b + q2) q8) = clE l f t lev ∧ True)))) := by
  kernel_rfl
end Go.Sx

namespace Go.Sx
open U
theorem fn133 (b : List Nat) (hl : b.length = 4) (hb : OkS b) : Fn P1 gl1 133 [b4V b] (.val (gsV (phI b))) true := by
  refine Fn.flat ?_ rfl
  refine fn_of false [(137, sp137)] [] h0 0 Proofs.Tryz.f133 ⟨so137, trivial⟩ trivial (by kernel_rfl) rfl (by kernel_rfl) rfl rfl rfl ?_
  rw [vc133]
  try simp only [splitB_iff, -eq_self]
  have k : ∀ i, i < 4 → chkS (List.getD b i 0) = 0 := fun i hi => hb _ (getD_mem' (by omega))
  have k0 := chk_six (k 0 (by omega))
  have k1 := chk_six (k 1 (by omega))
  have k2 := chk_six (k 2 (by omega))
  have k3 := chk_six (k 3 (by omega))
  simp only [fits, hl, -eq_self]
  exact ⟨by omega, by omega, k 0 (by omega), by omega, by omega, k 2 (by omega), by omega, by omega, by omega, k 1 (by omega), by omega, by omega, k 3 (by omega), by omega, rfl, rfl, trivial⟩
theorem so133_ : SpecOk P1 gl1 133 sp133 := by
  intro vs ps r h hp
  simp only [sp133] at h
  split at h
  · cases h; exact fn133 _ (hp _ (.head _)) (hp _ (.tail _ (.head _)))
  · cases h
theorem so133 : Sp1 133 sp133 := ⟨so133_, Proofs.Tryz.f133, _, by kernel_rfl, rfl, by kernel_rfl⟩
theorem fn62 (b : List Nat) (hl : b.length = 4) : Fn P1 gl1 62 [b4V b] (.tup [gsV (burZ b), iV (chkSs b)]) true := by
  refine Fn.flat ?_ rfl
  refine fn_of false [(105, sp105), (133, sp133)] [] h0 0 Proofs.Tryz.f62 ⟨so105, so133, trivial⟩ trivial (by kernel_rfl) rfl (by kernel_rfl) rfl rfl rfl ?_
  rw [vc62]
  try simp only [splitB_iff, -eq_self]
  rw [take_all hl]
  unfold burZ
  refine ⟨by omega, hl, by omega, fun h => ?_, fun h => ?_⟩
  · have h := bneZ.1 h
    rw [if_neg h]
    exact ⟨rfl, rfl, rfl, trivial⟩
  · have h := bneF.1 h
    rw [if_pos h]
    exact ⟨hl, chkSs_zero.1 h, rfl, rfl, h.symm, trivial⟩
theorem fn135 (l : List Int) (v : Int) (hl : l.length ≤ 1000000000) : Fn P1 gl1 135 [.one (.sl (.int .i64) l), iV v] (.val (iV (fnd l v l.length))) true := by
  refine Fn.flat ?_ rfl
  refine fn_of false [] [] h63 0 Proofs.Tryz.f135 trivial trivial (by kernel_rfl) rfl (by kernel_rfl) rfl rfl rfl ?_
  rw [vc135]
  try simp only [splitB_iff, -eq_self]
  refine ⟨⟨0, ⟨by omega, rfl⟩, rfl, rfl, rfl, rfl, trivial⟩, fun g hg => ⟨fun hlt => ?_, fun hge => ?_⟩⟩
  · have hlt : g < l.length := by simpa using hlt
    refine ⟨by omega, fun k => ?_, fun k => ?_⟩
    · have k : v = List.getD l g 0 := by simpa using k
      refine ⟨?_, trivial⟩
      refine (fnd_at (fun j hj e => ?_) k.symm hlt).symm
      exact fnd_ne hj e hg.2
    · have k : ¬ v = List.getD l g 0 := by simpa using k
      refine ⟨by simp only [fits]; omega, g + 1, ⟨by omega, ?_⟩, by omega, by simp, rfl, rfl, rfl, trivial⟩
      show (if fnd l v g = -1 then (if List.getD l g 0 = v then (g : Int) else -1) else fnd l v g) = -1
      rw [if_pos hg.2, if_neg (fun e => k e.symm)]
  · have hge : ¬ g < l.length := by simpa using hge
    have e : g = l.length := by omega
    subst e
    exact ⟨hg.2.symm, trivial⟩
theorem so135_ : SpecOk P1 gl1 135 sp135 := by
  intro vs ps r h hp
  simp only [sp135] at h
  split at h
  · cases h; exact fn135 _ _ (hp _ (.head _))
  · cases h
theorem so135 : Sp1 135 sp135 := ⟨so135_, Proofs.Tryz.f135, _, by kernel_rfl, rfl, by kernel_rfl⟩
theorem fn63 (b : List Nat) (least : Int) (hl : b.length = 4) : Fn P1 gl1 63 [b4V b, iV least] (.tup [iV (lkN b least), iV (lkE b least)]) true := by
  refine Fn.flat ?_ rfl
  refine fn_of false [(105, sp105), (96, sp96), (95, sp95), (133, sp133), (134, sp134), (135, sp135)] [] h0 0 Proofs.Tryz.f63 ⟨so105, so96, so95, so133, so134, so135, trivial⟩ trivial (by kernel_rfl) rfl (by kernel_rfl) rfl rfl rfl ?_
  rw [vc63]
  try simp only [splitB_iff, -eq_self]
  rw [take_all hl]
  refine ⟨by omega, hl, by omega, by decide, fun h => ?_, fun h => ?_⟩
  · have h : ¬ lckB b least = 0 := bneZ.1 h
    unfold lkN lkE
    rw [if_neg h, if_neg h]
    exact ⟨rfl, rfl, trivial⟩
  · have h : lckB b least = 0 := bneF.1 h
    have hz := first_zero.1 h
    have hok := chkSs_zero.1 (hz _ (.head _))
    have hle := (within_zero.1 (hz _ (.tail _ (.head _)))).1
    obtain ⟨b1, b2⟩ := ph_bd hok hl
    unfold lkN lkE
    rw [if_pos h, if_pos h]
    refine ⟨hl, hok, fun k => ?_, fun k => ⟨by simp only [fits]; omega, by simp only [fits]; omega, by omega, fun k2 => ?_, fun k2 => ?_⟩⟩
    · have k : (phI b) = (0, 0) := by
        simp only [eqT, Bool.and_eq_true, beq_iff_eq] at k
        exact Prod.ext k.1 k.2
      rw [k]
      unfold lckN lckE
      have : mxTo (four (0, 0)) 4 = 0 := rfl
      rw [this, if_pos (by omega), if_pos (by omega)]
      exact ⟨rfl, rfl, trivial⟩
    · have k2 : mxTo (four (phI b)) 4 < least := of_decide_eq_true k2
      unfold lckN lckE
      rw [if_pos k2, if_pos k2]
      exact ⟨rfl, rfl, trivial⟩
    · have k2 : ¬ mxTo (four (phI b)) 4 < least := of_decide_eq_false k2
      unfold lckN lckE
      rw [if_neg k2, if_neg k2]
      exact ⟨by omega, fnd_mx (four (phI b)) 4 (by omega), rfl, trivial⟩
theorem fn67 (l : List Nat) (late : Int)  : Fn P1 gl1 67 [.one (.sl (.flt .f32) l), iV late] (.tup [.one (.frs (.flt .f32) (algN l late)), iV (algE l late)]) true := by
  refine Fn.flat ?_ rfl
  refine fn_of false [(41, sp41), (96, sp96), (95, sp95)] [] h0 0 Proofs.Tryz.f67 ⟨so41, so96, so95, trivial⟩ trivial (by kernel_rfl) rfl (by kernel_rfl) rfl rfl rfl ?_
  rw [vc67]
  try simp only [splitB_iff, -eq_self]
  refine ⟨by decide, fun h => ?_, fun h => ?_⟩
  · have h : ¬ algE l late = 0 := bneZ.1 h
    unfold algN
    rw [if_neg h]
    exact ⟨rfl, rfl, trivial⟩
  · have h : algE l late = 0 := bneF.1 h
    have hz := first_zero.1 h
    obtain ⟨k1, k2, k3⟩ := chkSig_zero.1 (hz _ (.head _))
    obtain ⟨m1, m2⟩ := within_zero.1 (hz _ (.tail _ (.head _)))
    have ed : List.drop (Int.toNat (min late (l.length : Int))) l = List.drop late.toNat l := by
      by_cases hk : late ≤ (l.length : Int)
      · rw [Int.min_eq_left hk]
      · rw [List.drop_of_length_le (by omega), List.drop_of_length_le (by omega)]
    rw [ed]
    have hl : (List.drop late.toNat l).length ≤ 256 := by rw [List.length_drop]; omega
    have e2 : Int.toNat (((List.drop late.toNat l).length : Int) / 4 * 4) = (List.drop late.toNat l).length / 4 * 4 := by omega
    rw [e2, List.length_replicate]
    simp only [fits, room, -eq_self]
    refine ⟨by omega, by omega, by omega, by omega, by omega, by omega, ?_, h.symm, trivial⟩
    unfold algN algL
    rw [if_pos h]
    unfold copyL
    generalize List.drop late.toNat l = r
    simp
    omega
theorem fn68 (l : List Nat) (f t : Int) (lev : Nat)  : Fn P1 gl1 68 [.one (.sl (.flt .f32) l), gsV (f, t), fV lev] (.tup [.one (.frs (.flt .f32) (clN l f t lev)), iV (clE l f t lev)]) true := by
  refine Fn.flat ?_ rfl
  refine fn_of false [(41, sp41), (104, sp104), (95, sp95), (136, sp136), (137, sp137), (120, sp120), (138, sp138)] [fb139, fb140] h68 3 Proofs.Tryz.f68 ⟨so41, so104, so95, so136, so137, so120, so138, trivial⟩ ⟨⟨by kernel_rfl, by kernel_rfl, _, rfl, by kernel_rfl⟩, ⟨by kernel_rfl, by kernel_rfl, _, rfl, by kernel_rfl⟩, trivial⟩ (by kernel_rfl) rfl (by kernel_rfl) rfl rfl rfl ?_
  rw [vc68]
  try simp only [splitB_iff, -eq_self]
  rw [sp_first]
  refine ⟨by decide, fun h => ?_, fun h => ?_⟩
  · have h : ¬ clB l f t lev = 0 := bneZ.1 h
    unfold clN clE
    rw [if_neg h, if_neg h]
    exact ⟨rfl, rfl, trivial⟩
  · have h : clB l f t lev = 0 := bneF.1 h
    obtain ⟨c1, c2, c5⟩ := clB_zero.1 h
    obtain ⟨k1, k2, k3⟩ := chkSig_zero.1 c1
    have hb := bd_sixs k3
    have hv := chk_six c5
    have e1 : Int.toNat t - Int.toNat f = Int.toNat (t - f) := by omega
    rw [e1]
    have hq : (List.take (Int.toNat (t - f)) (List.drop (Int.toNat f) l)).length = Int.toNat (t - f) := by rw [List.length_take, List.length_drop]; omega
    have hget : ∀ g, g < Int.toNat (t - f) → List.getD (List.take (Int.toNat (t - f)) (List.drop (Int.toNat f) l)) g 0 = List.getD l (Int.toNat f + g) 0 := fun g hg => by
      rw [List.getD_eq_getElem?_getD, List.getD_eq_getElem?_getD, List.getElem?_take_of_lt hg, List.getElem?_drop]
    rw [hq]
    simp only [fits, room, List.length_map, List.length_take, -eq_self]
    refine ⟨by omega, ⟨0, Nat.zero_le _, rfl, rfl, rfl, rfl, rfl, rfl, rfl, rfl, rfl, trivial⟩, fun g hg => ⟨fun hlt => ?_, fun hge => ?_⟩⟩
    · have hlt : (g : Int) < (Int.toNat (t - f) : Int) := of_decide_eq_true hlt
      have hlt : g < Int.toNat (t - f) := by omega
      rw [hget g hlt]
      have hok := k3 _ (getD_mem' (d := 0) (show Int.toNat f + g < l.length by omega))
      have hs := chk_six hok
      have hm := smTo_bd hb (by omega) (Int.toNat f) g
      refine ⟨by omega, hok, by omega, by omega, g + 1, hlt, by omega, by simp, ?_, rfl, rfl, rfl, rfl, rfl, rfl, rfl, trivial⟩
      show _ = smTo (sixs l) (Int.toNat f) g + List.getD (sixs l) (Int.toNat f + g) 0
      rw [sixs_get]
    · have hg : g ≤ Int.toNat (t - f) := hg
      have hge : ¬ (g : Int) < (Int.toNat (t - f) : Int) := of_decide_eq_false hge
      have e : g = Int.toNat (t - f) := by omega
      subst e
      have hm := smTo_bd hb (by omega) (Int.toNat f) (Int.toNat (t - f))
      have hm2 : -4194304 ≤ smTo (sixs l) (Int.toNat f) (Int.toNat (t - f)) ∧ smTo (sixs l) (Int.toNat f) (Int.toNat (t - f)) ≤ 4194304 := by omega
      have hr := roundI_bd (d := t - f) (by omega) hm2
      refine ⟨c5, by omega, by omega, by omega, by omega, ⟨0, Nat.zero_le _, rfl, rfl, rfl, by simp, rfl, rfl, rfl, rfl, trivial⟩, fun g2 hg2 => ⟨fun hlt2 => ?_, fun hge2 => ?_⟩⟩
      · have hlt2 : g2 < l.length := by simpa using hlt2
        have hok := k3 _ (getD_mem' (d := 0) hlt2)
        have hs := chk_six hok
        refine ⟨by omega, hok, by omega, by omega, by omega, g2 + 1, hlt2, by omega, by simp, rfl, rfl, ?_, rfl, rfl, rfl, rfl, trivial⟩
        rw [getD_of hlt2, List.take_succ_eq_append_getElem hlt2, List.map_append]
        rfl
      · have hge2 : ¬ g2 < l.length := by simpa using hge2
        rw [List.take_of_length_le (by omega)]
        unfold clN clE
        rw [if_pos h, if_pos h]
        exact ⟨by omega, rfl, rfl, trivial⟩
end Go.Sx

namespace Go.Sx.U
theorem mul_bd {a b A B : Int} (ha : -A ≤ a ∧ a ≤ A) (hb : -B ≤ b ∧ b ≤ B) : -(A * B) ≤ a * b ∧ a * b ≤ A * B := by
  have h1 : a.natAbs ≤ A.natAbs := by omega
  have h2 : b.natAbs ≤ B.natAbs := by omega
  have h3 : (a * b).natAbs ≤ (A * B).natAbs := by
    rw [Int.natAbs_mul, Int.natAbs_mul]
    exact Nat.mul_le_mul h1 h2
  have h4 : 0 ≤ A * B := Int.mul_nonneg (by omega) (by omega)
  generalize a * b = x at *
  generalize A * B = y at *
  omega
def chkTap (t : List Int) : Int := if t.length = 0 then 12 else if 8 < t.length then 5 else first (t.map fun n => within n (-1000) 1000)
theorem chkTap_zero {t : List Int} : chkTap t = 0 ↔ t.length ≠ 0 ∧ t.length ≤ 8 ∧ Bd 1000 t := by
  have e : first (t.map fun n => within n (-1000) 1000) = 0 ↔ Bd 1000 t := by
    rw [first_zero]
    unfold Bd
    simp only [List.mem_map, forall_exists_index, and_imp, forall_apply_eq_imp_iff₂, within_zero]
  unfold chkTap
  by_cases h1 : t.length = 0
  · simp [h1]
  · by_cases h2 : 8 < t.length
    · simp [h1, h2]; omega
    · rw [if_neg h1, if_neg h2, e]
      exact ⟨fun h => ⟨h1, by omega, h⟩, fun h => h.2.2⟩
def swTo (n : Nat) (L : Int → Int) (t : List Int) (w : Int) (i : Nat) : Nat → Int
  | 0 => 0
  | j + 1 => if 0 ≤ (i : Int) - w * j ∧ (i : Int) - w * j < n then swTo n L t w i j + List.getD t j 0 * L ((i : Int) - w * j) else swTo n L t w i j
def lat (L : List Int) (k : Int) : Int := List.getD L k.toNat 0
def fltI (L t : List Int) (w : Int) : List Int := tab L.length fun i => swTo L.length (lat L) t w i t.length
theorem swTo_bd {n : Nat} {L : Int → Int} {t : List Int} {w B : Int} (hB : 0 ≤ B) (hL : ∀ k, -B ≤ L k ∧ L k ≤ B) (ht : Bd 1000 t) (i : Nat) : ∀ j : Nat, -((j : Int) * (1000 * B)) ≤ swTo n L t w i j ∧ swTo n L t w i j ≤ (j : Int) * (1000 * B)
  | 0 => by simp [swTo]
  | j + 1 => by
    have ih := swTo_bd (n := n) (w := w) hB hL ht i j
    have hb := mul_bd (bd_get ht (i := j) (by omega)) (hL ((i : Int) - w * j))
    have hz : 0 ≤ 1000 * B := by omega
    have e : ((j + 1 : Nat) : Int) * (1000 * B) = (j : Int) * (1000 * B) + 1000 * B := by
      rw [Int.natCast_add, Int.add_mul]; simp
    rw [e]
    unfold swTo
    generalize List.getD t j 0 * L ((i : Int) - w * j) = p at *
    generalize (j : Int) * (1000 * B) = m at *
    split <;> omega
theorem lat_bd {L : List Int} {B : Int} (h : Bd B L) (hB : 0 ≤ B) (k : Int) : -B ≤ lat L k ∧ lat L k ≤ B := bd_get h hB
def fltB (l : List Nat) (t : List Int) : Int := first [chkSig l, chkTap t]
def fltE (l : List Nat) (t : List Int) (w : Int) : Int := if fltB l t = 0 then lgE (fltI (sixs l) t w) else fltB l t
def fltN (l : List Nat) (t : List Int) (w : Int) : List Nat := if fltB l t = 0 then smpsN (fltI (sixs l) t w) else []
def rsC (z : Int × Int) : Nat × Nat := (FloatKind.nearest .f64 z.1, FloatKind.nearest .f64 z.2)
def resN (t : List Int) : List (Nat × Nat) := if chkTap t = 0 then tab 4 fun k => rsC (qu t k) else List.replicate 4 (0, 0)
end Go.Sx.U

namespace Go.Sx
open U
def h79 : Hints := ⟨fun f k s => match f, k with
  | 145, 3 => hMapG (.int .i64) (.int .i64) (fun n => within n (-1000) 1000) 8 10 5 [1, 9] s
  | 76, 6 => match listAs s 0 (.int .i64) with
    | some t => some ⟨Nat, fun i => s.at [0] [tI 3 i], fun i => i ≤ List.length t ∧ first (List.map (fun n => within n (-1000) 1000) t) = first (List.drop i (List.map (fun n => within n (-1000) 1000) t)), fun i => List.length t - i⟩
    | none => none
  | _, _ => none, 6⟩
def h142 : Hints := ⟨fun f k s => match f, k with
  | 178, 3 => match boxS s, listAs s 1 (.int .i64), intOfT s 2 with
    | [(_, cb)], some t, some w => match rowC s cb with
      | some L => some ⟨Nat, fun i => ⟨[tI 16 i, (9, .val (.one (.own s.nx)))] ++ keepT [0, 1, 2, 3, 15] s.tm, (s.nx, some (.row (.int .i64) (tab i fun i => swTo (List.length L) (lat L) t w i (List.length t)))) :: lessO s [9], s.nx + 1, s.lr⟩, fun i => i ≤ List.length L, fun i => List.length L - i⟩
      | none => none
    | _, _, _ => none
  | 178, 7 => match boxS s, listAs s 1 (.int .i64), intOfT s 2, intOfT s 10 with
    | [(_, cb)], some t, some w, some i => match rowC s cb with
      | some L => some ⟨Nat, fun j => s.at [0, 1, 2, 3, 9, 10, 15, 16, 19, 20] [tI 21 j, tI 11 (swTo (List.length L) (lat L) t w i.toNat j)], fun j => j ≤ List.length t, fun j => List.length t - j⟩
      | none => none
    | _, _, _, _ => none
  | 78, 4 => match listAs s 8 (.int .i64), listAs s 1 (.int .i64), intOfT s 2, ownM s 9 with
    | some L, some t, some w, some id => some ⟨Nat, fun i => ⟨tI 10 i :: keepT [1, 2, 8, 9] s.tm, (id, some (.row (.int .i64) (fillTo 0 (List.length L) (fun i => swTo (List.length L) (lat L) t w i (List.length t)) i))) :: dropO s [id], s.nx, s.lr⟩, fun i => i ≤ List.length L, fun i => List.length L - i⟩
    | _, _, _, _ => none
  | 78, 7 => match listAs s 8 (.int .i64), listAs s 1 (.int .i64), intOfT s 2, ownM s 9, intOfT s 10 with
    | some L, some t, some w, some id, some i => some ⟨Nat, fun j => ⟨tI 11 j :: keepT [1, 2, 8, 9, 10] s.tm, (id, some (.row (.int .i64) (List.set (fillTo 0 (List.length L) (fun i => swTo (List.length L) (lat L) t w i (List.length t)) i.toNat) i.toNat (swTo (List.length L) (lat L) t w i.toNat j)))) :: dropO s [id], s.nx, s.lr⟩, fun j => j ≤ List.length t, fun j => List.length t - j⟩
    | _, _, _, _, _ => none
  | _, _ => none, 0⟩
@[reducible] noncomputable def fb178 : Nat × Func := (178, Proofs.Tryz.f178)
@[reducible] noncomputable def fb179 : Nat × Func := (179, Proofs.Tryz.f179)
end Go.Sx
namespace Go.Sx
open U
def sp146 : FSpec := ⟨fun vs => match vs with
  | [.one (.int .i64 n)] => some ([], .val (iV (within n (-1000) 1000)))
  | _ => none, true⟩
def sp145 : FSpec := ⟨fun vs => match vs with
  | [.one (.sl (.int .i64) l), .one (.fn 146 [] [])] => some ([List.length l ≤ 1000000], .val (.one (.frs (.int .i64) (List.map (fun n => within n (-1000) 1000) l))))
  | _ => none, true⟩
def sp79 : FSpec := ⟨fun vs => match vs with
  | [.one (.sl (.int .i64) t)] => some ([], .val (iV (chkTap t)))
  | _ => none, true⟩
def sp142 : FSpec := ⟨fun vs => match vs with
  | [.one (.sl (.flt .f32) l), .one (.sl (.int .i64) t), .one (.int .i64 w)] => some ([w = 1 ∨ w = -1], .tup [.one (.frs (.flt .f32) (fltN l t w)), iV (fltE l t w)])
  | _ => none, true⟩
end Go.Sx

namespace Go.Sx
open U
theorem vc146 (n : Int) : exF (env false [(96, sp96)] []) h0 0 146 Proofs.Tryz.f146 [iV n] (.val (iV (within n (-1000) 1000))) = (within n (-1000 : Int) (1000 : Int) = within n (-1000 : Int) (1000 : Int) ∧ True) := by
  kernel_rfl
theorem vc145 (l : List Int) : exF (env false [(146, sp146)] []) h79 0 145 Proofs.Tryz.f145 [.one (.sl (.int .i64) l), .one (.fn 146 [] [])] (.val (.one (.frs (.int .i64) (l.map fun n => within n (-1000) 1000)))) = (let q0 := (↑(List.length l) : Int); (∃ (g : Nat), Nat.le g (List.length l) ∧ (0 : Int) = (↑g : Int) ∧ q0 = q0 ∧ l = l ∧ List.map (fun (n : Int) => within n (-1000 : Int) (1000 : Int)) (List.take g l) = [] ∧ True) ∧ ∀ (g : Nat), Nat.le g (List.length l) → splitB (decide ((↑g : Int) < q0)) (((0 : Int) ≤ (↑g : Int) ∧ (↑g : Int) < q0) ∧ room (List.length (List.map (fun (n : Int) => within n (-1000 : Int) (1000 : Int)) (List.take g l)) + (1 : Nat)) (8 : Nat) ∧ fits IntKind.i64 ((↑g : Int) + (1 : Int)) ∧ ∃ (g' : Nat), Nat.le g' (List.length l) ∧ List.length l - g' < List.length l - g ∧ (↑g : Int) + (1 : Int) = (↑g' : Int) ∧ q0 = q0 ∧ l = l ∧ List.map (fun (n : Int) => within n (-1000 : Int) (1000 : Int)) (List.take g l) ++ [within (List.getD l g (0 : Int)) (-1000 : Int) (1000 : Int)] = List.map (fun (n : Int) => within n (-1000 : Int) (1000 : Int)) (List.take g' l) ∧ True) (List.map (fun (n : Int) => within n (-1000 : Int) (1000 : Int)) (List.take g l) = List.map (fun (n : Int) => within n (-1000 : Int) (1000 : Int)) l ∧ True)) := by
  kernel_rfl
theorem vc79 (t : List Int) : exF (env false [(104, sp104), (95, sp95), (145, sp145)] []) h0 0 79 Proofs.Tryz.f79 [.one (.sl (.int .i64) t)] (.val (iV (chkTap t))) = (let q0 := (↑(List.length t) : Int); (2 : Nat) ≤ (1000000000 : Nat) ∧ splitB (first [whenE (q0 == (0 : Int)) (12 : Int), whenE (decide ((8 : Int) < q0)) (5 : Int)] != (0 : Int)) (first [whenE (q0 == (0 : Int)) (12 : Int), whenE (decide ((8 : Int) < q0)) (5 : Int)] = chkTap t ∧ True) (List.length t ≤ (1000000 : Nat) ∧ List.length (List.map (fun (n : Int) => within n (-1000 : Int) (1000 : Int)) t) ≤ (1000000000 : Nat) ∧ first (List.map (fun (n : Int) => within n (-1000 : Int) (1000 : Int)) t) = chkTap t ∧ True)) := by
  kernel_rfl
theorem vc72 (t : List Int) : exF (env false [(79, sp79), (109, sp109)] []) h79 0 72 Proofs.Tryz.f72 [.one (.sl (.int .i64) t)] (.tup [.agg [.arr 4 (.cpx .f64) (resN t)], iV (chkTap t)]) = (let q0 := (tab (4 : Nat) (qu t)); let q1 := ((0 : Int), (0 : Int)); let q2 := ((0 : Int) ≤ (0 : Int) ∧ (0 : Int) < (4 : Int)); let q3 := ((0 : Int) ≤ (1 : Int) ∧ (1 : Int) < (4 : Int)); let q4 := ((0 : Int) ≤ (2 : Int) ∧ (2 : Int) < (4 : Int)); let q5 := ((0 : Int) ≤ (3 : Int) ∧ (3 : Int) < (4 : Int)); splitB (chkTap t != (0 : Int)) (List.replicate (4 : Nat) ((0 : Nat), (0 : Nat)) = resN t ∧ chkTap t = chkTap t ∧ True) (List.length t ≤ (1000 : Nat) ∧ Bd (1000000 : Int) t ∧ q2 ∧ q2 ∧ (0 : Nat) < (4 : Nat) ∧ fits IntKind.i64 (1 : Int) ∧ q3 ∧ q3 ∧ (1 : Nat) < (4 : Nat) ∧ fits IntKind.i64 (2 : Int) ∧ q4 ∧ q4 ∧ (2 : Nat) < (4 : Nat) ∧ fits IntKind.i64 (3 : Int) ∧ q5 ∧ q5 ∧ (3 : Nat) < (4 : Nat) ∧ fits IntKind.i64 (4 : Int) ∧ [(FloatKind.nearest FloatKind.f64 (List.getD q0 (0 : Nat) q1).1, FloatKind.nearest FloatKind.f64 (List.getD q0 (0 : Nat) q1).2), (FloatKind.nearest FloatKind.f64 (List.getD q0 (1 : Nat) q1).1, FloatKind.nearest FloatKind.f64 (List.getD q0 (1 : Nat) q1).2), (FloatKind.nearest FloatKind.f64 (List.getD q0 (2 : Nat) q1).1, FloatKind.nearest FloatKind.f64 (List.getD q0 (2 : Nat) q1).2), (FloatKind.nearest FloatKind.f64 (List.getD q0 (3 : Nat) q1).1, FloatKind.nearest FloatKind.f64 (List.getD q0 (3 : Nat) q1).2)] = resN t ∧ (0 : Int) = chkTap t ∧ True)) := by
  kernel_rfl
theorem vc142 (l : List Nat) (t : List Int) (w : Int) : exF (env false [(41, sp41), (79, sp79), (95, sp95), (108, sp108), (138, sp138)] [fb178, fb179]) h142 3 142 Proofs.Tryz.f142 [.one (.sl (.flt .f32) l), .one (.sl (.int .i64) t), iV w] (.tup [.one (.frs (.flt .f32) (fltN l t w)), iV (fltE l t w)]) = (let q0 := (List.length (sixs l)); let q1 := (List.length t); let q2 := (lat (sixs l)); (2 : Nat) ≤ (1000000000 : Nat) ∧ splitB (first [chkSig l, chkTap t] != (0 : Int)) (fltN l t w = [] ∧ first [chkSig l, chkTap t] = fltE l t w ∧ True) (List.length l ≤ (1000000 : Nat) ∧ OkS l ∧ (∃ (g : Nat), Nat.le g q0 ∧ (0 : Int) = (↑g : Int) ∧ (↑q0 : Int) = (↑q0 : Int) ∧ (↑q0 : Int) = (↑q0 : Int) ∧ t = t ∧ w = w ∧ (tab g fun (i : Nat) => swTo q0 q2 t w i q1) = [] ∧ sixs l = sixs l ∧ [chkSig l, chkTap t] = [chkSig l, chkTap t] ∧ True) ∧ ∀ (g : Nat), Nat.le g q0 → splitB (decide ((↑g : Int) < (↑q0 : Int))) ((∃ (g_1 : Nat), Nat.le g_1 q1 ∧ (0 : Int) = (↑g_1 : Int) ∧ (0 : Int) = swTo q0 q2 t w g g_1 ∧ (↑q1 : Int) = (↑q1 : Int) ∧ t = t ∧ (↑g : Int) = (↑g : Int) ∧ (↑g : Int) = (↑g : Int) ∧ (↑q0 : Int) = (↑q0 : Int) ∧ (↑q0 : Int) = (↑q0 : Int) ∧ t = t ∧ w = w ∧ ((tab g fun (i : Nat) => swTo q0 q2 t w i q1) = tab g fun (i : Nat) => swTo q0 q2 t w i q1) ∧ sixs l = sixs l ∧ [chkSig l, chkTap t] = [chkSig l, chkTap t] ∧ True) ∧ ∀ (g_1 : Nat), let q3 := ((↑g : Int) - w * (↑g_1 : Int)); Nat.le g_1 q1 → splitB (decide ((↑g_1 : Int) < (↑q1 : Int))) (((0 : Int) ≤ (↑g_1 : Int) ∧ (↑g_1 : Int) < (↑q1 : Int)) ∧ fits IntKind.i64 (w * (↑g_1 : Int)) ∧ fits IntKind.i64 q3 ∧ splitB (bif decide ((0 : Int) ≤ (↑g : Int) - w * (↑g_1 : Int)) then decide ((↑g : Int) - w * (↑g_1 : Int) < (↑q0 : Int)) else false) (((0 : Int) ≤ (↑g : Int) - w * (↑g_1 : Int) ∧ (↑g : Int) - w * (↑g_1 : Int) < (↑q0 : Int)) ∧ Int.toNat q3 < List.length (sixs l) ∧ fits IntKind.i64 (List.getD t g_1 (0 : Int) * List.getD (sixs l) (Int.toNat q3) (0 : Int)) ∧ fits IntKind.i64 (swTo q0 q2 t w g g_1 + List.getD t g_1 (0 : Int) * List.getD (sixs l) (Int.toNat q3) (0 : Int)) ∧ fits IntKind.i64 ((↑g_1 : Int) + (1 : Int)) ∧ ∃ (g' : Nat), Nat.le g' q1 ∧ List.length t - g' < List.length t - g_1 ∧ (↑g_1 : Int) + (1 : Int) = (↑g' : Int) ∧ swTo q0 q2 t w g g_1 + List.getD t g_1 (0 : Int) * List.getD (sixs l) (Int.toNat q3) (0 : Int) = swTo q0 q2 t w g g' ∧ (↑q1 : Int) = (↑q1 : Int) ∧ t = t ∧ (↑g : Int) = (↑g : Int) ∧ (↑g : Int) = (↑g : Int) ∧ (↑q0 : Int) = (↑q0 : Int) ∧ (↑q0 : Int) = (↑q0 : Int) ∧ t = t ∧ w = w ∧ ((tab g fun (i : Nat) => swTo q0 q2 t w i q1) = tab g fun (i : Nat) => swTo q0 q2 t w i q1) ∧ sixs l = sixs l ∧ [chkSig l, chkTap t] = [chkSig l, chkTap t] ∧ True) (fits IntKind.i64 ((↑g_1 : Int) + (1 : Int)) ∧ ∃ (g' : Nat), Nat.le g' q1 ∧ List.length t - g' < List.length t - g_1 ∧ (↑g_1 : Int) + (1 : Int) = (↑g' : Int) ∧ swTo q0 q2 t w g g_1 = swTo q0 q2 t w g g' ∧ (↑q1 : Int) = (↑q1 : Int) ∧ t = t ∧ (↑g : Int) = (↑g : Int) ∧ (↑g : Int) = (↑g : Int) ∧ (↑q0 : Int) = (↑q0 : Int) ∧ (↑q0 : Int) = (↑q0 : Int) ∧ t = t ∧ w = w ∧ ((tab g fun (i : Nat) => swTo q0 q2 t w i q1) = tab g fun (i : Nat) => swTo q0 q2 t w i q1) ∧ sixs l = sixs l ∧ [chkSig l, chkTap t] = [chkSig l, chkTap t] ∧ True)) (room (List.length (tab g fun (i : Nat) => swTo q0 q2 t w i q1) + (1 : Nat)) (8 : Nat) ∧ fits IntKind.i64 ((↑g : Int) + (1 : Int)) ∧ ∃ (g' : Nat), Nat.le g' q0 ∧ List.length (sixs l) - g' < List.length (sixs l) - g ∧ (↑g : Int) + (1 : Int) = (↑g' : Int) ∧ (↑q0 : Int) = (↑q0 : Int) ∧ (↑q0 : Int) = (↑q0 : Int) ∧ t = t ∧ w = w ∧ ((tab g fun (i : Nat) => swTo q0 q2 t w i q1) ++ [swTo q0 q2 t w g g_1] = tab g' fun (i : Nat) => swTo q0 q2 t w i q1) ∧ sixs l = sixs l ∧ [chkSig l, chkTap t] = [chkSig l, chkTap t] ∧ True)) (List.length (tab g fun (i : Nat) => swTo q0 q2 t w i q1) ≤ (1000000 : Nat) ∧ smpsN (tab g fun (i : Nat) => swTo q0 q2 t w i q1) = fltN l t w ∧ lgE (tab g fun (i : Nat) => swTo q0 q2 t w i q1) = fltE l t w ∧ True))) := by
  kernel_rfl
theorem vc74 (l : List Nat) (t : List Int) : exF (env false [(142, sp142)] []) h0 0 74 Proofs.Tryz.f74 [.one (.sl (.flt .f32) l), .one (.sl (.int .i64) t)] (.tup [.one (.frs (.flt .f32) (fltN l t 1)), iV (fltE l t 1)]) = (((1 : Int) = (1 : Int) ∨ (1 : Int) = (-1 : Int)) ∧ fltN l t (1 : Int) = fltN l t (1 : Int) ∧ fltE l t (1 : Int) = fltE l t (1 : Int) ∧ True) := by
  kernel_rfl
theorem vc75 (l : List Nat) (t : List Int) : exF (env false [(142, sp142)] []) h0 0 75 Proofs.Tryz.f75 [.one (.sl (.flt .f32) l), .one (.sl (.int .i64) t)] (.tup [.one (.frs (.flt .f32) (fltN l t (-1))), iV (fltE l t (-1))]) = (((-1 : Int) = (1 : Int) ∨ (-1 : Int) = (-1 : Int)) ∧ fltN l t (-1 : Int) = fltN l t (-1 : Int) ∧ fltE l t (-1 : Int) = fltE l t (-1 : Int) ∧ True) := by
  kernel_rfl
end Go.Sx
