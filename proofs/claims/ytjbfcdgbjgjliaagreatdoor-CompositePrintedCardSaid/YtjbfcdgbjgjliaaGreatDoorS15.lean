/- A verified symbolic run of functions, part 15: lemmas, no claim of their own. -/
import Derived.Test.YtjbfcdgbjgjliaaGreatDoorS14
import Derived.Lib.AppendIntMem
import Derived.Shelf.Strconv.Itoa3
import Derived.Shelf.Strings.OnBuilder
import Derived.Shelf.LaysM
import Derived.Test.YtjbfcdgbjgjliaaGreatDoorProg
namespace Go.Sx.U
def phI (b : List Nat) : Int × Int := (six (List.getD b 0 0) - six (List.getD b 2 0), six (List.getD b 1 0) - six (List.getD b 3 0))
def burZ (b : List Nat) : Int × Int := if chkSs b = 0 then phI b else (0, 0)
def four (z : Int × Int) : List Int := [z.1, z.2, -z.1, -z.2]
def fnd (l : List Int) (v : Int) : Nat → Int
  | 0 => -1
  | i + 1 => if fnd l v i = -1 then (if List.getD l i 0 = v then (i : Int) else -1) else fnd l v i
def amax (l : List Int) : Nat → Nat
  | 0 => 0
  | i + 1 => if List.getD l (amax l i) 0 < List.getD l i 0 then i else amax l i
theorem amax_lt (l : List Int) : ∀ i, 0 < i → amax l i < i
  | 0, h => absurd h (by omega)
  | i + 1, _ => by
    unfold amax
    split
    · omega
    · by_cases h : i = 0
      · subst h; simp [amax]
      · have := amax_lt l i (by omega); omega
theorem mx_amax (l : List Int) : ∀ i, 0 < i → mxTo l i = List.getD l (amax l i) 0
  | 0, h => absurd h (by omega)
  | i + 1, _ => by
    unfold mxTo amax
    by_cases h : i = 0
    · subst h
      have e : mxTo l 0 = List.getD l 0 0 := rfl
      have e2 : amax l 0 = 0 := rfl
      rw [e, e2, ite_self]
      omega
    · rw [mx_amax l i (by omega)]
      split <;> omega
theorem amax_ge (l : List Int) : ∀ i j, j < i → List.getD l j 0 ≤ List.getD l (amax l i) 0
  | 0, j, h => absurd h (by omega)
  | i + 1, j, h => by
    unfold amax
    by_cases e : j = i
    · subst e; split <;> omega
    · have := amax_ge l i j (by omega)
      split <;> omega
theorem amax_first (l : List Int) : ∀ i j, j < amax l i → List.getD l j 0 < List.getD l (amax l i) 0
  | 0, j, h => absurd h (by simp [amax])
  | i + 1, j, h => by
    by_cases hk : List.getD l (amax l i) 0 < List.getD l i 0
    · have e : amax l (i + 1) = i := by
        show (if _ then _ else _) = _
        rw [if_pos hk]
      rw [e] at h ⊢
      have := amax_ge l i j h
      omega
    · have e : amax l (i + 1) = amax l i := by
        show (if _ then _ else _) = _
        rw [if_neg hk]
      rw [e] at h ⊢
      exact amax_first l i j h
theorem fnd_none {l : List Int} {v : Int} : ∀ {i : Nat}, (∀ j, j < i → List.getD l j 0 ≠ v) → fnd l v i = -1
  | 0, _ => rfl
  | i + 1, h => by
    unfold fnd
    rw [if_pos (fnd_none fun j hj => h j (by omega)), if_neg (h i (by omega))]
theorem fnd_at {l : List Int} {v : Int} {k : Nat} (h1 : ∀ j, j < k → List.getD l j 0 ≠ v) (h2 : List.getD l k 0 = v) : ∀ {i : Nat}, k < i → fnd l v i = (k : Int)
  | 0, h => absurd h (by omega)
  | i + 1, h => by
    unfold fnd
    by_cases e : k = i
    · subst e
      rw [if_pos (fnd_none h1), if_pos h2]
    · rw [fnd_at h1 h2 (i := i) (by omega), if_neg (by omega)]
theorem fnd_ne {l : List Int} {v : Int} : ∀ {i j : Nat}, j < i → List.getD l j 0 = v → fnd l v i ≠ -1
  | 0, _, h, _ => absurd h (by omega)
  | i + 1, j, h, hv => by
    unfold fnd
    by_cases k : fnd l v i = -1
    · rw [if_pos k]
      by_cases e : j = i
      · subst e; rw [if_pos hv]; omega
      · exact absurd k (fnd_ne (by omega) hv)
    · rw [if_neg k]; exact k
theorem fnd_mx (l : List Int) (i : Nat) (h : 0 < i) : fnd l (mxTo l i) i = (amax l i : Int) := by
  refine fnd_at (fun j hj => ?_) (mx_amax l i h).symm (amax_lt l i h)
  have := amax_first l i j hj
  rw [mx_amax l i h]
  omega
def lckB (b : List Nat) (least : Int) : Int := first [chkSs b, within least 1 1048576]
def lckN (z : Int × Int) (least : Int) : Int := if mxTo (four z) 4 < least then 0 else (amax (four z) 4 : Int)
def lckE (z : Int × Int) (least : Int) : Int := if mxTo (four z) 4 < least then 7 else 0
def lkN (b : List Nat) (least : Int) : Int := if lckB b least = 0 then lckN (phI b) least else 0
def lkE (b : List Nat) (least : Int) : Int := if lckB b least = 0 then lckE (phI b) least else lckB b least
theorem take_all {α : Type} {l : List α} {n : Nat} (h : l.length = n) : List.take n l = l := List.take_of_length_le (by omega)
theorem ph_bd {b : List Nat} (h : OkS b) (hl : b.length = 4) : (-32768 ≤ (phI b).1 ∧ (phI b).1 ≤ 32768) ∧ (-32768 ≤ (phI b).2 ∧ (phI b).2 ≤ 32768) := by
  have k : ∀ i, i < 4 → -16384 ≤ six (List.getD b i 0) ∧ six (List.getD b i 0) ≤ 16384 := fun i hi => chk_six (h _ (getD_mem' (by omega)))
  have := k 0 (by omega)
  have := k 1 (by omega)
  have := k 2 (by omega)
  have := k 3 (by omega)
  unfold phI
  simp only
  omega
def algL (l : List Nat) (n : Nat) : List Nat := List.take ((l.drop n).length / 4 * 4) (l.drop n)
def algE (l : List Nat) (late : Int) : Int := first [chkSig l, within late 0 3]
def algN (l : List Nat) (late : Int) : List Nat := if algE l late = 0 then algL l late.toNat else []
def smTo (l : List Int) (f : Nat) : Nat → Int
  | 0 => 0
  | i + 1 => smTo l f i + List.getD l (f + i) 0
theorem smTo_bd {l : List Int} {B : Int} (h : Bd B l) (hB : 0 ≤ B) (f : Nat) : ∀ i : Nat, -((i : Int) * B) ≤ smTo l f i ∧ smTo l f i ≤ (i : Int) * B
  | 0 => by simp [smTo]
  | i + 1 => by
    have ih := smTo_bd h hB f i
    have hb := bd_get h (i := f + i) hB
    have e : ((i + 1 : Nat) : Int) * B = (i : Int) * B + B := by
      rw [Int.natCast_add, Int.add_mul]; simp
    rw [e]
    unfold smTo
    omega
def clBy (l : List Nat) (f t : Int) (lev : Nat) : Int := six lev - roundI (smTo (sixs l) f.toNat (t - f).toNat) (t - f)
def clI (l : List Nat) (f t : Int) (lev : Nat) : List Int := l.map fun b => six b + clBy l f t lev
def spE (l : List Nat) (f t : Int) : Int := if 0 ≤ f ∧ f < t ∧ t ≤ l.length then 0 else 14
def clB (l : List Nat) (f t : Int) (lev : Nat) : Int := first [chkSig l, spE l f t, chkS lev]
def clE (l : List Nat) (f t : Int) (lev : Nat) : Int := if clB l f t lev = 0 then lgE (clI l f t lev) else clB l f t lev
def clN (l : List Nat) (f t : Int) (lev : Nat) : List Nat := if clB l f t lev = 0 then smpsN (clI l f t lev) else []
theorem clB_zero {l : List Nat} {f t : Int} {lev : Nat} : clB l f t lev = 0 ↔ chkSig l = 0 ∧ (0 ≤ f ∧ f < t ∧ t ≤ l.length) ∧ chkS lev = 0 := by
  unfold clB
  rw [first_zero]
  have e : spE l f t = 0 ↔ (0 ≤ f ∧ f < t ∧ t ≤ l.length) := by
    unfold spE
    split
    · rename_i h; simp [h]
    · rename_i h; simp only [h, iff_false]; decide
  simp [e]
theorem sp_first (l : List Nat) (f t : Int) : whenE (bif bif decide (f < 0) then true else decide (t ≤ f) then true else decide ((l.length : Int) < t)) 14 = spE l f t := by
  unfold spE whenE
  by_cases h1 : f < 0
  · have : ¬ (0 ≤ f ∧ f < t ∧ t ≤ (l.length : Int)) := by omega
    rw [if_neg this]; simp [h1]
  · by_cases h2 : t ≤ f
    · have : ¬ (0 ≤ f ∧ f < t ∧ t ≤ (l.length : Int)) := by omega
      rw [if_neg this]; simp [h1, h2]
    · by_cases h3 : (l.length : Int) < t
      · have : ¬ (0 ≤ f ∧ f < t ∧ t ≤ (l.length : Int)) := by omega
        rw [if_neg this]; simp [h1, h2, h3]
      · have : (0 ≤ f ∧ f < t ∧ t ≤ (l.length : Int)) := by omega
        rw [if_pos this]; simp [h1, h2, h3]
end Go.Sx.U

namespace Go.Sx
open U
@[reducible] def b4V (b : List Nat) : V := .agg [.arr 4 (.flt .f32) b]
def intCh : List Ch → Option Int
  | [.one (.int .i64 n)] => some n
  | _ => none
def h63 : Hints := ⟨fun f k s => match f, k with
  | 135, 2 => match listAs s 0 (.int .i64), intOfT s 1 with
    | some l, some v => some ⟨Nat, fun i => s.at [0, 1, 7] [tI 8 i], fun i => i ≤ List.length l ∧ fnd l v i = -1, fun i => List.length l - i⟩
    | _, _ => none
  | 66, 5 => match listAs s 7 (.int .i64) with
    | some l => some ⟨Nat, fun i => s.at [1, 7] [tI 9 i, tI 8 (amax l i)], fun i => 1 ≤ i ∧ i ≤ 4, fun i => 4 - i⟩
    | none => none
  | 64, 2 => match listAs s 0 (.flt .f32) with
    | some xs => some ⟨Nat, fun i => s.at [0] [tI 3 i], fun i => i ≤ List.length xs ∧ chkSs xs = first (List.drop i (List.map chkS xs)), fun i => List.length xs - i⟩
    | _ => none
  | _, _ => none, 0⟩
def spanT (s : St) (t : Nat) : Option (Int × Int) := match ptrId s t with
  | some b => match lookO s.ob b with
    | some (.box [.one (.int .i64 f), .one (.int .i64 t)]) => some (f, t)
    | _ => none
  | none => none
def h68 : Hints := ⟨fun f k s => match f, k with
  | 68, 6 => match listAs s 0 (.flt .f32), spanT s 4 with
    | some l, some (f, t) => some ⟨Nat, fun i => s.at [0, 2, 4, 45, 46] [tI 47 i, tI 9 (smTo (sixs l) f.toNat i)], fun i => i ≤ (t - f).toNat, fun i => (t - f).toNat - i⟩
    | _, _ => none
  | 139, 3 => match boxS s with
    | [_, (_, cb)] => match intCh cb with
      | some n => hMapG (.flt .f32) (.int .i64) (fun b => six b + n) 8 10 5 [1, 9] s
      | none => none
    | _ => none
  | 71, 3 => match listAs s 8 (.int .i64), spanT s 4 with
    | some l, some (f, t) => some ⟨Nat, fun i => s.at [2, 4, 8] [tI 10 (f + (i : Int)), tI 9 (smTo l f.toNat i)], fun i => i ≤ (t - f).toNat, fun i => (t - f).toNat - i⟩
    | _, _ => none
  | 71, 8 => match ownM s 8, listAs s 8 (.int .i64), lookT s.tm 2, intOfT s 11 with
    | some id, some l, some (.val (.one (.flt .f32 lev))), some m => some ⟨Nat, fun i => ⟨tI 12 i :: keepT [2, 8, 11] s.tm, (id, some (.row (.int .i64) (putTo 0 l (fun n => List.getD l n 0 + six lev - m) i))) :: dropO s [id], s.nx, s.lr⟩, fun i => i ≤ List.length l, fun i => List.length l - i⟩
    | _, _, _, _ => none
  | 70, 3 => match listAs s 0 (.flt .f32), intOfT s 1 with
    | some l, some n => some ⟨Nat, fun i => ⟨[tI 6 (n + (i : Int)), (5, .val (.one (.own s.nx)))] ++ keepT [0] s.tm, (s.nx, some (.row (.flt .f32) (List.take i (List.drop n.toNat l)))) :: lessO s [5], s.nx + 1, s.lr⟩, fun i => i ≤ List.length l - n.toNat, fun i => List.length l - n.toNat - i⟩
    | _, _ => none
  | _, _ => none, 0⟩
@[reducible] noncomputable def fb139 : Nat × Func := (139, Proofs.Tryz.f139)
@[reducible] noncomputable def fb140 : Nat × Func := (140, Proofs.Tryz.f140)
end Go.Sx
namespace Go.Sx
open U
def sp133 : FSpec := ⟨fun vs => match vs with
  | [.agg [.arr 4 (.flt .f32) b]] => some ([List.length b = 4, OkS b], .val (gsV (phI b)))
  | _ => none, true⟩
def sp135 : FSpec := ⟨fun vs => match vs with
  | [.one (.sl (.int .i64) l), .one (.int .i64 v)] => some ([List.length l ≤ 1000000000], .val (iV (fnd l v (List.length l))))
  | _ => none, true⟩
end Go.Sx

namespace Go.Sx
open U
theorem vc133 (b : List Nat) : exF (env false [(137, sp137)] []) h0 0 133 Proofs.Tryz.f133 [b4V b] (.val (gsV (phI b))) = (((0 : Int) ≤ (0 : Int) ∧ (0 : Int) < (4 : Int)) ∧ (0 : Nat) < List.length b ∧ chkS (List.getD b (0 : Nat) (0 : Nat)) = (0 : Int) ∧ ((0 : Int) ≤ (2 : Int) ∧ (2 : Int) < (4 : Int)) ∧ (2 : Nat) < List.length b ∧ chkS (List.getD b (2 : Nat) (0 : Nat)) = (0 : Int) ∧ fits IntKind.i64 (six (List.getD b (0 : Nat) (0 : Nat)) - six (List.getD b (2 : Nat) (0 : Nat))) ∧ ((0 : Int) ≤ (1 : Int) ∧ (1 : Int) < (4 : Int)) ∧ (1 : Nat) < List.length b ∧ chkS (List.getD b (1 : Nat) (0 : Nat)) = (0 : Int) ∧ ((0 : Int) ≤ (3 : Int) ∧ (3 : Int) < (4 : Int)) ∧ (3 : Nat) < List.length b ∧ chkS (List.getD b (3 : Nat) (0 : Nat)) = (0 : Int) ∧ fits IntKind.i64 (six (List.getD b (1 : Nat) (0 : Nat)) - six (List.getD b (3 : Nat) (0 : Nat))) ∧ six (List.getD b (0 : Nat) (0 : Nat)) - six (List.getD b (2 : Nat) (0 : Nat)) = Prod.fst (phI b) ∧ six (List.getD b (1 : Nat) (0 : Nat)) - six (List.getD b (3 : Nat) (0 : Nat)) = Prod.snd (phI b) ∧ True) := by
  kernel_rfl
theorem vc62 (b : List Nat) : exF (env false [(105, sp105), (133, sp133)] []) h0 0 62 Proofs.Tryz.f62 [b4V b] (.tup [gsV (burZ b), iV (chkSs b)]) = (let q0 := (List.take (4 : Nat) b); ((0 : Int) ≤ (0 : Int) ∧ (0 : Int) ≤ (4 : Int) ∧ (4 : Int) ≤ (4 : Int)) ∧ List.length q0 = (4 : Nat) ∧ List.length q0 ≤ (1000000 : Nat) ∧ splitB (chkSs q0 != (0 : Int)) ((0 : Int) = (burZ b).1 ∧ (0 : Int) = (burZ b).2 ∧ chkSs q0 = chkSs b ∧ True) (List.length b = (4 : Nat) ∧ OkS b ∧ (phI b).1 = (burZ b).1 ∧ (phI b).2 = (burZ b).2 ∧ (0 : Int) = chkSs b ∧ True)) := by
  kernel_rfl
theorem vc135 (l : List Int) (v : Int) : exF (env false [] []) h63 0 135 Proofs.Tryz.f135 [.one (.sl (.int .i64) l), iV v] (.val (iV (fnd l v l.length))) = (let q0 := (↑(List.length l) : Int); (∃ (g : Nat), (g ≤ List.length l ∧ fnd l v g = (-1 : Int)) ∧ (0 : Int) = (↑g : Int) ∧ q0 = q0 ∧ l = l ∧ v = v ∧ True) ∧ ∀ (g : Nat), g ≤ List.length l ∧ fnd l v g = (-1 : Int) → splitB (decide ((↑g : Int) < q0)) (((0 : Int) ≤ (↑g : Int) ∧ (↑g : Int) < q0) ∧ splitB (v == List.getD l g (0 : Int)) ((↑g : Int) = fnd l v (List.length l) ∧ True) (fits IntKind.i64 ((↑g : Int) + (1 : Int)) ∧ ∃ (g' : Nat), (g' ≤ List.length l ∧ fnd l v g' = (-1 : Int)) ∧ List.length l - g' < List.length l - g ∧ (↑g : Int) + (1 : Int) = (↑g' : Int) ∧ q0 = q0 ∧ l = l ∧ v = v ∧ True)) ((-1 : Int) = fnd l v (List.length l) ∧ True)) := by
  kernel_rfl
theorem vc63 (b : List Nat) (least : Int) : exF (env false [(105, sp105), (96, sp96), (95, sp95), (133, sp133), (134, sp134), (135, sp135)] []) h0 0 63 Proofs.Tryz.f63 [b4V b, iV least] (.tup [iV (lkN b least), iV (lkE b least)]) = (let q0 := (List.take (4 : Nat) b); let q1 := ((0 : Int) = lkN b least ∧ (7 : Int) = lkE b least ∧ True); ((0 : Int) ≤ (0 : Int) ∧ (0 : Int) ≤ (4 : Int) ∧ (4 : Int) ≤ (4 : Int)) ∧ List.length q0 = (4 : Nat) ∧ List.length q0 ≤ (1000000 : Nat) ∧ (2 : Nat) ≤ (1000000000 : Nat) ∧ splitB (first [chkSs q0, within least (1 : Int) (1048576 : Int)] != (0 : Int)) ((0 : Int) = lkN b least ∧ first [chkSs q0, within least (1 : Int) (1048576 : Int)] = lkE b least ∧ True) (List.length b = (4 : Nat) ∧ OkS b ∧ splitB (eqT (Ty.pair (Ty.int IntKind.i64) (Ty.int IntKind.i64)) ((phI b).1, (phI b).2) ((0 : Int), (0 : Int))) q1 (fits IntKind.i64 (-(phI b).1) ∧ fits IntKind.i64 (-(phI b).2) ∧ ((0 : Nat) < (4 : Nat) ∧ (4 : Nat) ≤ (1000000000 : Nat)) ∧ splitB (decide (mxTo [(phI b).1, (phI b).2, -(phI b).1, -(phI b).2] (4 : Nat) < least)) q1 ((4 : Nat) ≤ (1000000000 : Nat) ∧ fnd [(phI b).1, (phI b).2, -(phI b).1, -(phI b).2] (mxTo [(phI b).1, (phI b).2, -(phI b).1, -(phI b).2] (4 : Nat)) (4 : Nat) = lkN b least ∧ (0 : Int) = lkE b least ∧ True)))) := by
  kernel_rfl
theorem vc67 (l : List Nat) (late : Int) : exF (env false [(41, sp41), (96, sp96), (95, sp95)] []) h0 0 67 Proofs.Tryz.f67 [.one (.sl (.flt .f32) l), iV late] (.tup [.one (.frs (.flt .f32) (algN l late)), iV (algE l late)]) = (let q2 := (↑(List.length l) : Int); let q0 := (↑(List.length (List.drop (Int.toNat (min late q2)) l)) : Int); let q3 := (q0 / (4 : Int) * (4 : Int)); let q1 := (List.replicate (Int.toNat q3) (0 : Nat)); (2 : Nat) ≤ (1000000000 : Nat) ∧ splitB (first [chkSig l, within late (0 : Int) (3 : Int)] != (0 : Int)) (algN l late = [] ∧ first [chkSig l, within late (0 : Int) (3 : Int)] = algE l late ∧ True) (((0 : Int) ≤ min late q2 ∧ min late q2 ≤ q2 ∧ q2 ≤ q2) ∧ ((0 : Int) ≤ q0 ∧ (0 : Int) < (4 : Int) ∧ fits IntKind.i64 (q0 / (4 : Int))) ∧ fits IntKind.i64 q3 ∧ (0 : Int) ≤ q0 / (4 : Int) * (4 : Int) ∧ room (Int.toNat q3) (4 : Nat) ∧ (0 : Nat) + List.length q1 ≤ List.length q1 ∧ copyL (0 : Nat) (List.length q1) q1 (List.drop (Int.toNat (min late q2)) l) = algN l late ∧ (0 : Int) = algE l late ∧ True)) := by
  kernel_rfl
theorem vc68 (l : List Nat) (f t : Int) (lev : Nat) : exF (env false [(41, sp41), (104, sp104), (95, sp95), (136, sp136), (137, sp137), (120, sp120), (138, sp138)] [fb139, fb140]) h68 3 68 Proofs.Tryz.f68 [.one (.sl (.flt .f32) l), gsV (f, t), fV lev] (.tup [.one (.frs (.flt .f32) (clN l f t lev)), iV (clE l f t lev)]) = (let q3 := (↑(List.length l) : Int); let q0 := (bif bif decide (f < (0 : Int)) then true else decide (t ≤ f) then true else decide (q3 < t)); let q7 := (List.drop (Int.toNat f) l); let q6 := (Int.toNat t - Int.toNat f); let q1 := (List.take q6 q7); let q5 := (↑(List.length q1) : Int); (3 : Nat) ≤ (1000000000 : Nat) ∧ splitB (first [chkSig l, whenE q0 (14 : Int), chkS lev] != (0 : Int)) (clN l f t lev = [] ∧ first [chkSig l, whenE q0 (14 : Int), chkS lev] = clE l f t lev ∧ True) (((0 : Int) ≤ f ∧ f ≤ t ∧ t ≤ q3) ∧ (∃ (g : Nat), Nat.le g (Int.toNat (t - f)) ∧ (0 : Int) = (↑g : Int) ∧ (0 : Int) = smTo (sixs l) (Int.toNat f) g ∧ q5 = q5 ∧ List.take q6 q7 = List.take q6 q7 ∧ l = l ∧ lev = lev ∧ [chkSig l, whenE q0 (14 : Int), chkS lev] = [chkSig l, whenE q0 (14 : Int), chkS lev] ∧ f = f ∧ t = t ∧ True) ∧ ∀ (g : Nat), let q4 := (smTo (sixs l) (Int.toNat f) g); let q2 := (six lev - roundI q4 (t - f)); let q10 := (List.getD q1 g (0 : Nat)); Nat.le g (Int.toNat (t - f)) → splitB (decide ((↑g : Int) < q5)) (((0 : Int) ≤ (↑g : Int) ∧ (↑g : Int) < q5) ∧ chkS q10 = (0 : Int) ∧ fits IntKind.i64 (smTo (sixs l) (Int.toNat f) g + six q10) ∧ fits IntKind.i64 ((↑g : Int) + (1 : Int)) ∧ ∃ (g' : Nat), Nat.le g' (Int.toNat (t - f)) ∧ Int.toNat (t - f) - g' < Int.toNat (t - f) - g ∧ (↑g : Int) + (1 : Int) = (↑g' : Int) ∧ smTo (sixs l) (Int.toNat f) g + six q10 = smTo (sixs l) (Int.toNat f) g' ∧ q5 = q5 ∧ List.take q6 q7 = List.take q6 q7 ∧ l = l ∧ lev = lev ∧ [chkSig l, whenE q0 (14 : Int), chkS lev] = [chkSig l, whenE q0 (14 : Int), chkS lev] ∧ f = f ∧ t = t ∧ True) (chkS lev = (0 : Int) ∧ fits IntKind.i64 (t - f) ∧ ((-1000000000 : Int) ≤ smTo (sixs l) (Int.toNat f) g ∧ smTo (sixs l) (Int.toNat f) g ≤ (1000000000 : Int)) ∧ ((0 : Int) < t - f ∧ t - f ≤ (1000000000 : Int)) ∧ fits IntKind.i64 q2 ∧ (∃ (g_1 : Nat), Nat.le g_1 (List.length l) ∧ (0 : Int) = (↑g_1 : Int) ∧ q3 = q3 ∧ l = l ∧ List.map (fun (b : Nat) => six b + q2) (List.take g_1 l) = [] ∧ six lev - roundI q4 (t - f) = six lev - roundI q4 (t - f) ∧ [chkSig l, whenE q0 (14 : Int), chkS lev] = [chkSig l, whenE q0 (14 : Int), chkS lev] ∧ f = f ∧ t = t ∧ True) ∧ ∀ (g_1 : Nat), let q8 := (List.take g_1 l); let q9 := (List.getD l g_1 (0 : Nat)); Nat.le g_1 (List.length l) → splitB (decide ((↑g_1 : Int) < q3)) (((0 : Int) ≤ (↑g_1 : Int) ∧ (↑g_1 : Int) < q3) ∧ chkS q9 = (0 : Int) ∧ fits IntKind.i64 (six q9 + q2) ∧ room (List.length (List.map (fun (b : Nat) => six b + q2) q8) + (1 : Nat)) (8 : Nat) ∧ fits IntKind.i64 ((↑g_1 : Int) + (1 : Int)) ∧ ∃ (g' : Nat), Nat.le g' (List.length l) ∧ List.length l - g' < List.length l - g_1 ∧ (↑g_1 : Int) + (1 : Int) = (↑g' : Int) ∧ q3 = q3 ∧ l = l ∧ List.map (fun (b : Nat) => six b + q2) q8 ++ [six q9 + q2] = List.map (fun (b : Nat) => six b + q2) (List.take g' l) ∧ six lev - roundI q4 (t - f) = six lev - roundI q4 (t - f) ∧ [chkSig l, whenE q0 (14 : Int), chkS lev] = [chkSig l, whenE q0 (14 : Int), chkS lev] ∧ f = f ∧ t = t ∧ True) (List.length (List.map (fun (b : Nat) => six b + q2) q8) ≤ (1000000 : Nat) ∧ smpsN (List.map (fun (b : Nat) => six b + q2) q8) = clN l f t lev ∧ lgE (List.map (fun (b : Nat) => six b + q2) q8) = clE l f t lev ∧ True)))) := by
  kernel_rfl
end Go.Sx

namespace Go.Sx
open U
theorem fn133 (b : List Nat) (hl : b.length = 4) (hb : OkS b) : Fn P1 gl1 133 [b4V b] (.val (gsV (phI b))) true := by
  refine Fn.flat ?_ rfl
  refine fn_of false [(137, sp137)] [] h0 0 Proofs.Tryz.f133 ⟨so137, trivial⟩ trivial (by kernel_rfl) rfl (by kernel_rfl) rfl rfl rfl ?_
  rw [vc133]
  try simp only [splitB_iff, -eq_self]
  have k : ∀ i, i < 4 → chkS (List.getD b i 0) = 0 := fun i hi => hb _ (getD_mem' (by omega))
  have k0 := chk_six (k 0 (by omega))
  have k1 := chk_six (k 1 (by omega))
  have k2 := chk_six (k 2 (by omega))
  have k3 := chk_six (k 3 (by omega))
  simp only [fits, hl, -eq_self]
  exact ⟨by omega, by omega, k 0 (by omega), by omega, by omega, k 2 (by omega), by omega, by omega, by omega, k 1 (by omega), by omega, by omega, k 3 (by omega), by omega, rfl, rfl, trivial⟩
theorem so133_ : SpecOk P1 gl1 133 sp133 := by
  intro vs ps r h hp
  simp only [sp133] at h
  split at h
  · cases h; exact fn133 _ (hp _ (.head _)) (hp _ (.tail _ (.head _)))
  · cases h
theorem so133 : Sp1 133 sp133 := ⟨so133_, Proofs.Tryz.f133, _, by kernel_rfl, rfl, by kernel_rfl⟩
theorem fn62 (b : List Nat) (hl : b.length = 4) : Fn P1 gl1 62 [b4V b] (.tup [gsV (burZ b), iV (chkSs b)]) true := by
  refine Fn.flat ?_ rfl
  refine fn_of false [(105, sp105), (133, sp133)] [] h0 0 Proofs.Tryz.f62 ⟨so105, so133, trivial⟩ trivial (by kernel_rfl) rfl (by kernel_rfl) rfl rfl rfl ?_
  rw [vc62]
  try simp only [splitB_iff, -eq_self]
  rw [take_all hl]
  unfold burZ
  refine ⟨by omega, hl, by omega, fun h => ?_, fun h => ?_⟩
  · have h := bneZ.1 h
    rw [if_neg h]
    exact ⟨rfl, rfl, rfl, trivial⟩
  · have h := bneF.1 h
    rw [if_pos h]
    exact ⟨hl, chkSs_zero.1 h, rfl, rfl, h.symm, trivial⟩
theorem fn135 (l : List Int) (v : Int) (hl : l.length ≤ 1000000000) : Fn P1 gl1 135 [.one (.sl (.int .i64) l), iV v] (.val (iV (fnd l v l.length))) true := by
  refine Fn.flat ?_ rfl
  refine fn_of false [] [] h63 0 Proofs.Tryz.f135 trivial trivial (by kernel_rfl) rfl (by kernel_rfl) rfl rfl rfl ?_
  rw [vc135]
  try simp only [splitB_iff, -eq_self]
  refine ⟨⟨0, ⟨by omega, rfl⟩, rfl, rfl, rfl, rfl, trivial⟩, fun g hg => ⟨fun hlt => ?_, fun hge => ?_⟩⟩
  · have hlt : g < l.length := by simpa using hlt
    refine ⟨by omega, fun k => ?_, fun k => ?_⟩
    · have k : v = List.getD l g 0 := by simpa using k
      refine ⟨?_, trivial⟩
      refine (fnd_at (fun j hj e => ?_) k.symm hlt).symm
      exact fnd_ne hj e hg.2
    · have k : ¬ v = List.getD l g 0 := by simpa using k
      refine ⟨by simp only [fits]; omega, g + 1, ⟨by omega, ?_⟩, by omega, by simp, rfl, rfl, rfl, trivial⟩
      show (if fnd l v g = -1 then (if List.getD l g 0 = v then (g : Int) else -1) else fnd l v g) = -1
      rw [if_pos hg.2, if_neg (fun e => k e.symm)]
  · have hge : ¬ g < l.length := by simpa using hge
    have e : g = l.length := by omega
    subst e
    exact ⟨hg.2.symm, trivial⟩
theorem so135_ : SpecOk P1 gl1 135 sp135 := by
  intro vs ps r h hp
  simp only [sp135] at h
  split at h
  · cases h; exact fn135 _ _ (hp _ (.head _))
  · cases h
theorem so135 : Sp1 135 sp135 := ⟨so135_, Proofs.Tryz.f135, _, by kernel_rfl, rfl, by kernel_rfl⟩
theorem fn63 (b : List Nat) (least : Int) (hl : b.length = 4) : Fn P1 gl1 63 [b4V b, iV least] (.tup [iV (lkN b least), iV (lkE b least)]) true := by
  refine Fn.flat ?_ rfl
  refine fn_of false [(105, sp105), (96, sp96), (95, sp95), (133, sp133), (134, sp134), (135, sp135)] [] h0 0 Proofs.Tryz.f63 ⟨so105, so96, so95, so133, so134, so135, trivial⟩ trivial (by kernel_rfl) rfl (by kernel_rfl) rfl rfl rfl ?_
  rw [vc63]
  try simp only [splitB_iff, -eq_self]
  rw [take_all hl]
  refine ⟨by omega, hl, by omega, by decide, fun h => ?_, fun h => ?_⟩
  · have h : ¬ lckB b least = 0 := bneZ.1 h
    unfold lkN lkE
    rw [if_neg h, if_neg h]
    exact ⟨rfl, rfl, trivial⟩
  · have h : lckB b least = 0 := bneF.1 h
    have hz := first_zero.1 h
    have hok := chkSs_zero.1 (hz _ (.head _))
    have hle := (within_zero.1 (hz _ (.tail _ (.head _)))).1
    obtain ⟨b1, b2⟩ := ph_bd hok hl
    unfold lkN lkE
    rw [if_pos h, if_pos h]
    refine ⟨hl, hok, fun k => ?_, fun k => ⟨by simp only [fits]; omega, by simp only [fits]; omega, by omega, fun k2 => ?_, fun k2 => ?_⟩⟩
    · have k : (phI b) = (0, 0) := by
        simp only [eqT, Bool.and_eq_true, beq_iff_eq] at k
        exact Prod.ext k.1 k.2
      rw [k]
      unfold lckN lckE
      have : mxTo (four (0, 0)) 4 = 0 := rfl
      rw [this, if_pos (by omega), if_pos (by omega)]
      exact ⟨rfl, rfl, trivial⟩
    · have k2 : mxTo (four (phI b)) 4 < least := of_decide_eq_true k2
      unfold lckN lckE
      rw [if_pos k2, if_pos k2]
      exact ⟨rfl, rfl, trivial⟩
    · have k2 : ¬ mxTo (four (phI b)) 4 < least := of_decide_eq_false k2
      unfold lckN lckE
      rw [if_neg k2, if_neg k2]
      exact ⟨by omega, fnd_mx (four (phI b)) 4 (by omega), rfl, trivial⟩
theorem fn67 (l : List Nat) (late : Int)  : Fn P1 gl1 67 [.one (.sl (.flt .f32) l), iV late] (.tup [.one (.frs (.flt .f32) (algN l late)), iV (algE l late)]) true := by
  refine Fn.flat ?_ rfl
  refine fn_of false [(41, sp41), (96, sp96), (95, sp95)] [] h0 0 Proofs.Tryz.f67 ⟨so41, so96, so95, trivial⟩ trivial (by kernel_rfl) rfl (by kernel_rfl) rfl rfl rfl ?_
  rw [vc67]
  try simp only [splitB_iff, -eq_self]
  refine ⟨by decide, fun h => ?_, fun h => ?_⟩
  · have h : ¬ algE l late = 0 := bneZ.1 h
    unfold algN
    rw [if_neg h]
    exact ⟨rfl, rfl, trivial⟩
  · have h : algE l late = 0 := bneF.1 h
    have hz := first_zero.1 h
    obtain ⟨k1, k2, k3⟩ := chkSig_zero.1 (hz _ (.head _))
    obtain ⟨m1, m2⟩ := within_zero.1 (hz _ (.tail _ (.head _)))
    have ed : List.drop (Int.toNat (min late (l.length : Int))) l = List.drop late.toNat l := by
      by_cases hk : late ≤ (l.length : Int)
      · rw [Int.min_eq_left hk]
      · rw [List.drop_of_length_le (by omega), List.drop_of_length_le (by omega)]
    rw [ed]
    have hl : (List.drop late.toNat l).length ≤ 256 := by rw [List.length_drop]; omega
    have e2 : Int.toNat (((List.drop late.toNat l).length : Int) / 4 * 4) = (List.drop late.toNat l).length / 4 * 4 := by omega
    rw [e2, List.length_replicate]
    simp only [fits, room, -eq_self]
    refine ⟨by omega, by omega, by omega, by omega, by omega, by omega, ?_, h.symm, trivial⟩
    unfold algN algL
    rw [if_pos h]
    unfold copyL
    generalize List.drop late.toNat l = r
    simp
    omega
theorem fn68 (l : List Nat) (f t : Int) (lev : Nat)  : Fn P1 gl1 68 [.one (.sl (.flt .f32) l), gsV (f, t), fV lev] (.tup [.one (.frs (.flt .f32) (clN l f t lev)), iV (clE l f t lev)]) true := by
  refine Fn.flat ?_ rfl
  refine fn_of false [(41, sp41), (104, sp104), (95, sp95), (136, sp136), (137, sp137), (120, sp120), (138, sp138)] [fb139, fb140] h68 3 Proofs.Tryz.f68 ⟨so41, so104, so95, so136, so137, so120, so138, trivial⟩ ⟨⟨by kernel_rfl, by kernel_rfl, _, rfl, by kernel_rfl⟩, ⟨by kernel_rfl, by kernel_rfl, _, rfl, by kernel_rfl⟩, trivial⟩ (by kernel_rfl) rfl (by kernel_rfl) rfl rfl rfl ?_
  rw [vc68]
  try simp only [splitB_iff, -eq_self]
  rw [sp_first]
  refine ⟨by decide, fun h => ?_, fun h => ?_⟩
  · have h : ¬ clB l f t lev = 0 := bneZ.1 h
    unfold clN clE
    rw [if_neg h, if_neg h]
    exact ⟨rfl, rfl, trivial⟩
  · have h : clB l f t lev = 0 := bneF.1 h
    obtain ⟨c1, c2, c5⟩ := clB_zero.1 h
    obtain ⟨k1, k2, k3⟩ := chkSig_zero.1 c1
    have hb := bd_sixs k3
    have hv := chk_six c5
    have e1 : Int.toNat t - Int.toNat f = Int.toNat (t - f) := by omega
    rw [e1]
    have hq : (List.take (Int.toNat (t - f)) (List.drop (Int.toNat f) l)).length = Int.toNat (t - f) := by rw [List.length_take, List.length_drop]; omega
    have hget : ∀ g, g < Int.toNat (t - f) → List.getD (List.take (Int.toNat (t - f)) (List.drop (Int.toNat f) l)) g 0 = List.getD l (Int.toNat f + g) 0 := fun g hg => by
      rw [List.getD_eq_getElem?_getD, List.getD_eq_getElem?_getD, List.getElem?_take_of_lt hg, List.getElem?_drop]
    rw [hq]
    simp only [fits, room, List.length_map, List.length_take, -eq_self]
    refine ⟨by omega, ⟨0, Nat.zero_le _, rfl, rfl, rfl, rfl, rfl, rfl, rfl, rfl, rfl, trivial⟩, fun g hg => ⟨fun hlt => ?_, fun hge => ?_⟩⟩
    · have hlt : (g : Int) < (Int.toNat (t - f) : Int) := of_decide_eq_true hlt
      have hlt : g < Int.toNat (t - f) := by omega
      rw [hget g hlt]
      have hok := k3 _ (getD_mem' (d := 0) (show Int.toNat f + g < l.length by omega))
      have hs := chk_six hok
      have hm := smTo_bd hb (by omega) (Int.toNat f) g
      refine ⟨by omega, hok, by omega, by omega, g + 1, hlt, by omega, by simp, ?_, rfl, rfl, rfl, rfl, rfl, rfl, rfl, trivial⟩
      show _ = smTo (sixs l) (Int.toNat f) g + List.getD (sixs l) (Int.toNat f + g) 0
      rw [sixs_get]
    · have hg : g ≤ Int.toNat (t - f) := hg
      have hge : ¬ (g : Int) < (Int.toNat (t - f) : Int) := of_decide_eq_false hge
      have e : g = Int.toNat (t - f) := by omega
      subst e
      have hm := smTo_bd hb (by omega) (Int.toNat f) (Int.toNat (t - f))
      have hm2 : -4194304 ≤ smTo (sixs l) (Int.toNat f) (Int.toNat (t - f)) ∧ smTo (sixs l) (Int.toNat f) (Int.toNat (t - f)) ≤ 4194304 := by omega
      have hr := roundI_bd (d := t - f) (by omega) hm2
      refine ⟨c5, by omega, by omega, by omega, by omega, ⟨0, Nat.zero_le _, rfl, rfl, rfl, by simp, rfl, rfl, rfl, rfl, trivial⟩, fun g2 hg2 => ⟨fun hlt2 => ?_, fun hge2 => ?_⟩⟩
      · have hlt2 : g2 < l.length := by simpa using hlt2
        have hok := k3 _ (getD_mem' (d := 0) hlt2)
        have hs := chk_six hok
        refine ⟨by omega, hok, by omega, by omega, by omega, g2 + 1, hlt2, by omega, by simp, rfl, rfl, ?_, rfl, rfl, rfl, rfl, trivial⟩
        rw [getD_of hlt2, List.take_succ_eq_append_getElem hlt2, List.map_append]
        rfl
      · have hge2 : ¬ g2 < l.length := by simpa using hge2
        rw [List.take_of_length_le (by omega)]
        unfold clN clE
        rw [if_pos h, if_pos h]
        exact ⟨by omega, rfl, rfl, trivial⟩
end Go.Sx

namespace Go.Sx.U
theorem mul_bd {a b A B : Int} (ha : -A ≤ a ∧ a ≤ A) (hb : -B ≤ b ∧ b ≤ B) : -(A * B) ≤ a * b ∧ a * b ≤ A * B := by
  have h1 : a.natAbs ≤ A.natAbs := by omega
  have h2 : b.natAbs ≤ B.natAbs := by omega
  have h3 : (a * b).natAbs ≤ (A * B).natAbs := by
    rw [Int.natAbs_mul, Int.natAbs_mul]
    exact Nat.mul_le_mul h1 h2
  have h4 : 0 ≤ A * B := Int.mul_nonneg (by omega) (by omega)
  generalize a * b = x at *
  generalize A * B = y at *
  omega
def chkTap (t : List Int) : Int := if t.length = 0 then 12 else if 8 < t.length then 5 else first (t.map fun n => within n (-1000) 1000)
theorem chkTap_zero {t : List Int} : chkTap t = 0 ↔ t.length ≠ 0 ∧ t.length ≤ 8 ∧ Bd 1000 t := by
  have e : first (t.map fun n => within n (-1000) 1000) = 0 ↔ Bd 1000 t := by
    rw [first_zero]
    unfold Bd
    simp only [List.mem_map, forall_exists_index, and_imp, forall_apply_eq_imp_iff₂, within_zero]
  unfold chkTap
  by_cases h1 : t.length = 0
  · simp [h1]
  · by_cases h2 : 8 < t.length
    · simp [h1, h2]; omega
    · rw [if_neg h1, if_neg h2, e]
      exact ⟨fun h => ⟨h1, by omega, h⟩, fun h => h.2.2⟩
def swTo (n : Nat) (L : Int → Int) (t : List Int) (w : Int) (i : Nat) : Nat → Int
  | 0 => 0
  | j + 1 => if 0 ≤ (i : Int) - w * j ∧ (i : Int) - w * j < n then swTo n L t w i j + List.getD t j 0 * L ((i : Int) - w * j) else swTo n L t w i j
def lat (L : List Int) (k : Int) : Int := List.getD L k.toNat 0
def fltI (L t : List Int) (w : Int) : List Int := tab L.length fun i => swTo L.length (lat L) t w i t.length
theorem swTo_bd {n : Nat} {L : Int → Int} {t : List Int} {w B : Int} (hB : 0 ≤ B) (hL : ∀ k, -B ≤ L k ∧ L k ≤ B) (ht : Bd 1000 t) (i : Nat) : ∀ j : Nat, -((j : Int) * (1000 * B)) ≤ swTo n L t w i j ∧ swTo n L t w i j ≤ (j : Int) * (1000 * B)
  | 0 => by simp [swTo]
  | j + 1 => by
    have ih := swTo_bd (n := n) (w := w) hB hL ht i j
    have hb := mul_bd (bd_get ht (i := j) (by omega)) (hL ((i : Int) - w * j))
    have hz : 0 ≤ 1000 * B := by omega
    have e : ((j + 1 : Nat) : Int) * (1000 * B) = (j : Int) * (1000 * B) + 1000 * B := by
      rw [Int.natCast_add, Int.add_mul]; simp
    rw [e]
    unfold swTo
    generalize List.getD t j 0 * L ((i : Int) - w * j) = p at *
    generalize (j : Int) * (1000 * B) = m at *
    split <;> omega
theorem lat_bd {L : List Int} {B : Int} (h : Bd B L) (hB : 0 ≤ B) (k : Int) : -B ≤ lat L k ∧ lat L k ≤ B := bd_get h hB
def fltB (l : List Nat) (t : List Int) : Int := first [chkSig l, chkTap t]
def fltE (l : List Nat) (t : List Int) (w : Int) : Int := if fltB l t = 0 then lgE (fltI (sixs l) t w) else fltB l t
def fltN (l : List Nat) (t : List Int) (w : Int) : List Nat := if fltB l t = 0 then smpsN (fltI (sixs l) t w) else []
def rsC (z : Int × Int) : Nat × Nat := (FloatKind.nearest .f64 z.1, FloatKind.nearest .f64 z.2)
def resN (t : List Int) : List (Nat × Nat) := if chkTap t = 0 then tab 4 fun k => rsC (qu t k) else List.replicate 4 (0, 0)
end Go.Sx.U

namespace Go.Sx
open U
def h79 : Hints := ⟨fun f k s => match f, k with
  | 145, 3 => hMapG (.int .i64) (.int .i64) (fun n => within n (-1000) 1000) 8 10 5 [1, 9] s
  | 76, 6 => match listAs s 0 (.int .i64) with
    | some t => some ⟨Nat, fun i => s.at [0] [tI 3 i], fun i => i ≤ List.length t ∧ first (List.map (fun n => within n (-1000) 1000) t) = first (List.drop i (List.map (fun n => within n (-1000) 1000) t)), fun i => List.length t - i⟩
    | none => none
  | _, _ => none, 6⟩
def h142 : Hints := ⟨fun f k s => match f, k with
  | 178, 3 => match boxS s, listAs s 1 (.int .i64), intOfT s 2 with
    | [(_, cb)], some t, some w => match rowC s cb with
      | some L => some ⟨Nat, fun i => ⟨[tI 16 i, (9, .val (.one (.own s.nx)))] ++ keepT [0, 1, 2, 3, 15] s.tm, (s.nx, some (.row (.int .i64) (tab i fun i => swTo (List.length L) (lat L) t w i (List.length t)))) :: lessO s [9], s.nx + 1, s.lr⟩, fun i => i ≤ List.length L, fun i => List.length L - i⟩
      | none => none
    | _, _, _ => none
  | 178, 7 => match boxS s, listAs s 1 (.int .i64), intOfT s 2, intOfT s 10 with
    | [(_, cb)], some t, some w, some i => match rowC s cb with
      | some L => some ⟨Nat, fun j => s.at [0, 1, 2, 3, 9, 10, 15, 16, 19, 20] [tI 21 j, tI 11 (swTo (List.length L) (lat L) t w i.toNat j)], fun j => j ≤ List.length t, fun j => List.length t - j⟩
      | none => none
    | _, _, _, _ => none
  | 78, 4 => match listAs s 8 (.int .i64), listAs s 1 (.int .i64), intOfT s 2, ownM s 9 with
    | some L, some t, some w, some id => some ⟨Nat, fun i => ⟨tI 10 i :: keepT [1, 2, 8, 9] s.tm, (id, some (.row (.int .i64) (fillTo 0 (List.length L) (fun i => swTo (List.length L) (lat L) t w i (List.length t)) i))) :: dropO s [id], s.nx, s.lr⟩, fun i => i ≤ List.length L, fun i => List.length L - i⟩
    | _, _, _, _ => none
  | 78, 7 => match listAs s 8 (.int .i64), listAs s 1 (.int .i64), intOfT s 2, ownM s 9, intOfT s 10 with
    | some L, some t, some w, some id, some i => some ⟨Nat, fun j => ⟨tI 11 j :: keepT [1, 2, 8, 9, 10] s.tm, (id, some (.row (.int .i64) (List.set (fillTo 0 (List.length L) (fun i => swTo (List.length L) (lat L) t w i (List.length t)) i.toNat) i.toNat (swTo (List.length L) (lat L) t w i.toNat j)))) :: dropO s [id], s.nx, s.lr⟩, fun j => j ≤ List.length t, fun j => List.length t - j⟩
    | _, _, _, _, _ => none
  | _, _ => none, 0⟩
@[reducible] noncomputable def fb178 : Nat × Func := (178, Proofs.Tryz.f178)
@[reducible] noncomputable def fb179 : Nat × Func := (179, Proofs.Tryz.f179)
end Go.Sx
namespace Go.Sx
open U
def sp146 : FSpec := ⟨fun vs => match vs with
  | [.one (.int .i64 n)] => some ([], .val (iV (within n (-1000) 1000)))
  | _ => none, true⟩
def sp145 : FSpec := ⟨fun vs => match vs with
  | [.one (.sl (.int .i64) l), .one (.fn 146 [] [])] => some ([List.length l ≤ 1000000], .val (.one (.frs (.int .i64) (List.map (fun n => within n (-1000) 1000) l))))
  | _ => none, true⟩
def sp79 : FSpec := ⟨fun vs => match vs with
  | [.one (.sl (.int .i64) t)] => some ([], .val (iV (chkTap t)))
  | _ => none, true⟩
def sp142 : FSpec := ⟨fun vs => match vs with
  | [.one (.sl (.flt .f32) l), .one (.sl (.int .i64) t), .one (.int .i64 w)] => some ([w = 1 ∨ w = -1], .tup [.one (.frs (.flt .f32) (fltN l t w)), iV (fltE l t w)])
  | _ => none, true⟩
end Go.Sx

namespace Go.Sx
open U
theorem vc146 (n : Int) : exF (env false [(96, sp96)] []) h0 0 146 Proofs.Tryz.f146 [iV n] (.val (iV (within n (-1000) 1000))) = (within n (-1000 : Int) (1000 : Int) = within n (-1000 : Int) (1000 : Int) ∧ True) := by
  kernel_rfl
theorem vc145 (l : List Int) : exF (env false [(146, sp146)] []) h79 0 145 Proofs.Tryz.f145 [.one (.sl (.int .i64) l), .one (.fn 146 [] [])] (.val (.one (.frs (.int .i64) (l.map fun n => within n (-1000) 1000)))) = (let q0 := (↑(List.length l) : Int); (∃ (g : Nat), Nat.le g (List.length l) ∧ (0 : Int) = (↑g : Int) ∧ q0 = q0 ∧ l = l ∧ List.map (fun (n : Int) => within n (-1000 : Int) (1000 : Int)) (List.take g l) = [] ∧ True) ∧ ∀ (g : Nat), Nat.le g (List.length l) → splitB (decide ((↑g : Int) < q0)) (((0 : Int) ≤ (↑g : Int) ∧ (↑g : Int) < q0) ∧ room (List.length (List.map (fun (n : Int) => within n (-1000 : Int) (1000 : Int)) (List.take g l)) + (1 : Nat)) (8 : Nat) ∧ fits IntKind.i64 ((↑g : Int) + (1 : Int)) ∧ ∃ (g' : Nat), Nat.le g' (List.length l) ∧ List.length l - g' < List.length l - g ∧ (↑g : Int) + (1 : Int) = (↑g' : Int) ∧ q0 = q0 ∧ l = l ∧ List.map (fun (n : Int) => within n (-1000 : Int) (1000 : Int)) (List.take g l) ++ [within (List.getD l g (0 : Int)) (-1000 : Int) (1000 : Int)] = List.map (fun (n : Int) => within n (-1000 : Int) (1000 : Int)) (List.take g' l) ∧ True) (List.map (fun (n : Int) => within n (-1000 : Int) (1000 : Int)) (List.take g l) = List.map (fun (n : Int) => within n (-1000 : Int) (1000 : Int)) l ∧ True)) := by
  kernel_rfl
theorem vc79 (t : List Int) : exF (env false [(104, sp104), (95, sp95), (145, sp145)] []) h0 0 79 Proofs.Tryz.f79 [.one (.sl (.int .i64) t)] (.val (iV (chkTap t))) = (let q0 := (↑(List.length t) : Int); (2 : Nat) ≤ (1000000000 : Nat) ∧ splitB (first [whenE (q0 == (0 : Int)) (12 : Int), whenE (decide ((8 : Int) < q0)) (5 : Int)] != (0 : Int)) (first [whenE (q0 == (0 : Int)) (12 : Int), whenE (decide ((8 : Int) < q0)) (5 : Int)] = chkTap t ∧ True) (List.length t ≤ (1000000 : Nat) ∧ List.length (List.map (fun (n : Int) => within n (-1000 : Int) (1000 : Int)) t) ≤ (1000000000 : Nat) ∧ first (List.map (fun (n : Int) => within n (-1000 : Int) (1000 : Int)) t) = chkTap t ∧ True)) := by
  kernel_rfl
theorem vc72 (t : List Int) : exF (env false [(79, sp79), (109, sp109)] []) h79 0 72 Proofs.Tryz.f72 [.one (.sl (.int .i64) t)] (.tup [.agg [.arr 4 (.cpx .f64) (resN t)], iV (chkTap t)]) = (let q0 := (tab (4 : Nat) (qu t)); let q1 := ((0 : Int), (0 : Int)); let q2 := ((0 : Int) ≤ (0 : Int) ∧ (0 : Int) < (4 : Int)); let q3 := ((0 : Int) ≤ (1 : Int) ∧ (1 : Int) < (4 : Int)); let q4 := ((0 : Int) ≤ (2 : Int) ∧ (2 : Int) < (4 : Int)); let q5 := ((0 : Int) ≤ (3 : Int) ∧ (3 : Int) < (4 : Int)); splitB (chkTap t != (0 : Int)) (List.replicate (4 : Nat) ((0 : Nat), (0 : Nat)) = resN t ∧ chkTap t = chkTap t ∧ True) (List.length t ≤ (1000 : Nat) ∧ Bd (1000000 : Int) t ∧ q2 ∧ q2 ∧ (0 : Nat) < (4 : Nat) ∧ fits IntKind.i64 (1 : Int) ∧ q3 ∧ q3 ∧ (1 : Nat) < (4 : Nat) ∧ fits IntKind.i64 (2 : Int) ∧ q4 ∧ q4 ∧ (2 : Nat) < (4 : Nat) ∧ fits IntKind.i64 (3 : Int) ∧ q5 ∧ q5 ∧ (3 : Nat) < (4 : Nat) ∧ fits IntKind.i64 (4 : Int) ∧ [(FloatKind.nearest FloatKind.f64 (List.getD q0 (0 : Nat) q1).1, FloatKind.nearest FloatKind.f64 (List.getD q0 (0 : Nat) q1).2), (FloatKind.nearest FloatKind.f64 (List.getD q0 (1 : Nat) q1).1, FloatKind.nearest FloatKind.f64 (List.getD q0 (1 : Nat) q1).2), (FloatKind.nearest FloatKind.f64 (List.getD q0 (2 : Nat) q1).1, FloatKind.nearest FloatKind.f64 (List.getD q0 (2 : Nat) q1).2), (FloatKind.nearest FloatKind.f64 (List.getD q0 (3 : Nat) q1).1, FloatKind.nearest FloatKind.f64 (List.getD q0 (3 : Nat) q1).2)] = resN t ∧ (0 : Int) = chkTap t ∧ True)) := by
  kernel_rfl
theorem vc142 (l : List Nat) (t : List Int) (w : Int) : exF (env false [(41, sp41), (79, sp79), (95, sp95), (108, sp108), (138, sp138)] [fb178, fb179]) h142 3 142 Proofs.Tryz.f142 [.one (.sl (.flt .f32) l), .one (.sl (.int .i64) t), iV w] (.tup [.one (.frs (.flt .f32) (fltN l t w)), iV (fltE l t w)]) = (let q0 := (List.length (sixs l)); let q1 := (List.length t); let q2 := (lat (sixs l)); (2 : Nat) ≤ (1000000000 : Nat) ∧ splitB (first [chkSig l, chkTap t] != (0 : Int)) (fltN l t w = [] ∧ first [chkSig l, chkTap t] = fltE l t w ∧ True) (List.length l ≤ (1000000 : Nat) ∧ OkS l ∧ (∃ (g : Nat), Nat.le g q0 ∧ (0 : Int) = (↑g : Int) ∧ (↑q0 : Int) = (↑q0 : Int) ∧ (↑q0 : Int) = (↑q0 : Int) ∧ t = t ∧ w = w ∧ (tab g fun (i : Nat) => swTo q0 q2 t w i q1) = [] ∧ sixs l = sixs l ∧ [chkSig l, chkTap t] = [chkSig l, chkTap t] ∧ True) ∧ ∀ (g : Nat), Nat.le g q0 → splitB (decide ((↑g : Int) < (↑q0 : Int))) ((∃ (g_1 : Nat), Nat.le g_1 q1 ∧ (0 : Int) = (↑g_1 : Int) ∧ (0 : Int) = swTo q0 q2 t w g g_1 ∧ (↑q1 : Int) = (↑q1 : Int) ∧ t = t ∧ (↑g : Int) = (↑g : Int) ∧ (↑g : Int) = (↑g : Int) ∧ (↑q0 : Int) = (↑q0 : Int) ∧ (↑q0 : Int) = (↑q0 : Int) ∧ t = t ∧ w = w ∧ ((tab g fun (i : Nat) => swTo q0 q2 t w i q1) = tab g fun (i : Nat) => swTo q0 q2 t w i q1) ∧ sixs l = sixs l ∧ [chkSig l, chkTap t] = [chkSig l, chkTap t] ∧ True) ∧ ∀ (g_1 : Nat), let q3 := ((↑g : Int) - w * (↑g_1 : Int)); Nat.le g_1 q1 → splitB (decide ((↑g_1 : Int) < (↑q1 : Int))) (((0 : Int) ≤ (↑g_1 : Int) ∧ (↑g_1 : Int) < (↑q1 : Int)) ∧ fits IntKind.i64 (w * (↑g_1 : Int)) ∧ fits IntKind.i64 q3 ∧ splitB (bif decide ((0 : Int) ≤ (↑g : Int) - w * (↑g_1 : Int)) then decide ((↑g : Int) - w * (↑g_1 : Int) < (↑q0 : Int)) else false) (((0 : Int) ≤ (↑g : Int) - w * (↑g_1 : Int) ∧ (↑g : Int) - w * (↑g_1 : Int) < (↑q0 : Int)) ∧ Int.toNat q3 < List.length (sixs l) ∧ fits IntKind.i64 (List.getD t g_1 (0 : Int) * List.getD (sixs l) (Int.toNat q3) (0 : Int)) ∧ fits IntKind.i64 (swTo q0 q2 t w g g_1 + List.getD t g_1 (0 : Int) * List.getD (sixs l) (Int.toNat q3) (0 : Int)) ∧ fits IntKind.i64 ((↑g_1 : Int) + (1 : Int)) ∧ ∃ (g' : Nat), Nat.le g' q1 ∧ List.length t - g' < List.length t - g_1 ∧ (↑g_1 : Int) + (1 : Int) = (↑g' : Int) ∧ swTo q0 q2 t w g g_1 + List.getD t g_1 (0 : Int) * List.getD (sixs l) (Int.toNat q3) (0 : Int) = swTo q0 q2 t w g g' ∧ (↑q1 : Int) = (↑q1 : Int) ∧ t = t ∧ (↑g : Int) = (↑g : Int) ∧ (↑g : Int) = (↑g : Int) ∧ (↑q0 : Int) = (↑q0 : Int) ∧ (↑q0 : Int) = (↑q0 : Int) ∧ t = t ∧ w = w ∧ ((tab g fun (i : Nat) => swTo q0 q2 t w i q1) = tab g fun (i : Nat) => swTo q0 q2 t w i q1) ∧ sixs l = sixs l ∧ [chkSig l, chkTap t] = [chkSig l, chkTap t] ∧ True) (fits IntKind.i64 ((↑g_1 : Int) + (1 : Int)) ∧ ∃ (g' : Nat), Nat.le g' q1 ∧ List.length t - g' < List.length t - g_1 ∧ (↑g_1 : Int) + (1 : Int) = (↑g' : Int) ∧ swTo q0 q2 t w g g_1 = swTo q0 q2 t w g g' ∧ (↑q1 : Int) = (↑q1 : Int) ∧ t = t ∧ (↑g : Int) = (↑g : Int) ∧ (↑g : Int) = (↑g : Int) ∧ (↑q0 : Int) = (↑q0 : Int) ∧ (↑q0 : Int) = (↑q0 : Int) ∧ t = t ∧ w = w ∧ ((tab g fun (i : Nat) => swTo q0 q2 t w i q1) = tab g fun (i : Nat) => swTo q0 q2 t w i q1) ∧ sixs l = sixs l ∧ [chkSig l, chkTap t] = [chkSig l, chkTap t] ∧ True)) (room (List.length (tab g fun (i : Nat) => swTo q0 q2 t w i q1) + (1 : Nat)) (8 : Nat) ∧ fits IntKind.i64 ((↑g : Int) + (1 : Int)) ∧ ∃ (g' : Nat), Nat.le g' q0 ∧ List.length (sixs l) - g' < List.length (sixs l) - g ∧ (↑g : Int) + (1 : Int) = (↑g' : Int) ∧ (↑q0 : Int) = (↑q0 : Int) ∧ (↑q0 : Int) = (↑q0 : Int) ∧ t = t ∧ w = w ∧ ((tab g fun (i : Nat) => swTo q0 q2 t w i q1) ++ [swTo q0 q2 t w g g_1] = tab g' fun (i : Nat) => swTo q0 q2 t w i q1) ∧ sixs l = sixs l ∧ [chkSig l, chkTap t] = [chkSig l, chkTap t] ∧ True)) (List.length (tab g fun (i : Nat) => swTo q0 q2 t w i q1) ≤ (1000000 : Nat) ∧ smpsN (tab g fun (i : Nat) => swTo q0 q2 t w i q1) = fltN l t w ∧ lgE (tab g fun (i : Nat) => swTo q0 q2 t w i q1) = fltE l t w ∧ True))) := by
  kernel_rfl
theorem vc74 (l : List Nat) (t : List Int) : exF (env false [(142, sp142)] []) h0 0 74 Proofs.Tryz.f74 [.one (.sl (.flt .f32) l), .one (.sl (.int .i64) t)] (.tup [.one (.frs (.flt .f32) (fltN l t 1)), iV (fltE l t 1)]) = (((1 : Int) = (1 : Int) ∨ (1 : Int) = (-1 : Int)) ∧ fltN l t (1 : Int) = fltN l t (1 : Int) ∧ fltE l t (1 : Int) = fltE l t (1 : Int) ∧ True) := by
  kernel_rfl
theorem vc75 (l : List Nat) (t : List Int) : exF (env false [(142, sp142)] []) h0 0 75 Proofs.Tryz.f75 [.one (.sl (.flt .f32) l), .one (.sl (.int .i64) t)] (.tup [.one (.frs (.flt .f32) (fltN l t (-1))), iV (fltE l t (-1))]) = (((-1 : Int) = (1 : Int) ∨ (-1 : Int) = (-1 : Int)) ∧ fltN l t (-1 : Int) = fltN l t (-1 : Int) ∧ fltE l t (-1 : Int) = fltE l t (-1 : Int) ∧ True) := by
  kernel_rfl
end Go.Sx

namespace Go.Sx
open U
theorem fn146 (n : Int)  : Fn P1 gl1 146 [iV n] (.val (iV (within n (-1000) 1000))) true := by
  refine Fn.flat ?_ rfl
  refine fn_of false [(96, sp96)] [] h0 0 Proofs.Tryz.f146 ⟨so96, trivial⟩ trivial (by kernel_rfl) rfl (by kernel_rfl) rfl rfl rfl ?_
  rw [vc146]
  try simp only [splitB_iff, -eq_self]
  exact ⟨rfl, trivial⟩
theorem so146_ : SpecOk P1 gl1 146 sp146 := by
  intro vs ps r h _
  simp only [sp146] at h
  split at h
  · cases h; exact fn146 _ 
  · cases h
theorem so146 : Sp1 146 sp146 := ⟨so146_, Proofs.Tryz.f146, _, by kernel_rfl, rfl, by kernel_rfl⟩
theorem fn145 (l : List Int) (hl : l.length ≤ 1000000) : Fn P1 gl1 145 [.one (.sl (.int .i64) l), .one (.fn 146 [] [])] (.val (.one (.frs (.int .i64) (l.map fun n => within n (-1000) 1000)))) true := by
  refine Fn.flat ?_ rfl
  refine fn_of false [(146, sp146)] [] h79 0 Proofs.Tryz.f145 ⟨so146, trivial⟩ trivial (by kernel_rfl) rfl (by kernel_rfl) rfl rfl rfl ?_
  rw [vc145]
  try simp only [splitB_iff, -eq_self]
  refine ⟨⟨0, Nat.zero_le _, rfl, rfl, rfl, by simp⟩, fun g hg => ⟨fun hlt => ?_, fun hge => ?_⟩⟩
  · have hlt' : g < l.length := by simpa using hlt
    refine ⟨by omega, by simp only [room, List.length_map, List.length_take]; omega, by simp only [fits]; omega, g + 1, hlt', by omega, by simp, rfl, rfl, ?_, trivial⟩
    rw [getD_of hlt', List.take_succ_eq_append_getElem hlt', List.map_append]
    rfl
  · have hge' : ¬ g < l.length := by simpa using hge
    rw [List.take_of_length_le (by omega)]
    exact ⟨rfl, trivial⟩
theorem so145_ : SpecOk P1 gl1 145 sp145 := by
  intro vs ps r h hp
  simp only [sp145] at h
  split at h
  · cases h; exact fn145 _ (hp _ (.head _))
  · cases h
theorem so145 : Sp1 145 sp145 := ⟨so145_, Proofs.Tryz.f145, _, by kernel_rfl, rfl, by kernel_rfl⟩
theorem fn79 (t : List Int)  : Fn P1 gl1 79 [.one (.sl (.int .i64) t)] (.val (iV (chkTap t))) true := by
  refine Fn.flat ?_ rfl
  refine fn_of false [(104, sp104), (95, sp95), (145, sp145)] [] h0 0 Proofs.Tryz.f79 ⟨so104, so95, so145, trivial⟩ trivial (by kernel_rfl) rfl (by kernel_rfl) rfl rfl rfl ?_
  rw [vc79]
  try simp only [splitB_iff, -eq_self]
  unfold chkTap
  by_cases h1 : t.length = 0
  · have e : (t.length : Int) = 0 := by omega
    simp [h1, whenE, first]
  · have e : ¬ (t.length : Int) = 0 := by omega
    by_cases h2 : 8 < t.length
    · have e2 : (8 : Int) < (t.length : Int) := by omega
      have e3 : ¬ t = [] := fun k => h1 (by rw [k]; rfl)
      simp [h2, e2, e3, whenE, first]
    · have e2 : ¬ (8 : Int) < (t.length : Int) := by omega
      have e3 : ¬ t = [] := fun k => h1 (by rw [k]; rfl)
      simp [h2, e2, e3, whenE, first]; omega
theorem so79_ : SpecOk P1 gl1 79 sp79 := by
  intro vs ps r h _
  simp only [sp79] at h
  split at h
  · cases h; exact fn79 _ 
  · cases h
theorem so79 : Sp1 79 sp79 := ⟨so79_, Proofs.Tryz.f79, _, by kernel_rfl, rfl, by kernel_rfl⟩
theorem fn72 (t : List Int)  : Fn P1 gl1 72 [.one (.sl (.int .i64) t)] (.tup [.agg [.arr 4 (.cpx .f64) (resN t)], iV (chkTap t)]) true := by
  refine Fn.flat ?_ rfl
  refine fn_of false [(79, sp79), (109, sp109)] [] h79 0 Proofs.Tryz.f72 ⟨so79, so109, trivial⟩ trivial (by kernel_rfl) rfl (by kernel_rfl) rfl rfl rfl ?_
  rw [vc72]
  try simp only [splitB_iff, -eq_self]
  simp only [tab_get (show 0 < 4 by decide), tab_get (show 1 < 4 by decide), tab_get (show 2 < 4 by decide), tab_get (show 3 < 4 by decide), -eq_self]
  unfold resN
  refine ⟨fun h => ?_, fun h => ?_⟩
  · have h := bneZ.1 h
    rw [if_neg h]
    exact ⟨rfl, rfl, trivial⟩
  · have h := bneF.1 h
    obtain ⟨h1, h2, h3⟩ := chkTap_zero.1 h
    rw [if_pos h]
    simp only [fits, -eq_self]
    exact ⟨by omega, bd_le h3 (by omega), by omega, by omega, by omega, by omega, by omega, by omega, by omega, by omega, by omega, by omega, by omega, by omega, by omega, by omega, by omega, by omega, rfl, h.symm, trivial⟩
theorem fn142 (l : List Nat) (t : List Int) (w : Int) (hw : w = 1 ∨ w = -1) : Fn P1 gl1 142 [.one (.sl (.flt .f32) l), .one (.sl (.int .i64) t), iV w] (.tup [.one (.frs (.flt .f32) (fltN l t w)), iV (fltE l t w)]) true := by
  refine Fn.flat ?_ rfl
  refine fn_of false [(41, sp41), (79, sp79), (95, sp95), (108, sp108), (138, sp138)] [fb178, fb179] h142 3 Proofs.Tryz.f142 ⟨so41, so79, so95, so108, so138, trivial⟩ ⟨⟨by kernel_rfl, by kernel_rfl, _, rfl, by kernel_rfl⟩, ⟨by kernel_rfl, by kernel_rfl, _, rfl, by kernel_rfl⟩, trivial⟩ (by kernel_rfl) rfl (by kernel_rfl) rfl rfl rfl ?_
  rw [vc142]
  try simp only [splitB_iff, -eq_self]
  refine ⟨by decide, fun h => ?_, fun h => ?_⟩
  · have h : ¬ fltB l t = 0 := bneZ.1 h
    unfold fltN fltE
    rw [if_neg h, if_neg h]
    exact ⟨rfl, rfl, trivial⟩
  · have h : fltB l t = 0 := bneF.1 h
    have hz := first_zero.1 h
    obtain ⟨k1, k2, k3⟩ := chkSig_zero.1 (hz _ (.head _))
    obtain ⟨t1, t2, t3⟩ := chkTap_zero.1 (hz _ (.tail _ (.head _)))
    have hb := bd_sixs k3
    unfold fltN fltE fltI
    rw [if_pos h, if_pos h]
    simp only [sixs_len, fits, room, tab_len, -eq_self]
    refine ⟨by omega, k3, ⟨0, Nat.zero_le _, rfl, rfl, rfl, rfl, rfl, rfl, rfl, rfl, trivial⟩, fun g hg => ⟨fun hlt => ⟨⟨0, Nat.zero_le _, rfl, rfl, rfl, rfl, rfl, rfl, rfl, rfl, rfl, rfl, rfl, rfl, rfl, trivial⟩, fun j hj => ⟨fun hlt2 => ?_, fun hge2 => ?_⟩⟩, fun hge => ?_⟩⟩
    · have hlt : g < l.length := by simpa using hlt
      have hlt2 : j < t.length := by simpa using hlt2
      have hwj : -(j : Int) ≤ w * (j : Int) ∧ w * (j : Int) ≤ (j : Int) := by rcases hw with e | e <;> rw [e] <;> omega
      have hp := mul_bd (bd_get t3 (i := j) (by omega)) (bd_get hb (i := Int.toNat ((g : Int) - w * (j : Int))) (by omega))
      have hs := swTo_bd (n := l.length) (w := w) (by omega) (lat_bd hb (by omega)) t3 g j
      refine ⟨by omega, by omega, by omega, fun k => ?_, fun k => ?_⟩
      · rw [bcond_r, Bool.and_eq_true] at k
        have k4 := of_decide_eq_true k.1
        have k5 := of_decide_eq_true k.2
        refine ⟨by omega, by omega, by omega, by omega, by omega, j + 1, hlt2, by omega, by simp, ?_, rfl, rfl, rfl, rfl, rfl, rfl, rfl, rfl, rfl, rfl, rfl, trivial⟩
        show _ = if _ then _ else _
        rw [if_pos ⟨k4, k5⟩]
        rfl
      · rw [bcond_r, Bool.and_eq_false_iff] at k
        have k4 : ¬ (0 ≤ (g : Int) - w * (j : Int) ∧ (g : Int) - w * (j : Int) < (l.length : Int)) := by
          rintro ⟨a1, a2⟩
          rcases k with k | k
          · exact of_decide_eq_false k a1
          · exact of_decide_eq_false k a2
        refine ⟨by omega, j + 1, hlt2, by omega, by simp, ?_, rfl, rfl, rfl, rfl, rfl, rfl, rfl, rfl, rfl, rfl, rfl, trivial⟩
        show _ = if _ then _ else _
        rw [if_neg k4]
    · have hlt : g < l.length := by simpa using hlt
      have hj : j ≤ t.length := hj
      have hge2 : ¬ j < t.length := by simpa using hge2
      have e : j = t.length := by omega
      subst e
      exact ⟨by omega, by omega, g + 1, hlt, by omega, by simp, rfl, rfl, rfl, rfl, (tab_succ _ _).symm, rfl, rfl, trivial⟩
    · have hg : g ≤ l.length := hg
      have hge : ¬ g < l.length := by simpa using hge
      have e : g = l.length := by omega
      subst e
      exact ⟨by omega, rfl, rfl, trivial⟩
theorem so142_ : SpecOk P1 gl1 142 sp142 := by
  intro vs ps r h hp
  simp only [sp142] at h
  split at h
  · cases h; exact fn142 _ _ _ (hp _ (.head _))
  · cases h
theorem so142 : Sp1 142 sp142 := ⟨so142_, Proofs.Tryz.f142, _, by kernel_rfl, rfl, by kernel_rfl⟩
theorem fn74 (l : List Nat) (t : List Int)  : Fn P1 gl1 74 [.one (.sl (.flt .f32) l), .one (.sl (.int .i64) t)] (.tup [.one (.frs (.flt .f32) (fltN l t 1)), iV (fltE l t 1)]) true := by
  refine Fn.flat ?_ rfl
  refine fn_of false [(142, sp142)] [] h0 0 Proofs.Tryz.f74 ⟨so142, trivial⟩ trivial (by kernel_rfl) rfl (by kernel_rfl) rfl rfl rfl ?_
  rw [vc74]
  try simp only [splitB_iff, -eq_self]
  exact ⟨.inl rfl, rfl, rfl, trivial⟩
theorem fn75 (l : List Nat) (t : List Int)  : Fn P1 gl1 75 [.one (.sl (.flt .f32) l), .one (.sl (.int .i64) t)] (.tup [.one (.frs (.flt .f32) (fltN l t (-1))), iV (fltE l t (-1))]) true := by
  refine Fn.flat ?_ rfl
  refine fn_of false [(142, sp142)] [] h0 0 Proofs.Tryz.f75 ⟨so142, trivial⟩ trivial (by kernel_rfl) rfl (by kernel_rfl) rfl rfl rfl ?_
  rw [vc75]
  try simp only [splitB_iff, -eq_self]
  exact ⟨.inr rfl, rfl, rfl, trivial⟩
end Go.Sx

namespace Go.Sx
open Go.Proofs Go.RowKit Go.Shelf Go.Lib
theorem arr_tab {H : IH} {k : IntKind} {n : Nat} {zs : List Int} {c : Array Value} (h : Rd H (.arr n (.int k)) zs (seg c 0 (Ty.arr n (.int k)).sz)) (hs : c.size = (Ty.arr n (.int k)).sz) : c = (zs.map fun z => Value.int k z).toArray := by
  obtain ⟨h1, _, h3⟩ := h
  have hz : c.size = zs.length := by rw [hs, show zs.length = n from h1]; simp [Ty.sz]
  apply Array.ext
  · simp [hz]
  · intro i hi hi'
    have hiz : i < zs.length := by omega
    have h4 : ((seg c 0 (Ty.arr n (.int k)).sz).drop (i * (Ty.int k).sz)).take (Ty.int k).sz = [Value.int k zs[i]] := h3 i hiz
    rw [seg_seg (by rw [← hs]; simp [Ty.sz]; omega)] at h4
    have h5 := seg_get (c := c) (o := 0 + i * (Ty.int k).sz) (n := (Ty.int k).sz) (j := 0) (v := Value.int k zs[i]) (by rw [h4]; rfl)
    have e : 0 + i * (Ty.int k).sz + 0 = i := by simp [Ty.sz]
    rw [e, Array.getElem?_eq_getElem hi] at h5
    rw [Option.some.inj h5]
    simp
theorem fn_str {P : Program} {f : FuncId} {w : World} {args : Array Value} {l : List UInt8}
    (h : Calls P f args w fun e w' => e = .returned (.string ⟨l.toArray⟩) ∧ Below w.heap.size w w') :
    Calls P f args w fun e w' => ∃ v H', e = .returned v ∧ Below w.heap.size w w' ∧ Agree H' w' ∧ (∀ b, b < w.heap.size → H' b = if true then none else (fun _ => none : IH) b) ∧ DenRSV w' w.heap.size H' (.val (.one (.str l))) v :=
  h.mono fun _ _ ⟨he, hb⟩ => ⟨_, fun _ => none, he, hb, fun _ _ h => (by cases h), fun _ _ => rfl, rfl, rfl⟩
theorem itoa_fn {P : Program} {ρ : Ren} (L : LaysM.n171 P ρ) {gl : Nat → Option ((t : Ty) × t.T)} {g : Nat} (hg : P.globalNamed "internal/strconv.uint64pow10" = some g)
    (hgl : gl g = some ⟨.arr 20 (.int .u64), Lib.pow10Tab⟩) (n : Int) (hn : fits .i64 n) : Fn P gl (ρ.f 171) [.one (.int .i64 n)] (.val (.one (.str (Lib.itoa n)))) true := by
  intro w H vs hA hG hD
  obtain ⟨v, r, rfl, hv, hr⟩ := hD
  obtain rfl : r = [] := hr
  obtain rfl : v = .int .i64 n := hv
  obtain ⟨c, e, fr, h1, h2, h3⟩ := hG g _ hgl
  have ht : Lib.TabIs P w "internal/strconv.uint64pow10" .u64 Lib.pow10Tab := by
    unfold Lib.TabIs World.var?
    rw [hg]
    simp only [Option.bind_some, hA g _ h1]
    rw [arr_tab h2 h3]
  refine fn_str ((Any.strconv_Itoa L n (by simp only [fits] at hn; omega) (by simp only [fits] at hn; omega) w ht).mono fun e w' ⟨he, k, os, hw⟩ => ⟨he, ?_⟩)
  rw [hw]
  exact below_grow _ _ (Nat.le_refl _) _ _
theorem join_fn {P : Program} {ρ : Ren} (L : Lays.n156 P ρ) (X : Builder.Extra P ρ) {gl : Nat → Option ((t : Ty) × t.T)} (xs : List (List UInt8)) (sep : List UInt8) (h1 : xs.length ≤ 1000000)
    (h2 : (Lib.join xs sep).length ≤ 140737488355328) : Fn P gl (ρ.f 156) [.one (.sl .str xs), .one (.str sep)] (.val (.one (.str (Lib.join xs sep)))) true := by
  intro w H vs hA hG hD
  obtain ⟨v, r, rfl, hv, v2, r2, rfl, hv2, hr⟩ := hD
  obtain rfl : r2 = [] := hr
  obtain rfl : v2 = .string ⟨⟨sep⟩⟩ := hv2
  obtain ⟨a, cap, hc, hcap, hx⟩ := (show Rd H (.sl .str) xs [v] from hv)
  obtain rfl : v = .slice a (List.length xs) cap := by simpa using hc
  refine fn_str ?_
  rcases hx with h0 | ⟨b, off, c, e, fr, rfl, hb, hr⟩
  · obtain rfl : xs = [] := List.length_eq_zero_iff.1 h0
    exact (Any.strings_Join_none L X a cap _ w).mono fun e w' ⟨he, hw⟩ => ⟨by rw [he]; rfl, hw ▸ Below.refl _ _⟩
  · have hbw := hA b _ hb
    have hbs : b < w.heap.size := by
      rcases Nat.lt_or_ge b w.heap.size with h | h
      · exact h
      · rw [Array.getElem?_eq_none h] at hbw; cases hbw
    have e1 : ((xs.map fun x => (⟨⟨x⟩⟩ : ByteArray)).map (·.data.toList)) = xs := by simp [List.map_map, Function.comp_def]
    have := Any.strings_Join L X b off cap (xs.map fun x => (⟨⟨x⟩⟩ : ByteArray)) ⟨⟨sep⟩⟩ w (fun j x hj => ?_) hbs (by simp only [List.length_map]; omega) (by simpa using hcap) (by rw [e1]; exact h2)
    · rw [e1, List.length_map] at this
      exact this
    · rw [List.getElem?_map] at hj
      obtain ⟨y, hy, rfl⟩ := Option.map_eq_some_iff.1 hj
      obtain ⟨hlt, hyj⟩ := List.getElem?_eq_some_iff.1 hy
      have h4 : seg c (off + j * Ty.str.sz) Ty.str.sz = [.string ⟨⟨xs[j]⟩⟩] := hr j hlt
      have h5 := cell_seg (w := w) hbw (o := off + j * Ty.str.sz) (n := Ty.str.sz) 0 (.string ⟨⟨xs[j]⟩⟩) (by rw [h4]; rfl)
      rw [← hyj]
      have e2 : off + j * Ty.str.sz = off + j := by simp [Ty.sz]
      rw [e2] at h5
      exact h5
end Go.Sx

namespace Go.Proofs
open Go.Shelf
def Tryz.lays156_ren : Go.Shelf.Ren := ⟨fun | 156 => 152 | 165 => 185 | 166 => 186 | 169 => 187 | 240 => 203 | 241 => 204 | 276 => 221 | 277 => 222 | n => n, fun | 31 => 155 | 9 => 9 | 3 => 3 | 4 => 4 | 0 => 0 | 20 => 20 | 72 => 250 | 76 => 254 | 70 => 247 | 37 => 248 | 75 => 253 | 127 => 266 | 164 => 281 | 5 => 5 | 80 => 256 | n => n, fun | n => n⟩
theorem Tryz.lays156 : Go.Proofs.Lays.n156 Tryz.prog Tryz.lays156_ren := {
  mixed := by kernel_rfl
  f156 := Tryz.func152.trans (congrArg some (by kernel_rfl))
  f165 := Tryz.func185.trans (congrArg some (by kernel_rfl))
  f166 := Tryz.func186.trans (congrArg some (by kernel_rfl))
  f169 := Tryz.func187.trans (congrArg some (by kernel_rfl))
  f240 := Tryz.func203.trans (congrArg some (by kernel_rfl))
  f241 := Tryz.func204.trans (congrArg some (by kernel_rfl))
  f276 := Tryz.func221.trans (congrArg some (by kernel_rfl))
  f277 := Tryz.func222.trans (congrArg some (by kernel_rfl))
  t0 := Tryz.underlying0
  a0 := Tryz.isAgg0
  z0 := Tryz.sizeOf0
  v0 := Tryz.zeroValue0
  t3 := Tryz.underlying3
  a3 := Tryz.isAgg3
  z3 := Tryz.sizeOf3
  v3 := Tryz.zeroValue3
  t4 := Tryz.underlying4
  a4 := Tryz.isAgg4
  z4 := Tryz.sizeOf4
  v4 := Tryz.zeroValue4
  t9 := Tryz.underlying9
  a9 := Tryz.isAgg9
  z9 := Tryz.sizeOf9
  v9 := Tryz.zeroValue9
  t20 := Tryz.underlying20
  a20 := Tryz.isAgg20
  z20 := Tryz.sizeOf20
  v20 := Tryz.zeroValue20
  t31 := Tryz.underlying155
  a31 := Tryz.isAgg155
  z31 := Tryz.sizeOf155
  v31 := Tryz.zeroValue155
  t37 := Tryz.underlying248
  a37 := Tryz.isAgg248
  z37 := Tryz.sizeOf248
  v37 := Tryz.zeroValue248
  t70 := Tryz.underlying247
  a70 := Tryz.isAgg247
  z70 := Tryz.sizeOf247
  v70 := Tryz.zeroValue247
  t72 := Tryz.underlying250
  a72 := Tryz.isAgg250
  z72 := Tryz.sizeOf250
  v72 := Tryz.zeroValue250
  t75 := Tryz.underlying253
  a75 := Tryz.isAgg253
  z75 := Tryz.sizeOf253
  v75 := Tryz.zeroValue253
  t76 := Tryz.underlying254
  a76 := Tryz.isAgg254
  z76 := Tryz.sizeOf254
  v76 := Tryz.zeroValue254
  t127 := Tryz.underlying266
  a127 := Tryz.isAgg266
  z127 := Tryz.sizeOf266
  v127 := Tryz.zeroValue266
  t164 := Tryz.underlying281
  a164 := Tryz.isAgg281
  z164 := Tryz.sizeOf281
  v164 := Tryz.zeroValue281 }
theorem Tryz.Builder_Extra_156 : Builder.Extra Tryz.prog Tryz.lays156_ren := {
  sizeBuilder := by kernel_rfl
  liesBuilder := by kernel_rfl
  t5 := Tryz.underlying5
  a5 := Tryz.isAgg5
  z5 := Tryz.sizeOf5
  v5 := Tryz.zeroValue5
  infoByte := by kernel_rfl
  cellsByte := by kernel_rfl
  sizeByte := by kernel_rfl
  neB5 := by decide }
def Tryz.laysM171_ren : Go.Shelf.Ren := ⟨fun | 171 => 151 | 243 => 184 | 246 => 202 | 283 => 217 | 284 => 218 | 285 => 219 | 286 => 220 | 129 => 238 | 317 => 237 | 318 => 239 | 319 => 240 | 320 => 241 | 337 => 251 | 338 => 252 | n => n, fun | 3 => 3 | 9 => 9 | 2 => 2 | 4 => 4 | 171 => 276 | 0 => 0 | 53 => 272 | 37 => 248 | 5 => 5 | 173 => 279 | 212 => 296 | 51 => 297 | 20 => 20 | 213 => 298 | 46 => 299 | 232 => 318 | 233 => 319 | n => n, fun | 17 => 2 | 18 => 8 | 19 => 9 | n => n⟩
theorem Tryz.laysM171 : Go.Proofs.LaysM.n171 Tryz.prog Tryz.laysM171_ren := {
  mixed := by kernel_rfl
  f129 := Tryz.func238.trans (congrArg some (by kernel_rfl))
  f171 := Tryz.func151.trans (congrArg some (by kernel_rfl))
  f243 := Tryz.func184.trans (congrArg some (by kernel_rfl))
  f246 := Tryz.func202.trans (congrArg some (by kernel_rfl))
  f283 := Tryz.func217.trans (congrArg some (by kernel_rfl))
  f284 := Tryz.func218.trans (congrArg some (by kernel_rfl))
  f285 := Tryz.func219.trans (congrArg some (by kernel_rfl))
  f286 := Tryz.func220.trans (congrArg some (by kernel_rfl))
  f317 := Tryz.func237.trans (congrArg some (by kernel_rfl))
  f318 := Tryz.func239.trans (congrArg some (by kernel_rfl))
  f319 := Tryz.func240.trans (congrArg some (by kernel_rfl))
  f320 := Tryz.func241.trans (congrArg some (by kernel_rfl))
  f337 := Tryz.func251.trans (congrArg some (by kernel_rfl))
  f338 := Tryz.func252.trans (congrArg some (by kernel_rfl))
  t0 := Tryz.underlying0
  a0 := Tryz.isAgg0
  z0 := Tryz.sizeOf0
  v0 := Tryz.zeroValue0
  t2 := Tryz.underlying2
  a2 := Tryz.isAgg2
  z2 := Tryz.sizeOf2
  v2 := Tryz.zeroValue2
  t3 := Tryz.underlying3
  a3 := Tryz.isAgg3
  z3 := Tryz.sizeOf3
  v3 := Tryz.zeroValue3
  t4 := Tryz.underlying4
  a4 := Tryz.isAgg4
  z4 := Tryz.sizeOf4
  v4 := Tryz.zeroValue4
  t5 := Tryz.underlying5
  a5 := Tryz.isAgg5
  z5 := Tryz.sizeOf5
  v5 := Tryz.zeroValue5
  t9 := Tryz.underlying9
  a9 := Tryz.isAgg9
  z9 := Tryz.sizeOf9
  v9 := Tryz.zeroValue9
  t20 := Tryz.underlying20
  a20 := Tryz.isAgg20
  z20 := Tryz.sizeOf20
  v20 := Tryz.zeroValue20
  t37 := Tryz.underlying248
  a37 := Tryz.isAgg248
  z37 := Tryz.sizeOf248
  v37 := Tryz.zeroValue248
  t46 := Tryz.underlying299
  a46 := Tryz.isAgg299
  z46 := Tryz.sizeOf299
  v46 := Tryz.zeroValue299
  t51 := Tryz.underlying297
  a51 := Tryz.isAgg297
  z51 := Tryz.sizeOf297
  v51 := Tryz.zeroValue297
  t53 := Tryz.underlying272
  a53 := Tryz.isAgg272
  z53 := Tryz.sizeOf272
  v53 := Tryz.zeroValue272
  t171 := Tryz.underlying276
  a171 := Tryz.isAgg276
  z171 := Tryz.sizeOf276
  v171 := Tryz.zeroValue276
  t173 := Tryz.underlying279
  a173 := Tryz.isAgg279
  z173 := Tryz.sizeOf279
  v173 := Tryz.zeroValue279
  t212 := Tryz.underlying296
  a212 := Tryz.isAgg296
  z212 := Tryz.sizeOf296
  v212 := Tryz.zeroValue296
  t213 := Tryz.underlying298
  a213 := Tryz.isAgg298
  z213 := Tryz.sizeOf298
  t232 := Tryz.underlying318
  a232 := Tryz.isAgg318
  z232 := Tryz.sizeOf318
  v232 := Tryz.zeroValue318
  t233 := Tryz.underlying319
  a233 := Tryz.isAgg319
  z233 := Tryz.sizeOf319
  v233 := Tryz.zeroValue319
  g17 := by kernel_rfl
  g18 := by kernel_rfl
  g19 := by kernel_rfl
  i0 := by kernel_rfl
  i2 := by kernel_rfl
  i3 := by kernel_rfl
  i4 := by kernel_rfl
  i5 := by kernel_rfl
  i9 := by kernel_rfl
  i20 := by kernel_rfl
  i37 := by kernel_rfl
  i46 := by kernel_rfl
  i51 := by kernel_rfl
  i53 := by kernel_rfl
  i171 := by kernel_rfl
  i173 := by kernel_rfl
  i212 := by kernel_rfl
  i232 := by kernel_rfl
  i233 := by kernel_rfl
  m17 := by kernel_rfl
  m18 := by kernel_rfl
  m19 := by kernel_rfl }
end Go.Proofs

namespace Go.Sx
theorem itoa1 (n : Int) (hn : fits .i64 n) : Fn P1 gl1 151 [iV n] (.val (sV (Lib.itoa n))) true :=
  itoa_fn Proofs.Tryz.laysM171 (g := 2) (by kernel_rfl) rfl n hn
theorem join1 (xs : List (List UInt8)) (sep : List UInt8) (h1 : xs.length ≤ 1000000) (h2 : (Lib.join xs sep).length ≤ 140737488355328) : Fn P1 gl1 152 [.one (.sl .str xs), sV sep] (.val (sV (Lib.join xs sep))) true :=
  join_fn Proofs.Tryz.lays156 Proofs.Tryz.Builder_Extra_156 xs sep h1 h2
end Go.Sx

namespace Go.Sx.U
def lineW (w : List UInt8) (l : List Nat) : List UInt8 := Lib.join (w :: (sixs l).map Lib.itoa) [32] ++ [10]
def prtN (y u v : List Nat) : List UInt8 := lineW [108, 117, 109, 97] y ++ lineW [117] u ++ lineW [118] v
def prN (y u v : List Nat) : List UInt8 := if chkPt y u v = 0 then prtN y u v else []
def fldM : List (Int × List UInt8 × Option Nat) := [(0, [108, 117, 109, 97], some 181), (1, [117], some 182), (2, [118], some 183)]
end Go.Sx.U
namespace Go.Sx
open U
abbrev fieldT : Ty := .pair .str .fnp
def h88 : Hints := ⟨fun f k s => match f, k with
  | 150, 3 => hMapG (.int .i64) .str Lib.itoa 8 10 5 [1, 9] s
  | _, _ => none, 4⟩
def sp151 : FSpec := ⟨fun vs => match vs with
  | [.one (.int .i64 n)] => some ([fits .i64 n], .val (.one (.str (Lib.itoa n))))
  | _ => none, true⟩
def sp152 : FSpec := ⟨fun vs => match vs with
  | [.one (.sl .str xs), .one (.str sep)] => some ([List.length xs ≤ 1000000, List.length (Lib.join xs sep) ≤ 140737488355328], .val (.one (.str (Lib.join xs sep))))
  | _ => none, true⟩
end Go.Sx
namespace Go.Sx
open U
def sp150 : FSpec := ⟨fun vs => match vs with
  | [.one (.sl (.int .i64) l), .one (.fn 151 [] [])] => some ([List.length l ≤ 1000000, Bd 1000000 l], .val (.one (.frs .str (List.map Lib.itoa l))))
  | _ => none, true⟩
def sp149 : FSpec := ⟨fun vs => match vs with
  | [] => some ([], .val (.one (.mp false true (.int .i64) fieldT fldM)))
  | _ => none, false⟩
end Go.Sx

namespace Go.Sx
open U
theorem vc150 (l : List Int) : exF (env false [(151, sp151)] []) h88 0 150 Proofs.Tryz.f150 [.one (.sl (.int .i64) l), .one (.fn 151 [] [])] (.val (.one (.frs .str (l.map Lib.itoa)))) = (let q0 := (↑(List.length l) : Int); (∃ (g : Nat), Nat.le g (List.length l) ∧ (0 : Int) = (↑g : Int) ∧ q0 = q0 ∧ l = l ∧ List.map Lib.itoa (List.take g l) = [] ∧ True) ∧ ∀ (g : Nat), Nat.le g (List.length l) → splitB (decide ((↑g : Int) < q0)) (((0 : Int) ≤ (↑g : Int) ∧ (↑g : Int) < q0) ∧ fits IntKind.i64 (List.getD l g (0 : Int)) ∧ room (List.length (List.map Lib.itoa (List.take g l)) + (1 : Nat)) (16 : Nat) ∧ fits IntKind.i64 ((↑g : Int) + (1 : Int)) ∧ ∃ (g' : Nat), Nat.le g' (List.length l) ∧ List.length l - g' < List.length l - g ∧ (↑g : Int) + (1 : Int) = (↑g' : Int) ∧ q0 = q0 ∧ l = l ∧ List.map Lib.itoa (List.take g l) ++ [Lib.itoa (List.getD l g (0 : Int))] = List.map Lib.itoa (List.take g' l) ∧ True) (List.map Lib.itoa (List.take g l) = List.map Lib.itoa l ∧ True)) := by
  kernel_rfl
theorem vc149 (_u : Unit) : exF (env false [] []) h0 0 149 Proofs.Tryz.f149 [] (.val (.one (.mp false true (.int .i64) fieldT fldM))) = (mapPut (Ty.int IntKind.i64) (Ty.pair Ty.str Ty.fnp) (mapPut (Ty.int IntKind.i64) (Ty.pair Ty.str Ty.fnp) (mapPut (Ty.int IntKind.i64) (Ty.pair Ty.str Ty.fnp) [] (0 : Int) (Array.toList (ByteArray.data { data := #[(108 : UInt8), (117 : UInt8), (109 : UInt8), (97 : UInt8)] }), some (181 : Nat))) (1 : Int) (Array.toList (ByteArray.data { data := #[(117 : UInt8)] }), some (182 : Nat))) (2 : Int) (Array.toList (ByteArray.data { data := #[(118 : UInt8)] }), some (183 : Nat)) = fldM ∧ True) := by
  kernel_rfl
theorem vc88 (y u v : List Nat) : exF (env false [(26, sp26), (108, sp108), (150, sp150), (152, sp152), (149, sp149)] []) h88 0 88 Proofs.Tryz.f88 [ptV y u v] (.tup [sV (prN y u v), iV (chkPt y u v)]) = (let q2 := (Array.toList (ByteArray.data { data := #[(32 : UInt8)] })); let q4 := ([(Option.getD (mapGet (Ty.int IntKind.i64) (Ty.pair Ty.str Ty.fnp) fldM (0 : Int)) ([], none)).1] ++ List.map Lib.itoa (sixs y)); let q5 := (ByteArray.data { data := #[(10 : UInt8)] }); let q0 := (Lib.join q4 q2 ++ Array.toList q5); let q1 := ([(Option.getD (mapGet (Ty.int IntKind.i64) (Ty.pair Ty.str Ty.fnp) fldM (1 : Int)) ([], none)).1] ++ List.map Lib.itoa (sixs u)); let q3 := ([(Option.getD (mapGet (Ty.int IntKind.i64) (Ty.pair Ty.str Ty.fnp) fldM (2 : Int)) ([], none)).1] ++ List.map Lib.itoa (sixs v)); let q6 := (9223372036854775807 : Nat); let q7 := (ByteArray.data { data := #[] }); let q8 := (1000000 : Nat); let q9 := (Lib.join q1 q2 ++ Array.toList q5); List.length y ≤ (1000000000 : Nat) ∧ splitB (chkPt y u v != (0 : Int)) (Array.toList q7 = prN y u v ∧ chkPt y u v = chkPt y u v ∧ True) (List.length y ≤ q8 ∧ OkS y ∧ List.length (sixs y) ≤ q8 ∧ Bd (1000000 : Int) (sixs y) ∧ room ((1 : Nat) + List.length (List.map Lib.itoa (sixs y))) (16 : Nat) ∧ List.length q4 ≤ q8 ∧ List.length (Lib.join q4 q2) ≤ (140737488355328 : Nat) ∧ List.length (Lib.join q4 q2) + List.length (Array.toList q5) ≤ q6 ∧ List.length (Array.toList q7) + List.length q0 ≤ q6 ∧ fits IntKind.i64 (1 : Int) ∧ List.length u ≤ q8 ∧ OkS u ∧ List.length (sixs u) ≤ q8 ∧ Bd (1000000 : Int) (sixs u) ∧ room ((1 : Nat) + List.length (List.map Lib.itoa (sixs u))) (16 : Nat) ∧ List.length q1 ≤ q8 ∧ List.length (Lib.join q1 q2) ≤ (140737488355328 : Nat) ∧ List.length (Lib.join q1 q2) + List.length (Array.toList q5) ≤ q6 ∧ List.length (Array.toList q7 ++ q0) + List.length q9 ≤ q6 ∧ fits IntKind.i64 (2 : Int) ∧ List.length v ≤ q8 ∧ OkS v ∧ List.length (sixs v) ≤ q8 ∧ Bd (1000000 : Int) (sixs v) ∧ room ((1 : Nat) + List.length (List.map Lib.itoa (sixs v))) (16 : Nat) ∧ List.length q3 ≤ q8 ∧ List.length (Lib.join q3 q2) ≤ (140737488355328 : Nat) ∧ List.length (Lib.join q3 q2) + List.length (Array.toList q5) ≤ q6 ∧ List.length (Array.toList q7 ++ q0 ++ q9) + List.length (Lib.join q3 q2 ++ Array.toList q5) ≤ q6 ∧ fits IntKind.i64 (3 : Int) ∧ Array.toList q7 ++ q0 ++ q9 ++ (Lib.join q3 q2 ++ Array.toList q5) = prN y u v ∧ (0 : Int) = chkPt y u v ∧ True)) := by
  kernel_rfl
end Go.Sx

namespace Go.Sx
open U
theorem so151 : Sp1 151 sp151 := by
  refine ⟨fun vs ps r h hp => ?_, Proofs.Tryz.f151, _, by kernel_rfl, rfl, by kernel_rfl⟩
  simp only [sp151] at h
  split at h
  · cases h; exact itoa1 _ (hp _ (by simp))
  · cases h
theorem so152 : Sp1 152 sp152 := by
  refine ⟨fun vs ps r h hp => ?_, Proofs.Tryz.f152, _, by kernel_rfl, rfl, by kernel_rfl⟩
  simp only [sp152] at h
  split at h
  · cases h; exact join1 _ _ (hp _ (by simp)) (hp _ (by simp))
  · cases h
theorem get0 : (Option.getD (U.mapGet (.int .i64) (.pair .str .fnp) fldM 0) ([], none)).1 = [108, 117, 109, 97] := rfl
theorem get1 : (Option.getD (U.mapGet (.int .i64) (.pair .str .fnp) fldM 1) ([], none)).1 = [117] := rfl
theorem get2 : (Option.getD (U.mapGet (.int .i64) (.pair .str .fnp) fldM 2) ([], none)).1 = [118] := rfl
theorem nd_le : ∀ (k u : Nat), u < 10 ^ (k + 1) → Lib.nDigits u ≤ k + 1
  | 0, u, h => by rw [Lib.nDigits_small (by simpa using h)]; omega
  | k + 1, u, h => by
    by_cases h1 : u < 10
    · rw [Lib.nDigits_small h1]; omega
    · rw [Lib.nDigits_big h1]
      have := nd_le k (u / 10) (by rw [Nat.pow_succ] at h; omega)
      omega
theorem itoa_len {n : Int} (h : -1000000 ≤ n ∧ n ≤ 1000000) : (Lib.itoa n).length ≤ 8 := by
  have h1 : ∀ u : Nat, u < 10 ^ 7 → (Lib.decDigits u).length ≤ 7 := fun u hu => by rw [Lib.decDigits_length]; exact nd_le 6 u hu
  unfold Lib.itoa
  split
  · have := h1 n.natAbs (by omega)
    simp only [List.length_cons]; omega
  · have := h1 n.toNat (by omega)
    omega
theorem lens_le : ∀ {l : List Int}, Bd 1000000 l → Lib.lens (l.map Lib.itoa) ≤ 8 * l.length
  | [], _ => by simp [Lib.lens]
  | n :: r, h => by
    have h1 := itoa_len (h n List.mem_cons_self)
    have h2 := lens_le (l := r) fun m hm => h m (List.mem_cons_of_mem _ hm)
    simp only [Lib.lens, List.map_cons, List.sum_cons, List.length_cons] at h2 ⊢
    omega
theorem line_len (w : List UInt8) {l : List Int} (h : Bd 1000000 l) : (Lib.join ([w] ++ l.map Lib.itoa) [32]).length ≤ w.length + 9 * l.length := by
  have h1 := lens_le h
  have e : [w] ++ l.map Lib.itoa = w :: l.map Lib.itoa := rfl
  rw [e, Lib.join_length]
  simp only [Lib.lens, List.map_cons, List.sum_cons, List.length_cons, List.length_nil, List.length_map] at h1 ⊢
  omega
theorem fn150 (l : List Int) (hl : l.length ≤ 1000000) (hb : Bd 1000000 l) : Fn P1 gl1 150 [.one (.sl (.int .i64) l), .one (.fn 151 [] [])] (.val (.one (.frs .str (l.map Lib.itoa)))) true := by
  refine Fn.flat ?_ rfl
  refine fn_of false [(151, sp151)] [] h88 0 Proofs.Tryz.f150 ⟨so151, trivial⟩ trivial (by kernel_rfl) rfl (by kernel_rfl) rfl rfl rfl ?_
  rw [vc150]
  try simp only [splitB_iff, -eq_self]
  refine ⟨⟨0, Nat.zero_le _, rfl, rfl, rfl, by simp⟩, fun g hg => ⟨fun hlt => ?_, fun hge => ?_⟩⟩
  · have hlt' : g < l.length := by simpa using hlt
    have hk := bd_get hb (i := g) (by omega)
    refine ⟨by omega, by simp only [fits]; omega, by simp only [room, List.length_map, List.length_take]; omega, by simp only [fits]; omega, g + 1, hlt', by omega, by simp, rfl, rfl, ?_, trivial⟩
    rw [getD_of hlt', List.take_succ_eq_append_getElem hlt', List.map_append]
    rfl
  · have hge' : ¬ g < l.length := by simpa using hge
    rw [List.take_of_length_le (by omega)]
    exact ⟨rfl, trivial⟩
theorem so150_ : SpecOk P1 gl1 150 sp150 := by
  intro vs ps r h hp
  simp only [sp150] at h
  split at h
  · cases h; exact fn150 _ (hp _ (.head _)) (hp _ (.tail _ (.head _)))
  · cases h
theorem so150 : Sp1 150 sp150 := ⟨so150_, Proofs.Tryz.f150, _, by kernel_rfl, rfl, by kernel_rfl⟩
theorem fn149   : Fn P1 gl1 149 [] (.val (.one (.mp false true (.int .i64) fieldT fldM))) false := by
  refine fn_of false [] [] h0 0 Proofs.Tryz.f149 trivial trivial (by kernel_rfl) rfl (by kernel_rfl) rfl rfl rfl ?_
  rw [vc149 ()]
  try simp only [-eq_self]
  exact ⟨rfl, trivial⟩
theorem so149_ : SpecOk P1 gl1 149 sp149 := by
  intro vs ps r h _
  simp only [sp149] at h
  split at h
  · cases h; exact fn149  
  · cases h
theorem so149 : Sp1 149 sp149 := ⟨so149_, Proofs.Tryz.f149, _, by kernel_rfl, rfl, by kernel_rfl⟩
theorem fn88 (y u v : List Nat) (hl : y.length ≤ 1000000000) : Fn P1 gl1 88 [ptV y u v] (.tup [sV (prN y u v), iV (chkPt y u v)]) true := by
  refine Fn.flat ?_ rfl
  refine fn_of false [(26, sp26), (108, sp108), (150, sp150), (152, sp152), (149, sp149)] [] h88 0 Proofs.Tryz.f88 ⟨so26, so108, so150, so152, so149, trivial⟩ trivial (by kernel_rfl) rfl (by kernel_rfl) rfl rfl rfl ?_
  rw [vc88]
  try simp only [splitB_iff, -eq_self]
  rw [get0, get1, get2]
  refine ⟨hl, fun h => ?_, fun h => ?_⟩
  · have h := bneZ.1 h
    unfold prN
    rw [if_neg h]
    exact ⟨rfl, rfl, trivial⟩
  · have h := bneF.1 h
    obtain ⟨h1, h2, h3, h4, h5⟩ := chkPt_zero.1 h
    obtain ⟨k1, k2, k3⟩ := chkSig_zero.1 h1
    have j1 := line_len [108, 117, 109, 97] (bd_le (bd_sixs k3) (by omega))
    have j2 := line_len [117] (bd_le (bd_sixs h4) (by omega))
    have j3 := line_len [118] (bd_le (bd_sixs h5) (by omega))
    unfold prN
    rw [if_pos h]
    simp only [sixs_len, List.length_append, List.length_map, List.length_cons, List.length_nil, room, fits, -eq_self] at j1 j2 j3 ⊢
    exact ⟨by omega, k3, by omega, bd_le (bd_sixs k3) (by omega), by omega, by omega, by omega, by omega, by omega, by omega, by omega, h4, by omega, bd_le (bd_sixs h4) (by omega), by omega, by omega, by omega, by omega, by omega, by omega, by omega, h5, by omega, bd_le (bd_sixs h5) (by omega), by omega, by omega, by omega, by omega, by omega, by omega, rfl, h.symm, trivial⟩
end Go.Sx

namespace Go.Sx
open U
def sp20h : FSpec := ⟨fun vs => match vs with
  | [.agg [.one (.sl (.flt .f32) a), .one (.sl (.flt .f32) b), .one (.sl (.flt .f32) d)], .one (.int .i64 n)] => if (show Int from n) = 0 then some ([n = 0, a = [1092616192, 1101004800, 1092616192, 1101004800], b = [1077936128], d = [3221225472]], .tup [.one (.frs (.flt .f32) [1095761920, 1099956224, 1088421888, 1102053376]), iV 0]) else some ([n = 1, a = [1092616192, 1101004800, 1092616192, 1101004800], b = [1077936128], d = [3221225472]], .tup [.one (.frs (.flt .f32) [1088421888, 1102053376, 1095761920, 1099956224]), iV 0])
  | _ => none, true⟩
def sp33h : FSpec := ⟨fun vs => match vs with
  | [.one (.sl (.flt .f32) a)] => some ([a = [1095761920, 1099956224, 1088421888, 1102053376]], .tup [.one (.frs panT [[(1114636288, 0), (1086324736, 1082130432), (3248488448, 0), (1086324736, 3229614080)]]), iV 0])
  | _ => none, true⟩
def sp43h : FSpec := ⟨fun vs => match vs with
  | [.one (.sl (.flt .f32) a), .one (.int .i64 n)] => if (show List Nat from a) = [1095761920, 1099956224, 1088421888, 1102053376] then some ([a = [1095761920, 1099956224, 1088421888, 1102053376], n = 0], .tup [ptV [1092616192, 1101004800, 1092616192, 1101004800] [1077936128] [3221225472], iV 0]) else some ([a = [1095761920, 1099956224, 1093664768, 1102053376], n = 0], .tup [ptV [1094713344, 1101004800, 1094713344, 1101004800] [1065353216] [3221225472], iV 0])
  | _ => none, true⟩
def sp57h : FSpec := ⟨fun vs => match vs with
  | [.agg [.one (.sl (.flt .f32) a), .one (.sl (.flt .f32) b), .one (.sl (.flt .f32) d)]] => some ([a = [1092616192, 1101004800, 1096810496, 1101004800], b = [1077936128], d = [3221225472]], .tup [fV 1073741824, iV 0])
  | _ => none, true⟩
def sp58h : FSpec := ⟨fun vs => match vs with
  | [.agg [.one (.sl (.flt .f32) a), .one (.sl (.flt .f32) b), .one (.sl (.flt .f32) d)], .agg [.one (.sl (.flt .f32) e), .one (.sl (.flt .f32) f), .one (.sl (.flt .f32) g)]] => some ([a = [1092616192, 1101004800, 1096810496, 1101004800], b = [1077936128], d = [3221225472], e = [1094713344, 1101004800, 1094713344, 1101004800], f = [1065353216], g = [3221225472]], .tup [.agg [.arr 2 (.flt .f32) [1073741824, 1073741824]], iV 0])
  | _ => none, true⟩
def sp47h : FSpec := ⟨fun vs => match vs with
  | [.one (.sl (.sl (.flt .f32)) a), .one (.int .i64 n)] => some ([a = [[1095761920, 1099956224, 1093664768, 1102053376], [1088421888, 1102053376, 1099431936, 1099956224]], n = 0], .tup [ptV [1092616192, 1101004800, 1096810496, 1101004800] [1077936128] [3221225472], iV 0])
  | _ => none, true⟩
def sp48h : FSpec := ⟨fun vs => match vs with
  | [.one (.sl (.sl (.flt .f32)) a), .one (.int .i64 n)] => some ([a = [[1095761920, 1099956224, 1093664768, 1102053376], [1088421888, 1102577664, 1100480512, 1100480512], [1099431936, 1101004800, 1093664768, 1103101952]], n = 1], .tup [ptV [1093664768, 1101529088, 1097859072, 1101529088] [1082130432] [3221225472], iV 0])
  | _ => none, true⟩
def sp62h : FSpec := ⟨fun vs => match vs with
  | [.agg [.arr 4 (.flt .f32) a]] => some ([a = [0, 1084227584, 0, 3231711232]], .tup [gsV (0, 160), iV 0])
  | _ => none, true⟩
def sp63h : FSpec := ⟨fun vs => match vs with
  | [.agg [.arr 4 (.flt .f32) a], .one (.int .i64 n)] => some ([a = [0, 1084227584, 0, 3231711232], n = 160], .tup [iV 1, iV 0])
  | _ => none, true⟩
def sp67h : FSpec := ⟨fun vs => match vs with
  | [.one (.sl (.flt .f32) a), .one (.int .i64 n)] => some ([a = [1065353216, 1073741824, 1077936128, 1082130432, 1084227584, 1086324736, 1088421888, 1090519040], n = 1], .tup [.one (.frs (.flt .f32) [1073741824, 1077936128, 1082130432, 1084227584]), iV 0])
  | _ => none, true⟩
def sp68h : FSpec := ⟨fun vs => match vs with
  | [.one (.sl (.flt .f32) a), .agg [.one (.int .i64 m), .one (.int .i64 n)], .one (.flt .f32 b)] => some ([a = [1077936128, 1084227584, 1088421888, 1091567616], m = 0, n = 2, b = 1065353216], .tup [.one (.frs (.flt .f32) [0, 1073741824, 1082130432, 1086324736]), iV 0])
  | _ => none, true⟩
def sp72h : FSpec := ⟨fun vs => match vs with
  | [.one (.sl (.int .i64) a)] => some ([a = [1, 0, -1]], .tup [.agg [.arr 4 (.cpx .f64) [(0, 0), (4611686018427387904, 0), (0, 0), (4611686018427387904, 0)]], iV 0])
  | _ => none, true⟩
def sp74h : FSpec := ⟨fun vs => match vs with
  | [.one (.sl (.flt .f32) a), .one (.sl (.int .i64) t)] => some ([a = [1065353216, 1073741824, 1082130432, 1090519040], t = [1, 0, -1]], .tup [.one (.frs (.flt .f32) [1065353216, 1073741824, 1077936128, 1086324736]), iV 0])
  | _ => none, true⟩
def sp75h : FSpec := ⟨fun vs => match vs with
  | [.one (.sl (.flt .f32) a), .one (.sl (.int .i64) t)] => some ([a = [1065353216, 1073741824, 1082130432, 1090519040], t = [1, 0, -1]], .tup [.one (.frs (.flt .f32) [3225419776, 3233808384, 1082130432, 1090519040]), iV 0])
  | _ => none, true⟩
def sp88h : FSpec := ⟨fun vs => match vs with
  | [.agg [.one (.sl (.flt .f32) a), .one (.sl (.flt .f32) b), .one (.sl (.flt .f32) d)]] => some ([a = [1092616192, 1101004800, 1092616192, 1101004800], b = [1077936128], d = [3221225472]], .tup [sV [108, 117, 109, 97, 32, 49, 54, 48, 32, 51, 50, 48, 32, 49, 54, 48, 32, 51, 50, 48, 10, 117, 32, 52, 56, 10, 118, 32, 45, 51, 50, 10], iV 0])
  | _ => none, true⟩
def sp27h : FSpec := ⟨fun vs => match vs with
  | [.one (.sl (.flt .f32) a), .one (.sl (.flt .f32) b)] => if (show List Nat from a) = b then some ([chkSs a = 0, List.length a ≤ 1000000000], .val (bV true)) else none
  | _ => none, true⟩
def sp45h : FSpec := ⟨fun vs => match vs with
  | [.agg [.one (.sl (.flt .f32) y), .one (.sl (.flt .f32) u), .one (.sl (.flt .f32) v)], .agg [.one (.sl (.flt .f32) y'), .one (.sl (.flt .f32) u'), .one (.sl (.flt .f32) v')]] => if (show Pt from (y, u, v)) = (y', u', v') then some ([chkSs y = 0, List.length y ≤ 1000000000, chkSs u = 0, List.length u ≤ 1000000000, chkSs v = 0, List.length v ≤ 1000000000], .val (bV true)) else none
  | _ => none, true⟩
end Go.Sx
namespace Go.Sx
open U
def sp93 : FSpec := ⟨fun vs => match vs with
  | [] => some ([], .val (ptV [1092616192, 1101004800, 1092616192, 1101004800] [1077936128] [3221225472]))
  | _ => none, true⟩
def sp94 : FSpec := ⟨fun vs => match vs with
  | [] => some ([], .val (ptV [1092616192, 1101004800, 1096810496, 1101004800] [1077936128] [3221225472]))
  | _ => none, true⟩
def sp19 : FSpec := ⟨fun vs => match vs with
  | [] => some ([], .val (bV true))
  | _ => none, true⟩
end Go.Sx
