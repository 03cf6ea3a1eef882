/- A verified symbolic run of functions, part 14: lemmas, no claim of their own. -/
import Derived.Test.YtlgimjcnnndbhaaGreatDoorS13
namespace Go.Sx
open U
theorem fn40 (l : List Pt) (hl : l.length ≤ 1000000) : Fn P1 gl1 40 [plV l, .one (.fn 41 [] [])] (.val (.one (.frs (.int .i64) (l.map fun x => ((List.length x.1 : Nat) : Int))))) true := by
  refine Fn.flat ?_ rfl
  refine fn_of false [(41, sp41)] [] h12 0 Proofs.Tryz.f40 ⟨so41, trivial⟩ trivial (by kernel_rfl) rfl (by kernel_rfl) rfl rfl rfl ?_
  rw [vc40]
  try simp only [splitB_iff, -eq_self]
  refine ⟨⟨0, Nat.zero_le _, rfl, rfl, rfl, by simp⟩, fun g hg => ⟨fun hlt => ?_, fun hge => ?_⟩⟩
  · have hlt' : g < l.length := by simpa using hlt
    refine ⟨by omega, by simp only [room, List.length_map, List.length_take]; omega, by simp only [fits]; omega, g + 1, hlt', by omega, by simp, rfl, rfl, ?_, trivial⟩
    rw [getD_of hlt', List.take_succ_eq_append_getElem hlt', List.map_append]
    rfl
  · have hge' : ¬ g < l.length := by simpa using hge
    rw [List.take_of_length_le (by omega)]
    exact ⟨rfl, trivial⟩
theorem so40_ : SpecOk P1 gl1 40 sp40 := by
  intro vs ps r h hp
  simp only [sp40] at h
  split at h
  · cases h; exact fn40 _ (hp _ (.head _))
  · cases h
theorem so40 : Sp1 40 sp40 := ⟨so40_, Proofs.Tryz.f40, _, by kernel_rfl, rfl, by kernel_rfl⟩
theorem fn12 (l : List Pt) (hy : ∀ x ∈ l, x.1.length ≤ 1000000000) : Fn P1 gl1 12 [plV l] (.tup [fldV (encFN l), iV (encFE l)]) false := by
  refine fn_of false [(40, sp40), (33, sp33), (42, sp42), (32, sp32), (35, sp35)] [] h12 0 Proofs.Tryz.f12 ⟨so40, so33, so42, so32, so35, trivial⟩ trivial (by kernel_rfl) rfl (by kernel_rfl) rfl rfl rfl ?_
  rw [vc12]
  try simp only [splitB_iff, -eq_self]
  have hm : ∀ g, g < l.length → List.getD (l.map fun x : Pt => ((List.length x.1 : Nat) : Int)) g 0 = ((pAt l g).1.length : Int) := fun g hg => by
    rw [List.getD_eq_getElem?_getD, List.getElem?_map, List.getElem?_eq_getElem hg]
    show _ = (((List.getD l g ([], [], [])).1.length : Nat) : Int)
    rw [getD_of hg]
    rfl
  have hN : encFE l ≠ 0 → encFN l = [] := fun e => by unfold encFN; rw [if_neg e]
  refine ⟨fun h => ?_, fun h => ?_⟩
  · have h : (32 : Int) < (l.length : Int) := of_decide_eq_true h
    have e : encFE l = 5 := by
      have : chkLs l = 5 := by unfold chkLs; rw [if_pos (by omega)]
      unfold encFE
      rw [this]; rfl
    rw [hN (by rw [e]; decide), e]
    exact ⟨rfl, rfl, trivial⟩
  · have h : ¬ (32 : Int) < (l.length : Int) := of_decide_eq_false h
    refine ⟨by omega, ⟨0, ⟨by omega, rfl⟩, rfl, rfl, rfl, rfl, rfl, trivial⟩, fun g hg => ⟨fun hlt => ?_, fun hge => ?_⟩⟩
    · have hlt : g < l.length := by simpa using hlt
      rw [hm g hlt, hm 0 (by omega), List.length_map]
      have e : first [chkPt (List.getD l g ([], [], [])).1 (List.getD l g ([], [], [])).2.1 (List.getD l g ([], [], [])).2.2, whenE (((pAt l g).1.length : Int) != ((pAt l 0).1.length : Int)) 2] = chkLi l g := li_first l g
      rw [e]
      refine ⟨by omega, hy _ (getD_mem' hlt), by omega, by omega, by omega, by omega, by decide, fun k => ?_, fun k => ⟨by simp only [fits]; omega, g + 1, ⟨by omega, upTo_next hg.2 (bneF.1 k)⟩, by omega, by simp, rfl, rfl, rfl, rfl, trivial⟩⟩
      have k := bneZ.1 k
      have e2 : chkLs l = chkLi l g := by unfold chkLs; rw [if_neg (by omega), upTo_stop hg.2 k hlt]
      have e3 : encFE l = chkLi l g := by unfold encFE; rw [e2, if_neg k]
      rw [hN (by rw [e3]; exact k), e3]
      exact ⟨rfl, rfl, trivial⟩
    · have hge : ¬ g < l.length := by simpa using hge
      have e : g = l.length := by omega
      subst e
      have hc : chkLs l = 0 := by unfold chkLs; rw [if_neg (by omega)]; exact hg.2
      have hE : encFE l = upTo (fun i => lgE (encP l i)) l.length := by unfold encFE; rw [if_pos hc]
      refine ⟨⟨0, ⟨by omega, rfl⟩, rfl, rfl, rfl, rfl, rfl, rfl, trivial⟩, fun g hg2 => ⟨fun hlt => ?_, fun hge => ?_⟩⟩
      · have hlt : g < l.length := by simpa using hlt
        have hp : chkP (pAt l g) = 0 := ((chkLs_zero.1 hc).2 g hlt).1
        refine ⟨by omega, hp, by omega, fun k => ?_, fun k => ?_⟩
        · have k : lgE (encP l g) ≠ 0 := bneZ.1 k
          have e3 : encFE l = lgE (encP l g) := by rw [hE, upTo_stop (f := fun i => lgE (encP l i)) hg2.2 k hlt]
          rw [hN (by rw [e3]; exact k), e3]
          exact ⟨rfl, rfl, trivial⟩
        · have k : lgE (encP l g) = 0 := bneF.1 k
          exact ⟨by simp only [room, tab_len]; omega, by simp only [fits]; omega, g + 1, ⟨by omega, upTo_next (f := fun i => lgE (encP l i)) hg2.2 k⟩, by omega, by simp, rfl, rfl, rfl, (tab_succ g fun i => smpsN (encP l i)).symm, rfl, trivial⟩
      · have hge : ¬ g < l.length := by simpa using hge
        have e : g = l.length := by omega
        subst e
        have hE0 : encFE l = 0 := by rw [hE]; exact hg2.2
        rw [hE0]
        unfold encFN
        rw [if_pos hE0]
        exact ⟨rfl, rfl, trivial⟩
theorem so12_ : SpecOk P1 gl1 12 sp12 := by
  intro vs ps r h hp
  simp only [sp12] at h
  split at h
  · cases h; exact fn12 _ (hp _ (.head _))
  · cases h
theorem so12 : Sp1 12 sp12 := ⟨so12_, Proofs.Tryz.f12, _, by kernel_rfl, rfl, by kernel_rfl⟩
end Go.Sx

namespace Go.Sx.U
def dotL (u v : List Int) : Int := List.getD u 0 0 * List.getD v 0 0 + List.getD u 1 0 * List.getD v 1 0 + List.getD u 2 0 * List.getD v 2 0
def entC (n : Int) : Int := within n (-4096) 4096
def levC (n : Int) : Int := within n (-16384) 16384
def chkL (u : List Int) : Int := first (u.map levC)
def cvL (R : List (List Int)) (u : List Int) : List Int := [dotL (List.getD R 0 [0, 0, 0]) u, dotL (List.getD R 1 [0, 0, 0]) u, dotL (List.getD R 2 [0, 0, 0]) u]
def mtOk (R : List (List Int)) : Prop := R.length = 3 ∧ ∀ r ∈ R, r.length = 3 ∧ Bd 4096 r
end Go.Sx.U
namespace Go.Sx
open U
@[reducible] def mtV (R : List (List Int)) : V := .agg [.arr 3 (.arr 3 (.int .i64)) R, .one (.int .i64 1)]
@[reducible] def c3V (u : List Int) : V := .agg [.arr 3 (.int .i64) u]
def h21 : Hints := ⟨fun f k s => match f, k with
  | 21, 2 => hFirst 5 6 7 s
  | _, _ => none, 0⟩
def hEnt (g : Int → Int) : Hints := ⟨fun f k s => match f, k with
  | 58, 3 => hMapG (.int .i64) (.int .i64) g 8 10 5 [1, 9] s
  | _, _ => none, 0⟩
def sp58 : FSpec := ⟨fun vs => match vs with
  | [.one (.sl (.int .i64) l), .one (.fn g [] [])] => if g = 59 then some ([List.length l ≤ 1000000], .val (.one (.frs (.int .i64) (List.map entC (show List Int from l))))) else if g = 61 then some ([List.length l ≤ 1000000], .val (.one (.frs (.int .i64) (List.map levC (show List Int from l))))) else none
  | _ => none, true⟩
@[reducible] noncomputable def fb59 : Nat × Func := (59, Proofs.Tryz.f59)
@[reducible] noncomputable def fb61 : Nat × Func := (61, Proofs.Tryz.f61)
@[reducible] noncomputable def fb84 : Nat × Func := (84, Proofs.Tryz.f84)
@[reducible] noncomputable def fb24 : Nat × Func := (24, Proofs.Tryz.f24)
end Go.Sx
namespace Go.Sx
open U
def sp81 : FSpec := ⟨fun vs => match vs with
  | [.one (.bool b), .one (.int .i64 e)] => some ([], .val (iV (whenE b e)))
  | _ => none, true⟩
def sp60 : FSpec := ⟨fun vs => match vs with
  | [.one (.int .i64 n), .one (.int .i64 lo), .one (.int .i64 hi)] => some ([], .val (iV (within n lo hi)))
  | _ => none, true⟩
def sp21 : FSpec := ⟨fun vs => match vs with
  | [.one (.sl (.int .i64) xs)] => some ([List.length xs ≤ 1000000000], .val (iV (first xs)))
  | _ => none, true⟩
def sp62 : FSpec := ⟨fun vs => match vs with
  | [.one (.int .i64 a), .one (.int .i64 d)] => some ([-1000000000 ≤ a ∧ a ≤ 1000000000, 0 < d ∧ d ≤ 1000000000], .val (iV (roundI a d)))
  | _ => none, true⟩
def sp23 : FSpec := ⟨fun vs => match vs with
  | [.agg [.arr 3 (.int .i64) u], .agg [.arr 3 (.int .i64) v]] => some ([List.length u = 3, List.length v = 3, Bd 1000000 u, Bd 1000000 v], .val (iV (dotL u v)))
  | _ => none, true⟩
def sp22 : FSpec := ⟨fun vs => match vs with
  | [.agg [.arr 3 (.arr 3 (.int .i64)) R, .one (.int .i64 1)]] => some ([mtOk R], .val (iV 0))
  | _ => none, true⟩
def sp28 : FSpec := ⟨fun vs => match vs with
  | [.agg [.arr 3 (.int .i64) u]] => some ([List.length u = 3], .val (iV (chkL u)))
  | _ => none, true⟩
def sp29 : FSpec := ⟨fun vs => match vs with
  | [.agg [.arr 3 (.arr 3 (.int .i64)) R, .one (.int .i64 1)], .agg [.arr 3 (.int .i64) u]] => some ([mtOk R, List.length u = 3, Bd 16384 u], .val (c3V (cvL R u)))
  | _ => none, true⟩
def sp7 : FSpec := ⟨fun vs => match vs with
  | [.agg [.arr 3 (.arr 3 (.int .i64)) R, .one (.int .i64 1)], .agg [.arr 3 (.int .i64) u]] => some ([mtOk R, List.length u = 3, Bd 16384 u, Bd 16384 (cvL R u)], .tup [c3V (cvL R u), iV 0])
  | _ => none, true⟩
end Go.Sx

namespace Go.Sx
open U
theorem vc81 (b : Bool) (e : Int) : exF (env false [] []) h0 0 81 Proofs.Tryz.f81 [bV b, iV e] (.val (iV (whenE b e))) = (splitB b (e = whenE b e ∧ True) ((0 : Int) = whenE b e ∧ True)) := by
  kernel_rfl
theorem vc60 (n lo hi : Int) : exF (env false [(81, sp81)] []) h0 0 60 Proofs.Tryz.f60 [iV n, iV lo, iV hi] (.val (iV (within n lo hi))) = (whenE (bif decide (n < lo) then true else decide (hi < n)) (3 : Int) = within n lo hi ∧ True) := by
  kernel_rfl
theorem vc21 (xs : List Int) : exF (env false [] []) h21 0 21 Proofs.Tryz.f21 [.one (.sl (.int .i64) xs)] (.val (iV (first xs))) = (let q0 := (↑(List.length xs) : Int); (∃ (g : Nat), (g ≤ List.length xs ∧ first xs = first (List.drop g xs)) ∧ (0 : Int) = (↑g : Int) ∧ q0 = q0 ∧ xs = xs ∧ True) ∧ ∀ (g : Nat), g ≤ List.length xs ∧ first xs = first (List.drop g xs) → splitB (decide ((↑g : Int) < q0)) (((0 : Int) ≤ (↑g : Int) ∧ (↑g : Int) < q0) ∧ splitB (List.getD xs g (0 : Int) != (0 : Int)) (List.getD xs g (0 : Int) = first xs ∧ True) (fits IntKind.i64 ((↑g : Int) + (1 : Int)) ∧ ∃ (g' : Nat), (g' ≤ List.length xs ∧ first xs = first (List.drop g' xs)) ∧ List.length xs - g' < List.length xs - g ∧ (↑g : Int) + (1 : Int) = (↑g' : Int) ∧ q0 = q0 ∧ xs = xs ∧ True)) ((0 : Int) = first xs ∧ True)) := by
  kernel_rfl
theorem vc58a (l : List Int) : exF (env false [(60, sp60)] [fb59]) (hEnt entC) 3 58 Proofs.Tryz.f58 [.one (.sl (.int .i64) l), .one (.fn 59 [] [])] (.val (.one (.frs (.int .i64) (l.map entC)))) = (let q0 := (↑(List.length l) : Int); (∃ (g : Nat), Nat.le g (List.length l) ∧ (0 : Int) = (↑g : Int) ∧ q0 = q0 ∧ l = l ∧ List.map entC (List.take g l) = [] ∧ True) ∧ ∀ (g : Nat), Nat.le g (List.length l) → splitB (decide ((↑g : Int) < q0)) (((0 : Int) ≤ (↑g : Int) ∧ (↑g : Int) < q0) ∧ room (List.length (List.map entC (List.take g l)) + (1 : Nat)) (8 : Nat) ∧ fits IntKind.i64 ((↑g : Int) + (1 : Int)) ∧ ∃ (g' : Nat), Nat.le g' (List.length l) ∧ List.length l - g' < List.length l - g ∧ (↑g : Int) + (1 : Int) = (↑g' : Int) ∧ q0 = q0 ∧ l = l ∧ List.map entC (List.take g l) ++ [within (List.getD l g (0 : Int)) (-4096 : Int) (4096 : Int)] = List.map entC (List.take g' l) ∧ True) (List.map entC (List.take g l) = List.map entC l ∧ True)) := by
  kernel_rfl
theorem vc58b (l : List Int) : exF (env false [(60, sp60)] [fb61]) (hEnt levC) 3 58 Proofs.Tryz.f58 [.one (.sl (.int .i64) l), .one (.fn 61 [] [])] (.val (.one (.frs (.int .i64) (l.map levC)))) = (let q0 := (↑(List.length l) : Int); (∃ (g : Nat), Nat.le g (List.length l) ∧ (0 : Int) = (↑g : Int) ∧ q0 = q0 ∧ l = l ∧ List.map levC (List.take g l) = [] ∧ True) ∧ ∀ (g : Nat), Nat.le g (List.length l) → splitB (decide ((↑g : Int) < q0)) (((0 : Int) ≤ (↑g : Int) ∧ (↑g : Int) < q0) ∧ room (List.length (List.map levC (List.take g l)) + (1 : Nat)) (8 : Nat) ∧ fits IntKind.i64 ((↑g : Int) + (1 : Int)) ∧ ∃ (g' : Nat), Nat.le g' (List.length l) ∧ List.length l - g' < List.length l - g ∧ (↑g : Int) + (1 : Int) = (↑g' : Int) ∧ q0 = q0 ∧ l = l ∧ List.map levC (List.take g l) ++ [within (List.getD l g (0 : Int)) (-16384 : Int) (16384 : Int)] = List.map levC (List.take g' l) ∧ True) (List.map levC (List.take g l) = List.map levC l ∧ True)) := by
  kernel_rfl
theorem vc62 (a d : Int) : exF (env true [] [fb84]) h0 3 62 Proofs.Tryz.f62 [iV a, iV d] (.val (iV (roundI a d))) = (let q2 := (IntKind.wrap IntKind.i64 ((2 : Int) * a) + d); let q0 := (IntKind.wrap IntKind.i64 q2); let q1 := (IntKind.wrap IntKind.i64 ((2 : Int) * d)); (IntKind.wrap IntKind.i64 ((2 : Int) * d) ≠ (0 : Int) ∧ fits IntKind.i64 (Int.tdiv q0 q1)) ∧ splitB (decide (IntKind.wrap IntKind.i64 q2 < IntKind.wrap IntKind.i64 (Int.tdiv q0 q1 * IntKind.wrap IntKind.i64 ((2 : Int) * d)))) (IntKind.wrap IntKind.i64 (Int.tdiv q0 q1 - (1 : Int)) = roundI a d ∧ True) (Int.tdiv q0 q1 = roundI a d ∧ True)) := by
  kernel_rfl
theorem vc23 (u v : List Int) : exF (env false [] []) h0 0 23 Proofs.Tryz.f23 [c3V u, c3V v] (.val (iV (dotL u v))) = (((0 : Int) ≤ (0 : Int) ∧ (0 : Int) < (3 : Int)) ∧ (0 : Nat) < List.length u ∧ ((0 : Int) ≤ (0 : Int) ∧ (0 : Int) < (3 : Int)) ∧ (0 : Nat) < List.length v ∧ fits IntKind.i64 (List.getD u (0 : Nat) (0 : Int) * List.getD v (0 : Nat) (0 : Int)) ∧ ((0 : Int) ≤ (1 : Int) ∧ (1 : Int) < (3 : Int)) ∧ (1 : Nat) < List.length u ∧ ((0 : Int) ≤ (1 : Int) ∧ (1 : Int) < (3 : Int)) ∧ (1 : Nat) < List.length v ∧ fits IntKind.i64 (List.getD u (1 : Nat) (0 : Int) * List.getD v (1 : Nat) (0 : Int)) ∧ fits IntKind.i64 (List.getD u (0 : Nat) (0 : Int) * List.getD v (0 : Nat) (0 : Int) + List.getD u (1 : Nat) (0 : Int) * List.getD v (1 : Nat) (0 : Int)) ∧ ((0 : Int) ≤ (2 : Int) ∧ (2 : Int) < (3 : Int)) ∧ (2 : Nat) < List.length u ∧ ((0 : Int) ≤ (2 : Int) ∧ (2 : Int) < (3 : Int)) ∧ (2 : Nat) < List.length v ∧ fits IntKind.i64 (List.getD u (2 : Nat) (0 : Int) * List.getD v (2 : Nat) (0 : Int)) ∧ fits IntKind.i64 (List.getD u (0 : Nat) (0 : Int) * List.getD v (0 : Nat) (0 : Int) + List.getD u (1 : Nat) (0 : Int) * List.getD v (1 : Nat) (0 : Int) + List.getD u (2 : Nat) (0 : Int) * List.getD v (2 : Nat) (0 : Int)) ∧ List.getD u (0 : Nat) (0 : Int) * List.getD v (0 : Nat) (0 : Int) + List.getD u (1 : Nat) (0 : Int) * List.getD v (1 : Nat) (0 : Int) + List.getD u (2 : Nat) (0 : Int) * List.getD v (2 : Nat) (0 : Int) = dotL u v ∧ True) := by
  kernel_rfl
theorem vc22 (R : List (List Int)) : exF (env false [(21, sp21), (58, sp58), (60, sp60)] []) (hu 6) 0 22 Proofs.Tryz.f22 [mtV R] (.val (iV 0)) = (let q0 := (List.replicate (3 : Nat) (0 : Int)); let q1 := (List.take (3 : Nat) (List.getD R (0 : Nat) q0)); let q2 := (List.take (3 : Nat) (List.getD R (1 : Nat) q0)); let q3 := (List.take (3 : Nat) (List.getD R (2 : Nat) q0)); let q4 := ((0 : Int) ≤ (0 : Int) ∧ (0 : Int) ≤ (3 : Int) ∧ (3 : Int) ≤ (3 : Int)); ((0 : Int) ≤ (0 : Int) ∧ (0 : Int) < (3 : Int)) ∧ q4 ∧ List.length q1 = (3 : Nat) ∧ List.length q1 ≤ (1000000 : Nat) ∧ List.length (List.map entC q1) ≤ (1000000000 : Nat) ∧ splitB (first (List.map entC q1) != (0 : Int)) (first (List.map entC q1) = (0 : Int) ∧ True) (fits IntKind.i64 (1 : Int) ∧ ((0 : Int) ≤ (1 : Int) ∧ (1 : Int) < (3 : Int)) ∧ q4 ∧ List.length q2 = (3 : Nat) ∧ List.length q2 ≤ (1000000 : Nat) ∧ List.length (List.map entC q2) ≤ (1000000000 : Nat) ∧ splitB (first (List.map entC q2) != (0 : Int)) (first (List.map entC q2) = (0 : Int) ∧ True) (fits IntKind.i64 (2 : Int) ∧ ((0 : Int) ≤ (2 : Int) ∧ (2 : Int) < (3 : Int)) ∧ q4 ∧ List.length q3 = (3 : Nat) ∧ List.length q3 ≤ (1000000 : Nat) ∧ List.length (List.map entC q3) ≤ (1000000000 : Nat) ∧ splitB (first (List.map entC q3) != (0 : Int)) (first (List.map entC q3) = (0 : Int) ∧ True) (fits IntKind.i64 (3 : Int) ∧ within (1 : Int) (1 : Int) (4096 : Int) = (0 : Int) ∧ True)))) := by
  kernel_rfl
theorem vc28 (u : List Int) : exF (env false [(21, sp21), (58, sp58)] []) h0 0 28 Proofs.Tryz.f28 [c3V u] (.val (iV (chkL u))) = (((0 : Int) ≤ (0 : Int) ∧ (0 : Int) ≤ (3 : Int) ∧ (3 : Int) ≤ (3 : Int)) ∧ List.length (List.take (3 : Nat) u) = (3 : Nat) ∧ List.length (List.take (3 : Nat) u) ≤ (1000000 : Nat) ∧ List.length (List.map levC (List.take (3 : Nat) u)) ≤ (1000000000 : Nat) ∧ first (List.map levC (List.take (3 : Nat) u)) = chkL u ∧ True) := by
  kernel_rfl
theorem vc29 (R : List (List Int)) (u : List Int) : exF (env false [(23, sp23), (62, sp62)] []) (Sx.hu 6) 0 29 Proofs.Tryz.f29 [mtV R, c3V u] (.val (c3V (cvL R u))) = (((0 : Int) ≤ (0 : Int) ∧ (0 : Int) < (3 : Int)) ∧ List.length (List.getD R (0 : Nat) (List.replicate (3 : Nat) (0 : Int))) = (3 : Nat) ∧ List.length u = (3 : Nat) ∧ Bd (1000000 : Int) (List.getD R (0 : Nat) (List.replicate (3 : Nat) (0 : Int))) ∧ Bd (1000000 : Int) u ∧ ((-1000000000 : Int) ≤ dotL (List.getD R (0 : Nat) (List.replicate (3 : Nat) (0 : Int))) u ∧ dotL (List.getD R (0 : Nat) (List.replicate (3 : Nat) (0 : Int))) u ≤ (1000000000 : Int)) ∧ ((0 : Int) < (1 : Int) ∧ (1 : Int) ≤ (1000000000 : Int)) ∧ ((0 : Int) ≤ (0 : Int) ∧ (0 : Int) < (3 : Int)) ∧ (0 : Nat) < (3 : Nat) ∧ fits IntKind.i64 (1 : Int) ∧ ((0 : Int) ≤ (1 : Int) ∧ (1 : Int) < (3 : Int)) ∧ List.length (List.getD R (1 : Nat) (List.replicate (3 : Nat) (0 : Int))) = (3 : Nat) ∧ List.length u = (3 : Nat) ∧ Bd (1000000 : Int) (List.getD R (1 : Nat) (List.replicate (3 : Nat) (0 : Int))) ∧ Bd (1000000 : Int) u ∧ ((-1000000000 : Int) ≤ dotL (List.getD R (1 : Nat) (List.replicate (3 : Nat) (0 : Int))) u ∧ dotL (List.getD R (1 : Nat) (List.replicate (3 : Nat) (0 : Int))) u ≤ (1000000000 : Int)) ∧ ((0 : Int) < (1 : Int) ∧ (1 : Int) ≤ (1000000000 : Int)) ∧ ((0 : Int) ≤ (1 : Int) ∧ (1 : Int) < (3 : Int)) ∧ (1 : Nat) < (3 : Nat) ∧ fits IntKind.i64 (2 : Int) ∧ ((0 : Int) ≤ (2 : Int) ∧ (2 : Int) < (3 : Int)) ∧ List.length (List.getD R (2 : Nat) (List.replicate (3 : Nat) (0 : Int))) = (3 : Nat) ∧ List.length u = (3 : Nat) ∧ Bd (1000000 : Int) (List.getD R (2 : Nat) (List.replicate (3 : Nat) (0 : Int))) ∧ Bd (1000000 : Int) u ∧ ((-1000000000 : Int) ≤ dotL (List.getD R (2 : Nat) (List.replicate (3 : Nat) (0 : Int))) u ∧ dotL (List.getD R (2 : Nat) (List.replicate (3 : Nat) (0 : Int))) u ≤ (1000000000 : Int)) ∧ ((0 : Int) < (1 : Int) ∧ (1 : Int) ≤ (1000000000 : Int)) ∧ ((0 : Int) ≤ (2 : Int) ∧ (2 : Int) < (3 : Int)) ∧ (2 : Nat) < (3 : Nat) ∧ fits IntKind.i64 (3 : Int) ∧ [roundI (dotL (List.getD R (0 : Nat) (List.replicate (3 : Nat) (0 : Int))) u) (1 : Int), roundI (dotL (List.getD R (1 : Nat) (List.replicate (3 : Nat) (0 : Int))) u) (1 : Int), roundI (dotL (List.getD R (2 : Nat) (List.replicate (3 : Nat) (0 : Int))) u) (1 : Int)] = cvL R u ∧ True) := by
  kernel_rfl
theorem vc7 (R : List (List Int)) (u : List Int) : exF (env false [(21, sp21), (22, sp22), (28, sp28), (29, sp29)] []) h0 0 7 Proofs.Tryz.f7 [mtV R, c3V u] (.tup [c3V (cvL R u), iV 0]) = (mtOk R ∧ List.length u = (3 : Nat) ∧ (2 : Nat) ≤ (1000000000 : Nat) ∧ splitB (first [(0 : Int), chkL u] != (0 : Int)) (List.replicate (3 : Nat) (0 : Int) = cvL R u ∧ first [(0 : Int), chkL u] = (0 : Int) ∧ True) (mtOk R ∧ List.length u = (3 : Nat) ∧ Bd (16384 : Int) u ∧ List.length (cvL R u) = (3 : Nat) ∧ splitB (chkL (cvL R u) != (0 : Int)) (List.replicate (3 : Nat) (0 : Int) = cvL R u ∧ (4 : Int) = (0 : Int) ∧ True) (cvL R u = cvL R u ∧ (0 : Int) = (0 : Int) ∧ True))) := by
  kernel_rfl
end Go.Sx

namespace Go.Sx
open U
theorem fn81 (b : Bool) (e : Int)  : Fn P1 gl1 81 [bV b, iV e] (.val (iV (whenE b e))) true := by
  refine Fn.flat ?_ rfl
  refine fn_of false [] [] h0 0 Proofs.Tryz.f81 trivial trivial (by kernel_rfl) rfl (by kernel_rfl) rfl rfl rfl ?_
  rw [vc81]
  try simp only [splitB_iff, -eq_self]
  cases b <;> simp [whenE]
theorem so81_ : SpecOk P1 gl1 81 sp81 := by
  intro vs ps r h _
  simp only [sp81] at h
  split at h
  · cases h; exact fn81 _ _ 
  · cases h
theorem so81 : Sp1 81 sp81 := ⟨so81_, Proofs.Tryz.f81, _, by kernel_rfl, rfl, by kernel_rfl⟩
theorem fn60 (n lo hi : Int)  : Fn P1 gl1 60 [iV n, iV lo, iV hi] (.val (iV (within n lo hi))) true := by
  refine Fn.flat ?_ rfl
  refine fn_of false [(81, sp81)] [] h0 0 Proofs.Tryz.f60 ⟨so81, trivial⟩ trivial (by kernel_rfl) rfl (by kernel_rfl) rfl rfl rfl ?_
  rw [vc60]
  try simp only [splitB_iff, -eq_self]
  unfold within
  by_cases h1 : n < lo <;> by_cases h2 : hi < n <;> simp [h1, h2, whenE]
theorem so60_ : SpecOk P1 gl1 60 sp60 := by
  intro vs ps r h _
  simp only [sp60] at h
  split at h
  · cases h; exact fn60 _ _ _ 
  · cases h
theorem so60 : Sp1 60 sp60 := ⟨so60_, Proofs.Tryz.f60, _, by kernel_rfl, rfl, by kernel_rfl⟩
theorem fn21 (xs : List Int) (hl : xs.length ≤ 1000000000) : Fn P1 gl1 21 [.one (.sl (.int .i64) xs)] (.val (iV (first xs))) true := by
  refine Fn.flat ?_ rfl
  refine fn_of false [] [] h21 0 Proofs.Tryz.f21 trivial trivial (by kernel_rfl) rfl (by kernel_rfl) rfl rfl rfl ?_
  rw [vc21]
  try simp only [splitB_iff, -eq_self]
  refine ⟨⟨0, by simp, by simp⟩, fun g hg => ⟨fun hlt => ?_, fun hge => ?_⟩⟩
  · have hlt' : g < xs.length := by simpa using hlt
    rw [getD_of hlt', hg.2, first_drop xs g hlt']
    refine ⟨by omega, fun h => ⟨?_, trivial⟩, fun h => ⟨by simp only [fits]; omega, g + 1, ⟨by omega, ?_⟩, by omega, by simp⟩⟩
    · rw [if_neg (by simpa using h)]
    · rw [if_pos (by simpa using h)]
  · have hge' : ¬ g < xs.length := by simpa using hge
    rw [hg.2, List.drop_of_length_le (by omega)]
    simp [first]
theorem so21_ : SpecOk P1 gl1 21 sp21 := by
  intro vs ps r h hp
  simp only [sp21] at h
  split at h
  · cases h; exact fn21 _ (hp _ (.head _))
  · cases h
theorem so21 : Sp1 21 sp21 := ⟨so21_, Proofs.Tryz.f21, _, by kernel_rfl, rfl, by kernel_rfl⟩
theorem fn58a (l : List Int) (hl : l.length ≤ 1000000) : Fn P1 gl1 58 [.one (.sl (.int .i64) l), .one (.fn 59 [] [])] (.val (.one (.frs (.int .i64) (l.map entC)))) true := by
  refine Fn.flat ?_ rfl
  refine fn_of false [(60, sp60)] [fb59] (hEnt entC) 3 Proofs.Tryz.f58 ⟨so60, trivial⟩ ⟨⟨by kernel_rfl, by kernel_rfl, _, rfl, by kernel_rfl⟩, trivial⟩ (by kernel_rfl) rfl (by kernel_rfl) rfl rfl rfl ?_
  rw [vc58a]
  try simp only [splitB_iff, -eq_self]
  refine ⟨⟨0, Nat.zero_le _, rfl, by trivial, by trivial, by simp⟩, fun g hg => ⟨fun hlt => ?_, fun hge => ?_⟩⟩
  · have hlt' : g < l.length := by simpa using hlt
    refine ⟨by omega, by simp only [room, List.length_map, List.length_take]; omega, by simp only [fits]; omega, g + 1, hlt', by omega, by simp, by trivial, by trivial, ?_, trivial⟩
    rw [getD_of hlt', List.take_succ_eq_append_getElem hlt', List.map_append]
    rfl
  · have hge' : ¬ g < l.length := by simpa using hge
    rw [List.take_of_length_le (by omega)]
    exact ⟨rfl, trivial⟩
theorem fn58b (l : List Int) (hl : l.length ≤ 1000000) : Fn P1 gl1 58 [.one (.sl (.int .i64) l), .one (.fn 61 [] [])] (.val (.one (.frs (.int .i64) (l.map levC)))) true := by
  refine Fn.flat ?_ rfl
  refine fn_of false [(60, sp60)] [fb61] (hEnt levC) 3 Proofs.Tryz.f58 ⟨so60, trivial⟩ ⟨⟨by kernel_rfl, by kernel_rfl, _, rfl, by kernel_rfl⟩, trivial⟩ (by kernel_rfl) rfl (by kernel_rfl) rfl rfl rfl ?_
  rw [vc58b]
  try simp only [splitB_iff, -eq_self]
  refine ⟨⟨0, Nat.zero_le _, rfl, by trivial, by trivial, by simp⟩, fun g hg => ⟨fun hlt => ?_, fun hge => ?_⟩⟩
  · have hlt' : g < l.length := by simpa using hlt
    refine ⟨by omega, by simp only [room, List.length_map, List.length_take]; omega, by simp only [fits]; omega, g + 1, hlt', by omega, by simp, by trivial, by trivial, ?_, trivial⟩
    rw [getD_of hlt', List.take_succ_eq_append_getElem hlt', List.map_append]
    rfl
  · have hge' : ¬ g < l.length := by simpa using hge
    rw [List.take_of_length_le (by omega)]
    exact ⟨rfl, trivial⟩
theorem so58 : Sp1 58 sp58 := by
  refine ⟨fun vs ps r h hp => ?_, Proofs.Tryz.f58, _, by kernel_rfl, rfl, by kernel_rfl⟩
  simp only [sp58] at h
  split at h
  · split at h
    · rename_i e; subst e; cases h; exact fn58a _ (hp _ (.head _))
    · split at h
      · rename_i e; subst e; cases h; exact fn58b _ (hp _ (.head _))
      · cases h
  · cases h
theorem fn62 (a d : Int) (ha : -1000000000 ≤ a ∧ a ≤ 1000000000) (hd : 0 < d ∧ d ≤ 1000000000) : Fn P1 gl1 62 [iV a, iV d] (.val (iV (roundI a d))) true := by
  refine Fn.flat ?_ rfl
  refine fn_of true [] [fb84] h0 3 Proofs.Tryz.f62 trivial ⟨⟨by kernel_rfl, by kernel_rfl, _, rfl, by kernel_rfl⟩, trivial⟩ (by kernel_rfl) rfl (by kernel_rfl) rfl rfl rfl ?_
  rw [vc62]
  try simp only [splitB_iff, -eq_self]
  have hd2 : 0 < 2 * d := by omega
  obtain ⟨t1, t2, t3, t4⟩ := tdiv_le (a := 2 * a + d) (B := 4000000000) hd2 (by omega)
  obtain ⟨f1, f2⟩ := floor_tdiv (a := 2 * a + d) hd2
  simp only [fitw (n := 2 * a) (by omega), fitw (n := 2 * d) (by omega), fitw (n := 2 * a + d) (by omega), fitw (n := (2 * a + d).tdiv (2 * d) * (2 * d)) (by omega), fitw (n := (2 * a + d).tdiv (2 * d) - 1) (by omega)]
  refine ⟨⟨by omega, by simp only [fits]; omega⟩, fun h => ?_, fun h => ?_⟩
  · exact ⟨f1 (of_decide_eq_true h), trivial⟩
  · exact ⟨f2 (of_decide_eq_false h), trivial⟩
theorem so62_ : SpecOk P1 gl1 62 sp62 := by
  intro vs ps r h hp
  simp only [sp62] at h
  split at h
  · cases h; exact fn62 _ _ (hp _ (.head _)) (hp _ (.tail _ (.head _)))
  · cases h
theorem so62 : Sp1 62 sp62 := ⟨so62_, Proofs.Tryz.f62, _, by kernel_rfl, rfl, by kernel_rfl⟩
theorem mulB {a b A B : Int} (hA : 0 ≤ A) (hB : 0 ≤ B) (h : -A ≤ a ∧ a ≤ A) (h2 : -B ≤ b ∧ b ≤ B) : -(A * B) ≤ a * b ∧ a * b ≤ A * B := by
  have e : (a * b).natAbs = a.natAbs * b.natAbs := Int.natAbs_mul a b
  have h1 : a.natAbs * b.natAbs ≤ A.natAbs * B.natAbs := Nat.mul_le_mul (by omega) (by omega)
  have e2 : (A * B).natAbs = A.natAbs * B.natAbs := Int.natAbs_mul A B
  have h3 : 0 ≤ A * B := Int.mul_nonneg hA hB
  omega
theorem bd_at {B : Int} {l : List Int} {i : Nat} (h : Bd B l) (hi : i < l.length) : -B ≤ List.getD l i 0 ∧ List.getD l i 0 ≤ B := h _ (by rw [getD_of hi]; exact List.getElem_mem hi)
theorem dotL_bd {A B : Int} (hA : 0 ≤ A) (hB : 0 ≤ B) {u v : List Int} (hu : u.length = 3) (hv : v.length = 3) (bu : Bd A u) (bv : Bd B v) : -(3 * (A * B)) ≤ dotL u v ∧ dotL u v ≤ 3 * (A * B) := by
  have h0 := mulB hA hB (bd_at bu (i := 0) (by omega)) (bd_at bv (i := 0) (by omega))
  have h1 := mulB hA hB (bd_at bu (i := 1) (by omega)) (bd_at bv (i := 1) (by omega))
  have h2 := mulB hA hB (bd_at bu (i := 2) (by omega)) (bd_at bv (i := 2) (by omega))
  unfold dotL
  omega
theorem first_zeros {l : List Int} {g : Int → Int} (h : ∀ n ∈ l, g n = 0) : first (l.map g) = 0 := by
  induction l with
  | nil => rfl
  | cons a r ih =>
    rw [List.map_cons, first, h a (by simp), if_pos rfl]
    exact ih fun n hn => h n (by simp [hn])
theorem ent_zero {n : Int} (h : -4096 ≤ n ∧ n ≤ 4096) : entC n = 0 := within_zero.2 h
theorem lev_zero {n : Int} (h : -16384 ≤ n ∧ n ≤ 16384) : levC n = 0 := within_zero.2 h
theorem chkL_zero {u : List Int} (h : Bd 16384 u) : chkL u = 0 := first_zeros fun n hn => lev_zero (h n hn)
theorem mt_row {R : List (List Int)} (h : mtOk R) (i : Nat) (hi : i < 3) (d : List Int) : (List.getD R i d).length = 3 ∧ Bd 4096 (List.getD R i d) := by
  have hl : i < R.length := by have := h.1; omega
  have := h.2 (List.getD R i d) (by rw [getD_of hl]; exact List.getElem_mem hl)
  exact this
theorem mt_def {R : List (List Int)} (h : mtOk R) (i : Nat) (hi : i < 3) (d d' : List Int) : List.getD R i d = List.getD R i d' := by
  have hl : i < R.length := by have := h.1; omega
  rw [getD_of hl, getD_of hl]
theorem round_one (a : Int) : roundI a 1 = a := by unfold roundI; omega
theorem fn23 (u v : List Int) (hu : u.length = 3) (hv : v.length = 3) (bu : Bd 1000000 u) (bv : Bd 1000000 v) : Fn P1 gl1 23 [c3V u, c3V v] (.val (iV (dotL u v))) true := by
  refine Fn.flat ?_ rfl
  refine fn_of false [] [] h0 0 Proofs.Tryz.f23 trivial trivial (by kernel_rfl) rfl (by kernel_rfl) rfl rfl rfl ?_
  rw [vc23]
  try simp only [splitB_iff, -eq_self]
  have h0 := mulB (by decide) (by decide) (bd_at bu (i := 0) (by omega)) (bd_at bv (i := 0) (by omega))
  have h1 := mulB (by decide) (by decide) (bd_at bu (i := 1) (by omega)) (bd_at bv (i := 1) (by omega))
  have h2 := mulB (by decide) (by decide) (bd_at bu (i := 2) (by omega)) (bd_at bv (i := 2) (by omega))
  refine ⟨⟨by omega, by omega⟩, by omega, ⟨by omega, by omega⟩, by omega, by simp only [fits]; omega, ⟨by omega, by omega⟩, by omega, ⟨by omega, by omega⟩, by omega, by simp only [fits]; omega, by simp only [fits]; omega, ⟨by omega, by omega⟩, by omega, ⟨by omega, by omega⟩, by omega, by simp only [fits]; omega, by simp only [fits]; omega, rfl, trivial⟩
theorem so23_ : SpecOk P1 gl1 23 sp23 := by
  intro vs ps r h hp
  simp only [sp23] at h
  split at h
  · cases h; exact fn23 _ _ (hp _ (.head _)) (hp _ (.tail _ (.head _))) (hp _ (.tail _ (.tail _ (.head _)))) (hp _ (.tail _ (.tail _ (.tail _ (.head _)))))
  · cases h
theorem so23 : Sp1 23 sp23 := ⟨so23_, Proofs.Tryz.f23, _, by kernel_rfl, rfl, by kernel_rfl⟩
theorem fn22 (R : List (List Int)) (h : mtOk R) : Fn P1 gl1 22 [mtV R] (.val (iV 0)) true := by
  refine Fn.flat ?_ rfl
  refine fn_of false [(21, sp21), (58, sp58), (60, sp60)] [] (hu 6) 0 Proofs.Tryz.f22 ⟨so21, so58, so60, trivial⟩ trivial (by kernel_rfl) rfl (by kernel_rfl) rfl rfl rfl ?_
  rw [vc22]
  try simp only [splitB_iff, -eq_self]
  have hr : ∀ i d, i < 3 → List.take 3 (List.getD R i d) = List.getD R i d ∧ first (List.map entC (List.getD R i d)) = 0 ∧ (List.getD R i d).length = 3 := fun i d hi => by
    obtain ⟨h1, h2⟩ := mt_row h i hi d
    exact ⟨List.take_of_length_le (by omega), first_zeros fun n hn => ent_zero (h2 n hn), h1⟩
  simp only [(hr 0 _ (by decide)).1, (hr 1 _ (by decide)).1, (hr 2 _ (by decide)).1, (hr 0 _ (by decide)).2.1, (hr 1 _ (by decide)).2.1, (hr 2 _ (by decide)).2.1, (hr 0 _ (by decide)).2.2, (hr 1 _ (by decide)).2.2, (hr 2 _ (by decide)).2.2, List.length_map, -eq_self]
  refine ⟨⟨by omega, by omega⟩, ⟨by omega, by omega, by omega⟩, rfl, by omega, by omega, fun e => ⟨rfl, trivial⟩, fun _ => ⟨by simp only [fits]; omega, ⟨by omega, by omega⟩, ⟨by omega, by omega, by omega⟩, rfl, by omega, by omega, fun _ => ⟨rfl, trivial⟩, fun _ => ⟨by simp only [fits]; omega, ⟨by omega, by omega⟩, ⟨by omega, by omega, by omega⟩, rfl, by omega, by omega, fun _ => ⟨rfl, trivial⟩, fun _ => ⟨by simp only [fits]; omega, by decide, trivial⟩⟩⟩⟩
theorem so22_ : SpecOk P1 gl1 22 sp22 := by
  intro vs ps r h hp
  simp only [sp22] at h
  split at h
  · cases h; exact fn22 _ (hp _ (.head _))
  · cases h
theorem so22 : Sp1 22 sp22 := ⟨so22_, Proofs.Tryz.f22, _, by kernel_rfl, rfl, by kernel_rfl⟩
theorem fn28 (u : List Int) (hu : u.length = 3) : Fn P1 gl1 28 [c3V u] (.val (iV (chkL u))) true := by
  refine Fn.flat ?_ rfl
  refine fn_of false [(21, sp21), (58, sp58)] [] h0 0 Proofs.Tryz.f28 ⟨so21, so58, trivial⟩ trivial (by kernel_rfl) rfl (by kernel_rfl) rfl rfl rfl ?_
  rw [vc28]
  try simp only [splitB_iff, -eq_self]
  have e : List.take 3 u = u := List.take_of_length_le (by omega)
  rw [e]
  exact ⟨⟨by omega, by omega, by omega⟩, hu, by omega, by rw [List.length_map]; omega, rfl, trivial⟩
theorem so28_ : SpecOk P1 gl1 28 sp28 := by
  intro vs ps r h hp
  simp only [sp28] at h
  split at h
  · cases h; exact fn28 _ (hp _ (.head _))
  · cases h
theorem so28 : Sp1 28 sp28 := ⟨so28_, Proofs.Tryz.f28, _, by kernel_rfl, rfl, by kernel_rfl⟩
theorem fn29 (R : List (List Int)) (u : List Int) (h : mtOk R) (hu : u.length = 3) (bu : Bd 16384 u) : Fn P1 gl1 29 [mtV R, c3V u] (.val (c3V (cvL R u))) true := by
  refine Fn.flat ?_ rfl
  refine fn_of false [(23, sp23), (62, sp62)] [] (Sx.hu 6) 0 Proofs.Tryz.f29 ⟨so23, so62, trivial⟩ trivial (by kernel_rfl) rfl (by kernel_rfl) rfl rfl rfl ?_
  rw [vc29]
  try simp only [splitB_iff, -eq_self]
  have r0 := mt_row h 0 (by decide) (List.replicate 3 0)
  have r1 := mt_row h 1 (by decide) (List.replicate 3 0)
  have r2 := mt_row h 2 (by decide) (List.replicate 3 0)
  have b0 := dotL_bd (by decide) (by decide) r0.1 hu r0.2 bu
  have b1 := dotL_bd (by decide) (by decide) r1.1 hu r1.2 bu
  have b2 := dotL_bd (by decide) (by decide) r2.1 hu r2.2 bu
  have hu6 := bd_le bu (show (16384 : Int) ≤ 1000000 by decide)
  have hb : ∀ {l : List Int}, Bd 4096 l → Bd 1000000 l := fun h => bd_le h (by decide)
  simp only [round_one]
  refine ⟨⟨by omega, by omega⟩, r0.1, hu, hb r0.2, hu6, ⟨by omega, by omega⟩, ⟨by omega, by omega⟩, ⟨by omega, by omega⟩, by omega, by simp only [fits]; omega, ⟨by omega, by omega⟩, r1.1, hu, hb r1.2, hu6, ⟨by omega, by omega⟩, ⟨by omega, by omega⟩, ⟨by omega, by omega⟩, by omega, by simp only [fits]; omega, ⟨by omega, by omega⟩, r2.1, hu, hb r2.2, hu6, ⟨by omega, by omega⟩, ⟨by omega, by omega⟩, ⟨by omega, by omega⟩, by omega, by simp only [fits]; omega, ?_, trivial⟩
  unfold cvL
  rw [mt_def h 0 (by decide) (List.replicate 3 0) [0, 0, 0], mt_def h 1 (by decide) (List.replicate 3 0) [0, 0, 0], mt_def h 2 (by decide) (List.replicate 3 0) [0, 0, 0]]
theorem so29_ : SpecOk P1 gl1 29 sp29 := by
  intro vs ps r h hp
  simp only [sp29] at h
  split at h
  · cases h; exact fn29 _ _ (hp _ (.head _)) (hp _ (.tail _ (.head _))) (hp _ (.tail _ (.tail _ (.head _))))
  · cases h
theorem so29 : Sp1 29 sp29 := ⟨so29_, Proofs.Tryz.f29, _, by kernel_rfl, rfl, by kernel_rfl⟩
theorem fn7 (R : List (List Int)) (u : List Int) (h : mtOk R) (hu : u.length = 3) (bu : Bd 16384 u) (bv : Bd 16384 (cvL R u)) : Fn P1 gl1 7 [mtV R, c3V u] (.tup [c3V (cvL R u), iV 0]) true := by
  refine Fn.flat ?_ rfl
  refine fn_of false [(21, sp21), (22, sp22), (28, sp28), (29, sp29)] [] h0 0 Proofs.Tryz.f7 ⟨so21, so22, so28, so29, trivial⟩ trivial (by kernel_rfl) rfl (by kernel_rfl) rfl rfl rfl ?_
  rw [vc7]
  try simp only [splitB_iff, -eq_self]
  have e1 := chkL_zero bu
  have e2 := chkL_zero bv
  rw [e1, e2]
  exact ⟨h, hu, by omega, fun e => absurd e (by decide), fun _ => ⟨h, hu, bu, rfl, fun e => absurd e (by decide), fun _ => ⟨rfl, rfl, trivial⟩⟩⟩
theorem so7_ : SpecOk P1 gl1 7 sp7 := by
  intro vs ps r h hp
  simp only [sp7] at h
  split at h
  · cases h; exact fn7 _ _ (hp _ (.head _)) (hp _ (.tail _ (.head _))) (hp _ (.tail _ (.tail _ (.head _)))) (hp _ (.tail _ (.tail _ (.tail _ (.head _)))))
  · cases h
theorem so7 : Sp1 7 sp7 := ⟨so7_, Proofs.Tryz.f7, _, by kernel_rfl, rfl, by kernel_rfl⟩
end Go.Sx

namespace Go.Sx.U
def unR (i k : Nat) : List (List Int) := match i, k with
  | 0, 0 => [[0, 0, 0], [0, 0, 0], [0, 0, 0]]
  | 0, _ => [[1, 0, 0], [0, 0, 0], [0, 0, 0]]
  | 1, 0 => [[1, 0, 0], [0, 0, 0], [0, 0, 0]]
  | 1, 1 => [[1, 0, 0], [0, 0, 0], [0, 0, 0]]
  | 1, _ => [[1, 0, 0], [0, 1, 0], [0, 0, 0]]
  | 2, 2 => [[1, 0, 0], [0, 1, 0], [0, 0, 0]]
  | 2, 3 => [[1, 0, 0], [0, 1, 0], [0, 0, 1]]
  | _, _ => [[1, 0, 0], [0, 1, 0], [0, 0, 0]]
def cofT (i k : Nat) : Int := -(List.getD (List.getD [[1, 1, 0], [1, 0, 0], [1, 0, 1]] k []) i 0)
end Go.Sx.U
namespace Go.Sx
open U
def keepC (l : List Nat) (tm : List (Nat × SV)) : List (Nat × SV) := l.filterMap fun t => (lookT tm t).map fun v => (t, v)
def obK (s : St) (l : List Nat) : List (Nat × Option AObj) := l.map fun i => (i, lookO s.ob i)
def cmpS (s : St) (R : List (List Int)) : LInv := ⟨Nat, fun _ => ⟨(8, .val (iV 1)) :: keepC [2, 3, 4, 5, 7, 9, 12, 32, 35, 80, 83] s.tm, (76, some (.box [.arr 3 (.arr 3 (.int .i64)) R, .one (.int .i64 1)])) :: obK s [0, 4, 8], s.nx, s.lr⟩, fun _ => True, fun _ => 0⟩
def sp27 : FSpec := ⟨fun vs => match vs with
  | [.agg [.arr 3 (.arr 3 (.int .i64)) [[0, 1, 0], [1, -1, 0], [0, -1, 1]], .one (.int .i64 1)], .one (.int .i64 i), .one (.int .i64 k)] => some ([0 ≤ i ∧ i < 3, 0 ≤ k ∧ k < 3], .val (iV (cofT i.toNat k.toNat)))
  | _ => none, true⟩
def hCmp : Hints := ⟨fun f k s => match f, k with
  | 5, 1000015 => match intOfT s 32, intOfT s 35 with
    | some i, some k => some (cmpS s (unR i.toNat (k.toNat + 1)))
    | _, _ => none
  | 5, 1000025 => some (cmpS s (unR 2 3))
  | _, _ => none, 6⟩
end Go.Sx
namespace Go.Sx
open U
def sp5 : FSpec := ⟨fun vs => match vs with
  | [.agg [.arr 3 (.arr 3 (.int .i64)) [[0, 1, 0], [1, -1, 0], [0, -1, 1]], .one (.int .i64 1)], .agg [.arr 3 (.arr 3 (.int .i64)) [[1, 1, 0], [1, 0, 0], [1, 0, 1]], .one (.int .i64 1)]] => some ([], .tup [mtV [[1, 0, 0], [0, 1, 0], [0, 0, 1]], iV 0])
  | _ => none, true⟩
def sp25 : FSpec := ⟨fun vs => match vs with
  | [.agg [.arr 3 (.arr 3 (.int .i64)) [[0, 1, 0], [1, -1, 0], [0, -1, 1]], .one (.int .i64 1)]] => some ([], .val (iV (-1)))
  | _ => none, true⟩
def sp26 : FSpec := ⟨fun vs => match vs with
  | [.one (.int .i64 n), .one (.int .i64 (-1))] => some ([-1 ≤ n ∧ n ≤ 0], .val (.agg [.one (.int .i64 (-n)), .one (.int .i64 1)]))
  | _ => none, true⟩
def sp6 : FSpec := ⟨fun vs => match vs with
  | [.agg [.arr 3 (.arr 3 (.int .i64)) [[0, 1, 0], [1, -1, 0], [0, -1, 1]], .one (.int .i64 1)]] => some ([], .tup [.agg [.arr 3 (.arr 3 (.pair (.int .i64) (.int .i64))) [[(1, 1), (1, 1), (0, 1)], [(1, 1), (0, 1), (0, 1)], [(1, 1), (0, 1), (1, 1)]]], iV 0])
  | _ => none, true⟩
end Go.Sx
