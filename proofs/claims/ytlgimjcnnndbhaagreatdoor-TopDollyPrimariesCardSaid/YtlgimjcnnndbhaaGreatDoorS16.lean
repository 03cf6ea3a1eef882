/- A verified symbolic run of functions, part 16: lemmas, no claim of their own. -/
import Derived.Test.YtlgimjcnnndbhaaGreatDoorS15
namespace Go.Sx
open U
theorem bd_dec {B : Int} {l : List Int} (h : (l.all fun n => decide (-B ≤ n) && decide (n ≤ B)) = true) : Bd B l := fun n hn => by
  have := List.all_eq_true.1 h n hn
  simpa using this
theorem mt_dec {R : List (List Int)} (h : (decide (R.length = 3) && R.all fun r => decide (r.length = 3) && r.all fun n => decide (-4096 ≤ n) && decide (n ≤ 4096)) = true) : mtOk R := by
  rw [Bool.and_eq_true] at h
  refine ⟨of_decide_eq_true h.1, fun r hr => ?_⟩
  have := List.all_eq_true.1 h.2 r hr
  rw [Bool.and_eq_true] at this
  exact ⟨of_decide_eq_true this.1, bd_dec this.2⟩
set_option maxRecDepth 100000 in
theorem fn5   : Fn P1 gl1 5 [mtV [[0, 1, 0], [1, -1, 0], [0, -1, 1]], mtV [[1, 1, 0], [1, 0, 0], [1, 0, 1]]] (.tup [mtV [[1, 0, 0], [0, 1, 0], [0, 0, 1]], iV 0]) true := by
  refine Fn.flat ?_ rfl
  refine fn_of false [(21, sp21), (22, sp22), (23, sp23)] [fb24] hCmp 6 Proofs.Tryz.f5 ⟨so21, so22, so23, trivial⟩ ⟨⟨by kernel_rfl, by kernel_rfl, _, rfl, by kernel_rfl⟩, trivial⟩ (by kernel_rfl) rfl (by kernel_rfl) rfl rfl rfl ?_
  rw [vc5 ()]
  try simp only [splitB_iff, -eq_self]
  repeat' (first | exact trivial | rfl | exact bd_dec (by decide) | exact mt_dec (by decide) | refine And.intro ?_ ?_ | refine ⟨0, ?_⟩ | (intro _ _) | decide)
theorem so5_ : SpecOk P1 gl1 5 sp5 := by
  intro vs ps r h _
  simp only [sp5] at h
  split at h
  · cases h; exact fn5  
  · cases h
theorem so5 : Sp1 5 sp5 := ⟨so5_, Proofs.Tryz.f5, _, by kernel_rfl, rfl, by kernel_rfl⟩
theorem fn27 (i k : Nat) (hi : i < 3) (hk : k < 3) : Fn P1 gl1 27 [mtV [[0, 1, 0], [1, -1, 0], [0, -1, 1]], iV i, iV k] (.val (iV (cofT i k))) true := by
  refine Fn.flat ?_ rfl
  refine fn_of false [] [] h0 0 Proofs.Tryz.f27 trivial trivial (by kernel_rfl) rfl (by kernel_rfl) rfl rfl rfl ?_
  rw [vc27]
  try simp only [splitB_iff, -eq_self]
  obtain rfl | rfl | rfl : i = 0 ∨ i = 1 ∨ i = 2 := by omega
  all_goals obtain rfl | rfl | rfl : k = 0 ∨ k = 1 ∨ k = 2 := by omega
  all_goals (repeat' (first | exact trivial | rfl | refine And.intro ?_ ?_ | decide))
theorem so27 : Sp1 27 sp27 := by
  refine ⟨fun vs ps r h hp => ?_, Proofs.Tryz.f27, _, by kernel_rfl, rfl, by kernel_rfl⟩
  simp only [sp27] at h
  split at h
  · rename_i i k
    cases h
    have h1 := hp _ (.head _)
    have h2 := hp _ (.tail _ (.head _))
    have := fn27 i.toNat k.toNat (by omega) (by omega)
    have e1 : (i.toNat : Int) = i := by omega
    have e2 : (k.toNat : Int) = k := by omega
    rw [e1, e2] at this
    exact this
  · cases h
theorem fn25   : Fn P1 gl1 25 [mtV [[0, 1, 0], [1, -1, 0], [0, -1, 1]]] (.val (iV (-1))) true := by
  refine Fn.flat ?_ rfl
  refine fn_of false [(23, sp23), (27, sp27)] [] h0 0 Proofs.Tryz.f25 ⟨so23, so27, trivial⟩ trivial (by kernel_rfl) rfl (by kernel_rfl) rfl rfl rfl ?_
  rw [vc25 ()]
  try simp only [splitB_iff, -eq_self]
  repeat' (first | exact trivial | rfl | exact bd_dec (by decide) | refine And.intro ?_ ?_ | decide)
theorem so25_ : SpecOk P1 gl1 25 sp25 := by
  intro vs ps r h _
  simp only [sp25] at h
  split at h
  · cases h; exact fn25  
  · cases h
theorem so25 : Sp1 25 sp25 := ⟨so25_, Proofs.Tryz.f25, _, by kernel_rfl, rfl, by kernel_rfl⟩
theorem fn26 (n : Int) (h : -1 ≤ n ∧ n ≤ 0) : Fn P1 gl1 26 [iV n, iV (-1)] (.val (.agg [.one (.int .i64 (-n)), .one (.int .i64 1)])) true := by
  refine Fn.flat ?_ rfl
  refine fn_of true [] [fb24] (hu 4) 4 Proofs.Tryz.f26 trivial ⟨⟨by kernel_rfl, by kernel_rfl, _, rfl, by kernel_rfl⟩, trivial⟩ (by kernel_rfl) rfl (by kernel_rfl) rfl rfl rfl ?_
  rw [vc26]
  try simp only [splitB_iff, -eq_self]
  obtain rfl | rfl : n = -1 ∨ n = 0 := by omega
  all_goals (repeat' (first | exact trivial | rfl | (intro h; exact absurd h (by decide)) | refine And.intro ?_ ?_ | (intro _) | decide))
theorem so26_ : SpecOk P1 gl1 26 sp26 := by
  intro vs ps r h hp
  simp only [sp26] at h
  split at h
  · cases h; exact fn26 _ (hp _ (.head _))
  · cases h
theorem so26 : Sp1 26 sp26 := ⟨so26_, Proofs.Tryz.f26, _, by kernel_rfl, rfl, by kernel_rfl⟩
set_option maxRecDepth 100000 in
theorem fn6   : Fn P1 gl1 6 [mtV [[0, 1, 0], [1, -1, 0], [0, -1, 1]]] (.tup [.agg [.arr 3 (.arr 3 (.pair (.int .i64) (.int .i64))) [[(1, 1), (1, 1), (0, 1)], [(1, 1), (0, 1), (0, 1)], [(1, 1), (0, 1), (1, 1)]]], iV 0]) true := by
  refine Fn.flat ?_ rfl
  refine fn_of false [(22, sp22), (25, sp25), (27, sp27), (26, sp26)] [] (hu 6) 6 Proofs.Tryz.f6 ⟨so22, so25, so27, so26, trivial⟩ trivial (by kernel_rfl) rfl (by kernel_rfl) rfl rfl rfl ?_
  rw [vc6 ()]
  try simp only [splitB_iff, -eq_self]
  repeat' (first | exact trivial | rfl | exact bd_dec (by decide) | exact mt_dec (by decide) | refine And.intro ?_ ?_ | refine ⟨0, ?_⟩ | (intro _ _) | decide)
theorem so6_ : SpecOk P1 gl1 6 sp6 := by
  intro vs ps r h _
  simp only [sp6] at h
  split at h
  · cases h; exact fn6  
  · cases h
theorem so6 : Sp1 6 sp6 := ⟨so6_, Proofs.Tryz.f6, _, by kernel_rfl, rfl, by kernel_rfl⟩
end Go.Sx

namespace Go.Sx.U
abbrev Pln := List Int × Int
def plOk (p : Pln) : Prop := p.1.length = 3 ∧ Bd 4096 p.1 ∧ -1099511627776 ≤ p.2 ∧ p.2 ≤ 1099511627776
def forbTo (g : List Pln) (c : List Int) : Nat → Int
  | 0 => -1
  | n + 1 => if forbTo g c n ≠ -1 then forbTo g c n else if (List.getD g n ([0, 0, 0], 0)).2 < dotL (List.getD g n ([0, 0, 0], 0)).1 c then (n : Int) else -1
def plns (low high : Int) : List Pln := [([1, 1, 0], high), ([1, 0, 1], high), ([1, -1, 0], high), ([1, 0, -1], high), ([-1, -1, 0], -low), ([-1, 0, -1], -low), ([-1, 1, 0], -low), ([-1, 0, 1], -low)]
def flat4 (l : List (List Int)) (n : Nat) : List Nat := (List.take n l).flatMap fun c => [smp (List.getD c 0 0), smp (List.getD c 0 0), smp (List.getD c 0 0), smp (List.getD c 0 0)]
def colL (k : Nat) (l : List (List Int)) : List Nat := l.map fun c => smp (List.getD c k 0)
end Go.Sx.U
namespace Go.Sx
open U
abbrev plT : Ty := .pair (.arr 3 (.int .i64)) (.int .i64)
abbrev c3T : Ty := .arr 3 (.int .i64)
@[reducible] def picV (nm : List UInt8) (n : Int) : V := .agg [.one (.str nm), .one (.int .i64 1), .one (.int .i64 1), .one (.sl (.flt .f32) [smp n])]
def hFld : Hints := ⟨fun f k s => match f, k with
  | 15, 3 => hMapG lnT lnT (fun x => x) 6 8 3 [7] s
  | 10, 3 => match listAs s 6 c3T with
    | some l => some ⟨Nat, fun g => ⟨tI 8 g :: keepC [2, 3, 6, 7] s.tm, (4, some (.box [.one (.own s.nx), .one (.own (s.nx + 1)), .one (.own (s.nx + 2))])) :: (s.nx, some (.row (.flt .f32) (flat4 l g))) :: (s.nx + 1, some (.row (.flt .f32) (colL 1 (List.take g l)))) :: (s.nx + 2, some (.row (.flt .f32) (colL 2 (List.take g l)))) :: obK s [0], s.nx + 3, s.lr⟩, fun g => g ≤ List.length l, fun g => List.length l - g⟩
    | _ => none
  | _, _ => none, 5⟩
end Go.Sx
namespace Go.Sx
open U
def sp18 : FSpec := ⟨fun vs => match vs with
  | [.one (.str nm), .one (.sl (.int .i64) [n])] => some ([-16384 ≤ n ∧ n ≤ 16384], .val (picV nm n))
  | _ => none, false⟩
def sp20 : FSpec := ⟨fun vs => match vs with
  | [.one (.int .i64 low), .one (.int .i64 high)] => some ([-16384 ≤ low ∧ low ≤ 16384], .val (.one (.frs plT (plns low high))))
  | _ => none, true⟩
def sp77 : FSpec := ⟨fun vs => match vs with
  | [.agg [.arr 3 (.int .i64) a, .one (.int .i64 m)]] => some ([plOk (a, m)], .val (iV 0))
  | _ => none, true⟩
def sp31 : FSpec := ⟨fun vs => match vs with
  | [.one (.int .i64 n)] => some ([], .val (iV (levC n)))
  | _ => none, true⟩
def sp8 : FSpec := ⟨fun vs => match vs with
  | [.agg [.arr 3 (.int .i64) u]] => some ([List.length u = 3, Bd 16384 u], .val (iV 0))
  | _ => none, true⟩
def sp15 : FSpec := ⟨fun vs => match vs with
  | [.one (.sl (.sl (.flt .f32)) f)] => some ([List.length f ≤ 1000, ∀ x ∈ f, List.length x ≤ 100000], .val (fldV f))
  | _ => none, false⟩
def sp10 : FSpec := ⟨fun vs => match vs with
  | [.one (.sl (.arr 3 (.int .i64)) l)] => some ([List.length l ≤ 64, ∀ c ∈ (show List (List Int) from l), c.length = 3 ∧ Bd 16384 c], .val (pV (flat4 l (List.length l), colL 1 l, colL 2 l)))
  | _ => none, false⟩
end Go.Sx

namespace Go.Sx
open U
theorem vc18 (nm : List UInt8) (n : Int) : exF (env false [] []) (hu 3) 3 18 Proofs.Tryz.f18 [.one (.str nm), .one (.sl (.int .i64) [n])] (.val (picV nm n)) = (((0 : Int) ≤ (0 : Int) ∧ (0 : Int) < (1 : Int)) ∧ Option.isSome (Ieee.Format.div (FloatKind.format FloatKind.f32) (FloatKind.nearest FloatKind.f32 n) (1098907648 : Nat)) = true ∧ room (1 : Nat) (4 : Nat) ∧ fits IntKind.i64 (1 : Int) ∧ nm = nm ∧ (1 : Int) = (1 : Int) ∧ (1 : Int) = (1 : Int) ∧ [Option.getD (Ieee.Format.div (FloatKind.format FloatKind.f32) (FloatKind.nearest FloatKind.f32 n) (1098907648 : Nat)) (0 : Nat)] = [smp n] ∧ True) := by
  kernel_rfl
theorem vc20 (low high : Int) : exF (env false [] []) (hu 5) 5 20 Proofs.Tryz.f20 [iV low, iV high] (.val (.one (.frs plT (plns low high)))) = (((0 : Int) ≤ (0 : Int) ∧ (0 : Int) < (2 : Int)) ∧ ((0 : Int) ≤ (0 : Int) ∧ (0 : Int) < (4 : Int)) ∧ ((0 : Int) ≤ (0 : Int) ∧ (0 : Int) < (3 : Int)) ∧ (0 : Nat) < (3 : Nat) ∧ fits IntKind.i64 (1 : Int) ∧ ((0 : Int) ≤ (1 : Int) ∧ (1 : Int) < (3 : Int)) ∧ (1 : Nat) < (3 : Nat) ∧ fits IntKind.i64 (1 : Int) ∧ ((0 : Int) ≤ (2 : Int) ∧ (2 : Int) < (3 : Int)) ∧ (2 : Nat) < (3 : Nat) ∧ fits IntKind.i64 (0 : Int) ∧ room (1 : Nat) (32 : Nat) ∧ fits IntKind.i64 (1 : Int) ∧ ((0 : Int) ≤ (1 : Int) ∧ (1 : Int) < (4 : Int)) ∧ ((0 : Int) ≤ (0 : Int) ∧ (0 : Int) < (3 : Int)) ∧ (0 : Nat) < (3 : Nat) ∧ fits IntKind.i64 (1 : Int) ∧ ((0 : Int) ≤ (1 : Int) ∧ (1 : Int) < (3 : Int)) ∧ (1 : Nat) < (3 : Nat) ∧ fits IntKind.i64 (0 : Int) ∧ ((0 : Int) ≤ (2 : Int) ∧ (2 : Int) < (3 : Int)) ∧ (2 : Nat) < (3 : Nat) ∧ fits IntKind.i64 (1 : Int) ∧ room (2 : Nat) (32 : Nat) ∧ fits IntKind.i64 (2 : Int) ∧ ((0 : Int) ≤ (2 : Int) ∧ (2 : Int) < (4 : Int)) ∧ ((0 : Int) ≤ (0 : Int) ∧ (0 : Int) < (3 : Int)) ∧ (0 : Nat) < (3 : Nat) ∧ fits IntKind.i64 (1 : Int) ∧ ((0 : Int) ≤ (1 : Int) ∧ (1 : Int) < (3 : Int)) ∧ (1 : Nat) < (3 : Nat) ∧ fits IntKind.i64 (-1 : Int) ∧ ((0 : Int) ≤ (2 : Int) ∧ (2 : Int) < (3 : Int)) ∧ (2 : Nat) < (3 : Nat) ∧ fits IntKind.i64 (0 : Int) ∧ room (List.length ([([(1 : Int), (1 : Int), (0 : Int)], high)] ++ [([(1 : Int), (0 : Int), (1 : Int)], high)]) + (1 : Nat)) (32 : Nat) ∧ fits IntKind.i64 (3 : Int) ∧ ((0 : Int) ≤ (3 : Int) ∧ (3 : Int) < (4 : Int)) ∧ ((0 : Int) ≤ (0 : Int) ∧ (0 : Int) < (3 : Int)) ∧ (0 : Nat) < (3 : Nat) ∧ fits IntKind.i64 (1 : Int) ∧ ((0 : Int) ≤ (1 : Int) ∧ (1 : Int) < (3 : Int)) ∧ (1 : Nat) < (3 : Nat) ∧ fits IntKind.i64 (0 : Int) ∧ ((0 : Int) ≤ (2 : Int) ∧ (2 : Int) < (3 : Int)) ∧ (2 : Nat) < (3 : Nat) ∧ fits IntKind.i64 (-1 : Int) ∧ room (List.length ([([(1 : Int), (1 : Int), (0 : Int)], high)] ++ [([(1 : Int), (0 : Int), (1 : Int)], high)] ++ [([(1 : Int), (-1 : Int), (0 : Int)], high)]) + (1 : Nat)) (32 : Nat) ∧ fits IntKind.i64 (4 : Int) ∧ fits IntKind.i64 (1 : Int) ∧ ((0 : Int) ≤ (1 : Int) ∧ (1 : Int) < (2 : Int)) ∧ fits IntKind.i64 (-low) ∧ ((0 : Int) ≤ (0 : Int) ∧ (0 : Int) < (4 : Int)) ∧ ((0 : Int) ≤ (0 : Int) ∧ (0 : Int) < (3 : Int)) ∧ (0 : Nat) < (3 : Nat) ∧ fits IntKind.i64 (-1 : Int) ∧ ((0 : Int) ≤ (1 : Int) ∧ (1 : Int) < (3 : Int)) ∧ (1 : Nat) < (3 : Nat) ∧ fits IntKind.i64 (-1 : Int) ∧ ((0 : Int) ≤ (2 : Int) ∧ (2 : Int) < (3 : Int)) ∧ (2 : Nat) < (3 : Nat) ∧ fits IntKind.i64 (0 : Int) ∧ room (List.length ([([(1 : Int), (1 : Int), (0 : Int)], high)] ++ [([(1 : Int), (0 : Int), (1 : Int)], high)] ++ [([(1 : Int), (-1 : Int), (0 : Int)], high)] ++ [([(1 : Int), (0 : Int), (-1 : Int)], high)]) + (1 : Nat)) (32 : Nat) ∧ fits IntKind.i64 (1 : Int) ∧ ((0 : Int) ≤ (1 : Int) ∧ (1 : Int) < (4 : Int)) ∧ ((0 : Int) ≤ (0 : Int) ∧ (0 : Int) < (3 : Int)) ∧ (0 : Nat) < (3 : Nat) ∧ fits IntKind.i64 (-1 : Int) ∧ ((0 : Int) ≤ (1 : Int) ∧ (1 : Int) < (3 : Int)) ∧ (1 : Nat) < (3 : Nat) ∧ fits IntKind.i64 (0 : Int) ∧ ((0 : Int) ≤ (2 : Int) ∧ (2 : Int) < (3 : Int)) ∧ (2 : Nat) < (3 : Nat) ∧ fits IntKind.i64 (-1 : Int) ∧ room (List.length ([([(1 : Int), (1 : Int), (0 : Int)], high)] ++ [([(1 : Int), (0 : Int), (1 : Int)], high)] ++ [([(1 : Int), (-1 : Int), (0 : Int)], high)] ++ [([(1 : Int), (0 : Int), (-1 : Int)], high)] ++ [([(-1 : Int), (-1 : Int), (0 : Int)], -low)]) + (1 : Nat)) (32 : Nat) ∧ fits IntKind.i64 (2 : Int) ∧ ((0 : Int) ≤ (2 : Int) ∧ (2 : Int) < (4 : Int)) ∧ ((0 : Int) ≤ (0 : Int) ∧ (0 : Int) < (3 : Int)) ∧ (0 : Nat) < (3 : Nat) ∧ fits IntKind.i64 (-1 : Int) ∧ ((0 : Int) ≤ (1 : Int) ∧ (1 : Int) < (3 : Int)) ∧ (1 : Nat) < (3 : Nat) ∧ fits IntKind.i64 (1 : Int) ∧ ((0 : Int) ≤ (2 : Int) ∧ (2 : Int) < (3 : Int)) ∧ (2 : Nat) < (3 : Nat) ∧ fits IntKind.i64 (0 : Int) ∧ room (List.length ([([(1 : Int), (1 : Int), (0 : Int)], high)] ++ [([(1 : Int), (0 : Int), (1 : Int)], high)] ++ [([(1 : Int), (-1 : Int), (0 : Int)], high)] ++ [([(1 : Int), (0 : Int), (-1 : Int)], high)] ++ [([(-1 : Int), (-1 : Int), (0 : Int)], -low)] ++ [([(-1 : Int), (0 : Int), (-1 : Int)], -low)]) + (1 : Nat)) (32 : Nat) ∧ fits IntKind.i64 (3 : Int) ∧ ((0 : Int) ≤ (3 : Int) ∧ (3 : Int) < (4 : Int)) ∧ ((0 : Int) ≤ (0 : Int) ∧ (0 : Int) < (3 : Int)) ∧ (0 : Nat) < (3 : Nat) ∧ fits IntKind.i64 (-1 : Int) ∧ ((0 : Int) ≤ (1 : Int) ∧ (1 : Int) < (3 : Int)) ∧ (1 : Nat) < (3 : Nat) ∧ fits IntKind.i64 (0 : Int) ∧ ((0 : Int) ≤ (2 : Int) ∧ (2 : Int) < (3 : Int)) ∧ (2 : Nat) < (3 : Nat) ∧ fits IntKind.i64 (1 : Int) ∧ room (List.length ([([(1 : Int), (1 : Int), (0 : Int)], high)] ++ [([(1 : Int), (0 : Int), (1 : Int)], high)] ++ [([(1 : Int), (-1 : Int), (0 : Int)], high)] ++ [([(1 : Int), (0 : Int), (-1 : Int)], high)] ++ [([(-1 : Int), (-1 : Int), (0 : Int)], -low)] ++ [([(-1 : Int), (0 : Int), (-1 : Int)], -low)] ++ [([(-1 : Int), (1 : Int), (0 : Int)], -low)]) + (1 : Nat)) (32 : Nat) ∧ fits IntKind.i64 (4 : Int) ∧ fits IntKind.i64 (2 : Int) ∧ [([(1 : Int), (1 : Int), (0 : Int)], high)] ++ [([(1 : Int), (0 : Int), (1 : Int)], high)] ++ [([(1 : Int), (-1 : Int), (0 : Int)], high)] ++ [([(1 : Int), (0 : Int), (-1 : Int)], high)] ++ [([(-1 : Int), (-1 : Int), (0 : Int)], -low)] ++ [([(-1 : Int), (0 : Int), (-1 : Int)], -low)] ++ [([(-1 : Int), (1 : Int), (0 : Int)], -low)] ++ [([(-1 : Int), (0 : Int), (1 : Int)], -low)] = plns low high ∧ True) := by
  kernel_rfl
theorem vc77 (a : List Int) (m : Int) : exF (env false [(21, sp21), (58, sp58), (60, sp60)] []) h0 0 77 Proofs.Tryz.f77 [.agg [.arr 3 (.int .i64) a, .one (.int .i64 m)]] (.val (iV 0)) = (((0 : Int) ≤ (0 : Int) ∧ (0 : Int) ≤ (3 : Int) ∧ (3 : Int) ≤ (3 : Int)) ∧ List.length (List.take (3 : Nat) a) = (3 : Nat) ∧ List.length (List.take (3 : Nat) a) ≤ (1000000 : Nat) ∧ List.length (List.map entC (List.take (3 : Nat) a)) ≤ (1000000000 : Nat) ∧ (2 : Nat) ≤ (1000000000 : Nat) ∧ first [first (List.map entC (List.take (3 : Nat) a)), within m (-1099511627776 : Int) (1099511627776 : Int)] = (0 : Int) ∧ True) := by
  kernel_rfl
theorem vc31 (n : Int) : exF (env false [(63, sp63)] []) h0 0 31 Proofs.Tryz.f31 [iV n] (.val (iV (levC n))) = (within n (-16384 : Int) (16384 : Int) = levC n ∧ True) := by
  kernel_rfl
theorem vc8 (u : List Int) : exF (env false [(30, sp30), (31, sp31)] []) h0 0 8 Proofs.Tryz.f8 [c3V u] (.val (iV 0)) = (((0 : Int) ≤ (0 : Int) ∧ (0 : Int) < (3 : Int)) ∧ (0 : Nat) < List.length u ∧ ((0 : Int) ≤ (1 : Int) ∧ (1 : Int) < (3 : Int)) ∧ (1 : Nat) < List.length u ∧ ((0 : Int) ≤ (2 : Int) ∧ (2 : Int) < (3 : Int)) ∧ (2 : Nat) < List.length u ∧ (3 : Nat) ≤ (1000000000 : Nat) ∧ first [levC (List.getD u (0 : Nat) (0 : Int)), levC (List.getD u (1 : Nat) (0 : Int)), levC (List.getD u (2 : Nat) (0 : Int))] = (0 : Int) ∧ True) := by
  kernel_rfl
theorem vc15 (f : List (List Nat)) : exF (env false [] []) hFld 0 15 Proofs.Tryz.f15 [fldV f] (.val (fldV f)) = (let q0 := (↑(List.length f) : Int); (∃ (g : Nat), Nat.le g (List.length f) ∧ (0 : Int) = (↑g : Int) ∧ q0 = q0 ∧ f = f ∧ List.map (fun (x : List Nat) => x) (List.take g f) = [] ∧ True) ∧ ∀ (g : Nat), Nat.le g (List.length f) → splitB (decide ((↑g : Int) < q0)) (((0 : Int) ≤ (↑g : Int) ∧ (↑g : Int) < q0) ∧ room ((0 : Nat) + List.length (List.getD f g [])) (4 : Nat) ∧ room (List.length (List.map (fun (x : List Nat) => x) (List.take g f)) + (1 : Nat)) (24 : Nat) ∧ fits IntKind.i64 ((↑g : Int) + (1 : Int)) ∧ ∃ (g' : Nat), Nat.le g' (List.length f) ∧ List.length f - g' < List.length f - g ∧ (↑g : Int) + (1 : Int) = (↑g' : Int) ∧ q0 = q0 ∧ f = f ∧ List.map (fun (x : List Nat) => x) (List.take g f) ++ [List.getD f g []] = List.map (fun (x : List Nat) => x) (List.take g' f) ∧ True) (List.map (fun (x : List Nat) => x) (List.take g f) = f ∧ True)) := by
  kernel_rfl
theorem vc10 (l : List (List Int)) : exF (env false [] []) hFld 5 10 Proofs.Tryz.f10 [.one (.sl (.arr 3 (.int .i64)) l)] (.val (pV (flat4 l l.length, colL 1 l, colL 2 l))) = (let q4 := ((0 : Int) ≤ (0 : Int) ∧ (0 : Int) < (3 : Int)); let q8 := (List.length l); let q5 := (↑q8 : Int); let q6 := (FloatKind.format FloatKind.f32); (∃ (g : Nat), Nat.le g q8 ∧ (0 : Int) = (↑g : Int) ∧ l = l ∧ q5 = q5 ∧ flat4 l g = [] ∧ colL (1 : Nat) (List.take g l) = [] ∧ colL (2 : Nat) (List.take g l) = [] ∧ True) ∧ ∀ (g : Nat), let q1 := (List.getD l g (List.replicate (3 : Nat) (0 : Int))); let q0 := (Ieee.Format.div q6 (FloatKind.nearest FloatKind.f32 (List.getD q1 (0 : Nat) (0 : Int))) (1098907648 : Nat)); let q2 := (Ieee.Format.div q6 (FloatKind.nearest FloatKind.f32 (List.getD q1 (1 : Nat) (0 : Int))) (1098907648 : Nat)); let q3 := (Ieee.Format.div q6 (FloatKind.nearest FloatKind.f32 (List.getD q1 (2 : Nat) (0 : Int))) (1098907648 : Nat)); let q7 := (List.take g l); Nat.le g q8 → splitB (decide ((↑g : Int) < q5)) (((0 : Int) ≤ (↑g : Int) ∧ (↑g : Int) < q5) ∧ q4 ∧ (0 : Nat) < List.length q1 ∧ Option.isSome q0 = true ∧ room (List.length (flat4 l g) + (1 : Nat)) (4 : Nat) ∧ fits IntKind.i64 (1 : Int) ∧ q4 ∧ (0 : Nat) < List.length q1 ∧ Option.isSome q0 = true ∧ room (List.length (flat4 l g ++ [Option.getD q0 (0 : Nat)]) + (1 : Nat)) (4 : Nat) ∧ fits IntKind.i64 (2 : Int) ∧ q4 ∧ (0 : Nat) < List.length q1 ∧ Option.isSome q0 = true ∧ room (List.length (flat4 l g ++ [Option.getD q0 (0 : Nat)] ++ [Option.getD q0 (0 : Nat)]) + (1 : Nat)) (4 : Nat) ∧ fits IntKind.i64 (3 : Int) ∧ q4 ∧ (0 : Nat) < List.length q1 ∧ Option.isSome q0 = true ∧ room (List.length (flat4 l g ++ [Option.getD q0 (0 : Nat)] ++ [Option.getD q0 (0 : Nat)] ++ [Option.getD q0 (0 : Nat)]) + (1 : Nat)) (4 : Nat) ∧ fits IntKind.i64 (4 : Int) ∧ ((0 : Int) ≤ (1 : Int) ∧ (1 : Int) < (3 : Int)) ∧ (1 : Nat) < List.length q1 ∧ Option.isSome q2 = true ∧ room (List.length (colL (1 : Nat) q7) + (1 : Nat)) (4 : Nat) ∧ ((0 : Int) ≤ (2 : Int) ∧ (2 : Int) < (3 : Int)) ∧ (2 : Nat) < List.length q1 ∧ Option.isSome q3 = true ∧ room (List.length (colL (2 : Nat) q7) + (1 : Nat)) (4 : Nat) ∧ fits IntKind.i64 ((↑g : Int) + (1 : Int)) ∧ ∃ (g' : Nat), Nat.le g' q8 ∧ List.length l - g' < List.length l - g ∧ (↑g : Int) + (1 : Int) = (↑g' : Int) ∧ l = l ∧ q5 = q5 ∧ flat4 l g ++ [Option.getD q0 (0 : Nat)] ++ [Option.getD q0 (0 : Nat)] ++ [Option.getD q0 (0 : Nat)] ++ [Option.getD q0 (0 : Nat)] = flat4 l g' ∧ colL (1 : Nat) q7 ++ [Option.getD q2 (0 : Nat)] = colL (1 : Nat) (List.take g' l) ∧ colL (2 : Nat) q7 ++ [Option.getD q3 (0 : Nat)] = colL (2 : Nat) (List.take g' l) ∧ True) (flat4 l g = flat4 l q8 ∧ colL (1 : Nat) q7 = colL (1 : Nat) l ∧ colL (2 : Nat) q7 = colL (2 : Nat) l ∧ True)) := by
  kernel_rfl
end Go.Sx

namespace Go.Sx
open U
theorem smp_div {n : Int} (h : -8388608 ≤ n ∧ n ≤ 8388608) : Ieee.Format.div (FloatKind.format .f32) (FloatKind.nearest .f32 n) 1098907648 = some (smp n) := by
  obtain ⟨e1, _, _⟩ := smp_num (n := n) (by omega)
  exact e1
theorem flat4_len (l : List (List Int)) (n : Nat) : (flat4 l n).length ≤ 4 * n := by
  unfold flat4
  rw [List.length_flatMap]
  have : ∀ m : List (List Int), (m.map fun c => ([smp (List.getD c 0 0), smp (List.getD c 0 0), smp (List.getD c 0 0), smp (List.getD c 0 0)] : List Nat).length).sum = 4 * m.length := by
    intro m
    induction m with
    | nil => rfl
    | cons a m ih => simp only [List.map_cons, List.sum_cons, List.length_cons, List.length_nil] at ih ⊢; omega
  rw [this, List.length_take]
  omega
theorem fn18 (nm : List UInt8) (n : Int) (h : -16384 ≤ n ∧ n ≤ 16384) : Fn P1 gl1 18 [.one (.str nm), .one (.sl (.int .i64) [n])] (.val (picV nm n)) false := by
  refine fn_of false [] [] (hu 3) 3 Proofs.Tryz.f18 trivial trivial (by kernel_rfl) rfl (by kernel_rfl) rfl rfl rfl ?_
  rw [vc18]
  try simp only [splitB_iff, -eq_self]
  rw [smp_div (by omega)]
  exact ⟨⟨by omega, by omega⟩, rfl, by unfold room; omega, by simp only [fits]; omega, rfl, rfl, rfl, rfl, trivial⟩
theorem so18_ : SpecOk P1 gl1 18 sp18 := by
  intro vs ps r h hp
  simp only [sp18] at h
  split at h
  · cases h; exact fn18 _ _ (hp _ (.head _))
  · cases h
theorem so18 : Sp1 18 sp18 := ⟨so18_, Proofs.Tryz.f18, _, by kernel_rfl, rfl, by kernel_rfl⟩
set_option maxRecDepth 100000 in
theorem fn20 (low high : Int) (h : -16384 ≤ low ∧ low ≤ 16384) : Fn P1 gl1 20 [iV low, iV high] (.val (.one (.frs plT (plns low high)))) true := by
  refine Fn.flat ?_ rfl
  refine fn_of false [] [] (hu 5) 5 Proofs.Tryz.f20 trivial trivial (by kernel_rfl) rfl (by kernel_rfl) rfl rfl rfl ?_
  rw [vc20]
  try simp only [splitB_iff, -eq_self]
  have hf : fits .i64 (-low) := by simp only [fits]; omega
  repeat' (first | exact trivial | exact hf | rfl | refine And.intro ?_ ?_ | decide | (simp only [List.length_append, List.length_cons, List.length_nil]; omega))
theorem so20_ : SpecOk P1 gl1 20 sp20 := by
  intro vs ps r h hp
  simp only [sp20] at h
  split at h
  · cases h; exact fn20 _ _ (hp _ (.head _))
  · cases h
theorem so20 : Sp1 20 sp20 := ⟨so20_, Proofs.Tryz.f20, _, by kernel_rfl, rfl, by kernel_rfl⟩
theorem fn77 (a : List Int) (m : Int) (h : plOk (a, m)) : Fn P1 gl1 77 [.agg [.arr 3 (.int .i64) a, .one (.int .i64 m)]] (.val (iV 0)) true := by
  refine Fn.flat ?_ rfl
  refine fn_of false [(21, sp21), (58, sp58), (60, sp60)] [] h0 0 Proofs.Tryz.f77 ⟨so21, so58, so60, trivial⟩ trivial (by kernel_rfl) rfl (by kernel_rfl) rfl rfl rfl ?_
  rw [vc77]
  try simp only [splitB_iff, -eq_self]
  obtain ⟨h1, h2, h3, h4⟩ := h
  have h1 : a.length = 3 := h1
  have e : List.take 3 a = a := List.take_of_length_le (by omega)
  have e1 : first (List.map entC a) = 0 := first_zeros fun n hn => ent_zero (h2 n hn)
  have e2 : within m (-1099511627776) 1099511627776 = 0 := within_zero.2 ⟨h3, h4⟩
  rw [e, e1, e2]
  exact ⟨⟨by omega, by omega, by omega⟩, h1, by omega, by rw [List.length_map]; omega, by omega, rfl, trivial⟩
theorem so77_ : SpecOk P1 gl1 77 sp77 := by
  intro vs ps r h hp
  simp only [sp77] at h
  split at h
  · cases h; exact fn77 _ _ (hp _ (.head _))
  · cases h
theorem so77 : Sp1 77 sp77 := ⟨so77_, Proofs.Tryz.f77, _, by kernel_rfl, rfl, by kernel_rfl⟩
theorem fn31 (n : Int)  : Fn P1 gl1 31 [iV n] (.val (iV (levC n))) true := by
  refine Fn.flat ?_ rfl
  refine fn_of false [(63, sp63)] [] h0 0 Proofs.Tryz.f31 ⟨so63, trivial⟩ trivial (by kernel_rfl) rfl (by kernel_rfl) rfl rfl rfl ?_
  rw [vc31]
  try simp only [splitB_iff, -eq_self]
  exact ⟨rfl, trivial⟩
theorem so31_ : SpecOk P1 gl1 31 sp31 := by
  intro vs ps r h _
  simp only [sp31] at h
  split at h
  · cases h; exact fn31 _ 
  · cases h
theorem so31 : Sp1 31 sp31 := ⟨so31_, Proofs.Tryz.f31, _, by kernel_rfl, rfl, by kernel_rfl⟩
theorem fn8 (u : List Int) (hu : u.length = 3) (bu : Bd 16384 u) : Fn P1 gl1 8 [c3V u] (.val (iV 0)) true := by
  refine Fn.flat ?_ rfl
  refine fn_of false [(30, sp30), (31, sp31)] [] h0 0 Proofs.Tryz.f8 ⟨so30, so31, trivial⟩ trivial (by kernel_rfl) rfl (by kernel_rfl) rfl rfl rfl ?_
  rw [vc8]
  try simp only [splitB_iff, -eq_self]
  rw [lev_zero (bd_at bu (i := 0) (by omega)), lev_zero (bd_at bu (i := 1) (by omega)), lev_zero (bd_at bu (i := 2) (by omega))]
  exact ⟨⟨by omega, by omega⟩, by omega, ⟨by omega, by omega⟩, by omega, ⟨by omega, by omega⟩, by omega, by omega, rfl, trivial⟩
theorem so8_ : SpecOk P1 gl1 8 sp8 := by
  intro vs ps r h hp
  simp only [sp8] at h
  split at h
  · cases h; exact fn8 _ (hp _ (.head _)) (hp _ (.tail _ (.head _)))
  · cases h
theorem so8 : Sp1 8 sp8 := ⟨so8_, Proofs.Tryz.f8, _, by kernel_rfl, rfl, by kernel_rfl⟩
theorem fn15 (f : List (List Nat)) (hl : f.length ≤ 1000) (hf : ∀ x ∈ f, x.length ≤ 100000) : Fn P1 gl1 15 [fldV f] (.val (fldV f)) false := by
  refine fn_of false [] [] hFld 0 Proofs.Tryz.f15 trivial trivial (by kernel_rfl) rfl (by kernel_rfl) rfl rfl rfl ?_
  rw [vc15]
  try simp only [splitB_iff, -eq_self]
  refine ⟨⟨0, Nat.zero_le _, rfl, rfl, rfl, by simp, trivial⟩, fun g hg => ⟨fun hlt => ?_, fun hge => ?_⟩⟩
  · have hlt' : g < f.length := by simpa using hlt
    have hm := hf _ (getD_mem' (d := []) hlt')
    refine ⟨⟨by omega, by omega⟩, by unfold room; omega, by simp only [room, List.length_map, List.length_take]; omega, by simp only [fits]; omega, g + 1, hlt', by omega, by simp, rfl, rfl, ?_, trivial⟩
    rw [getD_of hlt', List.take_succ_eq_append_getElem hlt', List.map_append]
    rfl
  · have hge' : ¬ g < f.length := by simpa using hge
    rw [List.take_of_length_le (by omega)]
    exact ⟨by simp, trivial⟩
theorem so15_ : SpecOk P1 gl1 15 sp15 := by
  intro vs ps r h hp
  simp only [sp15] at h
  split at h
  · cases h; exact fn15 _ (hp _ (.head _)) (hp _ (.tail _ (.head _)))
  · cases h
theorem so15 : Sp1 15 sp15 := ⟨so15_, Proofs.Tryz.f15, _, by kernel_rfl, rfl, by kernel_rfl⟩
theorem fn10 (l : List (List Int)) (hl : l.length ≤ 64) (hC : ∀ c ∈ l, c.length = 3 ∧ Bd 16384 c) : Fn P1 gl1 10 [.one (.sl (.arr 3 (.int .i64)) l)] (.val (pV (flat4 l l.length, colL 1 l, colL 2 l))) false := by
  refine fn_of false [] [] hFld 5 Proofs.Tryz.f10 trivial trivial (by kernel_rfl) rfl (by kernel_rfl) rfl rfl rfl ?_
  rw [vc10]
  try simp only [splitB_iff, -eq_self]
  have fit3 : ∀ i : Int, 0 ≤ i → i ≤ 4 → fits .i64 i := fun i a b => by simp only [fits]; omega
  refine ⟨⟨0, Nat.zero_le _, rfl, rfl, rfl, rfl, by simp [colL], by simp [colL], trivial⟩, fun g hg => ⟨fun hlt => ?_, fun hge => ?_⟩⟩
  · have hlt' : g < l.length := by simpa using hlt
    have hm := hC _ (getD_mem' (d := List.replicate 3 (0 : Int)) hlt')
    obtain ⟨h3, hb⟩ := hm
    have d0 := smp_div (n := List.getD (List.getD l g (List.replicate 3 (0 : Int))) 0 0) (by have := bd_at hb (i := 0) (by omega); omega)
    have d1 := smp_div (n := List.getD (List.getD l g (List.replicate 3 (0 : Int))) 1 0) (by have := bd_at hb (i := 1) (by omega); omega)
    have d2 := smp_div (n := List.getD (List.getD l g (List.replicate 3 (0 : Int))) 2 0) (by have := bd_at hb (i := 2) (by omega); omega)
    simp only [fmt32] at d0 d1 d2 ⊢
    simp only [d0, d1, d2, Option.isSome_some, Option.getD_some]
    have lf : (flat4 l g).length ≤ 4 * g := flat4_len l g
    have lc : ∀ k, (colL k (List.take g l)).length ≤ g := fun k => by simp [colL]; omega
    have l1 := lc 1
    have l2 := lc 2
    refine ⟨⟨by omega, by omega⟩, ⟨by omega, by omega⟩, by omega, by trivial, ?_, fit3 1 (by omega) (by omega), ⟨by omega, by omega⟩, by omega, by trivial, ?_, fit3 2 (by omega) (by omega), ⟨by omega, by omega⟩, by omega, by trivial, ?_, fit3 3 (by omega) (by omega), ⟨by omega, by omega⟩, by omega, by trivial, ?_, fit3 4 (by omega) (by omega), ⟨by omega, by omega⟩, by omega, by trivial, ?_, ⟨by omega, by omega⟩, by omega, by trivial, ?_, by simp only [fits]; omega, g + 1, hlt', by omega, by simp, by trivial, by trivial, ?_, ?_, ?_, trivial⟩
    · simp only [room]; omega
    · simp only [room, List.length_append, List.length_cons, List.length_nil]; omega
    · simp only [room, List.length_append, List.length_cons, List.length_nil]; omega
    · simp only [room, List.length_append, List.length_cons, List.length_nil]; omega
    · simp only [room]; omega
    · simp only [room]; omega
    · rw [flat4, flat4, List.take_succ_eq_append_getElem hlt', List.flatMap_append, ← getD_of (d := List.replicate 3 (0 : Int)) hlt']
      simp
    · rw [colL, colL, List.take_succ_eq_append_getElem hlt', List.map_append, ← getD_of (d := List.replicate 3 (0 : Int)) hlt']
      rfl
    · rw [colL, colL, List.take_succ_eq_append_getElem hlt', List.map_append, ← getD_of (d := List.replicate 3 (0 : Int)) hlt']
      rfl
  · have hge' : ¬ g < l.length := by simpa using hge
    have e : g = l.length := by have : g ≤ l.length := hg; omega
    subst e
    rw [List.take_length]
    exact ⟨rfl, rfl, rfl, trivial⟩
theorem so10_ : SpecOk P1 gl1 10 sp10 := by
  intro vs ps r h hp
  simp only [sp10] at h
  split at h
  · cases h; exact fn10 _ (hp _ (.head _)) (hp _ (.tail _ (.head _)))
  · cases h
theorem so10 : Sp1 10 sp10 := ⟨so10_, Proofs.Tryz.f10, _, by kernel_rfl, rfl, by kernel_rfl⟩
end Go.Sx

namespace Go.Sx.U
def violL (g : List Pln) (c : List Int) : List (Int × Int) := if forbTo g c g.length = -1 then [] else [(0, forbTo g c g.length)]
end Go.Sx.U
namespace Go.Sx
open U
def hVio : Hints := ⟨fun f k s => match f, k with
  | 76, 3 => hMapG plT (.int .i64) (fun _ => (0 : Int)) 8 10 5 [1, 9] s
  | _, _ => none, 5⟩
def hFor (c : List Int) : Hints := ⟨fun f k s => match f, k with
  | 57, 3 => match listAs s 8 plT with
    | some g => some ⟨Nat, fun i => s.at [3, 5, 8, 9] [tI 10 i], fun i => i ≤ List.length g ∧ forbTo g c i = -1, fun i => List.length g - i⟩
    | _ => none
  | _, _ => none, 5⟩
@[reducible] noncomputable def fb56 : Nat × Func := (56, Proofs.Tryz.f56)
@[reducible] noncomputable def fb82 : Nat × Func := (82, Proofs.Tryz.f82)
end Go.Sx
namespace Go.Sx
open U
def sp76 : FSpec := ⟨fun vs => match vs with
  | [.one (.sl (.pair (.arr 3 (.int .i64)) (.int .i64)) l), .one (.fn 77 [] [])] => some ([List.length l ≤ 1000000, ∀ p ∈ (show List Pln from l), plOk p], .val (.one (.frs (.int .i64) (List.map (fun _ => (0 : Int)) (show List Pln from l)))))
  | _ => none, true⟩
def sp54 : FSpec := ⟨fun vs => match vs with
  | [.one (.sl (.pair (.arr 3 (.int .i64)) (.int .i64)) g)] => some ([List.length g ≤ 16, ∀ p ∈ (show List Pln from g), plOk p], .val (iV 0))
  | _ => none, true⟩
def sp57 : FSpec := ⟨fun vs => match vs with
  | [.one (.sl (.pair (.arr 3 (.int .i64)) (.int .i64)) g), .agg [.arr 3 (.int .i64) c]] => some ([List.length g ≤ 16, ∀ p ∈ (show List Pln from g), plOk p, List.length c = 3, Bd 16384 c], .val (iV (forbTo g c (List.length g))))
  | _ => none, true⟩
def sp83 : FSpec := ⟨fun vs => match vs with
  | [.one (.flt .f32 b)] => some ([chkS b = 0], .val (iV (six b)))
  | _ => none, true⟩
end Go.Sx

namespace Go.Sx
open U
theorem vc76 (l : List Pln) : exF (env false [(77, sp77)] []) hVio 0 76 Proofs.Tryz.f76 [.one (.sl plT l), .one (.fn 77 [] [])] (.val (.one (.frs (.int .i64) (l.map fun _ => (0 : Int))))) = (let q0 := (↑(List.length l) : Int); (∃ (g : Nat), Nat.le g (List.length l) ∧ (0 : Int) = (↑g : Int) ∧ q0 = q0 ∧ l = l ∧ List.map (fun (x : List Int × Int) => (0 : Int)) (List.take g l) = [] ∧ True) ∧ ∀ (g : Nat), let q1 := (List.getD l g (List.replicate (3 : Nat) (0 : Int), (0 : Int))); Nat.le g (List.length l) → splitB (decide ((↑g : Int) < q0)) (((0 : Int) ≤ (↑g : Int) ∧ (↑g : Int) < q0) ∧ plOk (q1.1, q1.2) ∧ room (List.length (List.map (fun (x : List Int × Int) => (0 : Int)) (List.take g l)) + (1 : Nat)) (8 : Nat) ∧ fits IntKind.i64 ((↑g : Int) + (1 : Int)) ∧ ∃ (g' : Nat), Nat.le g' (List.length l) ∧ List.length l - g' < List.length l - g ∧ (↑g : Int) + (1 : Int) = (↑g' : Int) ∧ q0 = q0 ∧ l = l ∧ List.map (fun (x : List Int × Int) => (0 : Int)) (List.take g l) ++ [(0 : Int)] = List.map (fun (x : List Int × Int) => (0 : Int)) (List.take g' l) ∧ True) (List.map (fun (x : List Int × Int) => (0 : Int)) (List.take g l) = List.map (fun (x : Pln) => (0 : Int)) l ∧ True)) := by
  kernel_rfl
theorem vc54 (g : List Pln) : exF (env false [(76, sp76), (21, sp21)] []) h0 0 54 Proofs.Tryz.f54 [.one (.sl plT g)] (.val (iV 0)) = (splitB (decide ((16 : Int) < (↑(List.length g) : Int))) ((5 : Int) = (0 : Int) ∧ True) (List.length g ≤ (1000000 : Nat) ∧ (∀ (p : Pln), p ∈ g → plOk p) ∧ List.length (List.map (fun (x : Pln) => (0 : Int)) g) ≤ (1000000000 : Nat) ∧ first (List.map (fun (x : Pln) => (0 : Int)) g) = (0 : Int) ∧ True)) := by
  kernel_rfl
theorem vc57 (g : List Pln) (c : List Int) : exF (env false [(23, sp23)] []) (hFor c) 0 57 Proofs.Tryz.f57 [.one (.sl plT g), c3V c] (.val (iV (forbTo g c g.length))) = (let q1 := (↑(List.length g) : Int); (∃ (g_1 : Nat), (g_1 ≤ List.length g ∧ forbTo g c g_1 = (-1 : Int)) ∧ (0 : Int) = (↑g_1 : Int) ∧ q1 = q1 ∧ g = g ∧ (-1 : Int) = (-1 : Int) ∧ c = c ∧ True) ∧ ∀ (g_1 : Nat), let q0 := (List.getD g g_1 (List.replicate (3 : Nat) (0 : Int), (0 : Int))); g_1 ≤ List.length g ∧ forbTo g c g_1 = (-1 : Int) → splitB (decide ((↑g_1 : Int) < q1)) (((0 : Int) ≤ (↑g_1 : Int) ∧ (↑g_1 : Int) < q1) ∧ List.length q0.1 = (3 : Nat) ∧ List.length c = (3 : Nat) ∧ Bd (1000000 : Int) q0.1 ∧ Bd (1000000 : Int) c ∧ splitB (decide (q0.2 < dotL q0.1 c)) ((↑g_1 : Int) = forbTo g c (List.length g) ∧ True) (fits IntKind.i64 ((↑g_1 : Int) + (1 : Int)) ∧ ∃ (g' : Nat), (g' ≤ List.length g ∧ forbTo g c g' = (-1 : Int)) ∧ List.length g - g' < List.length g - g_1 ∧ (↑g_1 : Int) + (1 : Int) = (↑g' : Int) ∧ q1 = q1 ∧ g = g ∧ (-1 : Int) = (-1 : Int) ∧ c = c ∧ True)) ((-1 : Int) = forbTo g c (List.length g) ∧ True)) := by
  kernel_rfl
theorem vc83 (b : Nat) : exF (env false [] []) h0 0 83 Proofs.Tryz.f83 [fV b] (.val (iV (six b))) = (Option.isSome (Ieee.Format.mul (FloatKind.format FloatKind.f32) (1098907648 : Nat) b) = true ∧ (Option.isSome (Ieee.Datum.toInt Ieee.Toward.zero (FloatKind.decode FloatKind.f32 (Option.getD (Ieee.Format.mul (FloatKind.format FloatKind.f32) (1098907648 : Nat) b) (0 : Nat)))) = true ∧ IntKind.min IntKind.i64 ≤ Option.getD (Ieee.Datum.toInt Ieee.Toward.zero (FloatKind.decode FloatKind.f32 (Option.getD (Ieee.Format.mul (FloatKind.format FloatKind.f32) (1098907648 : Nat) b) (0 : Nat)))) (0 : Int) ∧ Option.getD (Ieee.Datum.toInt Ieee.Toward.zero (FloatKind.decode FloatKind.f32 (Option.getD (Ieee.Format.mul (FloatKind.format FloatKind.f32) (1098907648 : Nat) b) (0 : Nat)))) (0 : Int) ≤ IntKind.max IntKind.i64) ∧ Option.getD (Ieee.Datum.toInt Ieee.Toward.zero (FloatKind.decode FloatKind.f32 (Option.getD (Ieee.Format.mul (FloatKind.format FloatKind.f32) (1098907648 : Nat) b) (0 : Nat)))) (0 : Int) = six b ∧ True) := by
  kernel_rfl
end Go.Sx

namespace Go.Sx
open U
theorem forb_keep (g : List Pln) (c : List Int) {n m : Nat} (h : n ≤ m) (hf : forbTo g c n ≠ -1) : forbTo g c m = forbTo g c n := by
  induction m with
  | zero => rw [Nat.le_zero.1 h]
  | succ m ih =>
    by_cases e : n = m + 1
    · rw [e]
    · have := ih (by omega)
      show (if forbTo g c m ≠ -1 then forbTo g c m else _) = _
      rw [if_pos (by rw [this]; exact hf), this]
theorem fn76 (l : List Pln) (hl : l.length ≤ 1000000) (h : ∀ p ∈ l, plOk p) : Fn P1 gl1 76 [.one (.sl plT l), .one (.fn 77 [] [])] (.val (.one (.frs (.int .i64) (l.map fun _ => (0 : Int))))) true := by
  refine Fn.flat ?_ rfl
  refine fn_of false [(77, sp77)] [] hVio 0 Proofs.Tryz.f76 ⟨so77, trivial⟩ trivial (by kernel_rfl) rfl (by kernel_rfl) rfl rfl rfl ?_
  rw [vc76]
  try simp only [splitB_iff, -eq_self]
  refine ⟨⟨0, Nat.zero_le _, rfl, by trivial, by trivial, by simp⟩, fun g hg => ⟨fun hlt => ?_, fun hge => ?_⟩⟩
  · have hlt' : g < l.length := by simpa using hlt
    refine ⟨by omega, h _ (getD_mem' (d := ([0, 0, 0], 0)) hlt'), by simp only [room, List.length_map, List.length_take]; omega, by simp only [fits]; omega, g + 1, hlt', by omega, by simp, by trivial, by trivial, ?_, trivial⟩
    rw [List.take_succ_eq_append_getElem hlt', List.map_append]
    rfl
  · have hge' : ¬ g < l.length := by simpa using hge
    rw [List.take_of_length_le (by omega)]
    exact ⟨rfl, trivial⟩
theorem so76_ : SpecOk P1 gl1 76 sp76 := by
  intro vs ps r h hp
  simp only [sp76] at h
  split at h
  · cases h; exact fn76 _ (hp _ (.head _)) (hp _ (.tail _ (.head _)))
  · cases h
theorem so76 : Sp1 76 sp76 := ⟨so76_, Proofs.Tryz.f76, _, by kernel_rfl, rfl, by kernel_rfl⟩
theorem fn54 (g : List Pln) (hl : g.length ≤ 16) (h : ∀ p ∈ g, plOk p) : Fn P1 gl1 54 [.one (.sl plT g)] (.val (iV 0)) true := by
  refine Fn.flat ?_ rfl
  refine fn_of false [(76, sp76), (21, sp21)] [] h0 0 Proofs.Tryz.f54 ⟨so76, so21, trivial⟩ trivial (by kernel_rfl) rfl (by kernel_rfl) rfl rfl rfl ?_
  rw [vc54]
  try simp only [splitB_iff, -eq_self]
  have e : (g.map fun _ => (0 : Int)).length ≤ 1000000000 := by rw [List.length_map]; omega
  have e1 : first ((g.map fun _ => (0 : Int)).map fun n => n) = 0 := first_zeros fun n hn => by
    obtain ⟨_, _, h⟩ := List.mem_map.1 hn
    exact h.symm
  rw [List.map_id'] at e1
  refine ⟨fun h16 => ?_, fun _ => ⟨by omega, h, e, e1, trivial⟩⟩
  have := of_decide_eq_true h16
  omega
theorem so54_ : SpecOk P1 gl1 54 sp54 := by
  intro vs ps r h hp
  simp only [sp54] at h
  split at h
  · cases h; exact fn54 _ (hp _ (.head _)) (hp _ (.tail _ (.head _)))
  · cases h
theorem so54 : Sp1 54 sp54 := ⟨so54_, Proofs.Tryz.f54, _, by kernel_rfl, rfl, by kernel_rfl⟩
theorem fn57 (g : List Pln) (c : List Int) (hl : g.length ≤ 16) (h : ∀ p ∈ g, plOk p) (hc : c.length = 3) (hb : Bd 16384 c) : Fn P1 gl1 57 [.one (.sl plT g), c3V c] (.val (iV (forbTo g c g.length))) true := by
  refine Fn.flat ?_ rfl
  refine fn_of false [(23, sp23)] [] (hFor c) 0 Proofs.Tryz.f57 ⟨so23, trivial⟩ trivial (by kernel_rfl) rfl (by kernel_rfl) rfl rfl rfl ?_
  rw [vc57]
  try simp only [splitB_iff, -eq_self]
  refine ⟨⟨0, ⟨Nat.zero_le _, rfl⟩, rfl, rfl, rfl, rfl, rfl, trivial⟩, fun n hn => ⟨fun hlt => ?_, fun hge => ?_⟩⟩
  · have hlt' : n < g.length := by simpa using hlt
    have hm := h _ (getD_mem' (d := (List.replicate 3 (0 : Int), (0 : Int))) hlt')
    obtain ⟨h1, h2, h3, h4⟩ := hm
    have st : forbTo g c (n + 1) = if (List.getD g n (List.replicate 3 (0 : Int), (0 : Int))).2 < dotL (List.getD g n (List.replicate 3 (0 : Int), (0 : Int))).1 c then (n : Int) else -1 := by
      show (if forbTo g c n ≠ -1 then forbTo g c n else _) = _
      rw [if_neg (by simp [hn.2])]
      rfl
    refine ⟨⟨by omega, by omega⟩, h1, hc, fun x hx => by have := h2 x hx; omega, fun x hx => by have := hb x hx; omega, fun hd => ?_, fun hd => ?_⟩
    · have hd := of_decide_eq_true hd
      rw [if_pos hd] at st
      have := forb_keep g c (n := n + 1) (m := g.length) hlt' (by rw [st]; omega)
      rw [this, st]
      exact ⟨rfl, trivial⟩
    · have hd := of_decide_eq_false hd
      rw [if_neg hd] at st
      refine ⟨by simp only [fits]; omega, n + 1, ⟨hlt', st⟩, by omega, by simp, rfl, rfl, rfl, rfl, trivial⟩
  · have hge' : ¬ n < g.length := by simpa using hge
    have e : n = g.length := by have := hn.1; omega
    subst e
    exact ⟨hn.2.symm, trivial⟩
theorem so57_ : SpecOk P1 gl1 57 sp57 := by
  intro vs ps r h hp
  simp only [sp57] at h
  split at h
  · cases h; exact fn57 _ _ (hp _ (.head _)) (hp _ (.tail _ (.head _))) (hp _ (.tail _ (.tail _ (.head _)))) (hp _ (.tail _ (.tail _ (.tail _ (.head _)))))
  · cases h
theorem so57 : Sp1 57 sp57 := ⟨so57_, Proofs.Tryz.f57, _, by kernel_rfl, rfl, by kernel_rfl⟩
theorem fn83 (b : Nat) (hb : chkS b = 0) : Fn P1 gl1 83 [fV b] (.val (iV (six b))) true := by
  refine Fn.flat ?_ rfl
  refine fn_of false [] [] h0 0 Proofs.Tryz.f83 trivial trivial (by kernel_rfl) rfl (by kernel_rfl) rfl rfl rfl ?_
  rw [vc83]
  try simp only [splitB_iff, -eq_self]
  obtain ⟨y, e1, e2, e3⟩ := six_step hb
  have e2' : Ieee.Datum.toInt .zero (FloatKind.decode .f32 y) = some (six b) := e2
  simp only [fmt32, e1, e2', Option.isSome_some, Option.getD_some]
  refine ⟨trivial, ⟨trivial, ?_, ?_⟩, trivial, trivial⟩
  · show (-9223372036854775808 : Int) ≤ _; omega
  · show _ ≤ (9223372036854775807 : Int); omega
theorem so83_ : SpecOk P1 gl1 83 sp83 := by
  intro vs ps r h hp
  simp only [sp83] at h
  split at h
  · cases h; exact fn83 _ (hp _ (.head _))
  · cases h
theorem so83 : Sp1 83 sp83 := ⟨so83_, Proofs.Tryz.f83, _, by kernel_rfl, rfl, by kernel_rfl⟩
end Go.Sx

namespace Go.Sx.U
def nameAt (l : List UInt8) (i : Nat) : Bool :=
  ((65 ≤ (l.getD i 0).toNat && (l.getD i 0).toNat ≤ 90) || (97 ≤ (l.getD i 0).toNat && (l.getD i 0).toNat ≤ 122)) || (i != 0 && ((48 ≤ (l.getD i 0).toNat && (l.getD i 0).toNat ≤ 57) || (l.getD i 0).toNat == 95))
def isName (l : List UInt8) : Bool := (List.range l.length).all (nameAt l) && (decide (l ≠ []) && decide (l.length ≤ 24))
abbrev Pcs := List UInt8 × Int × Int × List Nat
def picOk (p : Pcs) : Prop := isName p.1 = true ∧ p.2.1 = 1 ∧ p.2.2.1 = 1 ∧ p.2.2.2.length = 1 ∧ ∀ b ∈ p.2.2.2, chkS b = 0
end Go.Sx.U
namespace Go.Sx
open U
abbrev picT : Ty := .pair .str (.pair (.int .i64) (.pair (.int .i64) (.sl (.flt .f32))))
def hStr (t : Nat) (keep : List Nat) (q : List UInt8 → Nat → Prop) (s : St) : Option LInv := match lookT s.tm t with
  | some (.val (.one (.ptr id 0))) => match lookO s.ob id with
    | some (.sit l _) => some ⟨Nat, fun i => ⟨keepT (t :: keep) s.tm, [(id, some (.sit l i))], s.nx, s.lr⟩, fun i => i ≤ List.length l ∧ q l i, fun i => List.length l - i⟩
    | _ => none
  | _ => none
def nameTo (l : List UInt8) (i : Nat) : Prop := ∀ j, j < i → nameAt l j = true
def hPic : Hints := ⟨fun f k s => match f, k with
  | 96, 2 => hStr 7 [0] nameTo s
  | 98, 3 => hMapG (.flt .f32) (.int .i64) chkS 8 10 5 [1, 9] s
  | 94, 2 => hFirst 5 6 7 s
  | 78, 3 => hMapG picT (.int .i64) (fun _ => (0 : Int)) 8 10 5 [1, 9] s
  | _, _ => none, 5⟩
end Go.Sx
namespace Go.Sx
open U
def sp96 : FSpec := ⟨fun vs => match vs with
  | [.one (.str l)] => some ([], .val (bV (isName l)))
  | _ => none, true⟩
def sp97 : FSpec := ⟨fun vs => match vs with
  | [.one (.int .i64 n), .one (.int .i64 lo), .one (.int .i64 hi)] => some ([], .val (iV (within n lo hi)))
  | _ => none, true⟩
def sp94 : FSpec := ⟨fun vs => match vs with
  | [.one (.sl (.int .i64) xs)] => some ([List.length xs ≤ 1000000000], .val (iV (first xs)))
  | _ => none, true⟩
def sp98 : FSpec := ⟨fun vs => match vs with
  | [.one (.sl (.flt .f32) l), .one (.fn 87 [] [])] => some ([List.length l ≤ 1000000], .val (.one (.frs (.int .i64) (List.map chkS (show List Nat from l)))))
  | _ => none, true⟩
def sp79 : FSpec := ⟨fun vs => match vs with
  | [.agg [.one (.str nm), .one (.int .i64 w), .one (.int .i64 k), .one (.sl (.flt .f32) l)]] => some ([picOk (nm, w, k, l)], .val (iV 0))
  | _ => none, true⟩
def sp78 : FSpec := ⟨fun vs => match vs with
  | [.one (.sl (.pair .str (.pair (.int .i64) (.pair (.int .i64) (.sl (.flt .f32))))) l), .one (.fn 79 [] [])] => some ([List.length l ≤ 1000000, ∀ p ∈ (show List Pcs from l), picOk p], .val (.one (.frs (.int .i64) (List.map (fun _ => (0 : Int)) (show List Pcs from l)))))
  | _ => none, true⟩
def sp80 : FSpec := ⟨fun vs => match vs with
  | [.agg [.one (.str nm), .one (.int .i64 w), .one (.int .i64 k), .one (.sl (.flt .f32) l)]] => some ([], .val (.agg [.arr 2 (.int .i64) [w, k]]))
  | _ => none, true⟩
def sp55 : FSpec := ⟨fun vs => match vs with
  | [.agg [.arr 3 (.pair .str (.pair (.int .i64) (.pair (.int .i64) (.sl (.flt .f32))))) [p, q, r]]] => some ([picOk (show Pcs from p), picOk (show Pcs from q), picOk (show Pcs from r)], .val (iV 0))
  | _ => none, true⟩
def sp19 : FSpec := ⟨fun vs => match vs with
  | [.one (.sl (.pair (.arr 3 (.int .i64)) (.int .i64)) g), .agg [.arr 3 (.pair .str (.pair (.int .i64) (.pair (.int .i64) (.sl (.flt .f32))))) [(n0, 1, 1, [b0]), (n1, 1, 1, [b1]), (n2, 1, 1, [b2])]]] => some ([List.length g ≤ 16, ∀ p ∈ (show List Pln from g), plOk p, picOk (n0, 1, 1, [b0]), picOk (n1, 1, 1, [b1]), picOk (n2, 1, 1, [b2])], .tup [.one (.frs (.pair (.int .i64) (.int .i64)) (violL g [six b0, six b1, six b2])), iV 0])
  | _ => none, true⟩
end Go.Sx

namespace Go.Sx
open U
theorem vc96 (l : List UInt8) : exF (env false [] []) hPic 0 96 Proofs.Tryz.f96 [sV l] (.val (bV (isName l))) = ((∃ (g : Nat), (g ≤ List.length l ∧ ∀ (j : Nat), j < g → nameAt l j = true) ∧ l = l ∧ (l = l ∧ (0 : Nat) = g) ∧ True) ∧ ∀ (g : Nat), let q0 := (List.getD l g (0 : UInt8)); (g ≤ List.length l ∧ ∀ (j : Nat), j < g → nameAt l j = true) → (List.length l ≤ g → (bif l != Array.toList (ByteArray.data { data := #[] }) then decide ((↑(List.length l) : Int) ≤ (24 : Int)) else false) = isName l ∧ True) ∧ ∀ (c w : Nat), g < List.length l ∧ (UInt8.toNat q0 < (128 : Nat) → c = UInt8.toNat q0 ∧ w = (1 : Nat)) ∧ ((128 : Nat) ≤ UInt8.toNat q0 → (128 : Nat) ≤ c ∧ (1 : Nat) ≤ w) → splitB (bif !bif bif decide ((65 : Int) ≤ (↑c : Int)) then decide ((↑c : Int) ≤ (90 : Int)) else false then true else bif decide ((97 : Int) ≤ (↑c : Int)) then decide ((↑c : Int) ≤ (122 : Int)) else false then bif (↑g : Int) == (0 : Int) then true else bif bif decide ((↑c : Int) < (48 : Int)) then true else decide ((57 : Int) < (↑c : Int)) then (↑c : Int) != (95 : Int) else false else false) (false = isName l ∧ True) (∃ (g' : Nat), (g' ≤ List.length l ∧ ∀ (j : Nat), j < g' → nameAt l j = true) ∧ List.length l - g' < List.length l - g ∧ l = l ∧ (l = l ∧ g + w = g') ∧ True)) := by
  kernel_rfl
theorem vc97 (n lo hi : Int) : exF (env false [(95, sp95)] []) h0 0 97 Proofs.Tryz.f97 [iV n, iV lo, iV hi] (.val (iV (within n lo hi))) = (whenE (bif decide (n < lo) then true else decide (hi < n)) (3 : Int) = within n lo hi ∧ True) := by
  kernel_rfl
theorem vc94 (xs : List Int) : exF (env false [] []) hPic 0 94 Proofs.Tryz.f94 [.one (.sl (.int .i64) xs)] (.val (iV (first xs))) = (let q0 := (↑(List.length xs) : Int); (∃ (g : Nat), (g ≤ List.length xs ∧ first xs = first (List.drop g xs)) ∧ (0 : Int) = (↑g : Int) ∧ q0 = q0 ∧ xs = xs ∧ True) ∧ ∀ (g : Nat), g ≤ List.length xs ∧ first xs = first (List.drop g xs) → splitB (decide ((↑g : Int) < q0)) (((0 : Int) ≤ (↑g : Int) ∧ (↑g : Int) < q0) ∧ splitB (List.getD xs g (0 : Int) != (0 : Int)) (List.getD xs g (0 : Int) = first xs ∧ True) (fits IntKind.i64 ((↑g : Int) + (1 : Int)) ∧ ∃ (g' : Nat), (g' ≤ List.length xs ∧ first xs = first (List.drop g' xs)) ∧ List.length xs - g' < List.length xs - g ∧ (↑g : Int) + (1 : Int) = (↑g' : Int) ∧ q0 = q0 ∧ xs = xs ∧ True)) ((0 : Int) = first xs ∧ True)) := by
  kernel_rfl
theorem vc98 (l : List Nat) : exF (env false [(87, sp87)] []) hPic 0 98 Proofs.Tryz.f98 [.one (.sl (.flt .f32) l), .one (.fn 87 [] [])] (.val (.one (.frs (.int .i64) (l.map chkS)))) = (let q0 := (↑(List.length l) : Int); (∃ (g : Nat), Nat.le g (List.length l) ∧ (0 : Int) = (↑g : Int) ∧ q0 = q0 ∧ l = l ∧ List.map chkS (List.take g l) = [] ∧ True) ∧ ∀ (g : Nat), Nat.le g (List.length l) → splitB (decide ((↑g : Int) < q0)) (((0 : Int) ≤ (↑g : Int) ∧ (↑g : Int) < q0) ∧ room (List.length (List.map chkS (List.take g l)) + (1 : Nat)) (8 : Nat) ∧ fits IntKind.i64 ((↑g : Int) + (1 : Int)) ∧ ∃ (g' : Nat), Nat.le g' (List.length l) ∧ List.length l - g' < List.length l - g ∧ (↑g : Int) + (1 : Int) = (↑g' : Int) ∧ q0 = q0 ∧ l = l ∧ List.map chkS (List.take g l) ++ [chkS (List.getD l g (0 : Nat))] = List.map chkS (List.take g' l) ∧ True) (List.map chkS (List.take g l) = List.map chkS l ∧ True)) := by
  kernel_rfl
theorem vc79 (nm : List UInt8) (w k : Int) (l : List Nat) : exF (env false [(96, sp96), (95, sp95), (97, sp97), (94, sp94), (98, sp98)] []) h0 0 79 Proofs.Tryz.f79 [.agg [.one (.str nm), .one (.int .i64 w), .one (.int .i64 k), .one (.sl (.flt .f32) l)]] (.val (iV 0)) = ((3 : Nat) ≤ (1000000000 : Nat) ∧ splitB (first [whenE (!isName nm) (8 : Int), within w (1 : Int) (64 : Int), within k (1 : Int) (64 : Int)] != (0 : Int)) (first [whenE (!isName nm) (8 : Int), within w (1 : Int) (64 : Int), within k (1 : Int) (64 : Int)] = (0 : Int) ∧ True) (fits IntKind.i64 (w * k) ∧ splitB ((↑(List.length l) : Int) != w * k) ((2 : Int) = (0 : Int) ∧ True) (List.length l ≤ (1000000 : Nat) ∧ List.length (List.map chkS l) ≤ (1000000000 : Nat) ∧ first (List.map chkS l) = (0 : Int) ∧ True))) := by
  kernel_rfl
theorem vc78 (l : List Pcs) : exF (env false [(79, sp79)] []) hPic 0 78 Proofs.Tryz.f78 [.one (.sl picT l), .one (.fn 79 [] [])] (.val (.one (.frs (.int .i64) (l.map fun _ => (0 : Int))))) = (let q1 := (↑(List.length l) : Int); (∃ (g : Nat), Nat.le g (List.length l) ∧ (0 : Int) = (↑g : Int) ∧ q1 = q1 ∧ l = l ∧ List.map (fun (x : List UInt8 × Int × Int × List Nat) => (0 : Int)) (List.take g l) = [] ∧ True) ∧ ∀ (g : Nat), let q0 := (List.getD l g ([], (0 : Int), (0 : Int), [])); Nat.le g (List.length l) → splitB (decide ((↑g : Int) < q1)) (((0 : Int) ≤ (↑g : Int) ∧ (↑g : Int) < q1) ∧ picOk (q0.1, q0.2.1, q0.2.2.1, q0.2.2.2) ∧ room (List.length (List.map (fun (x : List UInt8 × Int × Int × List Nat) => (0 : Int)) (List.take g l)) + (1 : Nat)) (8 : Nat) ∧ fits IntKind.i64 ((↑g : Int) + (1 : Int)) ∧ ∃ (g' : Nat), Nat.le g' (List.length l) ∧ List.length l - g' < List.length l - g ∧ (↑g : Int) + (1 : Int) = (↑g' : Int) ∧ q1 = q1 ∧ l = l ∧ List.map (fun (x : List UInt8 × Int × Int × List Nat) => (0 : Int)) (List.take g l) ++ [(0 : Int)] = List.map (fun (x : List UInt8 × Int × Int × List Nat) => (0 : Int)) (List.take g' l) ∧ True) (List.map (fun (x : List UInt8 × Int × Int × List Nat) => (0 : Int)) (List.take g l) = List.map (fun (x : Pcs) => (0 : Int)) l ∧ True)) := by
  kernel_rfl
theorem vc80 (nm : List UInt8) (w k : Int) (l : List Nat) : exF (env false [] []) h0 0 80 Proofs.Tryz.f80 [.agg [.one (.str nm), .one (.int .i64 w), .one (.int .i64 k), .one (.sl (.flt .f32) l)]] (.val (.agg [.arr 2 (.int .i64) [w, k]])) = ([w, k] = [w, k] ∧ True) := by
  kernel_rfl
theorem vc55 (p q r : Pcs) : exF (env false [(78, sp78), (21, sp21), (81, sp81), (80, sp80)] []) h0 0 55 Proofs.Tryz.f55 [.agg [.arr 3 picT [p, q, r]]] (.val (iV 0)) = (((0 : Int) ≤ (0 : Int) ∧ (0 : Int) ≤ (3 : Int) ∧ (3 : Int) ≤ (3 : Int)) ∧ (3 : Nat) = (3 : Nat) ∧ (3 : Nat) ≤ (1000000 : Nat) ∧ (∀ (p_1 : Pcs), p_1 ∈ [p, q, r] → picOk p_1) ∧ List.length (List.map (fun (x : Pcs) => (0 : Int)) [p, q, r]) ≤ (1000000000 : Nat) ∧ ((0 : Int) ≤ (0 : Int) ∧ (0 : Int) < (3 : Int)) ∧ (0 : Nat) < (3 : Nat) ∧ ((0 : Int) ≤ (1 : Int) ∧ (1 : Int) < (3 : Int)) ∧ (1 : Nat) < (3 : Nat) ∧ ((!eqT (Ty.arr (2 : Nat) (Ty.int IntKind.i64)) [Prod.fst (Prod.snd p), Prod.fst (Prod.snd (Prod.snd p))] [Prod.fst (Prod.snd q), Prod.fst (Prod.snd (Prod.snd q))]) = false → (0 : Int) ≤ (0 : Int) ∧ (0 : Int) < (3 : Int)) ∧ ((!eqT (Ty.arr (2 : Nat) (Ty.int IntKind.i64)) [Prod.fst (Prod.snd p), Prod.fst (Prod.snd (Prod.snd p))] [Prod.fst (Prod.snd q), Prod.fst (Prod.snd (Prod.snd q))]) = false → (0 : Nat) < (3 : Nat)) ∧ ((!eqT (Ty.arr (2 : Nat) (Ty.int IntKind.i64)) [Prod.fst (Prod.snd p), Prod.fst (Prod.snd (Prod.snd p))] [Prod.fst (Prod.snd q), Prod.fst (Prod.snd (Prod.snd q))]) = false → (0 : Int) ≤ (2 : Int) ∧ (2 : Int) < (3 : Int)) ∧ ((!eqT (Ty.arr (2 : Nat) (Ty.int IntKind.i64)) [Prod.fst (Prod.snd p), Prod.fst (Prod.snd (Prod.snd p))] [Prod.fst (Prod.snd q), Prod.fst (Prod.snd (Prod.snd q))]) = false → (2 : Nat) < (3 : Nat)) ∧ whenE (bif !eqT (Ty.arr (2 : Nat) (Ty.int IntKind.i64)) [Prod.fst (Prod.snd p), Prod.fst (Prod.snd (Prod.snd p))] [Prod.fst (Prod.snd q), Prod.fst (Prod.snd (Prod.snd q))] then true else !eqT (Ty.arr (2 : Nat) (Ty.int IntKind.i64)) [Prod.fst (Prod.snd p), Prod.fst (Prod.snd (Prod.snd p))] [Prod.fst (Prod.snd r), Prod.fst (Prod.snd (Prod.snd r))]) (2 : Int) = (0 : Int) ∧ True) := by
  kernel_rfl
theorem vc19 (g : List Pln) (n0 n1 n2 : List UInt8) (b0 b1 b2 : Nat) : exF (env false [(54, sp54), (55, sp55), (21, sp21), (57, sp57), (83, sp83)] [fb56, fb82]) (hu 6) 6 19 Proofs.Tryz.f19 [.one (.sl plT g), .agg [.arr 3 picT [(n0, 1, 1, [b0]), (n1, 1, 1, [b1]), (n2, 1, 1, [b2])]]] (.tup [.one (.frs (.pair (.int .i64) (.int .i64)) (violL g [six b0, six b1, six b2])), iV 0]) = (let q0 := ((0 : Int) ≤ (0 : Int) ∧ (0 : Int) < (1 : Int)); let q1 := ((0 : Int), forbTo g [six b0, six b1, six b2] (List.length g)); let q2 := ((0 : Int) ≤ (0 : Int) ∧ (0 : Int) < (3 : Int)); List.length g ≤ (16 : Nat) ∧ (∀ (p : Pln), p ∈ g → plOk p) ∧ picOk (n0, (1 : Int), (1 : Int), [b0]) ∧ picOk (n1, (1 : Int), (1 : Int), [b1]) ∧ picOk (n2, (1 : Int), (1 : Int), [b2]) ∧ (2 : Nat) ≤ (1000000000 : Nat) ∧ q2 ∧ (0 : Nat) < (3 : Nat) ∧ q2 ∧ (0 : Nat) < (3 : Nat) ∧ q0 ∧ chkS b0 = (0 : Int) ∧ ((0 : Int) ≤ (1 : Int) ∧ (1 : Int) < (3 : Int)) ∧ (1 : Nat) < (3 : Nat) ∧ q0 ∧ chkS b1 = (0 : Int) ∧ ((0 : Int) ≤ (2 : Int) ∧ (2 : Int) < (3 : Int)) ∧ (2 : Nat) < (3 : Nat) ∧ q0 ∧ chkS b2 = (0 : Int) ∧ List.length g ≤ (16 : Nat) ∧ (∀ (p : Pln), p ∈ g → plOk p) ∧ (3 : Nat) = (3 : Nat) ∧ Bd (16384 : Int) [six b0, six b1, six b2] ∧ splitB (!eqT (Ty.pair (Ty.int IntKind.i64) (Ty.int IntKind.i64)) q1 ((0 : Int), (-1 : Int))) (room (1 : Nat) (16 : Nat) ∧ fits IntKind.i64 (1 : Int) ∧ [q1] = violL g [six b0, six b1, six b2] ∧ (0 : Int) = (0 : Int) ∧ True) (fits IntKind.i64 (1 : Int) ∧ violL g [six b0, six b1, six b2] = [] ∧ (0 : Int) = (0 : Int) ∧ True)) := by
  kernel_rfl
end Go.Sx

namespace Go.Sx
open U
theorem isName_of {l : List UInt8} (h : ∀ j, j < l.length → nameAt l j = true) : isName l = (decide (l ≠ []) && decide (l.length ≤ 24)) := by
  unfold isName
  have : (List.range l.length).all (nameAt l) = true := by
    rw [List.all_eq_true]
    intro j hj
    exact h j (List.mem_range.1 hj)
  rw [this]; rfl
theorem isName_not {l : List UInt8} {j : Nat} (hj : j < l.length) (h : nameAt l j = false) : isName l = false := by
  unfold isName
  have : (List.range l.length).all (nameAt l) = false := by
    rw [List.all_eq_false]
    exact ⟨j, List.mem_range.2 hj, by simp [h]⟩
  rw [this]; rfl
theorem rune_name {l : List UInt8} {g c w : Nat} (h : (UInt8.toNat (List.getD l g (0 : UInt8)) < 128 → c = UInt8.toNat (List.getD l g (0 : UInt8)) ∧ w = 1) ∧ (128 ≤ UInt8.toNat (List.getD l g (0 : UInt8)) → 128 ≤ c ∧ 1 ≤ w)) :
    (bif !bif bif decide ((65 : Int) ≤ (c : Int)) then decide ((c : Int) ≤ (90 : Int)) else false then true else bif decide ((97 : Int) ≤ (c : Int)) then decide ((c : Int) ≤ (122 : Int)) else false then bif (g : Int) == (0 : Int) then true else bif bif decide ((c : Int) < (48 : Int)) then true else decide ((57 : Int) < (c : Int)) then (c : Int) != (95 : Int) else false else false) = !nameAt l g := by
  unfold nameAt
  generalize UInt8.toNat (List.getD l g 0) = b at *
  have e0 : ((g : Int) == 0) = decide (g = 0) := by
    by_cases hg : g = 0 <;> simp [hg]
  have e95 : ((c : Int) != 95) = decide (c ≠ 95) := by
    by_cases hg : c = 95
    · subst hg; rfl
    · simp [hg]; omega
  rw [e0, e95]
  have key : ∀ (p1 p2 p3 p4 p5 p6 p7 p8 : Bool), (bif !bif bif p1 then p2 else false then true else bif p3 then p4 else false then bif p5 then true else bif bif p6 then true else p7 then p8 else false else false) = !((p1 && p2) || (p3 && p4) || (!p5 && ((!p6 && !p7) || !p8))) := by decide
  rw [key]
  congr 1
  have hb : (bne g 0) = !decide (g = 0) := by by_cases hg : g = 0 <;> simp [hg]
  rw [hb]
  by_cases hlt : b < 128
  · obtain ⟨rfl, _⟩ := h.1 hlt
    have f1 : decide ((65 : Int) ≤ (c : Int)) = decide (65 ≤ c) := decide_eq_decide.2 (by omega)
    have f2 : decide ((c : Int) ≤ 90) = decide (c ≤ 90) := decide_eq_decide.2 (by omega)
    have f3 : decide ((97 : Int) ≤ (c : Int)) = decide (97 ≤ c) := decide_eq_decide.2 (by omega)
    have f4 : decide ((c : Int) ≤ 122) = decide (c ≤ 122) := decide_eq_decide.2 (by omega)
    have f5 : (!decide ((c : Int) < 48)) = decide (48 ≤ c) := by rw [← decide_not]; exact decide_eq_decide.2 (by omega)
    have f6 : (!decide ((57 : Int) < (c : Int))) = decide (c ≤ 57) := by rw [← decide_not]; exact decide_eq_decide.2 (by omega)
    have f7 : (!decide (c ≠ 95)) = (c == 95) := by by_cases h95 : c = 95 <;> simp [h95]
    rw [f1, f2, f3, f4, f5, f6, f7]
  · obtain ⟨hc, _⟩ := h.2 (by omega)
    have f1 : decide ((c : Int) ≤ 90) = false := by simp; omega
    have f2 : decide ((c : Int) ≤ 122) = false := by simp; omega
    have f3 : decide ((57 : Int) < (c : Int)) = true := by simp; omega
    have f4 : decide (c ≠ 95) = true := by simp; omega
    have f5 : decide (b ≤ 90) = false := by simp; omega
    have f6 : decide (b ≤ 122) = false := by simp; omega
    have f7 : decide (b ≤ 57) = false := by simp; omega
    have f8 : (b == 95) = false := by simp; omega
    rw [f1, f2, f3, f4, f5, f6, f7, f8]
    simp
theorem fn96 (l : List UInt8)  : Fn P1 gl1 96 [sV l] (.val (bV (isName l))) true := by
  refine Fn.flat ?_ rfl
  refine fn_of false [] [] hPic 0 Proofs.Tryz.f96 trivial trivial (by kernel_rfl) rfl (by kernel_rfl) rfl rfl rfl ?_
  rw [vc96]
  try simp only [splitB_iff, -eq_self]
  refine ⟨⟨0, ⟨Nat.zero_le _, fun j hj => absurd hj (Nat.not_lt_zero _)⟩, rfl, ⟨rfl, rfl⟩, trivial⟩, fun g hg => ⟨fun hge => ⟨?_, trivial⟩, fun c w hc => ⟨fun h => ⟨?_, trivial⟩, fun h => ?_⟩⟩⟩
  · have e : g = l.length := by omega
    subst e
    rw [isName_of hg.2]
    show (bif l != [] then _ else _) = _
    cases l with
    | nil => rfl
    | cons a t =>
      have : ((((a :: t).length : Nat) : Int) ≤ 24) = ((a :: t).length ≤ 24) := by simp only [eq_iff_iff]; omega
      simp only [this]
      rfl
  · rw [rune_name hc.2] at h
    rw [isName_not hc.1 (by simpa using h)]
  · rw [rune_name hc.2] at h
    have hn : nameAt l g = true := by simpa using h
    have hw : w = 1 := by
      by_cases hlt : UInt8.toNat (List.getD l g 0) < 128
      · exact (hc.2.1 hlt).2
      · exfalso
        have h9 := hn
        unfold nameAt at h9
        generalize UInt8.toNat (List.getD l g 0) = b at *
        simp only [Bool.or_eq_true, Bool.and_eq_true, decide_eq_true_eq, beq_iff_eq] at h9
        omega
    subst hw
    refine ⟨g + 1, ⟨hc.1, fun j hj => ?_⟩, by omega, rfl, ⟨rfl, rfl⟩, trivial⟩
    rcases Nat.lt_succ_iff_lt_or_eq.1 hj with h1 | rfl
    · exact hg.2 j h1
    · exact hn
theorem so96_ : SpecOk P1 gl1 96 sp96 := by
  intro vs ps r h _
  simp only [sp96] at h
  split at h
  · cases h; exact fn96 _ 
  · cases h
theorem so96 : Sp1 96 sp96 := ⟨so96_, Proofs.Tryz.f96, _, by kernel_rfl, rfl, by kernel_rfl⟩
theorem fn97 (n lo hi : Int)  : Fn P1 gl1 97 [iV n, iV lo, iV hi] (.val (iV (within n lo hi))) true := by
  refine Fn.flat ?_ rfl
  refine fn_of false [(95, sp95)] [] h0 0 Proofs.Tryz.f97 ⟨so95, trivial⟩ trivial (by kernel_rfl) rfl (by kernel_rfl) rfl rfl rfl ?_
  rw [vc97]
  try simp only [splitB_iff, -eq_self]
  unfold within
  by_cases h1 : n < lo <;> by_cases h2 : hi < n <;> simp [h1, h2, whenE]
theorem so97_ : SpecOk P1 gl1 97 sp97 := by
  intro vs ps r h _
  simp only [sp97] at h
  split at h
  · cases h; exact fn97 _ _ _ 
  · cases h
theorem so97 : Sp1 97 sp97 := ⟨so97_, Proofs.Tryz.f97, _, by kernel_rfl, rfl, by kernel_rfl⟩
theorem fn94 (xs : List Int) (hl : xs.length ≤ 1000000000) : Fn P1 gl1 94 [.one (.sl (.int .i64) xs)] (.val (iV (first xs))) true := by
  refine Fn.flat ?_ rfl
  refine fn_of false [] [] hPic 0 Proofs.Tryz.f94 trivial trivial (by kernel_rfl) rfl (by kernel_rfl) rfl rfl rfl ?_
  rw [vc94]
  try simp only [splitB_iff, -eq_self]
  refine ⟨⟨0, by simp, by simp⟩, fun g hg => ⟨fun hlt => ?_, fun hge => ?_⟩⟩
  · have hlt' : g < xs.length := by simpa using hlt
    rw [getD_of hlt', hg.2, first_drop xs g hlt']
    refine ⟨by omega, fun h => ⟨?_, trivial⟩, fun h => ⟨by simp only [fits]; omega, g + 1, ⟨by omega, ?_⟩, by omega, by simp⟩⟩
    · rw [if_neg (by simpa using h)]
    · rw [if_pos (by simpa using h)]
  · have hge' : ¬ g < xs.length := by simpa using hge
    rw [hg.2, List.drop_of_length_le (by omega)]
    simp [first]
theorem so94_ : SpecOk P1 gl1 94 sp94 := by
  intro vs ps r h hp
  simp only [sp94] at h
  split at h
  · cases h; exact fn94 _ (hp _ (.head _))
  · cases h
theorem so94 : Sp1 94 sp94 := ⟨so94_, Proofs.Tryz.f94, _, by kernel_rfl, rfl, by kernel_rfl⟩
theorem fn98 (l : List Nat) (hl : l.length ≤ 1000000) : Fn P1 gl1 98 [.one (.sl (.flt .f32) l), .one (.fn 87 [] [])] (.val (.one (.frs (.int .i64) (l.map chkS)))) true := by
  refine Fn.flat ?_ rfl
  refine fn_of false [(87, sp87)] [] hPic 0 Proofs.Tryz.f98 ⟨so87, trivial⟩ trivial (by kernel_rfl) rfl (by kernel_rfl) rfl rfl rfl ?_
  rw [vc98]
  try simp only [splitB_iff, -eq_self]
  refine ⟨⟨0, Nat.zero_le _, rfl, by trivial, by trivial, by simp⟩, fun g hg => ⟨fun hlt => ?_, fun hge => ?_⟩⟩
  · have hlt' : g < l.length := by simpa using hlt
    refine ⟨by omega, by simp only [room, List.length_map, List.length_take]; omega, by simp only [fits]; omega, g + 1, hlt', by omega, by simp, by trivial, by trivial, ?_, trivial⟩
    rw [getD_of hlt', List.take_succ_eq_append_getElem hlt', List.map_append]
    rfl
  · have hge' : ¬ g < l.length := by simpa using hge
    rw [List.take_of_length_le (by omega)]
    exact ⟨rfl, trivial⟩
theorem so98_ : SpecOk P1 gl1 98 sp98 := by
  intro vs ps r h hp
  simp only [sp98] at h
  split at h
  · cases h; exact fn98 _ (hp _ (.head _))
  · cases h
theorem so98 : Sp1 98 sp98 := ⟨so98_, Proofs.Tryz.f98, _, by kernel_rfl, rfl, by kernel_rfl⟩
theorem fn79 (nm : List UInt8) (w k : Int) (l : List Nat) (h : picOk (nm, w, k, l)) : Fn P1 gl1 79 [.agg [.one (.str nm), .one (.int .i64 w), .one (.int .i64 k), .one (.sl (.flt .f32) l)]] (.val (iV 0)) true := by
  refine Fn.flat ?_ rfl
  refine fn_of false [(96, sp96), (95, sp95), (97, sp97), (94, sp94), (98, sp98)] [] h0 0 Proofs.Tryz.f79 ⟨so96, so95, so97, so94, so98, trivial⟩ trivial (by kernel_rfl) rfl (by kernel_rfl) rfl rfl rfl ?_
  rw [vc79]
  try simp only [splitB_iff, -eq_self]
  obtain ⟨h1, h2, h3, h4, h5⟩ := h
  simp only at h1 h2 h3 h4 h5
  subst h2 h3
  have e0 : first ([whenE (!isName nm) 8, within 1 1 64, within 1 1 64].map fun n => n) = 0 := first_zeros fun n hn => by
    rw [h1] at hn
    simp [whenE, within] at hn
    exact hn
  have e1 : first ((l.map chkS).map fun n => n) = 0 := first_zeros fun n hn => by
    obtain ⟨b, hb, e⟩ := List.mem_map.1 hn
    rw [← e]
    exact h5 b hb
  rw [List.map_id'] at e0 e1
  rw [e0, e1]
  refine ⟨by omega, fun e => absurd e (by decide), fun _ => ⟨by simp only [fits]; omega, fun e => ?_, fun _ => ⟨by omega, by rw [List.length_map]; omega, rfl, trivial⟩⟩⟩
  rw [h4] at e
  exact absurd e (by decide)
theorem so79_ : SpecOk P1 gl1 79 sp79 := by
  intro vs ps r h hp
  simp only [sp79] at h
  split at h
  · cases h; exact fn79 _ _ _ _ (hp _ (.head _))
  · cases h
theorem so79 : Sp1 79 sp79 := ⟨so79_, Proofs.Tryz.f79, _, by kernel_rfl, rfl, by kernel_rfl⟩
theorem fn78 (l : List Pcs) (hl : l.length ≤ 1000000) (h : ∀ p ∈ l, picOk p) : Fn P1 gl1 78 [.one (.sl picT l), .one (.fn 79 [] [])] (.val (.one (.frs (.int .i64) (l.map fun _ => (0 : Int))))) true := by
  refine Fn.flat ?_ rfl
  refine fn_of false [(79, sp79)] [] hPic 0 Proofs.Tryz.f78 ⟨so79, trivial⟩ trivial (by kernel_rfl) rfl (by kernel_rfl) rfl rfl rfl ?_
  rw [vc78]
  try simp only [splitB_iff, -eq_self]
  refine ⟨⟨0, Nat.zero_le _, rfl, by trivial, by trivial, by simp⟩, fun g hg => ⟨fun hlt => ?_, fun hge => ?_⟩⟩
  · have hlt' : g < l.length := by simpa using hlt
    refine ⟨by omega, h _ (getD_mem' (d := ([], 0, 0, [])) hlt'), by simp only [room, List.length_map, List.length_take]; omega, by simp only [fits]; omega, g + 1, hlt', by omega, by simp, by trivial, by trivial, ?_, trivial⟩
    rw [List.take_succ_eq_append_getElem hlt', List.map_append]
    rfl
  · have hge' : ¬ g < l.length := by simpa using hge
    rw [List.take_of_length_le (by omega)]
    exact ⟨rfl, trivial⟩
theorem so78_ : SpecOk P1 gl1 78 sp78 := by
  intro vs ps r h hp
  simp only [sp78] at h
  split at h
  · cases h; exact fn78 _ (hp _ (.head _)) (hp _ (.tail _ (.head _)))
  · cases h
theorem so78 : Sp1 78 sp78 := ⟨so78_, Proofs.Tryz.f78, _, by kernel_rfl, rfl, by kernel_rfl⟩
theorem fn80 (nm : List UInt8) (w k : Int) (l : List Nat)  : Fn P1 gl1 80 [.agg [.one (.str nm), .one (.int .i64 w), .one (.int .i64 k), .one (.sl (.flt .f32) l)]] (.val (.agg [.arr 2 (.int .i64) [w, k]])) true := by
  refine Fn.flat ?_ rfl
  refine fn_of false [] [] h0 0 Proofs.Tryz.f80 trivial trivial (by kernel_rfl) rfl (by kernel_rfl) rfl rfl rfl ?_
  rw [vc80]
  try simp only [splitB_iff, -eq_self]
  exact ⟨rfl, trivial⟩
theorem so80_ : SpecOk P1 gl1 80 sp80 := by
  intro vs ps r h _
  simp only [sp80] at h
  split at h
  · cases h; exact fn80 _ _ _ _ 
  · cases h
theorem so80 : Sp1 80 sp80 := ⟨so80_, Proofs.Tryz.f80, _, by kernel_rfl, rfl, by kernel_rfl⟩
theorem fn55 (p q r : Pcs) (hp : picOk p) (hq : picOk q) (hr : picOk r) : Fn P1 gl1 55 [.agg [.arr 3 picT [p, q, r]]] (.val (iV 0)) true := by
  refine Fn.flat ?_ rfl
  refine fn_of false [(78, sp78), (21, sp21), (81, sp81), (80, sp80)] [] h0 0 Proofs.Tryz.f55 ⟨so78, so21, so81, so80, trivial⟩ trivial (by kernel_rfl) rfl (by kernel_rfl) rfl rfl rfl ?_
  rw [vc55]
  try simp only [splitB_iff, -eq_self]
  have hall : ∀ x ∈ [p, q, r], picOk x := fun x hx => by
    rcases List.mem_cons.1 hx with e | hx
    · subst e; exact hp
    rcases List.mem_cons.1 hx with e | hx
    · subst e; exact hq
    rcases List.mem_cons.1 hx with e | hx
    · subst e; exact hr
    cases hx
  have e0 : eqT (Ty.arr 2 (Ty.int .i64)) [(1 : Int), 1] [(1 : Int), 1] = true := by decide
  obtain ⟨_, p1, p2, _, _⟩ := hp
  obtain ⟨_, q1, q2, _, _⟩ := hq
  obtain ⟨_, r1, r2, _, _⟩ := hr
  rw [p1, p2, q1, q2, r1, r2, e0]
  exact ⟨⟨by omega, by omega, by omega⟩, rfl, by omega, hall, by simp only [List.length_map, List.length_cons, List.length_nil]; omega, ⟨by omega, by omega⟩, by omega, ⟨by omega, by omega⟩, by omega, fun _ => ⟨by omega, by omega⟩, fun _ => by omega, fun _ => ⟨by omega, by omega⟩, fun _ => by omega, rfl, trivial⟩
theorem so55_ : SpecOk P1 gl1 55 sp55 := by
  intro vs ps r h hp
  simp only [sp55] at h
  split at h
  · cases h; exact fn55 _ _ _ (hp _ (.head _)) (hp _ (.tail _ (.head _))) (hp _ (.tail _ (.tail _ (.head _))))
  · cases h
theorem so55 : Sp1 55 sp55 := ⟨so55_, Proofs.Tryz.f55, _, by kernel_rfl, rfl, by kernel_rfl⟩
theorem fn19 (g : List Pln) (n0 n1 n2 : List UInt8) (b0 b1 b2 : Nat) (hl : g.length ≤ 16) (h : ∀ p ∈ g, plOk p) (hp : picOk (n0, 1, 1, [b0])) (hq : picOk (n1, 1, 1, [b1])) (hr : picOk (n2, 1, 1, [b2])) : Fn P1 gl1 19 [.one (.sl plT g), .agg [.arr 3 picT [(n0, 1, 1, [b0]), (n1, 1, 1, [b1]), (n2, 1, 1, [b2])]]] (.tup [.one (.frs (.pair (.int .i64) (.int .i64)) (violL g [six b0, six b1, six b2])), iV 0]) true := by
  refine Fn.flat ?_ rfl
  refine fn_of false [(54, sp54), (55, sp55), (21, sp21), (57, sp57), (83, sp83)] [fb56, fb82] (hu 6) 6 Proofs.Tryz.f19 ⟨so54, so55, so21, so57, so83, trivial⟩ ⟨⟨by kernel_rfl, by kernel_rfl, _, rfl, by kernel_rfl⟩, ⟨by kernel_rfl, by kernel_rfl, _, rfl, by kernel_rfl⟩, trivial⟩ (by kernel_rfl) rfl (by kernel_rfl) rfl rfl rfl ?_
  rw [vc19]
  try simp only [splitB_iff, -eq_self]
  have k0 := hp.2.2.2.2 b0 (.head _)
  have k1 := hq.2.2.2.2 b1 (.head _)
  have k2 := hr.2.2.2.2 b2 (.head _)
  have hb : Bd 16384 [six b0, six b1, six b2] := fun x hx => by
    have c0 := (chkS_zero.1 k0).2.2
    have c1 := (chkS_zero.1 k1).2.2
    have c2 := (chkS_zero.1 k2).2.2
    simp only [List.mem_cons, List.not_mem_nil, or_false] at hx
    rcases hx with e | e | e <;> subst e <;> assumption
  have f1 : fits .i64 1 := by simp only [fits]; omega
  have e0 : eqT (Ty.pair (Ty.int .i64) (Ty.int .i64)) ((0 : Int), forbTo g [six b0, six b1, six b2] g.length) ((0 : Int), (-1 : Int)) = (forbTo g [six b0, six b1, six b2] g.length == -1) := by
    show ((0 : Int) == 0 && (forbTo g [six b0, six b1, six b2] g.length == -1)) = _
    simp
  rw [e0]
  refine ⟨hl, h, hp, hq, hr, by omega, ⟨by omega, by omega⟩, by omega, ⟨by omega, by omega⟩, by omega, ⟨by omega, by omega⟩, k0, ⟨by omega, by omega⟩, by omega, ⟨by omega, by omega⟩, k1, ⟨by omega, by omega⟩, by omega, ⟨by omega, by omega⟩, k2, hl, h, rfl, hb, fun e => ?_, fun e => ?_⟩
  · refine ⟨by simp only [room]; omega, f1, ?_, rfl, trivial⟩
    have : ¬ forbTo g [six b0, six b1, six b2] g.length = -1 := by simpa using e
    simp only [violL, if_neg this]
  · refine ⟨f1, ?_, rfl, trivial⟩
    have : forbTo g [six b0, six b1, six b2] g.length = -1 := by simpa using e
    simp only [violL, if_pos this]
theorem so19_ : SpecOk P1 gl1 19 sp19 := by
  intro vs ps r h hp
  simp only [sp19] at h
  split at h
  · cases h; exact fn19 _ _ _ _ _ _ _ (hp _ (.head _)) (hp _ (.tail _ (.head _))) (hp _ (.tail _ (.tail _ (.head _)))) (hp _ (.tail _ (.tail _ (.tail _ (.head _))))) (hp _ (.tail _ (.tail _ (.tail _ (.tail _ (.head _))))))
  · cases h
theorem so19 : Sp1 19 sp19 := ⟨so19_, Proofs.Tryz.f19, _, by kernel_rfl, rfl, by kernel_rfl⟩
end Go.Sx

namespace Go.Sx.U
def sigOk (s : List Nat) : Prop := s = [1090650112, 1084227584, 1082916864, 1089470464]
end Go.Sx.U
namespace Go.Sx
open U
abbrev vioT : Ty := .pair (.int .i64) (.int .i64)
def hSig : Hints := ⟨fun f k s => match f, k with
  | 4, 1000006 => some ⟨List Nat × List (Int × Int) × List (Int × Int) × List (Int × Int), fun g => ⟨[(1, .val (.one (.own s.nx))), (2, .val (iV 0)), (4, .val (.one (.own (s.nx + 1)))), (5, .val (iV 0)), (6, .val (.one (.own (s.nx + 2)))), (7, .val (iV 0)), (8, .val (.one (.own (s.nx + 3)))), (9, .val (iV 0))], [(s.nx, some (.row (.flt .f32) g.1)), (s.nx + 1, some (.row vioT g.2.1)), (s.nx + 2, some (.row vioT g.2.2.1)), (s.nx + 3, some (.row vioT g.2.2.2))], s.nx + 4, s.lr⟩, fun g => sigOk g.1 ∧ g.2.1 = [(0, 0)] ∧ g.2.2.1 = [(0, 6)] ∧ g.2.2.2 = [], fun _ => 0⟩
  | _, _ => none, 6⟩
end Go.Sx
namespace Go.Sx
open U
def sp4 : FSpec := ⟨fun vs => match vs with
  | [] => some ([], .val (bV true))
  | _ => none, true⟩
end Go.Sx

namespace Go.Sx
open U
theorem vc4 (_u : Unit) : exF (env false [(10, sp10), (9, sp9), (18, sp18), (20, sp20), (19, sp19)] []) hSig 6 4 Proofs.Tryz.f4 [] (.val (bV true)) = ((1 : Nat) ≤ (64 : Nat) ∧ (∀ (c : List Int), c ∈ [[(100 : Int), (30 : Int), (-20 : Int)]] → List.length c = (3 : Nat) ∧ Bd (16384 : Int) c) ∧ List.length (flat4 [[(100 : Int), (30 : Int), (-20 : Int)]] (1 : Nat)) ≤ (1000000000 : Nat) ∧ ((-16384 : Int) ≤ (100 : Int) ∧ (100 : Int) ≤ (16384 : Int)) ∧ ((-16384 : Int) ≤ (30 : Int) ∧ (30 : Int) ≤ (16384 : Int)) ∧ ((-16384 : Int) ≤ (-20 : Int) ∧ (-20 : Int) ≤ (16384 : Int)) ∧ ((-16384 : Int) ≤ (75 : Int) ∧ (75 : Int) ≤ (16384 : Int)) ∧ List.length (plns (75 : Int) (125 : Int)) ≤ (16 : Nat) ∧ (∀ (p : Pln), p ∈ plns (75 : Int) (125 : Int) → plOk p) ∧ picOk (Array.toList (ByteArray.data { data := #[(121 : UInt8)] }), (1 : Int), (1 : Int), [smp (100 : Int)]) ∧ picOk (Array.toList (ByteArray.data { data := #[(117 : UInt8)] }), (1 : Int), (1 : Int), [smp (30 : Int)]) ∧ picOk (Array.toList (ByteArray.data { data := #[(118 : UInt8)] }), (1 : Int), (1 : Int), [smp (-20 : Int)]) ∧ ((-16384 : Int) ≤ (75 : Int) ∧ (75 : Int) ≤ (16384 : Int)) ∧ List.length (plns (75 : Int) (130 : Int)) ≤ (16 : Nat) ∧ (∀ (p : Pln), p ∈ plns (75 : Int) (130 : Int) → plOk p) ∧ picOk (Array.toList (ByteArray.data { data := #[(121 : UInt8)] }), (1 : Int), (1 : Int), [smp (100 : Int)]) ∧ picOk (Array.toList (ByteArray.data { data := #[(117 : UInt8)] }), (1 : Int), (1 : Int), [smp (30 : Int)]) ∧ picOk (Array.toList (ByteArray.data { data := #[(118 : UInt8)] }), (1 : Int), (1 : Int), [smp (-20 : Int)]) ∧ ((-16384 : Int) ≤ (70 : Int) ∧ (70 : Int) ≤ (16384 : Int)) ∧ List.length (plns (70 : Int) (130 : Int)) ≤ (16 : Nat) ∧ (∀ (p : Pln), p ∈ plns (70 : Int) (130 : Int) → plOk p) ∧ picOk (Array.toList (ByteArray.data { data := #[(121 : UInt8)] }), (1 : Int), (1 : Int), [smp (100 : Int)]) ∧ picOk (Array.toList (ByteArray.data { data := #[(117 : UInt8)] }), (1 : Int), (1 : Int), [smp (30 : Int)]) ∧ picOk (Array.toList (ByteArray.data { data := #[(118 : UInt8)] }), (1 : Int), (1 : Int), [smp (-20 : Int)]) ∧ (∃ (g : List Nat × List (Int × Int) × List (Int × Int) × List (Int × Int)), (sigOk (Prod.fst g) ∧ Prod.fst (Prod.snd g) = [((0 : Int), (0 : Int))] ∧ Prod.fst (Prod.snd (Prod.snd g)) = [((0 : Int), (6 : Int))] ∧ Prod.snd (Prod.snd (Prod.snd g)) = []) ∧ encE (flat4 [[(100 : Int), (30 : Int), (-20 : Int)]] (1 : Nat)) (colL (1 : Nat) [[(100 : Int), (30 : Int), (-20 : Int)]]) (colL (2 : Nat) [[(100 : Int), (30 : Int), (-20 : Int)]]) (0 : Int) = (0 : Int) ∧ (0 : Int) = (0 : Int) ∧ (0 : Int) = (0 : Int) ∧ (0 : Int) = (0 : Int) ∧ encL (flat4 [[(100 : Int), (30 : Int), (-20 : Int)]] (1 : Nat)) (colL (1 : Nat) [[(100 : Int), (30 : Int), (-20 : Int)]]) (colL (2 : Nat) [[(100 : Int), (30 : Int), (-20 : Int)]]) (0 : Int) = Prod.fst g ∧ violL (plns (75 : Int) (125 : Int)) [six (smp (100 : Int)), six (smp (30 : Int)), six (smp (-20 : Int))] = Prod.fst (Prod.snd g) ∧ violL (plns (75 : Int) (130 : Int)) [six (smp (100 : Int)), six (smp (30 : Int)), six (smp (-20 : Int))] = Prod.fst (Prod.snd (Prod.snd g)) ∧ violL (plns (70 : Int) (130 : Int)) [six (smp (100 : Int)), six (smp (30 : Int)), six (smp (-20 : Int))] = Prod.snd (Prod.snd (Prod.snd g)) ∧ True) ∧ ∀ (g : List Nat × List (Int × Int) × List (Int × Int) × List (Int × Int)), sigOk (Prod.fst g) ∧ Prod.fst (Prod.snd g) = [((0 : Int), (0 : Int))] ∧ Prod.fst (Prod.snd (Prod.snd g)) = [((0 : Int), (6 : Int))] ∧ Prod.snd (Prod.snd (Prod.snd g)) = [] → ((bif bif bif bif (0 : Int) == (0 : Int) then (0 : Int) == (0 : Int) else false then (0 : Int) == (0 : Int) else false then (0 : Int) == (0 : Int) else false then (↑(List.length (Prod.fst g)) : Int) == (4 : Int) else false) = true → (0 : Int) ≤ (0 : Int) ∧ (0 : Int) < (↑(List.length (Prod.fst g)) : Int)) ∧ ((bif bif bif bif (0 : Int) == (0 : Int) then (0 : Int) == (0 : Int) else false then (0 : Int) == (0 : Int) else false then (0 : Int) == (0 : Int) else false then (↑(List.length (Prod.fst g)) : Int) == (4 : Int) else false) = true → (0 : Nat) < List.length (Prod.fst g)) ∧ ((bif bif bif bif bif (0 : Int) == (0 : Int) then (0 : Int) == (0 : Int) else false then (0 : Int) == (0 : Int) else false then (0 : Int) == (0 : Int) else false then (↑(List.length (Prod.fst g)) : Int) == (4 : Int) else false then Ieee.Format.order (FloatKind.format FloatKind.f32) (List.getD (Prod.fst g) (0 : Nat) (0 : Nat)) (1090650112 : Nat) == some Ordering.eq else false) = true → (0 : Int) ≤ (1 : Int) ∧ (1 : Int) < (↑(List.length (Prod.fst g)) : Int)) ∧ ((bif bif bif bif bif (0 : Int) == (0 : Int) then (0 : Int) == (0 : Int) else false then (0 : Int) == (0 : Int) else false then (0 : Int) == (0 : Int) else false then (↑(List.length (Prod.fst g)) : Int) == (4 : Int) else false then Ieee.Format.order (FloatKind.format FloatKind.f32) (List.getD (Prod.fst g) (0 : Nat) (0 : Nat)) (1090650112 : Nat) == some Ordering.eq else false) = true → (1 : Nat) < List.length (Prod.fst g)) ∧ ((bif bif bif bif bif bif (0 : Int) == (0 : Int) then (0 : Int) == (0 : Int) else false then (0 : Int) == (0 : Int) else false then (0 : Int) == (0 : Int) else false then (↑(List.length (Prod.fst g)) : Int) == (4 : Int) else false then Ieee.Format.order (FloatKind.format FloatKind.f32) (List.getD (Prod.fst g) (0 : Nat) (0 : Nat)) (1090650112 : Nat) == some Ordering.eq else false then Ieee.Format.order (FloatKind.format FloatKind.f32) (List.getD (Prod.fst g) (1 : Nat) (0 : Nat)) (1084227584 : Nat) == some Ordering.eq else false) = true → (0 : Int) ≤ (2 : Int) ∧ (2 : Int) < (↑(List.length (Prod.fst g)) : Int)) ∧ ((bif bif bif bif bif bif (0 : Int) == (0 : Int) then (0 : Int) == (0 : Int) else false then (0 : Int) == (0 : Int) else false then (0 : Int) == (0 : Int) else false then (↑(List.length (Prod.fst g)) : Int) == (4 : Int) else false then Ieee.Format.order (FloatKind.format FloatKind.f32) (List.getD (Prod.fst g) (0 : Nat) (0 : Nat)) (1090650112 : Nat) == some Ordering.eq else false then Ieee.Format.order (FloatKind.format FloatKind.f32) (List.getD (Prod.fst g) (1 : Nat) (0 : Nat)) (1084227584 : Nat) == some Ordering.eq else false) = true → (2 : Nat) < List.length (Prod.fst g)) ∧ ((bif bif bif bif bif bif bif (0 : Int) == (0 : Int) then (0 : Int) == (0 : Int) else false then (0 : Int) == (0 : Int) else false then (0 : Int) == (0 : Int) else false then (↑(List.length (Prod.fst g)) : Int) == (4 : Int) else false then Ieee.Format.order (FloatKind.format FloatKind.f32) (List.getD (Prod.fst g) (0 : Nat) (0 : Nat)) (1090650112 : Nat) == some Ordering.eq else false then Ieee.Format.order (FloatKind.format FloatKind.f32) (List.getD (Prod.fst g) (1 : Nat) (0 : Nat)) (1084227584 : Nat) == some Ordering.eq else false then Ieee.Format.order (FloatKind.format FloatKind.f32) (List.getD (Prod.fst g) (2 : Nat) (0 : Nat)) (1082916864 : Nat) == some Ordering.eq else false) = true → (0 : Int) ≤ (3 : Int) ∧ (3 : Int) < (↑(List.length (Prod.fst g)) : Int)) ∧ ((bif bif bif bif bif bif bif (0 : Int) == (0 : Int) then (0 : Int) == (0 : Int) else false then (0 : Int) == (0 : Int) else false then (0 : Int) == (0 : Int) else false then (↑(List.length (Prod.fst g)) : Int) == (4 : Int) else false then Ieee.Format.order (FloatKind.format FloatKind.f32) (List.getD (Prod.fst g) (0 : Nat) (0 : Nat)) (1090650112 : Nat) == some Ordering.eq else false then Ieee.Format.order (FloatKind.format FloatKind.f32) (List.getD (Prod.fst g) (1 : Nat) (0 : Nat)) (1084227584 : Nat) == some Ordering.eq else false then Ieee.Format.order (FloatKind.format FloatKind.f32) (List.getD (Prod.fst g) (2 : Nat) (0 : Nat)) (1082916864 : Nat) == some Ordering.eq else false) = true → (3 : Nat) < List.length (Prod.fst g)) ∧ ((bif bif bif bif bif bif bif bif bif (0 : Int) == (0 : Int) then (0 : Int) == (0 : Int) else false then (0 : Int) == (0 : Int) else false then (0 : Int) == (0 : Int) else false then (↑(List.length (Prod.fst g)) : Int) == (4 : Int) else false then Ieee.Format.order (FloatKind.format FloatKind.f32) (List.getD (Prod.fst g) (0 : Nat) (0 : Nat)) (1090650112 : Nat) == some Ordering.eq else false then Ieee.Format.order (FloatKind.format FloatKind.f32) (List.getD (Prod.fst g) (1 : Nat) (0 : Nat)) (1084227584 : Nat) == some Ordering.eq else false then Ieee.Format.order (FloatKind.format FloatKind.f32) (List.getD (Prod.fst g) (2 : Nat) (0 : Nat)) (1082916864 : Nat) == some Ordering.eq else false then Ieee.Format.order (FloatKind.format FloatKind.f32) (List.getD (Prod.fst g) (3 : Nat) (0 : Nat)) (1089470464 : Nat) == some Ordering.eq else false then (↑(List.length (Prod.fst (Prod.snd g))) : Int) == (1 : Int) else false) = true → (0 : Int) ≤ (0 : Int) ∧ (0 : Int) < (↑(List.length (Prod.fst (Prod.snd g))) : Int)) ∧ ((bif bif bif bif bif bif bif bif bif (0 : Int) == (0 : Int) then (0 : Int) == (0 : Int) else false then (0 : Int) == (0 : Int) else false then (0 : Int) == (0 : Int) else false then (↑(List.length (Prod.fst g)) : Int) == (4 : Int) else false then Ieee.Format.order (FloatKind.format FloatKind.f32) (List.getD (Prod.fst g) (0 : Nat) (0 : Nat)) (1090650112 : Nat) == some Ordering.eq else false then Ieee.Format.order (FloatKind.format FloatKind.f32) (List.getD (Prod.fst g) (1 : Nat) (0 : Nat)) (1084227584 : Nat) == some Ordering.eq else false then Ieee.Format.order (FloatKind.format FloatKind.f32) (List.getD (Prod.fst g) (2 : Nat) (0 : Nat)) (1082916864 : Nat) == some Ordering.eq else false then Ieee.Format.order (FloatKind.format FloatKind.f32) (List.getD (Prod.fst g) (3 : Nat) (0 : Nat)) (1089470464 : Nat) == some Ordering.eq else false then (↑(List.length (Prod.fst (Prod.snd g))) : Int) == (1 : Int) else false) = true → (0 : Nat) < List.length (Prod.fst (Prod.snd g))) ∧ ((bif bif bif bif bif bif bif bif bif bif bif (0 : Int) == (0 : Int) then (0 : Int) == (0 : Int) else false then (0 : Int) == (0 : Int) else false then (0 : Int) == (0 : Int) else false then (↑(List.length (Prod.fst g)) : Int) == (4 : Int) else false then Ieee.Format.order (FloatKind.format FloatKind.f32) (List.getD (Prod.fst g) (0 : Nat) (0 : Nat)) (1090650112 : Nat) == some Ordering.eq else false then Ieee.Format.order (FloatKind.format FloatKind.f32) (List.getD (Prod.fst g) (1 : Nat) (0 : Nat)) (1084227584 : Nat) == some Ordering.eq else false then Ieee.Format.order (FloatKind.format FloatKind.f32) (List.getD (Prod.fst g) (2 : Nat) (0 : Nat)) (1082916864 : Nat) == some Ordering.eq else false then Ieee.Format.order (FloatKind.format FloatKind.f32) (List.getD (Prod.fst g) (3 : Nat) (0 : Nat)) (1089470464 : Nat) == some Ordering.eq else false then (↑(List.length (Prod.fst (Prod.snd g))) : Int) == (1 : Int) else false then eqT (Ty.pair (Ty.int IntKind.i64) (Ty.int IntKind.i64)) (Prod.fst (List.getD (Prod.fst (Prod.snd g)) (0 : Nat) ((0 : Int), (0 : Int))), Prod.snd (List.getD (Prod.fst (Prod.snd g)) (0 : Nat) ((0 : Int), (0 : Int)))) ((0 : Int), (0 : Int)) else false then (↑(List.length (Prod.fst (Prod.snd (Prod.snd g)))) : Int) == (1 : Int) else false) = true → (0 : Int) ≤ (0 : Int) ∧ (0 : Int) < (↑(List.length (Prod.fst (Prod.snd (Prod.snd g)))) : Int)) ∧ ((bif bif bif bif bif bif bif bif bif bif bif (0 : Int) == (0 : Int) then (0 : Int) == (0 : Int) else false then (0 : Int) == (0 : Int) else false then (0 : Int) == (0 : Int) else false then (↑(List.length (Prod.fst g)) : Int) == (4 : Int) else false then Ieee.Format.order (FloatKind.format FloatKind.f32) (List.getD (Prod.fst g) (0 : Nat) (0 : Nat)) (1090650112 : Nat) == some Ordering.eq else false then Ieee.Format.order (FloatKind.format FloatKind.f32) (List.getD (Prod.fst g) (1 : Nat) (0 : Nat)) (1084227584 : Nat) == some Ordering.eq else false then Ieee.Format.order (FloatKind.format FloatKind.f32) (List.getD (Prod.fst g) (2 : Nat) (0 : Nat)) (1082916864 : Nat) == some Ordering.eq else false then Ieee.Format.order (FloatKind.format FloatKind.f32) (List.getD (Prod.fst g) (3 : Nat) (0 : Nat)) (1089470464 : Nat) == some Ordering.eq else false then (↑(List.length (Prod.fst (Prod.snd g))) : Int) == (1 : Int) else false then eqT (Ty.pair (Ty.int IntKind.i64) (Ty.int IntKind.i64)) (Prod.fst (List.getD (Prod.fst (Prod.snd g)) (0 : Nat) ((0 : Int), (0 : Int))), Prod.snd (List.getD (Prod.fst (Prod.snd g)) (0 : Nat) ((0 : Int), (0 : Int)))) ((0 : Int), (0 : Int)) else false then (↑(List.length (Prod.fst (Prod.snd (Prod.snd g)))) : Int) == (1 : Int) else false) = true → (0 : Nat) < List.length (Prod.fst (Prod.snd (Prod.snd g)))) ∧ (bif bif bif bif bif bif bif bif bif bif bif bif bif (0 : Int) == (0 : Int) then (0 : Int) == (0 : Int) else false then (0 : Int) == (0 : Int) else false then (0 : Int) == (0 : Int) else false then (↑(List.length (Prod.fst g)) : Int) == (4 : Int) else false then Ieee.Format.order (FloatKind.format FloatKind.f32) (List.getD (Prod.fst g) (0 : Nat) (0 : Nat)) (1090650112 : Nat) == some Ordering.eq else false then Ieee.Format.order (FloatKind.format FloatKind.f32) (List.getD (Prod.fst g) (1 : Nat) (0 : Nat)) (1084227584 : Nat) == some Ordering.eq else false then Ieee.Format.order (FloatKind.format FloatKind.f32) (List.getD (Prod.fst g) (2 : Nat) (0 : Nat)) (1082916864 : Nat) == some Ordering.eq else false then Ieee.Format.order (FloatKind.format FloatKind.f32) (List.getD (Prod.fst g) (3 : Nat) (0 : Nat)) (1089470464 : Nat) == some Ordering.eq else false then (↑(List.length (Prod.fst (Prod.snd g))) : Int) == (1 : Int) else false then eqT (Ty.pair (Ty.int IntKind.i64) (Ty.int IntKind.i64)) (Prod.fst (List.getD (Prod.fst (Prod.snd g)) (0 : Nat) ((0 : Int), (0 : Int))), Prod.snd (List.getD (Prod.fst (Prod.snd g)) (0 : Nat) ((0 : Int), (0 : Int)))) ((0 : Int), (0 : Int)) else false then (↑(List.length (Prod.fst (Prod.snd (Prod.snd g)))) : Int) == (1 : Int) else false then eqT (Ty.pair (Ty.int IntKind.i64) (Ty.int IntKind.i64)) (Prod.fst (List.getD (Prod.fst (Prod.snd (Prod.snd g))) (0 : Nat) ((0 : Int), (0 : Int))), Prod.snd (List.getD (Prod.fst (Prod.snd (Prod.snd g))) (0 : Nat) ((0 : Int), (0 : Int)))) ((0 : Int), (6 : Int)) else false then (↑(List.length (Prod.snd (Prod.snd (Prod.snd g)))) : Int) == (0 : Int) else false) = true ∧ True) := by
  kernel_rfl
end Go.Sx

namespace Go.Sx
open U
theorem fn4   : Fn P1 gl1 4 [] (.val (bV true)) true := by
  refine Fn.flat ?_ rfl
  refine fn_of false [(10, sp10), (9, sp9), (18, sp18), (20, sp20), (19, sp19)] [] hSig 6 Proofs.Tryz.f4 ⟨so10, so9, so18, so20, so19, trivial⟩ trivial (by kernel_rfl) rfl (by kernel_rfl) rfl rfl rfl ?_
  rw [vc4 ()]
  try simp only [splitB_iff, -eq_self]
  have hC : ∀ c ∈ ([[100, 30, -20]] : List (List Int)), c.length = 3 ∧ Bd 16384 c := fun c hc => by
    rcases List.mem_cons.1 hc with e | e
    · subst e; exact ⟨rfl, bd_dec (by decide)⟩
    · cases e
  have hp : ∀ n : Int, (-200 ≤ n ∧ n ≤ 200) → ∀ p ∈ plns 75 n ++ plns 70 n, plOk p := fun n hn p hp => by
    simp only [plns, List.mem_append, List.mem_cons, List.not_mem_nil, or_false] at hp
    rcases hp with (h | h | h | h | h | h | h | h) | (h | h | h | h | h | h | h | h) <;> subst h <;> exact ⟨rfl, bd_dec rfl, by show (-1099511627776 : Int) ≤ _; omega, by show _ ≤ (1099511627776 : Int); omega⟩
  have hP : ∀ nm : List UInt8, isName nm = true → ∀ n : Int, -16384 ≤ n → n ≤ 16384 → picOk (nm, 1, 1, [smp n]) := fun nm h n h1 h2 => ⟨h, rfl, rfl, rfl, fun b hb => by
    rcases List.mem_cons.1 hb with e | e
    · subst e; exact chk_smp h1 h2
    · cases e⟩
  have y := hP (Array.toList (ByteArray.data { data := #[(121 : UInt8)] })) (by decide +kernel) 100 (by omega) (by omega)
  have u := hP (Array.toList (ByteArray.data { data := #[(117 : UInt8)] })) (by decide +kernel) 30 (by omega) (by omega)
  have v := hP (Array.toList (ByteArray.data { data := #[(118 : UInt8)] })) (by decide +kernel) (-20) (by omega) (by omega)
  have p1 := fun p h => hp 125 (by omega) p (List.mem_append_left _ h)
  have p2 := fun p h => hp 130 (by omega) p (List.mem_append_left _ h)
  have p3 := fun p h => hp 130 (by omega) p (List.mem_append_right _ h)
  have l4 : (flat4 [[100, 30, -20]] 1).length ≤ 1000000000 := Nat.le_trans (flat4_len _ _) (by decide)
  refine ⟨by omega, hC, l4, ⟨by omega, by omega⟩, ⟨by omega, by omega⟩, ⟨by omega, by omega⟩, ⟨by omega, by omega⟩, by decide, p1, y, u, v, ⟨by omega, by omega⟩, by decide, p2, y, u, v, ⟨by omega, by omega⟩, by decide, p3, y, u, v, ⟨([1090650112, 1084227584, 1082916864, 1089470464], [(0, 0)], [(0, 6)], []), ⟨rfl, rfl, rfl, rfl⟩, by decide +kernel, rfl, rfl, rfl, by decide +kernel, by decide +kernel, by decide +kernel, by decide +kernel, trivial⟩, fun g hg => ?_⟩
  obtain ⟨s, a, b, c⟩ := g
  obtain ⟨rfl, rfl, rfl, rfl⟩ := hg
  repeat' (first | exact trivial | refine And.intro ?_ ?_ | (intro _; decide) | decide +kernel)
theorem so4_ : SpecOk P1 gl1 4 sp4 := by
  intro vs ps r h _
  simp only [sp4] at h
  split at h
  · cases h; exact fn4  
  · cases h
theorem so4 : Sp1 4 sp4 := ⟨so4_, Proofs.Tryz.f4, _, by kernel_rfl, rfl, by kernel_rfl⟩
end Go.Sx
