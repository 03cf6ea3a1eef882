/- A verified symbolic run of functions, part 17: lemmas, no claim of their own. -/
import Derived.Test.YtpbipfdpoijgoaaGreatDoorS16
import Derived.OpenShut
import Derived.ProofKit
import Derived.Carry
import Derived.OpenVars
import Derived.Lib.LaidTab
import Derived.ChangeSame
import Derived.WalkKit
import Derived.Deep.DeepHandedRow
/- Contracts. -/
namespace Go.Sx
open U
theorem chkCh_c (R : List Rl) (L : List Ed) (i b least : Int) : chkCh R L i b least = first [chkC R L i b, whenE (decide (i < least)) 21] := by
  unfold chkCh chkC
  by_cases h1 : chkEds R L = 0
  · rw [if_neg (by simpa using h1), if_neg (by simpa using h1)]
    by_cases h2 : i < 0 ∨ (L.length : Int) ≤ i
    · rw [if_pos h2, show decide (i < 0 ∨ (L.length : Int) ≤ i) = true from decide_eq_true h2]; rfl
    · rw [if_neg h2, show decide (i < 0 ∨ (L.length : Int) ≤ i) = false from decide_eq_false h2]; rfl
  · rw [if_pos h1, if_pos h1]; simp [first, h1]
theorem chkC_zero {R : List Rl} {L : List Ed} {i b : Int} (h : chkC R L i b = 0) : ListOk R L ∧ (0 ≤ i ∧ i < L.length) ∧ (-10000000 ≤ b ∧ b ≤ 10000000) := by
  unfold chkC at h
  split at h
  · rename_i h1; exact absurd h h1
  · rename_i h1
    split at h
    · cases h
    · rename_i h2
      exact ⟨chkEds_zero.1 (by simpa using h1), by omega, within_zero.1 h⟩
theorem set_fits {L : List Ed} {k : Nat} {y : Ed} (h : ∀ x ∈ L, -20000000 ≤ x.2.2.1 ∧ x.2.2.1 ≤ 20000000) (hy : -20000000 ≤ y.2.2.1 ∧ y.2.2.1 ≤ 20000000) : ∀ x ∈ L.set k y, -20000000 ≤ x.2.2.1 ∧ x.2.2.1 ≤ 20000000 := by
  intro x hx
  rcases List.mem_or_eq_of_mem_set hx with h1 | rfl
  · exact h x h1
  · exact hy
theorem ed_fits {L : List Ed} (h : ∀ x ∈ L, -20000000 ≤ x.2.2.1 ∧ x.2.2.1 ≤ 20000000) : ∀ x ∈ L, fits .i64 x.2.2.1 := fun x hx => by
  have := h x hx
  simp only [fits]; omega
theorem eds_bd {L : List Ed} (h : EdsIn L) : ∀ x ∈ L, -20000000 ≤ x.2.2.1 ∧ x.2.2.1 ≤ 20000000 := fun x hx => by
  have := h.2 x hx
  omega
theorem roll_swap {L : List Ed} {k : Nat} {b : Int} (h0 : 0 < k) (hk : k < L.length) : trimL (frontL L k b) (k - 1) b = rollL L k b := by
  have h1 : (frontL L k b).getD (k - 1) e0 = L.getD (k - 1) e0 := by rw [frontL_get _ _ _ _ hk, if_neg (by omega)]
  have h2 : (trimL L (k - 1) b).getD k e0 = L.getD k e0 := by rw [trimL_get _ _ _ _ (by omega), if_neg (by omega)]
  have h3 : ∀ M : List Ed, trimL M (k - 1) b = M.set (k - 1) ((fun x : Ed => (x.1, x.2.1, x.2.2.1 + b, x.2.2.2.1, x.2.2.2.2)) (M.getD (k - 1) e0)) := fun _ => rfl
  have h4 : ∀ M : List Ed, frontL M k b = M.set k ((fun x : Ed => (x.1, x.2.1 + b, x.2.2.1, x.2.2.2.1, x.2.2.2.2)) (M.getD k e0)) := fun _ => rfl
  unfold rollL
  rw [h3 (frontL L k b), h1, h4 (trimL L (k - 1) b), h2, h4 L, h3 L]
  exact List.set_comm _ _ (by omega)
theorem chg_c {R : List Rl} {L : List Ed} {i b : Int} (least : Int) (g : List Ed → Nat → Int → List Ed) (h : chkC R L i b ≠ 0) : chgL R L i b least g = [] ∧ chgE R L i b least g = chkC R L i b := by
  have e : chkCh R L i b least = chkC R L i b := by rw [chkCh_c]; simp [first, h]
  have e2 : chgE R L i b least g = chkC R L i b := (if_pos (by rw [e]; exact h)).trans e
  exact ⟨by unfold chgL; rw [e2, if_neg h], e2⟩
theorem chg_z {R : List Rl} {L : List Ed} {i b least : Int} (g : List Ed → Nat → Int → List Ed) (h : chkC R L i b = 0) (hl : least ≤ i) : chgL R L i b least g = resL R (g L i.toNat b) ∧ chgE R L i b least g = chkEds R (g L i.toNat b) := by
  have e : chkCh R L i b least = 0 := by
    rw [chkCh_c, h, show decide (i < least) = false from decide_eq_false (by omega)]; rfl
  have e2 : chgE R L i b least g = chkEds R (g L i.toNat b) := if_neg (by simpa using e)
  exact ⟨by unfold chgL resL; rw [e2], e2⟩
theorem chg_r {R : List Rl} {L : List Ed} {i b : Int} (h : chkC R L i b = 0) : chgL R L i b 1 rollL = rlL R L i b ∧ chgE R L i b 1 rollL = rlE R L i b := by
  have h0 := (chkC_zero h).2.1
  by_cases hi : i = 0
  · have e : chkCh R L i b 1 = 21 := by rw [chkCh_c, h, hi]; rfl
    have e2 : chgE R L i b 1 rollL = 21 := (if_pos (by rw [e]; decide)).trans e
    unfold rlL rlE
    rw [if_pos hi, if_pos hi]
    exact ⟨by unfold chgL; rw [e2]; rfl, e2⟩
  · have := chg_z (least := 1) rollL h (by omega)
    unfold rlL rlE
    rw [if_neg hi, if_neg hi]
    exact this
theorem resL_len (R : List Rl) (M : List Ed) : (resL R M).length ≤ M.length := by unfold resL; split <;> simp
theorem fn136 (L : List Ed) (hl : L.length ≤ 1000000) : Fn P1 gl1 136 [.one (.sl edT L)] (.val (.one (.frs edT L))) true := by
  refine Fn.flat ?_ rfl
  refine fn_of false [] [] h0 0 Proofs.Tryz.f136 trivial trivial (by kernel_rfl) rfl (by kernel_rfl) rfl rfl rfl ?_
  rw [vc136]
  try simp only [splitB_iff, -eq_self]
  exact ⟨by simp only [room]; omega, by trivial, trivial⟩
theorem so136_ : SpecOk P1 gl1 136 sp136 := by
  intro vs ps r h hp
  simp only [sp136] at h
  split at h
  · cases h; exact fn136 _ (hp _ (.head _))
  · cases h
theorem so136 : Sp1 136 sp136 := ⟨so136_, Proofs.Tryz.f136, _, by kernel_rfl, rfl, by kernel_rfl⟩
theorem fn52 (R : List Rl) (L : List Ed) (i b : Int) (hl : R.length ≤ 1000000000) (hR : ∀ r ∈ R, r.2.2.length ≤ 1000000 ∧ r.1.length ≤ 1000000000) (hL : L.length ≤ 1000000000) (hF : ∀ x ∈ L, fits .i64 x.2.2.1) : Fn P1 gl1 52 [.one (.sl rlT R), .one (.sl edT L), iV i, iV b] (.val (iV (chkC R L i b))) true := by
  refine Fn.flat ?_ rfl
  refine fn_of false [(38, sp38), (87, sp87)] [] h0 0 Proofs.Tryz.f52 ⟨so38, so87, trivial⟩ trivial (by kernel_rfl) rfl (by kernel_rfl) rfl rfl rfl ?_
  rw [vc52]
  try simp only [splitB_iff, -eq_self]
  refine ⟨hl, hR, hL, hF, fun h => ⟨(if_pos (by simpa using h)).symm, trivial⟩, fun h => ⟨fun h2 => ⟨?_, trivial⟩, fun h2 => ⟨?_, trivial⟩⟩⟩
  · simp only [bcond_l, Bool.or_eq_true, decide_eq_true_eq] at h2
    exact ((if_neg (by simpa using h)).trans (if_pos h2)).symm
  · simp only [bcond_l, Bool.or_eq_false_iff, decide_eq_false_iff_not] at h2
    exact ((if_neg (by simpa using h)).trans (if_neg (by omega))).symm
theorem so52_ : SpecOk P1 gl1 52 sp52 := by
  intro vs ps r h hp
  simp only [sp52] at h
  split at h
  · cases h; exact fn52 _ _ _ _ (hp _ (.head _)) (hp _ (.tail _ (.head _))) (hp _ (.tail _ (.tail _ (.head _)))) (hp _ (.tail _ (.tail _ (.tail _ (.head _)))))
  · cases h
theorem so52 : Sp1 52 sp52 := ⟨so52_, Proofs.Tryz.f52, _, by kernel_rfl, rfl, by kernel_rfl⟩
theorem fn53 (R : List Rl) (L : List Ed) (i b : Int) (hl : R.length ≤ 1000000000) (hR : ∀ r ∈ R, r.2.2.length ≤ 1000000 ∧ r.1.length ≤ 1000000000) (hc : chkC R L i b = 0) : Fn P1 gl1 53 [.one (.sl rlT R), .one (.sl edT L), iV i, iV b] (.tup [.one (.frs edT (resL R (trimL L i.toNat b))), iV (chkEds R (trimL L i.toNat b))]) true := by
  refine Fn.flat ?_ rfl
  refine fn_of false [(136, sp136), (38, sp38)] [fb137] h0 3 Proofs.Tryz.f53 ⟨so136, so38, trivial⟩ ⟨⟨by kernel_rfl, by kernel_rfl, _, rfl, by kernel_rfl⟩, trivial⟩ (by kernel_rfl) rfl (by kernel_rfl) rfl rfl rfl ?_
  rw [vc53]
  try simp only [splitB_iff, -eq_self]
  obtain ⟨hk, hi, hb⟩ := chkC_zero hc
  have h16 := hk.len
  have hx := hk.eds.2 _ (getD_mem (d := e0) (show i.toNat < L.length by omega))
  have hF : ∀ x ∈ trimL L i.toNat b, fits .i64 x.2.2.1 := ed_fits (set_fits (eds_bd hk.eds) (by dsimp only; omega))
  simp only [trim_fold]
  simp only [trimL_len]
  exact ⟨by omega, by omega, by omega, by simp only [fits]; omega, by omega, by omega, hl, hR, by omega, hF, fun h => ⟨if_neg (by simpa using h), by trivial, trivial⟩, fun h => ⟨(if_pos (by simpa using h)).symm, Eq.symm (by simpa using h), trivial⟩⟩
theorem so53_ : SpecOk P1 gl1 53 sp53 := by
  intro vs ps r h hp
  simp only [sp53] at h
  split at h
  · cases h; exact fn53 _ _ _ _ (hp _ (.head _)) (hp _ (.tail _ (.head _))) (hp _ (.tail _ (.tail _ (.head _))))
  · cases h
theorem so53 : Sp1 53 sp53 := ⟨so53_, Proofs.Tryz.f53, _, by kernel_rfl, rfl, by kernel_rfl⟩
theorem fn55 (R : List Rl) (L : List Ed) (i b : Int) (hl : R.length ≤ 1000000000) (hR : ∀ r ∈ R, r.2.2.length ≤ 1000000 ∧ r.1.length ≤ 1000000000) (hc : chkC R L i b = 0) : Fn P1 gl1 55 [.one (.sl rlT R), .one (.sl edT L), iV i, iV b] (.tup [.one (.frs edT (resL R (slipL L i.toNat b))), iV (chkEds R (slipL L i.toNat b))]) true := by
  refine Fn.flat ?_ rfl
  refine fn_of false [(136, sp136), (38, sp38)] [fb137] h0 3 Proofs.Tryz.f55 ⟨so136, so38, trivial⟩ ⟨⟨by kernel_rfl, by kernel_rfl, _, rfl, by kernel_rfl⟩, trivial⟩ (by kernel_rfl) rfl (by kernel_rfl) rfl rfl rfl ?_
  rw [vc55]
  try simp only [splitB_iff, -eq_self]
  obtain ⟨hk, hi, hb⟩ := chkC_zero hc
  have h16 := hk.len
  have hx := hk.eds.2 _ (getD_mem (d := e0) (show i.toNat < L.length by omega))
  have g3 : (frontL L i.toNat b).getD i.toNat e0 = ((L.getD i.toNat e0).1, (L.getD i.toNat e0).2.1 + b, (L.getD i.toNat e0).2.2.1, (L.getD i.toNat e0).2.2.2.1, (L.getD i.toNat e0).2.2.2.2) := by
    rw [frontL_get _ _ _ _ (by omega), if_pos rfl]
  have hF : ∀ x ∈ slipL L i.toNat b, fits .i64 x.2.2.1 := ed_fits (set_fits (set_fits (eds_bd hk.eds) (by dsimp only; omega)) (by rw [g3]; dsimp only; omega))
  simp only [trim_fold, front_fold]
  simp only [slip_fold, frontL_len, slipL_len, g3]
  exact ⟨by omega, by omega, by omega, by simp only [fits]; omega, by omega, by omega, by omega, by omega, by simp only [fits]; omega, by omega, by omega, hl, hR, by omega, hF, fun h => ⟨if_neg (by simpa using h), by trivial, trivial⟩, fun h => ⟨(if_pos (by simpa using h)).symm, Eq.symm (by simpa using h), trivial⟩⟩
theorem so55_ : SpecOk P1 gl1 55 sp55 := by
  intro vs ps r h hp
  simp only [sp55] at h
  split at h
  · cases h; exact fn55 _ _ _ _ (hp _ (.head _)) (hp _ (.tail _ (.head _))) (hp _ (.tail _ (.tail _ (.head _))))
  · cases h
theorem so55 : Sp1 55 sp55 := ⟨so55_, Proofs.Tryz.f55, _, by kernel_rfl, rfl, by kernel_rfl⟩
theorem fn54 (R : List Rl) (L : List Ed) (i b : Int) (hl : R.length ≤ 1000000000) (hR : ∀ r ∈ R, r.2.2.length ≤ 1000000 ∧ r.1.length ≤ 1000000000) (hc : chkC R L i b = 0) : Fn P1 gl1 54 [.one (.sl rlT R), .one (.sl edT L), iV i, iV b] (.tup [.one (.frs edT (rlL R L i b)), iV (rlE R L i b)]) true := by
  refine Fn.flat ?_ rfl
  refine fn_of false [(136, sp136), (38, sp38)] [fb137] h0 3 Proofs.Tryz.f54 ⟨so136, so38, trivial⟩ ⟨⟨by kernel_rfl, by kernel_rfl, _, rfl, by kernel_rfl⟩, trivial⟩ (by kernel_rfl) rfl (by kernel_rfl) rfl rfl rfl ?_
  rw [vc54]
  try simp only [splitB_iff, -eq_self]
  obtain ⟨hk, hi, hb⟩ := chkC_zero hc
  have h16 := hk.len
  have hx := hk.eds.2 _ (getD_mem (d := e0) (show i.toNat < L.length by omega))
  refine ⟨fun h => ?_, fun h => ?_⟩
  · have h0 : i = 0 := by simpa using h
    exact ⟨if_pos h0, (if_pos h0).symm, trivial⟩
  · have h0 : ¬ i = 0 := by simpa using h
    have e1 : (i - 1).toNat = i.toNat - 1 := by omega
    have hy := hk.eds.2 _ (getD_mem (d := e0) (show i.toNat - 1 < L.length by omega))
    have g3 : (frontL L i.toNat b).getD (i.toNat - 1) e0 = L.getD (i.toNat - 1) e0 := by
      rw [frontL_get _ _ _ _ (by omega), if_neg (by omega)]
    have hF : ∀ x ∈ trimL (frontL L i.toNat b) (i.toNat - 1) b, fits .i64 x.2.2.1 := ed_fits (set_fits (set_fits (eds_bd hk.eds) (by dsimp only; omega)) (by rw [g3]; dsimp only; omega))
    rw [roll_swap (by omega) (by omega)] at hF
    have q1 : rlL R L i b = resL R (rollL L i.toNat b) := if_neg h0
    have q2 : rlE R L i b = chkEds R (rollL L i.toNat b) := if_neg h0
    simp only [e1, front_fold, trim_fold]
    simp only [roll_swap (show 0 < i.toNat by omega) (show i.toNat < L.length by omega), frontL_len, rollL_len, g3, q1, q2]
    exact ⟨by omega, by omega, by omega, by simp only [fits]; omega, by omega, by omega, by simp only [fits]; omega, by simp only [fits]; omega, by omega, by omega, by simp only [fits]; omega, by omega, by omega, hl, hR, by omega, hF, fun h => ⟨if_neg (by simpa using h), by trivial, trivial⟩, fun h => ⟨(if_pos (by simpa using h)).symm, Eq.symm (by simpa using h), trivial⟩⟩
theorem so54_ : SpecOk P1 gl1 54 sp54 := by
  intro vs ps r h hp
  simp only [sp54] at h
  split at h
  · cases h; exact fn54 _ _ _ _ (hp _ (.head _)) (hp _ (.tail _ (.head _))) (hp _ (.tail _ (.tail _ (.head _))))
  · cases h
theorem so54 : Sp1 54 sp54 := ⟨so54_, Proofs.Tryz.f54, _, by kernel_rfl, rfl, by kernel_rfl⟩
theorem fn6 (R : List Rl) (L : List Ed) (b : List Int) (hl : R.length ≤ 9223372036854775807) (hL : L.length ≤ 9223372036854775807) (hF : ∀ x ∈ L, fits .i64 x.2.2.1) (hb : b.length = 2) : Fn P1 gl1 6 [.one (.sl rlT R), .one (.sl edT L), .agg [.arr 2 (.int .i64) b]] (.val (bV true)) true := by
  refine Fn.flat ?_ rfl
  refine fn_of false [(17, sp17), (18, sp18), (25, sp25), (34, sp34), (57, sp57), (49, sp49), (50, sp50), (51, sp51), (52, sp52), (53, sp53), (54, sp54), (55, sp55), (56, sp56)] [] h0 0 Proofs.Tryz.f6 ⟨so17, so18, so25, so34, so57, so49, so50, so51, so52, so53, so54, so55, so56, trivial⟩ trivial (by kernel_rfl) rfl (by kernel_rfl) rfl rfl rfl ?_
  rw [vc6]
  try simp only [splitB_iff, -eq_self]
  have hsh : (!shortB R L) = false → (R.length ≤ 9 ∧ ∀ r ∈ R, r.2.2.length ≤ 257 ∧ r.1.length ≤ 40) ∧ L.length ≤ 17 := fun h => by
    simp only [Bool.not_eq_false', shortB, shortE, shortR, Bool.and_eq_true, Bool.or_eq_true, List.all_eq_true, decide_eq_true_eq] at h
    obtain ⟨h1, h2, h3, h4⟩ := h
    exact ⟨⟨by omega, fun r hr => by have := h1 r hr; omega⟩, by omega⟩
  obtain ⟨p, q, rfl⟩ : ∃ p q, b = [p, q] := by
    match b, hb with
    | [p, q], _ => exact ⟨p, q, rfl⟩
  have e1 : List.getD [p, q] 0 (0 : Int) = p := rfl
  have e2 : List.getD [p, q] 1 (0 : Int) = q := rfl
  have e3 : List.length [p, q] = 2 := rfl
  simp only [e1, e2, e3]
  refine ⟨hl, hL, fun h => ⟨by trivial, trivial⟩, fun h => ?_⟩
  obtain ⟨⟨hR9, hRx⟩, hLx⟩ := hsh h
  have k1 : ∀ r : Rl, r ∈ R → r.2.2.length ≤ 1000000 := fun r hr => by have := hRx r hr; omega
  have k2 : ∀ r : Rl, r ∈ R → r.2.2.length ≤ 1000000 ∧ r.1.length ≤ 1000000000 := fun r hr => by have := hRx r hr; omega
  by_cases hc : chkC R L p q = 0
  · have h0 := (chkC_zero hc).2.1
    have z1 := chg_z (least := 0) trimL hc (by omega)
    have z2 := chg_r hc
    have z3 := chg_z (least := 0) slipL hc (by omega)
    have l1 := resL_len R (trimL L p.toNat q)
    have l2 := resL_len R (slipL L p.toNat q)
    have l3 : (rlL R L p q).length ≤ L.length := by
      unfold rlL
      split
      · simp
      · have := resL_len R (rollL L p.toNat q)
        rw [rollL_len] at this
        exact this
    rw [trimL_len] at l1
    rw [slipL_len] at l2
    simp only [z1.1, z1.2, z2.1, z2.2, z3.1, z3.2, hc, beq_self_eq_true, decide_true, cond_true]
    repeat' (first | exact trivial | exact k1 | exact k2 | exact hF | refine And.intro ?_ ?_ | intro _)
    all_goals first | omega | rfl | contradiction
  · have z1 := chg_c 0 trimL hc
    have z2 := chg_c 1 rollL hc
    have z3 := chg_c 0 slipL hc
    have e4 : (chkC R L p q == 0) = false := by simpa using hc
    simp only [z1.1, z1.2, z2.1, z2.2, z3.1, z3.2, e4, beq_self_eq_true, decide_true, cond_true, List.length_nil]
    repeat' (first | exact trivial | exact k1 | exact k2 | exact hF | refine And.intro ?_ ?_ | intro _)
    all_goals first | omega | rfl | contradiction

end Go.Sx

/- From readings of arguments to pure data. -/
namespace Go.Sx
open Go.RowKit

/-- What a reading gives beside the cells: numbers fit their kinds, lengths are those of machines. -/
def WF : (t : Ty) → t.T → Prop
  | .int k, n => (Lit.int k n).wf = true
  | .bool, _ => True
  | .str, l => List.length l ≤ maxLen
  | .flt k, n => (Lit.float k n).wf = true
  | .cpx _, _ => True
  | .sl t, xs => List.length xs ≤ maxLen ∧ ∀ i (h : i < List.length xs), WF t (xs[i]'h)
  | .arr n t, xs => List.length xs = n ∧ ∀ i (h : i < List.length xs), WF t (xs[i]'h)
  | .pair a b, x => WF a x.1 ∧ WF b x.2

mutual
def rdChk (P : Program) : Nat → TypeId → Ty → Bool
  | 0, _, _ => false
  | n + 1, t, u => match P.underlying t with
      | some (.int k) => decide (u = .int k)
      | some .bool => decide (u = .bool)
      | some .string => decide (u = .str)
      | some (.float k) => decide (u = .flt k)
      | some (.slice e) => match u with
        | .sl v => decide (P.cellsOf e = v.sz) && decide (v.sz ≠ 0) && rdChk P n e v
        | _ => false
      | some (.array m e) => match u with
        | .arr m' v => decide (m = m') && decide (P.cellsOf e = v.sz) && decide (P.cellsOf t = m * v.sz) && rdChk P n e v
        | _ => false
      | some (.struct fs) => decide (P.cellsOf t = u.sz) && rdFs P n 0 fs.toList u
      | _ => false
def rdFs (P : Program) : Nat → Nat → List Field → Ty → Bool
  | 0, _, _, _ => false
  | n + 1, off, [f], u => decide (f.offset = off) && decide (P.cellsOf f.type = u.sz) && rdChk P n f.type u
  | n + 1, off, f :: r, .pair a b => decide (f.offset = off) && decide (P.cellsOf f.type = a.sz) && rdChk P n f.type a && rdFs P n (off + a.sz) r b
  | _, _, _, _ => false
end

def HW (w : World) : IH := fun b => w.heap[b]?

theorem addp (b off i : Nat) : (Addr.mk b off none).add i = ⟨b, off + i, none⟩ := by
  unfold Addr.add; split <;> simp_all
theorem cells_seg {w : World} {base : Nat} {a : Addr} {n : Nat} {cs : List Value} (h : w.cells? base a n = some cs) (hn : 0 < n) :
    ∃ b off c e fr, a = ⟨b, off, none⟩ ∧ w.heap[b]? = some (.cells c e fr) ∧ seg c off n = cs := by
  obtain ⟨_, hl, hc⟩ := World.cells?_some h
  obtain ⟨b, off, sp⟩ := a
  have h0 := hc 0 hn
  rw [List.getElem?_eq_getElem (by omega)] at h0
  have hs : sp = none := by
    have := World.cell?_spot h0
    simp only [Addr.add] at this
    cases sp with
    | none => rfl
    | some x => simp at this
  subst hs
  have hb : ∃ c e fr, w.heap[b]? = some (.cells c e fr) := by
    simp only [World.cell?, Addr.add] at h0
    split at h0
    · exact ⟨_, _, _, ‹_›⟩
    · cases h0
  obtain ⟨c, e, fr, hb⟩ := hb
  refine ⟨b, off, c, e, fr, rfl, hb, ?_⟩
  have hi : ∀ i, i < n → c[off + i]? = cs[i]? := by
    intro i hi
    have := hc i hi
    rw [addp] at this
    simpa [World.cell?, hb] using this
  apply List.ext_getElem?
  intro i
  simp only [seg, List.getElem?_take, List.getElem?_drop]
  split
  · rename_i h1
    rw [← hi i h1]; simp
  · rename_i h1
    rw [List.getElem?_eq_none (by omega)]

theorem choose_list {α : Type} (n : Nat) (p : Nat → α → Prop) (h : ∀ i, i < n → ∃ y, p i y) : ∃ ys : List α, ys.length = n ∧ ∀ i (hi : i < ys.length), p i (ys[i]'hi) := by
  induction n with
  | zero => exact ⟨[], rfl, fun i hi => by simp at hi⟩
  | succ n ih =>
    obtain ⟨ys, h1, h2⟩ := ih fun i hi => h i (by omega)
    obtain ⟨y, hy⟩ := h n (by omega)
    refine ⟨ys ++ [y], by simp [h1], fun i hi => ?_⟩
    by_cases hlt : i < ys.length
    · rw [List.getElem_append_left hlt]; exact h2 i hlt
    · simp at hi
      have : i = ys.length := by omega
      subst this
      simp
      rw [h1]; exact hy

theorem trod_rd_all {X : Type} {enc : TypeId × Value → X} {P : Program} {w : World} {base : Nat} {spare : Nat → Bool} {held : Bool} : ∀ (n : Nat),
    (∀ (t : TypeId) (u : Ty) (fuel : Nat) (cs : List Value) (x : DataW X × List MemPlace), rdChk P n t u = true → DataW.trod enc P w base spare held fuel t cs = some x → ∃ y : u.T, Rd (HW w) u y cs ∧ WF u y) ∧
    (∀ (off : Nat) (fs : List Field) (u : Ty) (fuel : Nat) (cs : List Value), rdFs P n off fs u = true → cs.length = off + u.sz →
      (∀ f ∈ fs, ∃ x, DataW.trod enc P w base spare held fuel f.type ((cs.drop f.offset).take (P.cellsOf f.type)) = some x) → ∃ y : u.T, Rd (HW w) u y (cs.drop off) ∧ WF u y) := by
  intro n
  induction n with
  | zero => exact ⟨fun _ _ _ _ _ h => by simp [rdChk] at h, fun _ _ _ _ _ h => by simp [rdFs] at h⟩
  | succ n ih =>
    refine ⟨?_, ?_⟩
    · intro t u fuel cs x h hx
      unfold rdChk at h
      split at h
      · rename_i k hu
        simp at h; subst h
        obtain ⟨m, rfl, _, hw⟩ := DataW.trod_int hu hx
        exact ⟨m, rfl, hw⟩
      · rename_i hu
        simp at h; subst h
        obtain ⟨m, rfl, _⟩ := DataW.trod_bool hu hx
        exact ⟨m, rfl, trivial⟩
      · rename_i hu
        simp at h; subst h
        obtain ⟨s, rfl, _, hw⟩ := DataW.trod_string hu hx
        refine ⟨s.data.toList, rfl, ?_⟩
        show s.data.toList.length ≤ maxLen
        rw [Array.length_toList]; exact hw
      · rename_i k hu
        simp at h; subst h
        cases fuel with
        | zero => simp [DataW.trod] at hx
        | succ m =>
          unfold DataW.trod at hx
          rw [hu] at hx
          have : ∃ b, cs = [.float k b] ∧ (Lit.float k b).wf = true := by split at hx <;> simp_all
          obtain ⟨b, rfl, hw⟩ := this
          exact ⟨b, rfl, hw⟩
      · rename_i e hu
        split at h
        · rename_i v
          simp only [Bool.and_eq_true, decide_eq_true_eq] at h
          obtain ⟨⟨h1, h2⟩, h3⟩ := h
          rcases DataW.trod_slice hu hx with ⟨rfl, _⟩ | ⟨a, len, cap, elems, rest, m, _, rfl, _, _, hlc, hm, hel, hei, _, _⟩
          · exact ⟨[], ⟨none, 0, rfl, Nat.le_refl _, .inl rfl⟩, by simp [WF]⟩
          · have hone : ∀ i, i < len → ∃ cs', w.cells? base (a.add (i * P.cellsOf e)) (P.cellsOf e) = some cs' ∧ ∃ y : v.T, Rd (HW w) v y cs' ∧ WF v y := by
              intro i hi
              have := hei i hi
              rw [List.getElem?_eq_getElem (by omega)] at this
              obtain ⟨cs', hc1, hc2⟩ := Option.bind_eq_some_iff.1 this
              exact ⟨cs', hc1, ih.1 _ _ _ _ _ h3 hc2⟩
            obtain ⟨ys, hy1, hy2⟩ := choose_list len (fun i (y : v.T) => ∃ cs', w.cells? base (a.add (i * P.cellsOf e)) (P.cellsOf e) = some cs' ∧ Rd (HW w) v y cs' ∧ WF v y)
              (fun i hi => by obtain ⟨cs', h1, y, h2⟩ := hone i hi; exact ⟨y, cs', h1, h2⟩)
            refine ⟨ys, ⟨some a, cap, by rw [hy1], by rw [hy1]; exact hlc, ?_⟩, by rw [hy1]; omega, fun i hi => ?_⟩
            · rcases Nat.eq_zero_or_pos ys.length with h0 | h0
              · exact .inl h0
              · right
                obtain ⟨cs0, hc0, _⟩ := hy2 0 h0
                obtain ⟨b, off, c, e', fr, ha, hb, _⟩ := cells_seg hc0 (by omega)
                have ha' : a = ⟨b, off, none⟩ := by rw [← ha]; simp [Addr.add]
                refine ⟨b, off, c, e', fr, by rw [ha'], hb, fun i hi => ?_⟩
                obtain ⟨cs', hc', hr, _⟩ := hy2 i hi
                obtain ⟨b', off', c', e'', fr', hab, hb', hsg⟩ := cells_seg hc' (by omega)
                rw [ha', addp] at hab
                simp only [Addr.mk.injEq] at hab
                obtain ⟨rfl, rfl, _⟩ := hab
                rw [hb] at hb'
                cases hb'
                rw [h1] at hsg
                rw [hsg]; exact hr
            · obtain ⟨_, _, _, hwf⟩ := hy2 i hi
              exact hwf
        · cases h
      · rename_i m e hu
        split at h
        · rename_i m' v
          simp only [Bool.and_eq_true, decide_eq_true_eq] at h
          obtain ⟨⟨⟨rfl, h1⟩, h2⟩, h3⟩ := h
          obtain ⟨xs, k, _, _, hl, hxl, hxi⟩ := DataW.trod_array hu hx
          obtain ⟨ys, hy1, hy2⟩ := choose_list m (fun i (y : v.T) => Rd (HW w) v y ((cs.drop (i * P.cellsOf e)).take (P.cellsOf e)) ∧ WF v y)
            (fun i hi => by
              have := hxi i hi
              rw [List.getElem?_eq_getElem (by omega)] at this
              exact ih.1 _ _ _ _ _ h3 this)
          refine ⟨ys, ⟨hy1, by rw [hl, h2], fun i hi => ?_⟩, hy1, fun i hi => (hy2 i hi).2⟩
          have := (hy2 i hi).1
          rw [h1] at this
          exact this
        · cases h
      · rename_i fs hu
        simp only [Bool.and_eq_true, decide_eq_true_eq] at h
        obtain ⟨xs, k, _, _, hl, hxl, hxi⟩ := DataW.trod_struct hu hx
        have := ih.2 0 fs.toList u k cs h.2 (by rw [hl, h.1]; omega) (fun f hf => by
          obtain ⟨i, hi, rfl⟩ := List.mem_iff_getElem.1 hf
          simp at hi
          have := hxi i fs[i] (by simp [hi])
          rw [List.getElem?_eq_getElem (by omega)] at this
          exact ⟨_, by simpa using this⟩)
        simpa using this
      · cases h
    · intro off fs u fuel cs h hl hf
      match fs, u, h, hl, hf with
      | [], u, h, _, _ => simp [rdFs] at h
      | [f], u, h, hl, hf =>
        simp only [rdFs, Bool.and_eq_true, decide_eq_true_eq] at h
        obtain ⟨⟨rfl, h1⟩, h2⟩ := h
        obtain ⟨x, hx⟩ := hf f (by simp)
        rw [h1, List.take_of_length_le (by simp; omega)] at hx
        exact ih.1 _ _ _ _ _ h2 hx
      | f :: g :: r, .pair a b, h, hl, hf =>
        simp only [rdFs, Bool.and_eq_true, decide_eq_true_eq] at h
        obtain ⟨⟨⟨rfl, h1⟩, h2⟩, h3⟩ := h
        simp only [Ty.sz] at hl
        obtain ⟨x, hx⟩ := hf f (by simp)
        rw [h1] at hx
        obtain ⟨y1, hy1, hw1⟩ := ih.1 _ _ _ _ _ h2 hx
        obtain ⟨y2, hy2, hw2⟩ := ih.2 _ _ _ fuel cs h3 (by omega) (fun g' hg => hf g' (List.mem_cons_of_mem _ hg))
        refine ⟨(y1, y2), ⟨hy1, ?_⟩, hw1, hw2⟩
        rw [List.drop_drop]; exact hy2
      | _ :: _ :: _, .int _, h, _, _ => simp [rdFs] at h
      | _ :: _ :: _, .bool, h, _, _ => simp [rdFs] at h
      | _ :: _ :: _, .str, h, _, _ => simp [rdFs] at h
      | _ :: _ :: _, .flt _, h, _, _ => simp [rdFs] at h
      | _ :: _ :: _, .cpx _, h, _, _ => simp [rdFs] at h
      | _ :: _ :: _, .sl _, h, _, _ => simp [rdFs] at h
      | _ :: _ :: _, .arr _ _, h, _, _ => simp [rdFs] at h

theorem trod_rd {X : Type} {enc : TypeId × Value → X} {P : Program} {w : World} {base : Nat} {spare : Nat → Bool} {held : Bool} (n : Nat)
    {t : TypeId} {u : Ty} (h : rdChk P n t u = true) {fuel : Nat} {cs : List Value} {x : DataW X × List MemPlace} (hx : DataW.trod enc P w base spare held fuel t cs = some x) : ∃ y : u.T, Rd (HW w) u y cs ∧ WF u y :=
  (trod_rd_all n).1 t u fuel cs x h hx
end Go.Sx

/- From readings of arguments to pure data: arguments, variables, what is left behind. -/
namespace Go.Sx
open Go.RowKit Go.ChangeShapes Go.WideShapes Go.ChangeAt

section
variable {X : Type} {enc : TypeId × Value → X} {P : Program} {w : World} {base base' : Nat} {spare : Nat → Bool} {held : Bool} {n : Nat} {t : TypeId} {u : Ty} {v : Value} {d : DataW X} {ps : List MemPlace}

theorem cells_one (hv : ∀ cs, v ≠ .agg cs) : v.cells.toList = [v] := by
  cases v <;> simp_all [Value.cells]

theorem okWide_one (ha : aggOf P t = false) (hok : Value.okWide P w .any base' t v) : ∀ cs, v ≠ .agg cs := by
  intro cs hv
  subst hv
  unfold aggOf at ha
  unfold Value.okWide at hok
  split at hok
  · rename_i h; rw [h] at ha; cases ha
  · rename_i h; rw [h] at ha; cases ha
  · unfold Cell.okWide at hok
    split at hok <;> try (rename_i h; cases h; done)
    all_goals first | (rename_i h _; cases h; done) | skip
    all_goals first | (unfold Cell.ok at hok; split at hok <;> first | (exact hok) | (rename_i h; cases h; done) | (rename_i h _; cases h; done) | simp_all; done) | simp_all

theorem arg_one (h : rdChk P n t u = true) (ha : aggOf P t = false) (hok : Value.okWide P w .any base' t v) (hT : DataW.Trod enc P w base spare held t v d ps) : ∃ y : u.T, Rd (HW w) u y [v] ∧ WF u y := by
  obtain ⟨fuel, hT⟩ := hT
  rw [cells_one (okWide_one ha hok)] at hT
  exact trod_rd n h hT

theorem arg_agg (h : rdChk P n t u = true) (ha : aggOf P t = true) (hok : Value.okWide P w .any base' t v) (hT : DataW.Trod enc P w base spare held t v d ps) : ∃ (vs : List Value) (y : u.T), v = .agg ⟨vs⟩ ∧ Rd (HW w) u y vs ∧ WF u y := by
  obtain ⟨fuel, hT⟩ := hT
  have hv : ∃ cs, v = .agg cs := by
    unfold aggOf at ha
    unfold Value.okWide at hok
    split at hok
    · exact ⟨_, hok.choose_spec.1⟩
    · exact ⟨_, hok.choose_spec.1⟩
    · rename_i h1 h2
      split at ha
      · exact absurd ‹_› (h1 _)
      · exact absurd ‹_› (h2 _ _)
      · cases ha
  obtain ⟨cs, rfl⟩ := hv
  obtain ⟨y, h1, h2⟩ := trod_rd n h hT
  exact ⟨cs.toList, y, rfl, h1, h2⟩
end

theorem trodAll_below {X : Type} {enc : TypeId × Value → X} {P : Program} (hl : laidOutB P = true) {W W' : World} (hb : Below W.heap.size W W') : ∀ {ts : List TypeId} {vs : List Value} {ds : List (DataW X)} {ps : List MemPlace},
    (ts.all fun t => P.readableRec t && decide (t < P.types.size)) = true → DataW.TrodAll enc P W 0 (fun _ => true) true ts vs ds ps → (∀ x ∈ ps, x.block < W.heap.size) → DataW.TrodAll enc P W' 0 (fun b => decide (b < W.heap.size)) true ts vs ds ps
  | [], vs, ds, ps, _, h, _ => by
    cases vs <;> cases ds <;> simp_all [DataW.TrodAll]
  | t :: ts, vs, ds, ps, ht, h, hlt => by
    obtain ⟨v, vs', d, ds', p, q, rfl, rfl, rfl, h1, h2⟩ := trodAll_cons h
    simp only [List.all_cons, Bool.and_eq_true, decide_eq_true_eq] at ht
    refine trodAll_cons_mk (Below.trod hl ht.1.1 ht.1.2 h1 hb fun x hx => hlt x (by simp [hx])) (trodAll_below hl hb ht.2 h2 fun x hx => hlt x (by simp [hx]))

/-- What a law leaves behind: true, and the arguments as they were. -/
theorem law_post {X : Type} {enc : TypeId × Value → X} {P : Program} (hl : laidOutB P = true) {s : ChangeSpec} {f : Func} {tb : TypeId} {W W' : World} {args : Array Value} {ds gs : List (DataW X)} {before : List MemPlace} {r : Value}
    (hvars : s.vars = []) (hts : (f.params.toList.all fun t => P.readableRec t && decide (t < P.types.size)) = true) (hres : f.resultTypes = #[tb]) (htb : P.underlying tb = some .bool)
    (hfn : s.fn X ds = { results := [.lit (.bool true)], args := ds })
    (hW : DataW.Whole enc P f.params.toList s.vars false W args.toList ds gs before) (hb : Below W.heap.size W W') (hr : r = .bool true) :
    s.post enc P f false true false false W args r W' := by
  subst hr
  have hW' := hW
  obtain ⟨p, q, hA, hV, rfl, hfz, hnd⟩ := hW
  rw [hvars] at hV
  obtain ⟨rfl, rfl⟩ := trodVars_none hV
  have hlt : ∀ x ∈ p, x.block < W.heap.size := fun x hx => hW'.lt x (by simp [hx])
  refine ⟨ds, [], p ++ [], [], p, [], hW', ?_, ?_, ?_, hb.frame _, fun h => by cases h⟩
  · rw [List.append_nil, hfn, hres]
    exact trodAll_cons_mk (shut_bool htb _) trodAll_mk0
  · rw [List.append_nil, hfn]
    exact trodAll_below hl hb hts hA hlt
  · rw [List.append_nil, hfn, hvars]
    rfl

theorem law_calls {X : Type} {enc : TypeId × Value → X} {P : Program} (hl : laidOutB P = true) {s : ChangeSpec} {f : Func} {tb : TypeId} {fid : FuncId} {W : World} {args : Array Value} {ds gs : List (DataW X)} {before : List MemPlace}
    (hvars : s.vars = []) (hts : (f.params.toList.all fun t => P.readableRec t && decide (t < P.types.size)) = true) (hres : f.resultTypes = #[tb]) (htb : P.underlying tb = some .bool)
    (hfn : s.fn X ds = { results := [.lit (.bool true)], args := ds })
    (hW : DataW.Whole enc P f.params.toList s.vars false W args.toList ds gs before)
    {gl : Nat → Option ((t : Ty) × t.T)} {avs : List V} (hF : Fn P gl fid avs (.val (.one (.bool true))) true) (hg : GlobOk gl (HW W)) (ha : DenVs ρ0 (HW W) avs args.toList) :
    Calls P fid args W fun e W' => ∃ v, e = .returned v ∧ s.post enc P f false true false false W args v W' := by
  refine (hF W (HW W) args.toList (fun b o h => h) hg ha).mono fun e W' h => ?_
  obtain ⟨v, H', rfl, hb, _, _, hd⟩ := h
  exact ⟨v, rfl, law_post hl hvars hts hres htb hfn hW hb hd.2⟩

theorem glob_tab {P : Program} {W : World} {name : String} {k : IntKind} {zs : List Int} {g : Nat} (h : Lib.TabIs P W name k zs) (hg : P.globalNamed name = some g) :
    ∃ c e fr, HW W g = some (.cells c e fr) ∧ Rd (HW W) (.arr zs.length (.int k)) zs (seg c 0 (zs.length * 1)) ∧ c.size = zs.length * 1 := by
  unfold Lib.TabIs at h
  simp only [World.var?, hg, Option.bind_some] at h
  split at h
  · rename_i cs e fr hh
    cases h
    refine ⟨_, _, _, hh, ?_, by simp⟩
    have e1 : seg (zs.map fun z => Value.int k z).toArray 0 (zs.length * 1) = zs.map fun z => Value.int k z := by
      simp [seg, List.take_of_length_le]
    rw [e1]
    refine ⟨rfl, by simp [Ty.sz], fun i hi => ?_⟩
    show List.take 1 (List.drop (i * 1) (List.map (fun z => Value.int k z) zs)) = [Value.int k zs[i]]
    simp only [Nat.mul_one]
    rw [List.drop_eq_getElem_cons (by simpa using hi)]
    simp
  · cases h
end Go.Sx

/- What a row's list of variables gives, wherever a variable stands on it. -/
namespace Go.Sx
open Go.RowKit

theorem laid_at {P : Program} {W : World} {name : String} {d : DataW Unit} {l : List (String × DataW Unit)} (h : laidMet P l W) (hm : (name, d) ∈ l) :
    ∃ g t cs fuel p, P.globalNamed name = some g ∧ (P.globals[g]?).map (·.type) = some t ∧ W.var? P name = some cs ∧ DataW.trod (fun _ => ()) P W 0 (fun _ => true) false fuel t cs.toList = some (d, p) := by
  obtain ⟨ps, h, hrest⟩ := h
  clear hrest
  induction l generalizing ps with
  | nil => cases hm
  | cons x r ih =>
    obtain ⟨n, e⟩ := x
    obtain ⟨g, t, cs, fuel, p, q, h1, h2, h3, h4, h5, h6⟩ := h
    rcases List.mem_cons.1 hm with e | hm
    · cases e; exact ⟨g, t, cs, fuel, p, h1, h2, h3, h4⟩
    · exact ih hm _ h5

theorem tab_at {P : Program} {W : World} {name : String} {k : IntKind} {zs : List Int} {l : List (String × DataW Unit)} {g : Nat} {t e : TypeId} {n : Nat} (hm : (name, Lib.tabData k zs) ∈ l)
    (hg : P.globalNamed name = some g) (hty : (P.globals[g]?).map (·.type) = some t) (ht : P.underlying t = some (.array n e)) (he : P.underlying e = some (.int k)) (hce : P.cellsOf e = 1) (hct : P.cellsOf t = n)
    (h : laidMet P l W) : Lib.TabIs P W name k zs := by
  obtain ⟨g', t', cs, fuel, p, h1, h2, h3, h4⟩ := laid_at h hm
  obtain rfl := Option.some.inj (hg.symm.trans h1)
  obtain rfl := Option.some.inj (hty.symm.trans h2)
  unfold Lib.TabIs
  rw [h3, ← Lib.cells_of_tab ht he hce hct h4]

theorem var_heap {P : Program} {W : World} {name : String} {g : Nat} {cs : Array Value} (hg : P.globalNamed name = some g) (h : W.var? P name = some cs) : ∃ e fr, W.heap[g]? = some (.cells cs e fr) := by
  simp only [World.var?, hg, Option.bind_some] at h
  split at h
  · rename_i cs' e fr hh
    cases h
    exact ⟨e, fr, hh⟩
  · cases h

theorem pair_at {P : Program} {W : World} {name : String} {k k' : IntKind} {a b : Int} {l : List (String × DataW Unit)} {g : Nat} {t : TypeId} {fs : Array Field} {f0 f1 : Field} (hm : (name, .agg [.lit (.int k a), .lit (.int k' b)]) ∈ l)
    (hg : P.globalNamed name = some g) (hty : (P.globals[g]?).map (·.type) = some t) (ht : P.underlying t = some (.struct fs)) (hfs : fs.toList = [f0, f1]) (ho0 : f0.offset = 0) (ho1 : f1.offset = 1)
    (hc0 : P.cellsOf f0.type = 1) (hc1 : P.cellsOf f1.type = 1) (hu0 : P.underlying f0.type = some (.int k)) (hu1 : P.underlying f1.type = some (.int k')) (hct : P.cellsOf t = 2)
    (h : laidMet P l W) : ∃ c e fr, HW W g = some (.cells c e fr) ∧ Rd (HW W) (.pair (.int k) (.int k')) (a, b) (seg c 0 2) ∧ c.size = 2 := by
  obtain ⟨g', t', cs, fuel, p, h1, h2, h3, h4⟩ := laid_at h hm
  obtain rfl := Option.some.inj (hg.symm.trans h1)
  obtain rfl := Option.some.inj (hty.symm.trans h2)
  obtain ⟨e, fr, hh⟩ := var_heap hg h3
  refine ⟨cs, e, fr, hh, ?_⟩
  have hcs : cs.toList = [.int k a, .int k' b] := by
    cases fuel with
    | zero => simp [DataW.trod] at h4
    | succ fuel =>
      simp only [DataW.trod, ht, hct, hfs, hc0, hc1, ho0, ho1, List.mapM_cons, List.mapM_nil] at h4
      split at h4
      · rename_i hl
        obtain ⟨xs, hx1, hx2⟩ := Option.map_eq_some_iff.1 h4
        simp only [Option.bind_eq_bind, Option.bind_eq_some_iff, Option.pure_def, Option.some.injEq] at hx1
        obtain ⟨y0, hy0, r, ⟨y1, hy1, r2, rfl, rfl⟩, rfl⟩ := hx1
        obtain ⟨m0, e0, hz0, _⟩ := DataW.trod_int hu0 hy0
        obtain ⟨m1, e1, hz1, _⟩ := DataW.trod_int hu1 hy1
        subst hz0 hz1
        simp only [List.map_cons, List.map_nil, Prod.mk.injEq, DataW.agg.injEq, List.cons.injEq, DataW.lit.injEq, Lit.int.injEq, true_and, and_true] at hx2
        obtain ⟨⟨rfl, rfl⟩, _⟩ := hx2
        match hq : cs.toList, hl with
        | [u, v], _ =>
          rw [hq] at e0 e1
          simp at e0 e1
          rw [e0, e1]
      · cases h4
  have hs : seg cs 0 2 = [.int k a, .int k' b] := by unfold seg; rw [hcs]; rfl
  rw [hs]
  exact ⟨⟨rfl, rfl⟩, by rw [← Array.length_toList, hcs]; rfl⟩

def intB (P : Program) (t : TypeId) (k : IntKind) : Bool := match P.underlying t with
  | some (.int q) => decide (q = k)
  | _ => false
theorem intB_ok {P : Program} {t : TypeId} {k : IntKind} (h : intB P t k = true) : P.underlying t = some (.int k) := by
  unfold intB at h
  split at h
  · rename_i q hq
    rw [hq, of_decide_eq_true h]
  · cases h
/-- A struct of two numbers. -/
def pairB (P : Program) (t : TypeId) (k k' : IntKind) : Bool := match P.underlying t with
  | some (.struct fs) => match fs.toList with
    | [f0, f1] => decide (f0.offset = 0) && decide (f1.offset = 1) && decide (P.cellsOf f0.type = 1) && decide (P.cellsOf f1.type = 1) && intB P f0.type k && intB P f1.type k' && decide (P.cellsOf t = 2)
    | _ => false
  | _ => false
theorem pair_at' {P : Program} {W : World} {name : String} {k k' : IntKind} {a b : Int} {l : List (String × DataW Unit)} {g : Nat} {t : TypeId} (hm : (name, .agg [.lit (.int k a), .lit (.int k' b)]) ∈ l)
    (hg : P.globalNamed name = some g) (hty : (P.globals[g]?).map (·.type) = some t) (hc : pairB P t k k' = true) (h : laidMet P l W) :
    ∃ c e fr, HW W g = some (.cells c e fr) ∧ Rd (HW W) (.pair (.int k) (.int k')) (a, b) (seg c 0 2) ∧ c.size = 2 := by
  unfold pairB at hc
  split at hc
  · rename_i fs hu
    split at hc
    · rename_i f0 f1 hfs
      simp only [Bool.and_eq_true, decide_eq_true_eq] at hc
      obtain ⟨⟨⟨⟨⟨⟨h1, h2⟩, h3⟩, h4⟩, h5⟩, h6⟩, h7⟩ := hc
      exact pair_at hm hg hty hu hfs h1 h2 h3 h4 (intB_ok h5) (intB_ok h6) h7 h
    · cases hc
  · cases hc

theorem rd_pair {H : IH} {a b : Ty} {x : (Ty.pair a b).T} {cs : List Value} (h : Rd H (.pair a b) x cs) : ∃ c1 c2, cs = c1 ++ c2 ∧ Rd H a x.1 c1 ∧ Rd H b x.2 c2 :=
  ⟨_, _, (List.take_append_drop a.sz cs).symm, h.1, h.2⟩
theorem wf_i64 {n : Int} (h : (Lit.int .i64 n).wf = true) : fits .i64 n := by
  simp [Lit.wf, IntKind.min, IntKind.max, IntKind.signed, IntKind.bits] at h
  simp only [fits]
  omega
theorem wf_i8 {n : Int} (h : (Lit.int .i8 n).wf = true) : fits .i8 n := by
  simp [Lit.wf, IntKind.min, IntKind.max, IntKind.signed, IntKind.bits] at h
  simp only [fits]
  omega
theorem wf_u8 {n : Int} (h : (Lit.int .u8 n).wf = true) : fits .u8 n := by
  simp [Lit.wf, IntKind.min, IntKind.max, IntKind.signed, IntKind.bits] at h
  simp only [fits]
  omega
theorem wf_mem {t : Ty} {xs : List t.T} (h : WF (.sl t) xs) : ∀ x ∈ xs, WF t x := by
  intro x hx
  obtain ⟨i, hi, rfl⟩ := List.mem_iff_getElem.1 hx
  exact h.2 i hi
end Go.Sx
