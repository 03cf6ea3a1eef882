/- A verified symbolic run of functions, part 18: lemmas, no claim of their own. -/
import Derived.Test.YtjbfcdgbjgjliaaGreatDoorS17
import Derived.OpenShut
import Derived.ProofKit
import Derived.Carry
import Derived.OpenVars
import Derived.Lib.LaidTab
import Derived.ChangeSame
import Derived.WalkKit
import Derived.Deep.DeepHandedRow
import Derived.JoinedCond
import Derived.KernelRfl
import Derived.Test.YtjbfcdgbjgjliaaGreatDoorProg
import Derived.Test.YtjbfcdgbjgjliaaGreatDoorCards
/- Contracts. -/
namespace Go.Sx
open U
theorem fn49 (l : Fld) (lim : Int)  : Fn P1 gl1 49 [fldV l, iV lim] (.tup [plV (decP l lim), blV (decU l lim), iV (decE l lim)]) false := by
  refine fn_of false [(38, sp38), (96, sp96), (95, sp95), (123, sp123), (124, sp124), (112, sp112)] [] hd49 0 Proofs.Tryz.f49 ⟨so38, so96, so95, so123, so124, so112, trivial⟩ trivial (by kernel_rfl) rfl (by kernel_rfl) rfl rfl rfl ?_
  rw [vc49]
  try simp only [splitB_iff, -eq_self]
  refine ⟨by decide, fun h => ?_, fun h => ?_⟩
  · have h : ¬ decB l lim = 0 := bneZ.1 h
    have e : decE l lim = decB l lim := by unfold decE; rw [if_neg h]
    have e2 : decE l lim ≠ 0 := by rw [e]; exact h
    refine ⟨?_, ?_, e.symm, trivial⟩
    · unfold decP; rw [if_neg e2]
    · unfold decU; rw [if_neg e2]
  · have h : decB l lim = 0 := bneF.1 h
    have h2 := first_zero.1 h
    have c1 : chkFld l = 0 := h2 _ (.head _)
    have cl := within_zero.1 (h2 _ (.tail _ (.head _)))
    have hE := decE_of h
    have c0 := (chkFld_zero.1 c1).1
    have hm : (l.map sixs).length = l.length := List.length_map _
    refine ⟨c1, ⟨0, ⟨by omega, rfl⟩, rfl, rfl, rfl, rfl, rfl, rfl, rfl, trivial⟩, fun g hg => ⟨fun hlt => ?_, fun hge => ?_⟩⟩
    · have hlt : g < l.length := by have := of_decide_eq_true hlt; omega
      obtain ⟨a1, a2, a3, a4⟩ := fld_line c1 hlt
      have hn : (rwI (l.map sixs) (g : Int)).length = (List.getD l g []).length := by rw [rwI_nat, sixs_len]
      have k1 : (choI (l.map sixs) g lim).1.length ≤ 100000 := by unfold choI; show (tab _ _).length ≤ _; rw [tab_len]; omega
      have k2 : (choI (l.map sixs) g lim).2.1.length ≤ 100000 := by unfold choI; show (tab _ _).length ≤ _; rw [tab_len]; omega
      have k3 : (choI (l.map sixs) g lim).2.2.length ≤ 100000 := by unfold choI; show (tab _ _).length ≤ _; rw [tab_len]; omega
      refine ⟨fldI_of c1, ⟨by omega, by omega⟩, cl, k1, k2, k3, fun k => ?_, fun k => ?_⟩
      · have k : partsE (choI (l.map sixs) g lim) ≠ 0 := bneZ.1 k
        have hE2 : decE l lim = partsE (choI (l.map sixs) g lim) := by rw [hE, upTo_stop (f := fun k => partsE (choI (l.map sixs) k lim)) hg.2 k hlt]
        refine ⟨?_, ?_, hE2.symm, trivial⟩
        · unfold decP; rw [if_neg (by rw [hE2]; exact k)]
        · unfold decU; rw [if_neg (by rw [hE2]; exact k)]
      · have k : partsE (choI (l.map sixs) g lim) = 0 := bneF.1 k
        exact ⟨by simp only [room, tab_len]; omega, by simp only [room, tab_len]; omega, by simp only [fits]; omega, g + 1, ⟨by omega, upTo_next (f := fun k => partsE (choI (l.map sixs) k lim)) hg.2 k⟩, by omega, by simp, rfl, rfl, rfl, (tab_succ g fun k => partsP (choI (l.map sixs) k lim)).symm, (tab_succ g fun k => choU (l.map sixs) k lim).symm, rfl, trivial⟩
    · have hge : ¬ (g : Int) < ((l.map sixs).length : Int) := of_decide_eq_false hge
      have e : g = l.length := by omega
      subst e
      have hE0 : decE l lim = 0 := by rw [hE]; exact hg.2
      rw [hE0]
      unfold decP decU
      rw [if_pos hE0, if_pos hE0]
      exact ⟨rfl, rfl, rfl, trivial⟩
theorem so49_ : SpecOk P1 gl1 49 sp49 := by
  intro vs ps r h _
  simp only [sp49] at h
  split at h
  · cases h; exact fn49 _ _ 
  · cases h
theorem so49 : Sp1 49 sp49 := ⟨so49_, Proofs.Tryz.f49, _, by kernel_rfl, rfl, by kernel_rfl⟩
end Go.Sx

/- Plain functions and hints. -/
namespace Go.Sx
open U
end Go.Sx

/- What the engine asks, written out (printed by a program). -/
namespace Go.Sx
open U
theorem vc6 (l : Fld) (line lim : Int) : exF (env false [(19, sp19), (39, sp39), (29, sp29), (47, sp47), (48, sp48), (49, sp49), (40, sp40), (24, sp24), (22, sp22), (50, sp50), (51, sp51), (52, sp52), (46, sp46), (45, sp45n), (54, sp54), (53, sp53), (55, sp55)] []) h0 0 6 Proofs.Tryz.f6 [fldV l, iV line, iV lim] (.val (bV true)) = (let q7 := (errP (twoE l line) (twoI l line)); let q0 := (q7.1, q7.2.1, q7.2.2); let q12 := (threeE l line); let q13 := (threeL l line); let q6 := (errP q12 q13); let q1 := (q6.1, q6.2.1, q6.2.2); let q2 := (bif bif bif sameP q0 q0 then errE (twoE l line) (twoI l line) == errE (twoE l line) (twoI l line) else false then sameP q1 q1 else false then errE q12 q13 == errE q12 q13 else false); let q3 := (bif bif bif sameP q0 ([], [], []) then errE (twoE l line) (twoI l line) == (10 : Int) else false then sameP q1 ([], [], []) else false then errE q12 q13 == (10 : Int) else false); let q4 := (bif bif bif sameP q0 ([], [], []) then errE (twoE l line) (twoI l line) == chkFld l else false then sameP q1 ([], [], []) else false then errE q12 q13 == chkFld l else false); let q5 := (1000000 : Nat); let q8 := (1000000000 : Nat); let q9 := (bif sameP q0 q0 then errE (twoE l line) (twoI l line) == errE (twoE l line) (twoI l line) else false); let q10 := (bif sameP q0 ([], [], []) then errE (twoE l line) (twoI l line) == (10 : Int) else false); let q11 := (bif sameP q0 ([], [], []) then errE (twoE l line) (twoI l line) == chkFld l else false); let q14 := (bif bif bif bif sameP q0 q0 then errE (twoE l line) (twoI l line) == errE (twoE l line) (twoI l line) else false then sameP q1 q1 else false then errE q12 q13 == errE q12 q13 else false then sameL (decP l lim) (decP l lim) else false); let q15 := (bif bif bif bif sameP q0 ([], [], []) then errE (twoE l line) (twoI l line) == (10 : Int) else false then sameP q1 ([], [], []) else false then errE q12 q13 == (10 : Int) else false then sameL (decP l lim) (decP l lim) else false); let q16 := (bif bif bif bif sameP q0 ([], [], []) then errE (twoE l line) (twoI l line) == chkFld l else false then sameP q1 ([], [], []) else false then errE q12 q13 == chkFld l else false then sameL (decP l lim) (decP l lim) else false); let q17 := (bif bif bif bif sameP q0 q0 then errE (twoE l line) (twoI l line) == errE (twoE l line) (twoI l line) else false then sameP q1 q1 else false then errE q12 q13 == errE q12 q13 else false then sameL (decP l lim) [] else false); let q18 := (bif bif bif bif sameP q0 ([], [], []) then errE (twoE l line) (twoI l line) == (10 : Int) else false then sameP q1 ([], [], []) else false then errE q12 q13 == (10 : Int) else false then sameL (decP l lim) [] else false); let q19 := (bif bif bif bif sameP q0 ([], [], []) then errE (twoE l line) (twoI l line) == chkFld l else false then sameP q1 ([], [], []) else false then errE q12 q13 == chkFld l else false then sameL (decP l lim) [] else false); let q20 := (first [chkFld l, within lim (0 : Int) (1048576 : Int)] == (0 : Int)); let q21 := (q3 = true → List.length (decP l lim) ≤ q5); let q22 := (q2 = true → List.length (decP l lim) ≤ q5); let q23 := (q4 = true → List.length (decP l lim) ≤ q5); List.length l ≤ (9223372036854775807 : Nat) ∧ splitB (!shortF l) (true = true ∧ True) (List.length l ≤ q5 ∧ (∀ (x : List Nat), x ∈ l → List.length x ≤ q5) ∧ List.length l ≤ q5 ∧ (∀ (x : List Nat), x ∈ l → List.length x ≤ q5) ∧ List.length l ≤ q5 ∧ (∀ (x : List Nat), x ∈ l → List.length x ≤ q5) ∧ (2 : Nat) ≤ q8 ∧ splitB (bif chkFld l == (0 : Int) then bif decide (line < (0 : Int)) then true else decide ((↑(List.length l) : Int) ≤ line) else false) (splitB q20 (decB l lim = (0 : Int) ∧ List.length q7.1 ≤ q8 ∧ List.length q7.2.1 ≤ q8 ∧ List.length q7.2.2 ≤ q8 ∧ (q10 = true → List.length q6.1 ≤ q8) ∧ (q10 = true → List.length q6.2.1 ≤ q8) ∧ (q10 = true → List.length q6.2.2 ≤ q8) ∧ q21 ∧ (q3 = true → ∀ (x : Pt), x ∈ decP l lim → List.length x.1 ≤ q5 ∧ List.length x.2.1 ≤ q5 ∧ List.length x.2.2 ≤ q5) ∧ q21 ∧ (q3 = true → ∀ (x : Pt), x ∈ decP l lim → List.length x.1 ≤ q5 ∧ List.length x.2.1 ≤ q5 ∧ List.length x.2.2 ≤ q5) ∧ (q15 = true → List.length (decU l lim) ≤ q5) ∧ (q15 = true → ∀ (x : List Bool), x ∈ decU l lim → List.length x ≤ q5) ∧ (bif bif bif bif bif bif bif sameP q0 ([], [], []) then errE (twoE l line) (twoI l line) == (10 : Int) else false then sameP q1 ([], [], []) else false then errE q12 q13 == (10 : Int) else false then sameL (decP l lim) (decP l lim) else false then sameBs (decU l lim) (decU l lim) else false then decE l lim == decE l lim else false then true else false) = true ∧ True) (List.length q7.1 ≤ q8 ∧ List.length q7.2.1 ≤ q8 ∧ List.length q7.2.2 ≤ q8 ∧ (q10 = true → List.length q6.1 ≤ q8) ∧ (q10 = true → List.length q6.2.1 ≤ q8) ∧ (q10 = true → List.length q6.2.2 ≤ q8) ∧ q21 ∧ (q3 = true → ∀ (x : Pt), x ∈ decP l lim → List.length x.1 ≤ q5 ∧ List.length x.2.1 ≤ q5 ∧ List.length x.2.2 ≤ q5) ∧ q21 ∧ (q3 = true → ∀ (x : Pt), x ∈ decP l lim → List.length x.1 ≤ q5 ∧ List.length x.2.1 ≤ q5 ∧ List.length x.2.2 ≤ q5) ∧ (q18 = true → List.length (decU l lim) ≤ q5) ∧ (q18 = true → ∀ (x : List Bool), x ∈ decU l lim → List.length x ≤ q5) ∧ (bif bif bif bif bif bif bif sameP q0 ([], [], []) then errE (twoE l line) (twoI l line) == (10 : Int) else false then sameP q1 ([], [], []) else false then errE q12 q13 == (10 : Int) else false then sameL (decP l lim) [] else false then sameBs (decU l lim) [] else false then decE l lim == first [chkFld l, within lim (0 : Int) (1048576 : Int)] else false then true else false) = true ∧ True)) (splitB (chkFld l == (0 : Int)) (chkLine l line = (0 : Int) ∧ chkLine l line = (0 : Int) ∧ splitB q20 (decB l lim = (0 : Int) ∧ List.length q7.1 ≤ q8 ∧ List.length q7.2.1 ≤ q8 ∧ List.length q7.2.2 ≤ q8 ∧ (q9 = true → List.length q6.1 ≤ q8) ∧ (q9 = true → List.length q6.2.1 ≤ q8) ∧ (q9 = true → List.length q6.2.2 ≤ q8) ∧ q22 ∧ (q2 = true → ∀ (x : Pt), x ∈ decP l lim → List.length x.1 ≤ q5 ∧ List.length x.2.1 ≤ q5 ∧ List.length x.2.2 ≤ q5) ∧ q22 ∧ (q2 = true → ∀ (x : Pt), x ∈ decP l lim → List.length x.1 ≤ q5 ∧ List.length x.2.1 ≤ q5 ∧ List.length x.2.2 ≤ q5) ∧ (q14 = true → List.length (decU l lim) ≤ q5) ∧ (q14 = true → ∀ (x : List Bool), x ∈ decU l lim → List.length x ≤ q5) ∧ (bif bif bif bif bif bif bif sameP q0 q0 then errE (twoE l line) (twoI l line) == errE (twoE l line) (twoI l line) else false then sameP q1 q1 else false then errE q12 q13 == errE q12 q13 else false then sameL (decP l lim) (decP l lim) else false then sameBs (decU l lim) (decU l lim) else false then decE l lim == decE l lim else false then true else false) = true ∧ True) (List.length q7.1 ≤ q8 ∧ List.length q7.2.1 ≤ q8 ∧ List.length q7.2.2 ≤ q8 ∧ (q9 = true → List.length q6.1 ≤ q8) ∧ (q9 = true → List.length q6.2.1 ≤ q8) ∧ (q9 = true → List.length q6.2.2 ≤ q8) ∧ q22 ∧ (q2 = true → ∀ (x : Pt), x ∈ decP l lim → List.length x.1 ≤ q5 ∧ List.length x.2.1 ≤ q5 ∧ List.length x.2.2 ≤ q5) ∧ q22 ∧ (q2 = true → ∀ (x : Pt), x ∈ decP l lim → List.length x.1 ≤ q5 ∧ List.length x.2.1 ≤ q5 ∧ List.length x.2.2 ≤ q5) ∧ (q17 = true → List.length (decU l lim) ≤ q5) ∧ (q17 = true → ∀ (x : List Bool), x ∈ decU l lim → List.length x ≤ q5) ∧ (bif bif bif bif bif bif bif sameP q0 q0 then errE (twoE l line) (twoI l line) == errE (twoE l line) (twoI l line) else false then sameP q1 q1 else false then errE q12 q13 == errE q12 q13 else false then sameL (decP l lim) [] else false then sameBs (decU l lim) [] else false then decE l lim == first [chkFld l, within lim (0 : Int) (1048576 : Int)] else false then true else false) = true ∧ True)) (splitB q20 (decB l lim = (0 : Int) ∧ List.length q7.1 ≤ q8 ∧ List.length q7.2.1 ≤ q8 ∧ List.length q7.2.2 ≤ q8 ∧ (q11 = true → List.length q6.1 ≤ q8) ∧ (q11 = true → List.length q6.2.1 ≤ q8) ∧ (q11 = true → List.length q6.2.2 ≤ q8) ∧ q23 ∧ (q4 = true → ∀ (x : Pt), x ∈ decP l lim → List.length x.1 ≤ q5 ∧ List.length x.2.1 ≤ q5 ∧ List.length x.2.2 ≤ q5) ∧ q23 ∧ (q4 = true → ∀ (x : Pt), x ∈ decP l lim → List.length x.1 ≤ q5 ∧ List.length x.2.1 ≤ q5 ∧ List.length x.2.2 ≤ q5) ∧ (q16 = true → List.length (decU l lim) ≤ q5) ∧ (q16 = true → ∀ (x : List Bool), x ∈ decU l lim → List.length x ≤ q5) ∧ (bif bif bif bif bif bif bif sameP q0 ([], [], []) then errE (twoE l line) (twoI l line) == chkFld l else false then sameP q1 ([], [], []) else false then errE q12 q13 == chkFld l else false then sameL (decP l lim) (decP l lim) else false then sameBs (decU l lim) (decU l lim) else false then decE l lim == decE l lim else false then true else false) = true ∧ True) (List.length q7.1 ≤ q8 ∧ List.length q7.2.1 ≤ q8 ∧ List.length q7.2.2 ≤ q8 ∧ (q11 = true → List.length q6.1 ≤ q8) ∧ (q11 = true → List.length q6.2.1 ≤ q8) ∧ (q11 = true → List.length q6.2.2 ≤ q8) ∧ q23 ∧ (q4 = true → ∀ (x : Pt), x ∈ decP l lim → List.length x.1 ≤ q5 ∧ List.length x.2.1 ≤ q5 ∧ List.length x.2.2 ≤ q5) ∧ q23 ∧ (q4 = true → ∀ (x : Pt), x ∈ decP l lim → List.length x.1 ≤ q5 ∧ List.length x.2.1 ≤ q5 ∧ List.length x.2.2 ≤ q5) ∧ (q19 = true → List.length (decU l lim) ≤ q5) ∧ (q19 = true → ∀ (x : List Bool), x ∈ decU l lim → List.length x ≤ q5) ∧ (bif bif bif bif bif bif bif sameP q0 ([], [], []) then errE (twoE l line) (twoI l line) == chkFld l else false then sameP q1 ([], [], []) else false then errE q12 q13 == chkFld l else false then sameL (decP l lim) [] else false then sameBs (decU l lim) [] else false then decE l lim == first [chkFld l, within lim (0 : Int) (1048576 : Int)] else false then true else false) = true ∧ True))))) := by
  kernel_rfl
end Go.Sx

/- Contracts. -/
namespace Go.Sx
open U
theorem sameP_err (e : Int) (x : It) : sameP (errP e x) (errP e x) = true := by
  unfold errP
  split
  · exact sameP_parts x
  · exact sameP_nil
theorem errP_len (e : Int) (x : It) : (errP e x).1.length ≤ x.1.length ∧ (errP e x).2.1.length ≤ x.2.1.length ∧ (errP e x).2.2.length ≤ x.2.2.length := by
  unfold errP
  split
  · exact partsP_len x
  · simp
theorem getD_short {l : Fld} {B : Nat} (h : ∀ x ∈ l, x.length ≤ B) (i : Nat) : (List.getD l i []).length ≤ B := by
  by_cases hi : i < l.length
  · exact h _ (getD_mem' hi)
  · rw [List.getD_eq_getElem?_getD, List.getElem?_eq_none (by omega)]
    exact Nat.zero_le _
theorem two_len {l : Fld} (h : ∀ x ∈ l, x.length ≤ 260) (line : Int) : (twoI l line).1.length ≤ 260 ∧ (twoI l line).2.1.length ≤ 260 ∧ (twoI l line).2.2.length ≤ 260 := by
  have h1 := getD_short h line.toNat
  unfold twoI lnI
  simp only [combI_len, diffN_len, sixs_len]
  omega
theorem three_len {l : Fld} (h : ∀ x ∈ l, x.length ≤ 260) (line : Int) : (threeL l line).1.length ≤ 260 ∧ (threeL l line).2.1.length ≤ 260 ∧ (threeL l line).2.2.length ≤ 260 := by
  have h1 := getD_short h line.toNat
  unfold threeL threeI apartI lnI
  simp only [combI_len, diffN_len, thrD_len, sixs_len]
  omega
theorem dec_len {l : Fld} (h : ∀ x ∈ l, x.length ≤ 260) (hl : l.length ≤ 33) (lim : Int) : (decP l lim).length ≤ 1000000 ∧ (∀ x ∈ decP l lim, x.1.length ≤ 1000000 ∧ x.2.1.length ≤ 1000000 ∧ x.2.2.length ≤ 1000000) ∧ (decU l lim).length ≤ 1000000 ∧ (∀ x ∈ decU l lim, x.length ≤ 1000000) ∧ sameL (decP l lim) (decP l lim) = true := by
  have hk : ∀ k : Nat, (rwI (l.map sixs) (k : Int)).length ≤ 260 := fun k => by rw [rwI_nat, sixs_len]; exact getD_short h k
  refine ⟨?_, fun x hx => ?_, ?_, fun x hx => ?_, ?_⟩
  · unfold decP
    split
    · rw [tab_len]; omega
    · simp
  · unfold decP at hx
    split at hx
    · obtain ⟨k, _, rfl⟩ := mem_tab hx
      have h1 := partsP_len (choI (l.map sixs) (k : Int) lim)
      have h2 := hk k
      have e1 : (choI (l.map sixs) (k : Int) lim).1.length ≤ 260 := by unfold choI; show (tab _ _).length ≤ _; rw [tab_len]; exact h2
      have e2 : (choI (l.map sixs) (k : Int) lim).2.1.length ≤ 260 := by unfold choI; show (tab _ _).length ≤ _; rw [tab_len]; omega
      have e3 : (choI (l.map sixs) (k : Int) lim).2.2.length ≤ 260 := by unfold choI; show (tab _ _).length ≤ _; rw [tab_len]; omega
      omega
    · cases hx
  · unfold decU
    split
    · rw [tab_len]; omega
    · simp
  · unfold decU at hx
    split at hx
    · obtain ⟨k, _, rfl⟩ := mem_tab hx
      have h2 := hk k
      unfold choU
      rw [tab_len]
      omega
    · cases hx
  · unfold sameL
    simp only [decide_true, Bool.true_and, List.all_eq_true, List.mem_range]
    intro i hi
    unfold decP at hi ⊢
    split at hi
    · rename_i h0
      rw [tab_len] at hi
      unfold pAt
      rw [if_pos h0, tab_get hi]
      exact sameP_parts _
    · simp at hi
theorem err_two {l : Fld} {line : Int} (h : chkLine l line ≠ 0) : errE (twoE l line) (twoI l line) = chkLine l line ∧ errP (twoE l line) (twoI l line) = ([], [], []) ∧ errE (threeE l line) (threeL l line) = chkLine l line ∧ errP (threeE l line) (threeL l line) = ([], [], []) := by
  have e1 : twoE l line = chkLine l line := by unfold twoE; rw [if_neg h]
  have e2 : threeE l line = chkLine l line := by unfold threeE; rw [if_neg h]
  unfold errE errP
  rw [e1, e2, if_neg h, if_neg h, if_neg h, if_neg h]
  exact ⟨rfl, rfl, rfl, rfl⟩
theorem dec_bad {l : Fld} {lim : Int} (h : decB l lim ≠ 0) : decE l lim = decB l lim ∧ decP l lim = [] ∧ decU l lim = [] := by
  have e : decE l lim = decB l lim := by unfold decE; rw [if_neg h]
  unfold decP decU
  rw [e, if_neg h, if_neg h]
  exact ⟨rfl, rfl, rfl⟩
theorem fn6 (l : Fld) (line lim : Int) (hl : l.length ≤ 9223372036854775807) : Fn P1 gl1 6 [fldV l, iV line, iV lim] (.val (bV true)) true := by
  refine Fn.flat ?_ rfl
  refine fn_of false [(19, sp19), (39, sp39), (29, sp29), (47, sp47), (48, sp48), (49, sp49), (40, sp40), (24, sp24), (22, sp22), (50, sp50), (51, sp51), (52, sp52), (46, sp46), (45, sp45n), (54, sp54), (53, sp53), (55, sp55)] [] h0 0 Proofs.Tryz.f6 ⟨so19, so39, so29, so47, so48, so49, so40, so24, so22, so50, so51, so52, so46, so45n, so54, so53, so55, trivial⟩ trivial (by kernel_rfl) rfl (by kernel_rfl) rfl rfl rfl ?_
  rw [vc6]
  try simp only [splitB_iff, -eq_self]
  refine ⟨hl, fun _ => ⟨rfl, trivial⟩, fun h => ?_⟩
  obtain ⟨f1, f2⟩ := shortF_len (l := l) (by simpa using h)
  have f3 : ∀ x ∈ l, x.length ≤ 1000000 := fun x hx => by have := f2 x hx; omega
  obtain ⟨p1, p2, p3⟩ := errP_len (twoE l line) (twoI l line)
  obtain ⟨t1, t2, t3⟩ := two_len f2 line
  obtain ⟨q1, q2, q3⟩ := errP_len (threeE l line) (threeL l line)
  obtain ⟨r1, r2, r3⟩ := three_len f2 line
  obtain ⟨d1, d2, d3, d4, d5⟩ := dec_len f2 f1 lim
  have s2 := sameP_err (twoE l line) (twoI l line)
  have s3 := sameP_err (threeE l line) (threeL l line)
  have d6 := sameBs_self (decU l lim)
  obtain ⟨P, hP⟩ : ∃ P, errP (twoE l line) (twoI l line) = P := ⟨_, rfl⟩
  obtain ⟨Q, hQ⟩ : ∃ Q, errP (threeE l line) (threeL l line) = Q := ⟨_, rfl⟩
  rw [hP] at p1 p2 p3 s2
  rw [hQ] at q1 q2 q3 s3
  rw [hP, hQ]
  have fin : ∀ (a b : Pt) (m n : Int) (tp : List Pt) (tu : List (List Bool)) (td : Int), sameP (P.1, P.2.1, P.2.2) a = true → errE (twoE l line) (twoI l line) = m → sameP (Q.1, Q.2.1, Q.2.2) b = true → errE (threeE l line) (threeL l line) = n → sameL (decP l lim) tp = true → sameBs (decU l lim) tu = true → decE l lim = td →
      (bif bif bif bif bif bif bif sameP (P.1, P.2.1, P.2.2) a then errE (twoE l line) (twoI l line) == m else false then sameP (Q.1, Q.2.1, Q.2.2) b else false then errE (threeE l line) (threeL l line) == n else false then sameL (decP l lim) tp else false then sameBs (decU l lim) tu else false then decE l lim == td else false then true else false) = true := by
    intro a b m n tp tu td h1 h2 h3 h4 h5 h6 h7
    rw [h1, h2, h3, h4, h5, h6, h7]
    simp
  have s2' : sameP (P.1, P.2.1, P.2.2) (P.1, P.2.1, P.2.2) = true := s2
  have s3' : sameP (Q.1, Q.2.1, Q.2.2) (Q.1, Q.2.1, Q.2.2) = true := s3
  have good : first [chkFld l, within lim 0 1048576] == 0 → decB l lim = 0 := fun k => (show first [chkFld l, within lim 0 1048576] = 0 by simpa using k)
  have bad : (first [chkFld l, within lim 0 1048576] == 0) = false → decE l lim = first [chkFld l, within lim 0 1048576] ∧ sameL (decP l lim) [] = true ∧ sameBs (decU l lim) [] = true := fun k => by
    obtain ⟨e1, e2, e3⟩ := dec_bad (l := l) (lim := lim) (show first [chkFld l, within lim 0 1048576] ≠ 0 by simpa using k)
    rw [e2, e3]
    exact ⟨e1, rfl, rfl⟩
  refine ⟨by omega, f3, by omega, f3, by omega, f3, by decide, fun k => ?_, fun k => ⟨fun k2 => ?_, fun k2 => ?_⟩⟩
  · have k : chkFld l = 0 ∧ (line < 0 ∨ (l.length : Int) ≤ line) := by simpa using k
    have hc : chkLine l line = 10 := by unfold chkLine; rw [if_pos k.1, if_neg (by omega)]
    obtain ⟨e1, e2, e3, e4⟩ := err_two (l := l) (line := line) (by rw [hc]; decide)
    rw [hc] at e1 e3
    rw [hP] at e2
    rw [hQ] at e4
    have a2 : sameP (P.1, P.2.1, P.2.2) ([], [], []) = true := by rw [e2]; rfl
    have a3 : sameP (Q.1, Q.2.1, Q.2.2) ([], [], []) = true := by rw [e4]; rfl
    refine ⟨fun g => ⟨good g, by omega, by omega, by omega, fun _ => by omega, fun _ => by omega, fun _ => by omega, fun _ => d1, fun _ => d2, fun _ => d1, fun _ => d2, fun _ => d3, fun _ => d4, fin _ _ _ _ _ _ _ a2 e1 a3 e3 d5 d6 rfl, trivial⟩, fun g => ?_⟩
    obtain ⟨g1, g2, g3⟩ := bad g
    exact ⟨by omega, by omega, by omega, fun _ => by omega, fun _ => by omega, fun _ => by omega, fun _ => d1, fun _ => d2, fun _ => d1, fun _ => d2, fun _ => d3, fun _ => d4, fin _ _ _ _ _ _ _ a2 e1 a3 e3 g2 g3 g1, trivial⟩
  · have k2 : chkFld l = 0 := by simpa using k2
    have hc : chkLine l line = 0 := by
      refine chkLine_zero.2 ⟨k2, ?_⟩
      by_cases c : line < 0 ∨ (l.length : Int) ≤ line
      · exfalso
        have : (bif chkFld l == 0 then bif decide (line < 0) then true else decide ((l.length : Int) ≤ line) else false) = true := by
          rw [k2]; simp; exact c
        rw [this] at k
        cases k
      · omega
    refine ⟨hc, hc, fun g => ⟨good g, by omega, by omega, by omega, fun _ => by omega, fun _ => by omega, fun _ => by omega, fun _ => d1, fun _ => d2, fun _ => d1, fun _ => d2, fun _ => d3, fun _ => d4, fin _ _ _ _ _ _ _ s2' rfl s3' rfl d5 d6 rfl, trivial⟩, fun g => ?_⟩
    obtain ⟨g1, g2, g3⟩ := bad g
    exact ⟨by omega, by omega, by omega, fun _ => by omega, fun _ => by omega, fun _ => by omega, fun _ => d1, fun _ => d2, fun _ => d1, fun _ => d2, fun _ => d3, fun _ => d4, fin _ _ _ _ _ _ _ s2' rfl s3' rfl g2 g3 g1, trivial⟩
  · have k2 : ¬ chkFld l = 0 := by simpa using k2
    have hc : chkLine l line = chkFld l := by unfold chkLine; rw [if_neg k2]
    obtain ⟨e1, e2, e3, e4⟩ := err_two (l := l) (line := line) (by rw [hc]; exact k2)
    rw [hc] at e1 e3
    rw [hP] at e2
    rw [hQ] at e4
    have a2 : sameP (P.1, P.2.1, P.2.2) ([], [], []) = true := by rw [e2]; rfl
    have a3 : sameP (Q.1, Q.2.1, Q.2.2) ([], [], []) = true := by rw [e4]; rfl
    refine ⟨fun g => ⟨good g, by omega, by omega, by omega, fun _ => by omega, fun _ => by omega, fun _ => by omega, fun _ => d1, fun _ => d2, fun _ => d1, fun _ => d2, fun _ => d3, fun _ => d4, fin _ _ _ _ _ _ _ a2 e1 a3 e3 d5 d6 rfl, trivial⟩, fun g => ?_⟩
    obtain ⟨g1, g2, g3⟩ := bad g
    exact ⟨by omega, by omega, by omega, fun _ => by omega, fun _ => by omega, fun _ => by omega, fun _ => d1, fun _ => d2, fun _ => d1, fun _ => d2, fun _ => d3, fun _ => d4, fin _ _ _ _ _ _ _ a2 e1 a3 e3 g2 g3 g1, trivial⟩
end Go.Sx

/- From readings of arguments to pure data. -/
namespace Go.Sx
open Go.RowKit
def WF : (t : Ty) → t.T → Prop
  | .int k, n => (Lit.int k n).wf = true
  | .bool, _ => True
  | .str, l => List.length l ≤ maxLen
  | .flt k, n => (Lit.float k n).wf = true
  | .cpx _, _ => True
  | .fnp, _ => True
  | .sl t, xs => List.length xs ≤ maxLen ∧ ∀ i (h : i < List.length xs), WF t (xs[i]'h)
  | .arr n t, xs => List.length xs = n ∧ ∀ i (h : i < List.length xs), WF t (xs[i]'h)
  | .pair a b, x => WF a x.1 ∧ WF b x.2
mutual
def rdChk (P : Program) : Nat → TypeId → Ty → Bool
  | 0, _, _ => false
  | n + 1, t, u => match P.underlying t with
      | some (.int k) => decide (u = .int k)
      | some .bool => decide (u = .bool)
      | some .string => decide (u = .str)
      | some (.float k) => decide (u = .flt k)
      | some (.slice e) => match u with
        | .sl v => decide (P.cellsOf e = v.sz) && decide (v.sz ≠ 0) && rdChk P n e v
        | _ => false
      | some (.array m e) => match u with
        | .arr m' v => decide (m = m') && decide (P.cellsOf e = v.sz) && decide (P.cellsOf t = m * v.sz) && rdChk P n e v
        | _ => false
      | some (.struct fs) => decide (P.cellsOf t = u.sz) && rdFs P n 0 fs.toList u
      | _ => false
def rdFs (P : Program) : Nat → Nat → List Field → Ty → Bool
  | 0, _, _, _ => false
  | n + 1, off, [f], u => decide (f.offset = off) && decide (P.cellsOf f.type = u.sz) && rdChk P n f.type u
  | n + 1, off, f :: r, .pair a b => decide (f.offset = off) && decide (P.cellsOf f.type = a.sz) && rdChk P n f.type a && rdFs P n (off + a.sz) r b
  | _, _, _, _ => false
end
def HW (w : World) : IH := fun b => w.heap[b]?
theorem addp (b off i : Nat) : (Addr.mk b off none).add i = ⟨b, off + i, none⟩ := by
  unfold Addr.add; split <;> simp_all
theorem cells_seg {w : World} {base : Nat} {a : Addr} {n : Nat} {cs : List Value} (h : w.cells? base a n = some cs) (hn : 0 < n) :
    ∃ b off c e fr, a = ⟨b, off, none⟩ ∧ w.heap[b]? = some (.cells c e fr) ∧ seg c off n = cs := by
  obtain ⟨_, hl, hc⟩ := World.cells?_some h
  obtain ⟨b, off, sp⟩ := a
  have h0 := hc 0 hn
  rw [List.getElem?_eq_getElem (by omega)] at h0
  have hs : sp = none := by
    have := World.cell?_spot h0
    simp only [Addr.add] at this
    cases sp with
    | none => rfl
    | some x => simp at this
  subst hs
  have hb : ∃ c e fr, w.heap[b]? = some (.cells c e fr) := by
    simp only [World.cell?, Addr.add] at h0
    split at h0
    · exact ⟨_, _, _, ‹_›⟩
    · cases h0
  obtain ⟨c, e, fr, hb⟩ := hb
  refine ⟨b, off, c, e, fr, rfl, hb, ?_⟩
  have hi : ∀ i, i < n → c[off + i]? = cs[i]? := by
    intro i hi
    have := hc i hi
    rw [addp] at this
    simpa [World.cell?, hb] using this
  apply List.ext_getElem?
  intro i
  simp only [seg, List.getElem?_take, List.getElem?_drop]
  split
  · rename_i h1
    rw [← hi i h1]; simp
  · rename_i h1
    rw [List.getElem?_eq_none (by omega)]
theorem choose_list {α : Type} (n : Nat) (p : Nat → α → Prop) (h : ∀ i, i < n → ∃ y, p i y) : ∃ ys : List α, ys.length = n ∧ ∀ i (hi : i < ys.length), p i (ys[i]'hi) := by
  induction n with
  | zero => exact ⟨[], rfl, fun i hi => by simp at hi⟩
  | succ n ih =>
    obtain ⟨ys, h1, h2⟩ := ih fun i hi => h i (by omega)
    obtain ⟨y, hy⟩ := h n (by omega)
    refine ⟨ys ++ [y], by simp [h1], fun i hi => ?_⟩
    by_cases hlt : i < ys.length
    · rw [List.getElem_append_left hlt]; exact h2 i hlt
    · simp at hi
      have : i = ys.length := by omega
      subst this
      simp
      rw [h1]; exact hy
theorem trod_rd_all {X : Type} {enc : TypeId × Value → X} {P : Program} {w : World} {base : Nat} {spare : Nat → Bool} {held : Bool} : ∀ (n : Nat),
    (∀ (t : TypeId) (u : Ty) (fuel : Nat) (cs : List Value) (x : DataW X × List MemPlace), rdChk P n t u = true → DataW.trod enc P w base spare held fuel t cs = some x → ∃ y : u.T, Rd (HW w) u y cs ∧ WF u y) ∧
    (∀ (off : Nat) (fs : List Field) (u : Ty) (fuel : Nat) (cs : List Value), rdFs P n off fs u = true → cs.length = off + u.sz →
      (∀ f ∈ fs, ∃ x, DataW.trod enc P w base spare held fuel f.type ((cs.drop f.offset).take (P.cellsOf f.type)) = some x) → ∃ y : u.T, Rd (HW w) u y (cs.drop off) ∧ WF u y) := by
  intro n
  induction n with
  | zero => exact ⟨fun _ _ _ _ _ h => by simp [rdChk] at h, fun _ _ _ _ _ h => by simp [rdFs] at h⟩
  | succ n ih =>
    refine ⟨?_, ?_⟩
    · intro t u fuel cs x h hx
      unfold rdChk at h
      split at h
      · rename_i k hu
        simp at h; subst h
        obtain ⟨m, rfl, _, hw⟩ := DataW.trod_int hu hx
        exact ⟨m, rfl, hw⟩
      · rename_i hu
        simp at h; subst h
        obtain ⟨m, rfl, _⟩ := DataW.trod_bool hu hx
        exact ⟨m, rfl, trivial⟩
      · rename_i hu
        simp at h; subst h
        obtain ⟨s, rfl, _, hw⟩ := DataW.trod_string hu hx
        refine ⟨s.data.toList, rfl, ?_⟩
        show s.data.toList.length ≤ maxLen
        rw [Array.length_toList]; exact hw
      · rename_i k hu
        simp at h; subst h
        cases fuel with
        | zero => simp [DataW.trod] at hx
        | succ m =>
          unfold DataW.trod at hx
          rw [hu] at hx
          have : ∃ b, cs = [.float k b] ∧ (Lit.float k b).wf = true := by split at hx <;> simp_all
          obtain ⟨b, rfl, hw⟩ := this
          exact ⟨b, rfl, hw⟩
      · rename_i e hu
        split at h
        · rename_i v
          simp only [Bool.and_eq_true, decide_eq_true_eq] at h
          obtain ⟨⟨h1, h2⟩, h3⟩ := h
          rcases DataW.trod_slice hu hx with ⟨rfl, _⟩ | ⟨a, len, cap, elems, rest, m, _, rfl, _, _, hlc, hm, hel, hei, _, _⟩
          · exact ⟨[], ⟨none, 0, rfl, Nat.le_refl _, .inl rfl⟩, by simp [WF]⟩
          · have hone : ∀ i, i < len → ∃ cs', w.cells? base (a.add (i * P.cellsOf e)) (P.cellsOf e) = some cs' ∧ ∃ y : v.T, Rd (HW w) v y cs' ∧ WF v y := by
              intro i hi
              have := hei i hi
              rw [List.getElem?_eq_getElem (by omega)] at this
              obtain ⟨cs', hc1, hc2⟩ := Option.bind_eq_some_iff.1 this
              exact ⟨cs', hc1, ih.1 _ _ _ _ _ h3 hc2⟩
            obtain ⟨ys, hy1, hy2⟩ := choose_list len (fun i (y : v.T) => ∃ cs', w.cells? base (a.add (i * P.cellsOf e)) (P.cellsOf e) = some cs' ∧ Rd (HW w) v y cs' ∧ WF v y)
              (fun i hi => by obtain ⟨cs', h1, y, h2⟩ := hone i hi; exact ⟨y, cs', h1, h2⟩)
            refine ⟨ys, ⟨some a, cap, by rw [hy1], by rw [hy1]; exact hlc, ?_⟩, by rw [hy1]; omega, fun i hi => ?_⟩
            · rcases Nat.eq_zero_or_pos ys.length with h0 | h0
              · exact .inl h0
              · right
                obtain ⟨cs0, hc0, _⟩ := hy2 0 h0
                obtain ⟨b, off, c, e', fr, ha, hb, _⟩ := cells_seg hc0 (by omega)
                have ha' : a = ⟨b, off, none⟩ := by rw [← ha]; simp [Addr.add]
                refine ⟨b, off, c, e', fr, by rw [ha'], hb, fun i hi => ?_⟩
                obtain ⟨cs', hc', hr, _⟩ := hy2 i hi
                obtain ⟨b', off', c', e'', fr', hab, hb', hsg⟩ := cells_seg hc' (by omega)
                rw [ha', addp] at hab
                simp only [Addr.mk.injEq] at hab
                obtain ⟨rfl, rfl, _⟩ := hab
                rw [hb] at hb'
                cases hb'
                rw [h1] at hsg
                rw [hsg]; exact hr
            · obtain ⟨_, _, _, hwf⟩ := hy2 i hi
              exact hwf
        · cases h
      · rename_i m e hu
        split at h
        · rename_i m' v
          simp only [Bool.and_eq_true, decide_eq_true_eq] at h
          obtain ⟨⟨⟨rfl, h1⟩, h2⟩, h3⟩ := h
          obtain ⟨xs, k, _, _, hl, hxl, hxi⟩ := DataW.trod_array hu hx
          obtain ⟨ys, hy1, hy2⟩ := choose_list m (fun i (y : v.T) => Rd (HW w) v y ((cs.drop (i * P.cellsOf e)).take (P.cellsOf e)) ∧ WF v y)
            (fun i hi => by
              have := hxi i hi
              rw [List.getElem?_eq_getElem (by omega)] at this
              exact ih.1 _ _ _ _ _ h3 this)
          refine ⟨ys, ⟨hy1, by rw [hl, h2], fun i hi => ?_⟩, hy1, fun i hi => (hy2 i hi).2⟩
          have := (hy2 i hi).1
          rw [h1] at this
          exact this
        · cases h
      · rename_i fs hu
        simp only [Bool.and_eq_true, decide_eq_true_eq] at h
        obtain ⟨xs, k, _, _, hl, hxl, hxi⟩ := DataW.trod_struct hu hx
        have := ih.2 0 fs.toList u k cs h.2 (by rw [hl, h.1]; omega) (fun f hf => by
          obtain ⟨i, hi, rfl⟩ := List.mem_iff_getElem.1 hf
          simp at hi
          have := hxi i fs[i] (by simp [hi])
          rw [List.getElem?_eq_getElem (by omega)] at this
          exact ⟨_, by simpa using this⟩)
        simpa using this
      · cases h
    · intro off fs u fuel cs h hl hf
      match fs, u, h, hl, hf with
      | [], u, h, _, _ => simp [rdFs] at h
      | [f], u, h, hl, hf =>
        simp only [rdFs, Bool.and_eq_true, decide_eq_true_eq] at h
        obtain ⟨⟨rfl, h1⟩, h2⟩ := h
        obtain ⟨x, hx⟩ := hf f (by simp)
        rw [h1, List.take_of_length_le (by simp; omega)] at hx
        exact ih.1 _ _ _ _ _ h2 hx
      | f :: g :: r, .pair a b, h, hl, hf =>
        simp only [rdFs, Bool.and_eq_true, decide_eq_true_eq] at h
        obtain ⟨⟨⟨rfl, h1⟩, h2⟩, h3⟩ := h
        simp only [Ty.sz] at hl
        obtain ⟨x, hx⟩ := hf f (by simp)
        rw [h1] at hx
        obtain ⟨y1, hy1, hw1⟩ := ih.1 _ _ _ _ _ h2 hx
        obtain ⟨y2, hy2, hw2⟩ := ih.2 _ _ _ fuel cs h3 (by omega) (fun g' hg => hf g' (List.mem_cons_of_mem _ hg))
        refine ⟨(y1, y2), ⟨hy1, ?_⟩, hw1, hw2⟩
        rw [List.drop_drop]; exact hy2
      | _ :: _ :: _, .int _, h, _, _ => simp [rdFs] at h
      | _ :: _ :: _, .bool, h, _, _ => simp [rdFs] at h
      | _ :: _ :: _, .str, h, _, _ => simp [rdFs] at h
      | _ :: _ :: _, .flt _, h, _, _ => simp [rdFs] at h
      | _ :: _ :: _, .cpx _, h, _, _ => simp [rdFs] at h
      | _ :: _ :: _, .sl _, h, _, _ => simp [rdFs] at h
      | _ :: _ :: _, .arr _ _, h, _, _ => simp [rdFs] at h
theorem trod_rd {X : Type} {enc : TypeId × Value → X} {P : Program} {w : World} {base : Nat} {spare : Nat → Bool} {held : Bool} (n : Nat)
    {t : TypeId} {u : Ty} (h : rdChk P n t u = true) {fuel : Nat} {cs : List Value} {x : DataW X × List MemPlace} (hx : DataW.trod enc P w base spare held fuel t cs = some x) : ∃ y : u.T, Rd (HW w) u y cs ∧ WF u y :=
  (trod_rd_all n).1 t u fuel cs x h hx
end Go.Sx

/- From readings of arguments to pure data: arguments, variables, what is left behind. -/
namespace Go.Sx
open Go.RowKit Go.ChangeShapes Go.WideShapes Go.ChangeAt
section
variable {X : Type} {enc : TypeId × Value → X} {P : Program} {w : World} {base base' : Nat} {spare : Nat → Bool} {held : Bool} {n : Nat} {t : TypeId} {u : Ty} {v : Value} {d : DataW X} {ps : List MemPlace}
theorem cells_one (hv : ∀ cs, v ≠ .agg cs) : v.cells.toList = [v] := by
  cases v <;> simp_all [Value.cells]
theorem okWide_one (ha : aggOf P t = false) (hok : Value.okWide P w .any base' t v) : ∀ cs, v ≠ .agg cs := by
  intro cs hv
  subst hv
  unfold aggOf at ha
  unfold Value.okWide at hok
  split at hok
  · rename_i h; rw [h] at ha; cases ha
  · rename_i h; rw [h] at ha; cases ha
  · unfold Cell.okWide at hok
    split at hok <;> try (rename_i h; cases h; done)
    all_goals first | (rename_i h _; cases h; done) | skip
    all_goals first | (unfold Cell.ok at hok; split at hok <;> first | (exact hok) | (rename_i h; cases h; done) | (rename_i h _; cases h; done) | simp_all; done) | simp_all
theorem arg_one (h : rdChk P n t u = true) (ha : aggOf P t = false) (hok : Value.okWide P w .any base' t v) (hT : DataW.Trod enc P w base spare held t v d ps) : ∃ y : u.T, Rd (HW w) u y [v] ∧ WF u y := by
  obtain ⟨fuel, hT⟩ := hT
  rw [cells_one (okWide_one ha hok)] at hT
  exact trod_rd n h hT
end
theorem trodAll_below {X : Type} {enc : TypeId × Value → X} {P : Program} (hl : laidOutB P = true) {W W' : World} (hb : Below W.heap.size W W') : ∀ {ts : List TypeId} {vs : List Value} {ds : List (DataW X)} {ps : List MemPlace},
    (ts.all fun t => P.readableRec t && decide (t < P.types.size)) = true → DataW.TrodAll enc P W 0 (fun _ => true) true ts vs ds ps → (∀ x ∈ ps, x.block < W.heap.size) → DataW.TrodAll enc P W' 0 (fun b => decide (b < W.heap.size)) true ts vs ds ps
  | [], vs, ds, ps, _, h, _ => by
    cases vs <;> cases ds <;> simp_all [DataW.TrodAll]
  | t :: ts, vs, ds, ps, ht, h, hlt => by
    obtain ⟨v, vs', d, ds', p, q, rfl, rfl, rfl, h1, h2⟩ := trodAll_cons h
    simp only [List.all_cons, Bool.and_eq_true, decide_eq_true_eq] at ht
    refine trodAll_cons_mk (Below.trod hl ht.1.1 ht.1.2 h1 hb fun x hx => hlt x (by simp [hx])) (trodAll_below hl hb ht.2 h2 fun x hx => hlt x (by simp [hx]))
theorem law_post {X : Type} {enc : TypeId × Value → X} {P : Program} (hl : laidOutB P = true) {s : ChangeSpec} {f : Func} {tb : TypeId} {W W' : World} {args : Array Value} {ds gs : List (DataW X)} {before : List MemPlace} {r : Value}
    (hvars : s.vars = []) (hts : (f.params.toList.all fun t => P.readableRec t && decide (t < P.types.size)) = true) (hres : f.resultTypes = #[tb]) (htb : P.underlying tb = some .bool)
    (hfn : s.fn X ds = { results := [.lit (.bool true)], args := ds })
    (hW : DataW.Whole enc P f.params.toList s.vars false W args.toList ds gs before) (hb : Below W.heap.size W W') (hr : r = .bool true) :
    s.post enc P f false true false false W args r W' := by
  subst hr
  have hW' := hW
  obtain ⟨p, q, hA, hV, rfl, hfz, hnd⟩ := hW
  rw [hvars] at hV
  obtain ⟨rfl, rfl⟩ := trodVars_none hV
  have hlt : ∀ x ∈ p, x.block < W.heap.size := fun x hx => hW'.lt x (by simp [hx])
  refine ⟨ds, [], p ++ [], [], p, [], hW', ?_, ?_, ?_, hb.frame _, fun h => by cases h⟩
  · rw [List.append_nil, hfn, hres]
    exact trodAll_cons_mk (shut_bool htb _) trodAll_mk0
  · rw [List.append_nil, hfn]
    exact trodAll_below hl hb hts hA hlt
  · rw [List.append_nil, hfn, hvars]
    rfl
theorem law_calls {X : Type} {enc : TypeId × Value → X} {P : Program} (hl : laidOutB P = true) {s : ChangeSpec} {f : Func} {tb : TypeId} {fid : FuncId} {W : World} {args : Array Value} {ds gs : List (DataW X)} {before : List MemPlace}
    (hvars : s.vars = []) (hts : (f.params.toList.all fun t => P.readableRec t && decide (t < P.types.size)) = true) (hres : f.resultTypes = #[tb]) (htb : P.underlying tb = some .bool)
    (hfn : s.fn X ds = { results := [.lit (.bool true)], args := ds })
    (hW : DataW.Whole enc P f.params.toList s.vars false W args.toList ds gs before)
    {gl : Nat → Option ((t : Ty) × t.T)} {avs : List V} (hF : Fn P gl fid avs (.val (.one (.bool true))) true) (hg : GlobOk gl (HW W)) (ha : DenVs ρ0 (HW W) avs args.toList) :
    Calls P fid args W fun e W' => ∃ v, e = .returned v ∧ s.post enc P f false true false false W args v W' := by
  refine (hF W (HW W) args.toList (fun b o h => h) hg ha).mono fun e W' h => ?_
  obtain ⟨v, H', rfl, hb, _, _, hd⟩ := h
  exact ⟨v, rfl, law_post hl hvars hts hres htb hfn hW hb hd.2⟩
theorem glob_tab {P : Program} {W : World} {name : String} {k : IntKind} {zs : List Int} {g : Nat} (h : Lib.TabIs P W name k zs) (hg : P.globalNamed name = some g) :
    ∃ c e fr, HW W g = some (.cells c e fr) ∧ Rd (HW W) (.arr zs.length (.int k)) zs (seg c 0 (zs.length * 1)) ∧ c.size = zs.length * 1 := by
  unfold Lib.TabIs at h
  simp only [World.var?, hg, Option.bind_some] at h
  split at h
  · rename_i cs e fr hh
    cases h
    refine ⟨_, _, _, hh, ?_, by simp⟩
    have e1 : seg (zs.map fun z => Value.int k z).toArray 0 (zs.length * 1) = zs.map fun z => Value.int k z := by
      simp [seg, List.take_of_length_le]
    rw [e1]
    refine ⟨rfl, by simp [Ty.sz], fun i hi => ?_⟩
    show List.take 1 (List.drop (i * 1) (List.map (fun z => Value.int k z) zs)) = [Value.int k zs[i]]
    simp only [Nat.mul_one]
    rw [List.drop_eq_getElem_cons (by simpa using hi)]
    simp
  · cases h
end Go.Sx

/- What a row's list of variables gives, wherever a variable stands on it. -/
namespace Go.Sx
open Go.RowKit
theorem laid_at {P : Program} {W : World} {name : String} {d : DataW Unit} {l : List (String × DataW Unit)} (h : laidMet P l W) (hm : (name, d) ∈ l) :
    ∃ g t cs fuel p, P.globalNamed name = some g ∧ (P.globals[g]?).map (·.type) = some t ∧ W.var? P name = some cs ∧ DataW.trod (fun _ => ()) P W 0 (fun _ => true) false fuel t cs.toList = some (d, p) := by
  obtain ⟨ps, h, hrest⟩ := h
  clear hrest
  induction l generalizing ps with
  | nil => cases hm
  | cons x r ih =>
    obtain ⟨n, e⟩ := x
    obtain ⟨g, t, cs, fuel, p, q, h1, h2, h3, h4, h5, h6⟩ := h
    rcases List.mem_cons.1 hm with e | hm
    · cases e; exact ⟨g, t, cs, fuel, p, h1, h2, h3, h4⟩
    · exact ih hm _ h5
theorem tab_at {P : Program} {W : World} {name : String} {k : IntKind} {zs : List Int} {l : List (String × DataW Unit)} {g : Nat} {t e : TypeId} {n : Nat} (hm : (name, Lib.tabData k zs) ∈ l)
    (hg : P.globalNamed name = some g) (hty : (P.globals[g]?).map (·.type) = some t) (ht : P.underlying t = some (.array n e)) (he : P.underlying e = some (.int k)) (hce : P.cellsOf e = 1) (hct : P.cellsOf t = n)
    (h : laidMet P l W) : Lib.TabIs P W name k zs := by
  obtain ⟨g', t', cs, fuel, p, h1, h2, h3, h4⟩ := laid_at h hm
  obtain rfl := Option.some.inj (hg.symm.trans h1)
  obtain rfl := Option.some.inj (hty.symm.trans h2)
  unfold Lib.TabIs
  rw [h3, ← Lib.cells_of_tab ht he hce hct h4]
theorem var_heap {P : Program} {W : World} {name : String} {g : Nat} {cs : Array Value} (hg : P.globalNamed name = some g) (h : W.var? P name = some cs) : ∃ e fr, W.heap[g]? = some (.cells cs e fr) := by
  simp only [World.var?, hg, Option.bind_some] at h
  split at h
  · rename_i cs' e fr hh
    cases h
    exact ⟨e, fr, hh⟩
  · cases h
def intB (P : Program) (t : TypeId) (k : IntKind) : Bool := match P.underlying t with
  | some (.int q) => decide (q = k)
  | _ => false
theorem intB_ok {P : Program} {t : TypeId} {k : IntKind} (h : intB P t k = true) : P.underlying t = some (.int k) := by
  unfold intB at h
  split at h
  · rename_i q hq
    rw [hq, of_decide_eq_true h]
  · cases h
def pairB (P : Program) (t : TypeId) (k k' : IntKind) : Bool := match P.underlying t with
  | some (.struct fs) => match fs.toList with
    | [f0, f1] => decide (f0.offset = 0) && decide (f1.offset = 1) && decide (P.cellsOf f0.type = 1) && decide (P.cellsOf f1.type = 1) && intB P f0.type k && intB P f1.type k' && decide (P.cellsOf t = 2)
    | _ => false
  | _ => false
end Go.Sx

/- What a row's list of variables gives: rows of pairs of numbers; what every row of this seat asks of the program. -/
namespace Go.Sx
open Go.RowKit
theorem pair_cells {P : Program} {W : World} {k k' : IntKind} {a b : Int} {t : TypeId} {fuel : Nat} {cs : List Value} {p : List MemPlace} (hc : pairB P t k k' = true)
    (h : DataW.trod (fun _ => ()) P W 0 (fun _ => true) false fuel t cs = some (.agg [.lit (.int k a), .lit (.int k' b)], p)) : cs = [.int k a, .int k' b] := by
  unfold pairB at hc
  split at hc
  · rename_i fs ht
    split at hc
    · rename_i f0 f1 hfs
      simp only [Bool.and_eq_true, decide_eq_true_eq] at hc
      obtain ⟨⟨⟨⟨⟨⟨ho0, ho1⟩, hc0⟩, hc1⟩, hu0⟩, hu1⟩, hct⟩ := hc
      cases fuel with
      | zero => simp [DataW.trod] at h
      | succ fuel =>
        simp only [DataW.trod, ht, hct, hfs, hc0, hc1, ho0, ho1, List.mapM_cons, List.mapM_nil] at h
        split at h
        · rename_i hl
          obtain ⟨xs, hx1, hx2⟩ := Option.map_eq_some_iff.1 h
          simp only [Option.bind_eq_bind, Option.bind_eq_some_iff, Option.pure_def, Option.some.injEq] at hx1
          obtain ⟨y0, hy0, r, ⟨y1, hy1, r2, rfl, rfl⟩, rfl⟩ := hx1
          obtain ⟨m0, e0, hz0, _⟩ := DataW.trod_int (intB_ok hu0) hy0
          obtain ⟨m1, e1, hz1, _⟩ := DataW.trod_int (intB_ok hu1) hy1
          subst hz0 hz1
          simp only [List.map_cons, List.map_nil, Prod.mk.injEq, DataW.agg.injEq, List.cons.injEq, DataW.lit.injEq, Lit.int.injEq, true_and, and_true] at hx2
          obtain ⟨⟨rfl, rfl⟩, _⟩ := hx2
          match cs, hl with
          | [u, v], _ =>
            simp at e0 e1
            rw [e0, e1]
        · cases h
    · cases hc
  · cases hc
theorem pairs_at {P : Program} {W : World} {name : String} {k : IntKind} {zs : List (Int × Int)} {l : List (String × DataW Unit)} {g : Nat} {t e : TypeId} {n : Nat}
    (hm : (name, .agg (zs.map fun z => .agg [.lit (.int k z.1), .lit (.int k z.2)])) ∈ l) (hg : P.globalNamed name = some g) (hty : (P.globals[g]?).map (·.type) = some t) (ht : P.underlying t = some (.array n e))
    (hn : zs.length = n) (hce : P.cellsOf e = 2) (hct : P.cellsOf t = n * 2) (hc : pairB P e k k = true) (h : laidMet P l W) :
    ∃ c e fr, HW W g = some (.cells c e fr) ∧ Rd (HW W) (.arr n (.pair (.int k) (.int k))) zs (seg c 0 (n * 2)) ∧ c.size = n * 2 := by
  obtain ⟨g', t', cs, fuel, p, h1, h2, h3, h4⟩ := laid_at h hm
  obtain rfl := Option.some.inj (hg.symm.trans h1)
  obtain rfl := Option.some.inj (hty.symm.trans h2)
  obtain ⟨ee, fr, hh⟩ := var_heap hg h3
  obtain ⟨xs, m, _, hx, hl, hxl, hi⟩ := DataW.trod_array ht h4
  have hx1 : (zs.map fun z => (.agg [.lit (.int k z.1), .lit (.int k z.2)] : DataW Unit)) = xs.map (·.1) := by
    have := congrArg Prod.fst hx
    simpa using this
  have hs : cs.size = n * 2 := by rw [← Array.length_toList, hl, hct]
  have hseg : seg cs 0 (n * 2) = cs.toList := by
    unfold seg
    rw [List.drop_zero, List.take_of_length_le (by rw [Array.length_toList]; omega)]
  refine ⟨cs, ee, fr, hh, ?_, hs⟩
  rw [hseg]
  refine ⟨hn, by rw [Array.length_toList, hs]; rfl, fun i hiz => ?_⟩
  have hin : i < n := by rw [← hn]; exact hiz
  have hix : i < xs.length := by rw [hxl]; exact hin
  have q := hi i hin
  rw [List.getElem?_eq_getElem hix, hce] at q
  have e1 : xs[i].1 = .agg [.lit (.int k zs[i].1), .lit (.int k zs[i].2)] := by
    have := congrArg (fun l => l[i]?) hx1
    simp only [List.getElem?_map, List.getElem?_eq_getElem hix, List.getElem?_eq_getElem hiz, Option.map_some, Option.some.injEq] at this
    exact this.symm
  have q' : DataW.trod (fun _ => ()) P W 0 (fun _ => true) false m e ((cs.toList.drop (i * 2)).take 2) = some (.agg [.lit (.int k zs[i].1), .lit (.int k zs[i].2)], xs[i].2) := by
    rw [q, ← e1]
  have hcell := pair_cells hc q'
  show Rd (HW W) (.pair (.int k) (.int k)) zs[i] ((cs.toList.drop (i * 2)).take 2)
  rw [hcell]
  exact ⟨rfl, rfl⟩
theorem j4a : laidOutB Proofs.Tryz.prog = true := by kernel_rfl
theorem j4b : mapsRowed Proofs.Tryz.prog = true := by kernel_rfl
theorem j4c : Proofs.Tryz.prog.stopsHeard = true := by kernel_rfl
theorem j4d : Proofs.Tryz.prog.mayEnter = true := by kernel_rfl
end Go.Sx
