/- A verified symbolic run of functions, part 13: lemmas, no claim of their own. -/
import Derived.Test.YtlgimjcnnndbhaaS12
import Derived.Shelf.Spec.SlicesGrow
import Derived.Test.YtlgimjcnnndbhaaProg
namespace Go.Sx
open U
theorem getD_mem' {α : Type} {l : List α} {i : Nat} {d : α} (h : i < l.length) : List.getD l i d ∈ l := by
  rw [getD_of h]; exact List.getElem_mem h
theorem fst_bad {nm : List UInt8} {w h : Int} {s : List Nat} (e : (first [whenE (!isName nm) 8, within w 1 64, within h 1 64] != 0) = true) : first [whenE (!isName nm) 8, within w 1 64, within h 1 64] = chkPic nm w h s := by
  unfold chkPic
  rw [if_pos (by simpa using e)]
theorem fst_good {nm : List UInt8} {w h : Int} (e : (first [whenE (!isName nm) 8, within w 1 64, within h 1 64] != 0) = false) : isName nm = true ∧ (1 ≤ w ∧ w ≤ 64) ∧ (1 ≤ h ∧ h ≤ 64) := by
  have e : first [whenE (!isName nm) 8, within w 1 64, within h 1 64] = 0 := by simpa using e
  have := first_zero.1 e
  refine ⟨?_, within_zero.1 (this _ (by simp)), within_zero.1 (this _ (by simp))⟩
  have := this (whenE (!isName nm) 8) (by simp)
  cases hn : isName nm with
  | true => rfl
  | false => rw [hn] at this; simp [whenE] at this
theorem chk_rest {nm : List UInt8} {w h : Int} {s : List Nat} (e : (first [whenE (!isName nm) 8, within w 1 64, within h 1 64] != 0) = false) : chkPic nm w h s = if (s.length : Int) ≠ w * h then 2 else first (s.map chkS) := by
  unfold chkPic
  rw [if_neg (by simpa using e)]
theorem mul_fits {w h : Int} (hw : 1 ≤ w ∧ w ≤ 64) (hh : 1 ≤ h ∧ h ≤ 64) : 1 ≤ w * h ∧ w * h ≤ 4096 := by
  have h1 : w * h ≤ 64 * 64 := Int.mul_le_mul hw.2 hh.2 (by omega) (by omega)
  have h2 : 1 * 1 ≤ w * h := Int.mul_le_mul hw.1 hh.1 (by omega) (by omega)
  omega
theorem chkPic_zero {nm : List UInt8} {w h : Int} {s : List Nat} : chkPic nm w h s = 0 ↔ isName nm = true ∧ (1 ≤ w ∧ w ≤ 64) ∧ (1 ≤ h ∧ h ≤ 64) ∧ (s.length : Int) = w * h ∧ OkS s := by
  cases hb : (first [whenE (!isName nm) 8, within w 1 64, within h 1 64] != 0) with
  | true =>
    refine ⟨fun e => ?_, fun e => ?_⟩
    · rw [← fst_bad hb] at e
      rw [e] at hb; cases hb
    · exfalso
      have : first [whenE (!isName nm) 8, within w 1 64, within h 1 64] = 0 := by
        rw [first_zero]
        intro n hn
        simp only [List.mem_cons, List.not_mem_nil, or_false] at hn
        rcases hn with rfl | rfl | rfl
        · rw [e.1]; rfl
        · exact within_zero.2 e.2.1
        · exact within_zero.2 e.2.2.1
      rw [this] at hb; cases hb
  | false =>
    rw [chk_rest hb]
    obtain ⟨h1, h2, h3⟩ := fst_good hb
    by_cases hl : (s.length : Int) = w * h
    · rw [if_neg (fun e => e hl)]
      refine ⟨fun e => ⟨h1, h2, h3, hl, fun b hb => first_zero.1 e _ (List.mem_map.2 ⟨b, hb, rfl⟩)⟩, fun e => first_zero.2 fun n hn => ?_⟩
      obtain ⟨b, hb, rfl⟩ := List.mem_map.1 hn
      exact e.2.2.2.2 b hb
    · rw [if_pos hl]
      exact ⟨fun e => (by cases e), fun e => absurd e.2.2.2.1 hl⟩
theorem fn35 (n lo hi : Int)  : Fn P1 gl1 35 [iV n, iV lo, iV hi] (.val (iV (within n lo hi))) true := by
  refine Fn.flat ?_ rfl
  refine fn_of false [(43, sp43)] [] h0 0 Proofs.Try.f35 ⟨so43, trivial⟩ trivial (by kernel_rfl) rfl (by kernel_rfl) rfl rfl rfl ?_
  rw [vc35]
  try simp only [splitB_iff, -eq_self]
  unfold within
  by_cases h1 : n < lo <;> by_cases h2 : hi < n <;> simp [h1, h2, whenE]
theorem so35_ : SpecOk P1 gl1 35 sp35 := by
  intro vs ps r h _
  simp only [sp35] at h
  split at h
  · cases h; exact fn35 _ _ _ 
  · cases h
theorem so35 : Sp1 35 sp35 := ⟨so35_, Proofs.Try.f35, _, by kernel_rfl, rfl, by kernel_rfl⟩
theorem fn28 (xs : List Int) (hl : xs.length ≤ 1000000000) : Fn P1 gl1 28 [.one (.sl (.int .i64) xs)] (.val (iV (first xs))) true := by
  refine Fn.flat ?_ rfl
  refine fn_of false [] [] h28 0 Proofs.Try.f28 trivial trivial (by kernel_rfl) rfl (by kernel_rfl) rfl rfl rfl ?_
  rw [vc28]
  try simp only [splitB_iff, -eq_self]
  refine ⟨⟨0, by simp, by simp⟩, fun g hg => ⟨fun hlt => ?_, fun hge => ?_⟩⟩
  · have hlt' : g < xs.length := by simpa using hlt
    rw [getD_of hlt', hg.2, first_drop xs g hlt']
    refine ⟨by omega, fun h => ⟨?_, trivial⟩, fun h => ⟨by simp only [fits]; omega, g + 1, ⟨by omega, ?_⟩, by omega, by simp⟩⟩
    · rw [if_neg (by simpa using h)]
    · rw [if_pos (by simpa using h)]
  · have hge' : ¬ g < xs.length := by simpa using hge
    rw [hg.2, List.drop_of_length_le (by omega)]
    simp [first]
theorem so28_ : SpecOk P1 gl1 28 sp28 := by
  intro vs ps r h hp
  simp only [sp28] at h
  split at h
  · cases h; exact fn28 _ (hp _ (.head _))
  · cases h
theorem so28 : Sp1 28 sp28 := ⟨so28_, Proofs.Try.f28, _, by kernel_rfl, rfl, by kernel_rfl⟩
theorem fn71 (l : List Nat) (hl : l.length ≤ 1000000) : Fn P1 gl1 71 [.one (.sl (.flt .f32) l), .one (.fn 72 [] [])] (.val (.one (.frs (.int .i64) (l.map chkS)))) true := by
  refine Fn.flat ?_ rfl
  refine fn_of false [(72, sp72)] [] h28 0 Proofs.Try.f71 ⟨so72, trivial⟩ trivial (by kernel_rfl) rfl (by kernel_rfl) rfl rfl rfl ?_
  rw [vc71]
  try simp only [splitB_iff, -eq_self]
  refine ⟨⟨0, Nat.zero_le _, rfl, by trivial, by trivial, by simp⟩, fun g hg => ⟨fun hlt => ?_, fun hge => ?_⟩⟩
  · have hlt' : g < l.length := by simpa using hlt
    refine ⟨by omega, by simp only [room, List.length_map, List.length_take]; omega, by simp only [fits]; omega, g + 1, hlt', by omega, by simp, by trivial, by trivial, ?_, trivial⟩
    rw [getD_of hlt', List.take_succ_eq_append_getElem hlt', List.map_append]
    rfl
  · have hge' : ¬ g < l.length := by simpa using hge
    rw [List.take_of_length_le (by omega)]
    exact ⟨rfl, trivial⟩
theorem so71_ : SpecOk P1 gl1 71 sp71 := by
  intro vs ps r h hp
  simp only [sp71] at h
  split at h
  · cases h; exact fn71 _ (hp _ (.head _))
  · cases h
theorem so71 : Sp1 71 sp71 := ⟨so71_, Proofs.Try.f71, _, by kernel_rfl, rfl, by kernel_rfl⟩
theorem fn29 (nm : List UInt8) (w h : Int) (s : List Nat) (hl : s.length ≤ 1000000) : Fn P1 gl1 29 [picV nm w h s] (.val (iV (chkPic nm w h s))) true := by
  refine Fn.flat ?_ rfl
  refine fn_of false [(43, sp43), (35, sp35), (28, sp28), (70, sp70), (71, sp71)] [] h0 0 Proofs.Try.f29 ⟨so43, so35, so28, so70, so71, trivial⟩ trivial (by kernel_rfl) rfl (by kernel_rfl) rfl rfl rfl ?_
  rw [vc29]
  try simp only [splitB_iff, -eq_self]
  refine ⟨by omega, fun e => ⟨fst_bad e, trivial⟩, fun e => ?_⟩
  obtain ⟨h1, h2, h3⟩ := fst_good e
  have h4 := mul_fits h2 h3
  rw [chk_rest e]
  refine ⟨by simp only [fits]; omega, fun e2 => ⟨?_, trivial⟩, fun e2 => ⟨hl, by rw [List.length_map]; omega, ?_, trivial⟩⟩
  · rw [if_pos (by simpa using e2)]
  · rw [if_neg (by simpa using e2)]
theorem so29_ : SpecOk P1 gl1 29 sp29 := by
  intro vs ps r h hp
  simp only [sp29] at h
  split at h
  · cases h; exact fn29 _ _ _ _ (hp _ (.head _))
  · cases h
theorem so29 : Sp1 29 sp29 := ⟨so29_, Proofs.Try.f29, _, by kernel_rfl, rfl, by kernel_rfl⟩
theorem fn25 (nm : List UInt8) (w h : Int) (s : List Nat) (hn : nm.length ≤ 1000000) (hl : s.length ≤ 1000000) : Fn P1 gl1 25 [picV nm w h s] (.val (iV (chkPic nm w h s))) true := by
  refine Fn.flat ?_ rfl
  refine fn_of false [(63, sp63), (64, sp64), (62, sp62), (65, sp65)] [] h28 0 Proofs.Try.f25 ⟨so63, so64, so62, so65, trivial⟩ trivial (by kernel_rfl) rfl (by kernel_rfl) rfl rfl rfl ?_
  rw [vc25]
  try simp only [splitB_iff, -eq_self]
  refine ⟨by omega, by omega, fun e => ⟨fst_bad e, trivial⟩, fun e => ?_⟩
  obtain ⟨h1, h2, h3⟩ := fst_good e
  have h4 := mul_fits h2 h3
  rw [chk_rest e]
  refine ⟨by simp only [fits]; omega, fun e2 => ⟨?_, trivial⟩, fun e2 => ?_⟩
  · rw [if_pos (by simpa using e2)]
  · rw [if_neg (by simpa using e2)]
    refine ⟨⟨0, ⟨by omega, by simp⟩, rfl, rfl, rfl, rfl, rfl, rfl, trivial⟩, fun g hg => ⟨fun hlt => ⟨?_, fun k => ?_, fun k => ?_⟩, fun hge => ?_⟩⟩
    · have hlt : g < s.length := by simpa using hlt
      omega
    · have hlt : g < s.length := by simpa using hlt
      rw [hg.2, first_drop _ g (by simpa using hlt)]
      rw [getD_of hlt] at k ⊢
      simp only [List.getElem_map]
      rw [if_neg (by simpa using k)]
      exact ⟨rfl, trivial⟩
    · have hlt : g < s.length := by simpa using hlt
      refine ⟨by simp only [fits]; omega, g + 1, ⟨by omega, ?_⟩, by omega, by simp, rfl, rfl, rfl, rfl, rfl, trivial⟩
      rw [hg.2, first_drop _ g (by simpa using hlt)]
      rw [getD_of hlt] at k
      simp only [List.getElem_map]
      rw [if_pos (by simpa using k)]
    · have hge : ¬ g < s.length := by simpa using hge
      rw [hg.2, List.drop_of_length_le (by rw [List.length_map]; omega)]
      exact ⟨rfl, trivial⟩
theorem so25_ : SpecOk P1 gl1 25 sp25 := by
  intro vs ps r h hp
  simp only [sp25] at h
  split at h
  · cases h; exact fn25 _ _ _ _ (hp _ (.head _)) (hp _ (.tail _ (.head _)))
  · cases h
theorem so25 : Sp1 25 sp25 := ⟨so25_, Proofs.Try.f25, _, by kernel_rfl, rfl, by kernel_rfl⟩
theorem fn24 (nm : List UInt8) (w h : Int) (s : List Nat)  : Fn P1 gl1 24 [picV nm w h s] (.val (bV (shortPic nm w h s))) true := by
  refine Fn.flat ?_ rfl
  refine fn_of false [] [] h0 0 Proofs.Try.f24 trivial trivial (by kernel_rfl) rfl (by kernel_rfl) rfl rfl rfl ?_
  rw [vc24]
  try simp only [splitB_iff, -eq_self]
  refine ⟨?_, trivial⟩
  unfold shortPic shSide
  have e1 : decide ((nm.length : Int) ≤ 40) = decide (nm.length ≤ 40) := decide_eq_decide.2 (by omega)
  have e2 : decide ((s.length : Int) ≤ 160) = decide (s.length ≤ 160) := decide_eq_decide.2 (by omega)
  rw [e1, e2]
  simp only [bcond_l, bcond_r, Bool.and_assoc]
theorem so24_ : SpecOk P1 gl1 24 sp24 := by
  intro vs ps r h _
  simp only [sp24] at h
  split at h
  · cases h; exact fn24 _ _ _ _ 
  · cases h
theorem so24 : Sp1 24 sp24 := ⟨so24_, Proofs.Try.f24, _, by kernel_rfl, rfl, by kernel_rfl⟩
theorem fn5 (nm : List UInt8) (w h : Int) (s : List Nat)  : Fn P1 gl1 5 [picV nm w h s] (.val (bV (smallPic nm w h s))) true := by
  refine Fn.flat ?_ rfl
  refine fn_of false [(24, sp24), (25, sp25)] [] h0 0 Proofs.Try.f5 ⟨so24, so25, trivial⟩ trivial (by kernel_rfl) rfl (by kernel_rfl) rfl rfl rfl ?_
  rw [vc5]
  try simp only [splitB_iff, -eq_self]
  have hs : shortPic nm w h s = true → nm.length ≤ 40 ∧ s.length ≤ 160 := fun e => by
    unfold shortPic at e
    simp only [Bool.and_eq_true, decide_eq_true_eq] at e
    exact ⟨e.1, e.2.1⟩
  refine ⟨fun e => by have := hs e; omega, fun e => by have := hs e; omega, ?_, trivial⟩
  unfold smallPic
  rw [bcond_r]
  congr 1
theorem so5_ : SpecOk P1 gl1 5 sp5 := by
  intro vs ps r h _
  simp only [sp5] at h
  split at h
  · cases h; exact fn5 _ _ _ _ 
  · cases h
theorem so5 : Sp1 5 sp5 := ⟨so5_, Proofs.Try.f5, _, by kernel_rfl, rfl, by kernel_rfl⟩
theorem fn34 (nm : List UInt8) (w h : Int) (s : List Nat) (hl : s.length ≤ 1000000) : Fn P1 gl1 34 [picV nm w h s] (.val (picF nm w h s)) true := by
  refine Fn.flat ?_ rfl
  refine fn_of false [] [] h0 0 Proofs.Try.f34 trivial trivial (by kernel_rfl) rfl (by kernel_rfl) rfl rfl rfl ?_
  rw [vc34]
  try simp only [splitB_iff, -eq_self]
  exact ⟨by simp only [room]; omega, rfl, rfl, rfl, rfl, trivial⟩
theorem so34_ : SpecOk P1 gl1 34 sp34 := by
  intro vs ps r h hp
  simp only [sp34] at h
  split at h
  · cases h; exact fn34 _ _ _ _ (hp _ (.head _))
  · cases h
theorem so34 : Sp1 34 sp34 := ⟨so34_, Proofs.Try.f34, _, by kernel_rfl, rfl, by kernel_rfl⟩
theorem fn8 (nm : List UInt8) (w h : Int) (s : List Nat) (hl : s.length ≤ 1000000) : Fn P1 gl1 8 [picV nm w h s] (.val (picF nm w h s)) true := by
  refine Fn.flat ?_ rfl
  refine fn_of false [(34, sp34)] [] h0 0 Proofs.Try.f8 ⟨so34, trivial⟩ trivial (by kernel_rfl) rfl (by kernel_rfl) rfl rfl rfl ?_
  rw [vc8]
  try simp only [splitB_iff, -eq_self]
  exact ⟨hl, rfl, rfl, rfl, rfl, trivial⟩
theorem so8_ : SpecOk P1 gl1 8 sp8 := by
  intro vs ps r h hp
  simp only [sp8] at h
  split at h
  · cases h; exact fn8 _ _ _ _ (hp _ (.head _))
  · cases h
theorem so8 : Sp1 8 sp8 := ⟨so8_, Proofs.Try.f8, _, by kernel_rfl, rfl, by kernel_rfl⟩
theorem fn27 (a b : List Nat) (hl : a.length ≤ 1000000000) : Fn P1 gl1 27 [.one (.sl (.flt .f32) a), .one (.sl (.flt .f32) b)] (.val (bV (sameS a b))) true := by
  refine Fn.flat ?_ rfl
  refine fn_of false [] [] h28 0 Proofs.Try.f27 trivial trivial (by kernel_rfl) rfl (by kernel_rfl) rfl rfl rfl ?_
  rw [vc27]
  try simp only [splitB_iff, -eq_self]
  have key : ∀ i, (Ieee.Format.order (FloatKind.format FloatKind.f32) (List.getD a i 0) (List.getD b i 0) != some Ordering.eq) = !Op.floatEq .f32 (List.getD a i 0) (List.getD b i 0) := fun _ => rfl
  simp only [key, Bool.not_eq_true', Bool.not_eq_false', -eq_self]
  refine ⟨fun h => ?_, fun h => ⟨⟨0, ⟨by omega, fun j hj => absurd hj (by omega)⟩, rfl, rfl, rfl, trivial⟩, fun g hg => ⟨fun hlt => ⟨?_, ?_, fun k => ?_, fun k => ?_⟩, fun hge => ?_⟩⟩⟩
  · have h : ¬ (a.length : Int) = b.length := by simpa using h
    unfold sameS
    rw [decide_eq_false h]
    exact ⟨rfl, trivial⟩
  · have hlt : g < a.length := by simpa using hlt
    omega
  · have h : (a.length : Int) = b.length := by simpa using h
    have hlt : g < a.length := by simpa using hlt
    omega
  · have hlt : g < a.length := by simpa using hlt
    have : sameS a b = false := by
      unfold sameS
      rw [Bool.and_eq_false_iff]
      refine .inr ?_
      rw [List.all_eq_false]
      exact ⟨g, List.mem_range.2 hlt, by rw [k]; decide⟩
    rw [this]
    exact ⟨rfl, trivial⟩
  · have hlt : g < a.length := by simpa using hlt
    refine ⟨by simp only [fits]; omega, g + 1, ⟨by omega, fun j hj => ?_⟩, by omega, by simp, rfl, rfl, trivial⟩
    by_cases e : j = g
    · subst e; exact k
    · exact hg.2 j (by omega)
  · have h : (a.length : Int) = b.length := by simpa using h
    have hge : ¬ g < a.length := by simpa using hge
    have : sameS a b = true := by
      unfold sameS
      simp only [Bool.and_eq_true, decide_eq_true_eq, List.all_eq_true, List.mem_range]
      exact ⟨h, fun i hi => hg.2 i (by omega)⟩
    rw [this]
    exact ⟨rfl, trivial⟩
theorem so27_ : SpecOk P1 gl1 27 sp27 := by
  intro vs ps r h hp
  simp only [sp27] at h
  split at h
  · cases h; exact fn27 _ _ (hp _ (.head _))
  · cases h
theorem so27 : Sp1 27 sp27 := ⟨so27_, Proofs.Try.f27, _, by kernel_rfl, rfl, by kernel_rfl⟩
theorem fn15 (n1 : List UInt8) (w1 h1 : Int) (s1 : List Nat) (n2 : List UInt8) (w2 h2 : Int) (s2 : List Nat) (hl : s1.length ≤ 1000000000) : Fn P1 gl1 15 [picV n1 w1 h1 s1, picV n2 w2 h2 s2] (.val (bV (samePic n1 w1 h1 s1 n2 w2 h2 s2))) true := by
  refine Fn.flat ?_ rfl
  refine fn_of false [(27, sp27)] [] h0 0 Proofs.Try.f15 ⟨so27, trivial⟩ trivial (by kernel_rfl) rfl (by kernel_rfl) rfl rfl rfl ?_
  rw [vc15]
  try simp only [splitB_iff, -eq_self]
  refine ⟨fun _ => hl, ?_, trivial⟩
  unfold samePic
  simp only [bcond_r, Bool.and_assoc]
theorem so15_ : SpecOk P1 gl1 15 sp15 := by
  intro vs ps r h hp
  simp only [sp15] at h
  split at h
  · cases h; exact fn15 _ _ _ _ _ _ _ _ (hp _ (.head _))
  · cases h
theorem so15 : Sp1 15 sp15 := ⟨so15_, Proofs.Try.f15, _, by kernel_rfl, rfl, by kernel_rfl⟩
theorem fn33 (b : Nat) (hb : chkS b = 0) : Fn P1 gl1 33 [fV b] (.val (iV (six b))) true := by
  refine Fn.flat ?_ rfl
  refine fn_of false [] [] h0 0 Proofs.Try.f33 trivial trivial (by kernel_rfl) rfl (by kernel_rfl) rfl rfl rfl ?_
  rw [vc33]
  try simp only [splitB_iff, -eq_self]
  obtain ⟨y, e1, e2, e3⟩ := six_step hb
  have e2' : Ieee.Datum.toInt .zero (FloatKind.decode .f32 y) = some (six b) := e2
  simp only [fmt32, e1, e2', Option.isSome_some, Option.getD_some]
  refine ⟨trivial, ⟨trivial, ?_, ?_⟩, trivial, trivial⟩
  · show (-9223372036854775808 : Int) ≤ _; omega
  · show _ ≤ (9223372036854775807 : Int); omega
theorem so33_ : SpecOk P1 gl1 33 sp33 := by
  intro vs ps r h hp
  simp only [sp33] at h
  split at h
  · cases h; exact fn33 _ (hp _ (.head _))
  · cases h
theorem so33 : Sp1 33 sp33 := ⟨so33_, Proofs.Try.f33, _, by kernel_rfl, rfl, by kernel_rfl⟩
theorem fn73 (n : Int) (hb : -8388608 ≤ n ∧ n ≤ 8388608) : Fn P1 gl1 73 [iV n] (.val (fV (smp n))) true := by
  refine Fn.flat ?_ rfl
  refine fn_of false [] [] h0 0 Proofs.Try.f73 trivial trivial (by kernel_rfl) rfl (by kernel_rfl) rfl rfl rfl ?_
  rw [vc73]
  try simp only [splitB_iff, -eq_self]
  obtain ⟨e1, e2, e3⟩ := smp_num (n := n) (by omega)
  have e1' : Ieee.Format.div Ieee.single (FloatKind.nearest .f32 n) 1098907648 = some (smp n) := e1
  simp only [fmt32, e1', Option.isSome_some, Option.getD_some]
  exact ⟨trivial, trivial, trivial⟩
theorem so73_ : SpecOk P1 gl1 73 sp73 := by
  intro vs ps r h hp
  simp only [sp73] at h
  split at h
  · cases h; exact fn73 _ (hp _ (.head _))
  · cases h
theorem so73 : Sp1 73 sp73 := ⟨so73_, Proofs.Try.f73, _, by kernel_rfl, rfl, by kernel_rfl⟩
theorem fn30 (nm : List UInt8) (w h : Int) (s : List Nat)  : Fn P1 gl1 30 [picV nm w h s] (.val (.agg [.one (.int .i64 w), .one (.int .i64 h)])) true := by
  refine Fn.flat ?_ rfl
  refine fn_of false [] [] h0 0 Proofs.Try.f30 trivial trivial (by kernel_rfl) rfl (by kernel_rfl) rfl rfl rfl ?_
  rw [vc30]
  try simp only [splitB_iff, -eq_self]
  exact ⟨rfl, rfl, trivial⟩
theorem so30_ : SpecOk P1 gl1 30 sp30 := by
  intro vs ps r h _
  simp only [sp30] at h
  split at h
  · cases h; exact fn30 _ _ _ _ 
  · cases h
theorem so30 : Sp1 30 sp30 := ⟨so30_, Proofs.Try.f30, _, by kernel_rfl, rfl, by kernel_rfl⟩
theorem sqS_app : ∀ (a b : List Int), sqS (a ++ b) = sqS a + sqS b
  | [], b => by simp [sqS]
  | n :: a, b => by rw [List.cons_append, sqS, sqS, sqS_app a b]; omega
theorem sqS_bd : ∀ {l : List Int}, Bd 16384 l → 0 ≤ sqS l ∧ sqS l ≤ 268435456 * (l.length : Int)
  | [], _ => by simp [sqS]
  | n :: l, h => by
    have h1 := sqS_bd (l := l) fun x hx => h x (List.mem_cons_of_mem _ hx)
    have h2 := h n List.mem_cons_self
    have h3 : (n * n).natAbs = n.natAbs * n.natAbs := Int.natAbs_mul n n
    have h4 : n.natAbs * n.natAbs ≤ 16384 * 16384 := Nat.mul_le_mul (by omega) (by omega)
    have h5 : 0 ≤ n * n := by
      have := Int.mul_self_le_mul_self (a := 0) (b := 0) (by omega) (by omega)
      rcases Int.le_total 0 n with h | h
      · exact Int.mul_nonneg h h
      · have := Int.mul_nonneg (show 0 ≤ -n by omega) (show 0 ≤ -n by omega)
        rwa [Int.neg_mul_neg] at this
    rw [sqS, List.length_cons]
    omega
theorem fn10 (nm : List UInt8) (w h : Int) (s : List Nat) (hl : s.length ≤ 1000000) (hc : chkPic nm w h s = 0) : Fn P1 gl1 10 [picV nm w h s] (.tup [iV (sqS (List.map six s)), iV 0]) true := by
  refine Fn.flat ?_ rfl
  refine fn_of false [(29, sp29), (33, sp33)] [] h28 0 Proofs.Try.f10 ⟨so29, so33, trivial⟩ trivial (by kernel_rfl) rfl (by kernel_rfl) rfl rfl rfl ?_
  rw [vc10]
  try simp only [splitB_iff, -eq_self]
  obtain ⟨c1, c2, c3, c4, c5⟩ := chkPic_zero.1 hc
  simp only [hc, -eq_self]
  refine ⟨hl, fun e => absurd e (by decide), fun _ => ⟨⟨0, Nat.zero_le _, rfl, rfl, rfl, rfl, rfl, rfl, rfl, rfl, trivial⟩, fun g hg => ⟨fun hlt => ?_, fun hge => ?_⟩⟩⟩
  · have hlt : g < s.length := by simpa using hlt
    have hb := c5 _ (getD_mem' (d := 0) hlt)
    have hsx := chk_six hb
    have h1 := sqS_bd (l := List.map six (List.take g s)) fun n hn => by
      obtain ⟨b, hb, rfl⟩ := List.mem_map.1 hn
      exact chk_six (c5 b (List.mem_of_mem_take hb))
    have h2 := sqS_bd (l := [six (List.getD s g 0)]) fun n hn => by
      rw [List.mem_singleton.1 hn]; exact hsx
    simp only [sqS, List.length_cons, List.length_nil, List.length_map, List.length_take] at h1 h2
    refine ⟨⟨by omega, by omega⟩, hb, hb, by simp only [fits]; omega, by simp only [fits]; omega, by simp only [fits]; omega, g + 1, hlt, by omega, by simp, ?_, rfl, rfl, rfl, rfl, rfl, rfl, trivial⟩
    rw [List.take_succ_eq_append_getElem hlt, List.map_append, sqS_app, getD_of hlt]
    simp [sqS]
  · have hge : ¬ g < s.length := by simpa using hge
    rw [List.take_of_length_le (by omega)]
    exact ⟨rfl, rfl, trivial⟩
theorem so10_ : SpecOk P1 gl1 10 sp10 := by
  intro vs ps r h hp
  simp only [sp10] at h
  split at h
  · cases h; exact fn10 _ _ _ _ (hp _ (.head _)) (hp _ (.tail _ (.head _)))
  · cases h
theorem so10 : Sp1 10 sp10 := ⟨so10_, Proofs.Try.f10, _, by kernel_rfl, rfl, by kernel_rfl⟩
end Go.Sx

namespace Go.Sx.U
def grid (w h : Nat) (g : Nat → Nat → Nat) : List Nat := (tab h fun y => tab w (g y)).flatten
def at2 (w : Nat) (s : List Nat) (y x : Nat) : Nat := List.getD s (y * w + x) 0
def rowI (w : Int) (s : List Nat) (y : Int) : List Nat := List.take w.toNat (List.drop (y * w).toNat s)
def rowsI (w h : Int) (s : List Nat) : List (List Nat) := tab h.toNat fun y => rowI w s (y : Nat)
def evI (w h : Int) (s : List Nat) (f : Int) : List (List Nat) := tab ((h - f + 1) / 2).toNat fun i => rowI w s (f + 2 * (i : Nat))
def cutI (c0 c1 : Int) (l : List Nat) : List Nat := List.take (c1.toNat - c0.toNat) (List.drop c0.toNat l)
def RowsOk (w : Nat) (rows : List (List Nat)) : Prop := ∀ r ∈ rows, r.length = w
def spanE (a b n : Int) : Int := if a < 0 ∨ b ≤ a ∨ n < b then 14 else 0
def madeTo (rows : List (List Nat)) (w h : Nat) (i : Nat) : List Nat := (List.take i rows).flatten ++ List.replicate ((h - i) * w) 0
theorem flat_len {w : Nat} : ∀ {rows : List (List Nat)}, RowsOk w rows → rows.flatten.length = rows.length * w
  | [], _ => by simp
  | r :: rows, h => by
    rw [List.flatten_cons, List.length_append, h r List.mem_cons_self, flat_len (rows := rows) fun x hx => h x (List.mem_cons_of_mem _ hx), List.length_cons, Nat.succ_mul]
    omega
theorem rowsOk_take {w : Nat} {rows : List (List Nat)} (h : RowsOk w rows) (i : Nat) : RowsOk w (rows.take i) := fun r hr => h r (List.mem_of_mem_take hr)
theorem rowsOk_tab {w n : Nat} {f : Nat → List Nat} (h : ∀ i, i < n → (f i).length = w) : RowsOk w (tab n f) := fun r hr => by
  obtain ⟨i, hi, rfl⟩ := mem_tab hr
  exact h i hi
theorem grid_len (w h : Nat) (g : Nat → Nat → Nat) : (grid w h g).length = h * w := by
  unfold grid
  rw [flat_len (w := w) (rowsOk_tab fun i _ => tab_len _ _), tab_len]
theorem flat_get {w : Nat} : ∀ {rows : List (List Nat)}, RowsOk w rows → ∀ {y x : Nat}, y < rows.length → x < w → List.getD rows.flatten (y * w + x) 0 = List.getD (List.getD rows y []) x 0
  | [], _, y, x, hy, _ => by simp at hy
  | r :: rows, h, y, x, hy, hx => by
    have hr := h r List.mem_cons_self
    rw [List.flatten_cons]
    cases y with
    | zero =>
      rw [Nat.zero_mul, Nat.zero_add]
      simp only [List.getD_eq_getElem?_getD, List.getElem?_cons_zero, Option.getD_some]
      rw [List.getElem?_append_left (by omega)]
    | succ y =>
      have := flat_get (rows := rows) (fun x hx => h x (List.mem_cons_of_mem _ hx)) (y := y) (x := x) (by simpa using hy) hx
      simp only [List.getD_eq_getElem?_getD, List.getElem?_cons_succ] at this ⊢
      rw [List.getElem?_append_right (by rw [hr, Nat.succ_mul]; omega), hr, ← this]
      congr 2
      rw [Nat.succ_mul]; omega
theorem grid_at {w h : Nat} {g : Nat → Nat → Nat} {y x : Nat} (hy : y < h) (hx : x < w) : at2 w (grid w h g) y x = g y x := by
  unfold at2 grid
  rw [flat_get (rowsOk_tab fun i _ => tab_len _ _) (by rw [tab_len]; exact hy) hx, tab_get hy, tab_get hx]
theorem grid_ext {w h : Nat} {f g : Nat → Nat → Nat} (e : ∀ y x, y < h → x < w → f y x = g y x) : grid w h f = grid w h g := by
  unfold grid
  congr 1
  exact tab_ext fun y hy => tab_ext fun x hx => e y x hy hx
theorem as_grid {w h : Nat} {s : List Nat} (hl : s.length = h * w) : s = grid w h (at2 w s) := by
  refine List.ext_getElem (by rw [grid_len, hl]) fun i h1 h2 => ?_
  have hw : 0 < w := by
    rcases Nat.eq_zero_or_pos w with h0 | h0
    · subst h0; omega
    · exact h0
  have hy : i / w < h := Nat.div_lt_of_lt_mul (by rw [Nat.mul_comm]; omega)
  have hx := Nat.mod_lt i hw
  have e : i / w * w + i % w = i := by rw [Nat.mul_comm]; exact Nat.div_add_mod i w
  have key : ∀ g : Nat → Nat → Nat, List.getD (grid w h g) (i / w * w + i % w) 0 = g (i / w) (i % w) := fun g => grid_at (g := g) hy hx
  have := key (at2 w s)
  rw [e, getD_of h2] at this
  rw [this]
  unfold at2
  rw [e, getD_of h1]
theorem rowI_len {w y : Int} {s : List Nat} (hw : 0 ≤ w) (hy : 0 ≤ y) (h : (y + 1) * w ≤ (s.length : Int)) : (rowI w s y).length = w.toNat := by
  unfold rowI
  have h1 : 0 ≤ y * w := Int.mul_nonneg hy hw
  rw [Int.add_mul, Int.one_mul] at h
  rw [List.length_take, List.length_drop]
  omega
theorem rowI_nat {w y : Nat} {s : List Nat} : rowI (w : Int) s (y : Int) = List.take w (List.drop (y * w) s) := by
  unfold rowI
  rw [show ((y : Int) * (w : Int)).toNat = y * w by rw [← Int.natCast_mul]; rfl, Int.toNat_natCast]
theorem rowI_grid {w h y : Nat} {g : Nat → Nat → Nat} (hy : y < h) : rowI (w : Int) (grid w h g) (y : Int) = tab w (g y) := by
  have hm : (y + 1) * w ≤ h * w := Nat.mul_le_mul_right _ hy
  rw [Nat.succ_mul] at hm
  rw [rowI_nat]
  refine eq_tab 0 (by rw [List.length_take, List.length_drop, grid_len]; omega) fun x hx => ?_
  have := grid_at (g := g) hy hx
  unfold at2 at this
  rw [← this]
  simp only [List.getD_eq_getElem?_getD]
  rw [List.getElem?_take_of_lt hx, List.getElem?_drop]
theorem rowsI_grid {w h : Nat} {g : Nat → Nat → Nat} : rowsI (w : Int) (h : Int) (grid w h g) = tab h fun y => tab w (g y) := by
  unfold rowsI
  rw [Int.toNat_natCast]
  exact tab_ext fun y hy => rowI_grid hy
theorem copy_made {rows : List (List Nat)} {w h i : Nat} (hr : RowsOk w rows) (hl : rows.length = h) (hi : i < rows.length) :
    copyL (i * w) ((madeTo rows w h i).length - i * w) (madeTo rows w h i) (List.getD rows i []) = madeTo rows w h (i + 1) := by
  have h1 : ((List.take i rows).flatten).length = i * w := by
    rw [flat_len (rowsOk_take hr i), List.length_take, Nat.min_eq_left (by omega)]
  have h2 : (List.getD rows i []).length = w := hr _ (by rw [getD_of hi]; exact List.getElem_mem hi)
  have h3 : (h - i) * w = w + (h - (i + 1)) * w := by
    rw [show h - i = (h - (i + 1)) + 1 by omega, Nat.succ_mul]; omega
  have h4 : List.take ((madeTo rows w h i).length - i * w) (List.getD rows i []) = List.getD rows i [] := by
    refine List.take_of_length_le ?_
    rw [h2]
    unfold madeTo
    rw [List.length_append, List.length_replicate, h1, h3]
    omega
  have h5 : min (List.getD rows i []).length ((madeTo rows w h i).length - i * w) = w := by
    rw [h2]
    unfold madeTo
    rw [List.length_append, List.length_replicate, h1, h3]
    omega
  unfold copyL
  rw [h4, h5]
  unfold madeTo
  rw [h3, List.take_left' h1, List.take_succ_eq_append_getElem hi, List.flatten_append, List.flatten_singleton, ← getD_of (d := []) hi]
  congr 1
  rw [List.drop_append, h1, List.drop_of_length_le (by omega), List.nil_append, List.drop_replicate]
  congr 1
  omega
theorem made_zero (rows : List (List Nat)) (w h : Nat) : madeTo rows w h 0 = List.replicate (h * w) 0 := by simp [madeTo]
theorem made_all (rows : List (List Nat)) (w : Nat) : madeTo rows w rows.length rows.length = rows.flatten := by simp [madeTo]
theorem made_len {rows : List (List Nat)} {w h i : Nat} (hr : RowsOk w rows) (hl : rows.length = h) (hi : i ≤ h) : (madeTo rows w h i).length = h * w := by
  unfold madeTo
  rw [List.length_append, flat_len (rowsOk_take hr i), List.length_take, List.length_replicate, Nat.min_eq_left (by omega), ← Nat.add_mul]
  congr 1
  omega
end Go.Sx.U

namespace Go.Sx
open U
abbrev rwT : Ty := .sl (.flt .f32)
abbrev spT : Ty := .pair (.int .i64) (.int .i64)
@[reducible] def spV (a b : Int) : V := .agg [.one (.int .i64 a), .one (.int .i64 b)]
def picAt (s : St) (b : Nat) : Option (Int × Int × List Nat) := match lookO s.ob b with
  | some (.box [_, .one (.int .i64 w), .one (.int .i64 h), .one (.sl (.flt .f32) xs)]) => some (w, h, xs)
  | _ => none
def intAt (s : St) (t : Nat) : Option Int := match lookT s.tm t with
  | some (.val (.one (.int .i64 n))) => some n
  | _ => none
def h42 : Hints := ⟨fun f k s => match f, k with
  | 42, 3 => match picAt s 0 with
    | some (w, h, xs) => some ⟨Nat, fun i => ⟨[tI 7 i, tI 6 h, (1, .val (.one (.ptr 0 0))), (3, .val (.one (.own s.nx)))], (s.nx, some (.row rwT (tab i fun y => rowI w xs (y : Nat)))) :: lessO s [3], s.nx + 1, s.lr⟩, fun i => i ≤ h.toNat, fun i => h.toNat - i⟩
    | _ => none
  | 46, 3 => match picAt s 0, intAt s 1 with
    | some (w, h, xs), some f => some ⟨Nat, fun i => ⟨[tI 6 (f + 2 * (i : Nat)), (2, .val (.one (.ptr 0 0))), (5, .val (.one (.own s.nx)))], (s.nx, some (.row rwT (tab i fun y => rowI w xs (f + 2 * (y : Nat))))) :: lessO s [5], s.nx + 1, s.lr⟩, fun i => i ≤ ((h - f + 1) / 2).toNat, fun i => ((h - f + 1) / 2).toNat - i⟩
    | _, _ => none
  | 40, 4 => match lookT s.tm 5, listAs s 24 rwT with
    | some (.val (.one (.ptr b 0))), some rows => match lookO s.ob b with
      | some (.box [_, _, _, .one (.own id)]) => some ⟨Nat, fun i => ⟨tI 26 i :: keepT [4, 5, 24, 25] s.tm, (id, some (.row (.flt .f32) (madeTo rows (List.length (List.getD rows 0 [])) (List.length rows) i))) :: (liveO [] s.ob).filter (fun x => x.1 != id), s.nx, s.lr⟩, fun i => i ≤ List.length rows, fun i => List.length rows - i⟩
      | _ => none
    | _, _ => none
  | 41, 3 => match lookT s.tm 1 with
    | some (.val (.one (.fnd _ true (.pair (.int .i64) (.int .i64)) x))) => hMapG rwT rwT (cutI x.1 x.2) 8 10 5 [1, 9] s
    | _ => none
  | _, _ => none, 0⟩
def sp74 : FSpec := ⟨fun vs => match vs with
  | [.one .nils, .one (.int .i64 n)] => some ([0 ≤ n ∧ n ≤ 1000000], .val (.one (.frs (.flt .f32) [])))
  | _ => none, true⟩
def h44 : Hints := ⟨fun f k s => match f, k with
  | 44, 3 => match listAs s 9 rwT with
    | some xs => some ⟨Nat, fun i => ⟨[tI 11 i, tI 3 ((List.take i xs).flatten.length : Nat)] ++ keepT [0, 9, 10] s.tm, liveO [] s.ob, s.nx, s.lr⟩, fun i => i ≤ List.length xs, fun i => List.length xs - i⟩
    | _ => none
  | 44, 11 => match listAs s 25 rwT with
    | some xs => some ⟨Nat, fun i => ⟨[tI 27 i, (6, .val (.one (.own s.nx)))] ++ keepT [25, 26] s.tm, (s.nx, some (.row (.flt .f32) (List.take i xs).flatten)) :: lessO s [6], s.nx + 1, s.lr⟩, fun i => i ≤ List.length xs, fun i => List.length xs - i⟩
    | _ => none
  | _, _ => none, 0⟩
end Go.Sx
namespace Go.Sx
open U
def sp45 : FSpec := ⟨fun vs => match vs with
  | [.agg [.one (.str _nm), .one (.int .i64 w), .one (.int .i64 _h), .one (.sl (.flt .f32) s)], .one (.int .i64 y)] => some ([0 ≤ w ∧ w ≤ 1000, 0 ≤ y ∧ y ≤ 1000, (y + 1) * w ≤ (List.length s : Int)], .val (.one (.sl (.flt .f32) (rowI w s y))))
  | _ => none, false⟩
def sp42 : FSpec := ⟨fun vs => match vs with
  | [.agg [.one (.str _nm), .one (.int .i64 w), .one (.int .i64 h), .one (.sl (.flt .f32) s)]] => some ([0 ≤ w ∧ w ≤ 1000, 0 ≤ h ∧ h ≤ 1000, h * w ≤ (List.length s : Int)], .val (.one (.frs rwT (rowsI w h s))))
  | _ => none, false⟩
def sp46 : FSpec := ⟨fun vs => match vs with
  | [.agg [.one (.str _nm), .one (.int .i64 w), .one (.int .i64 h), .one (.sl (.flt .f32) s)], .one (.int .i64 f)] => some ([0 ≤ w ∧ w ≤ 1000, 0 ≤ h ∧ h ≤ 1000, 0 ≤ f ∧ f ≤ h, h * w ≤ (List.length s : Int)], .val (.one (.frs rwT (evI w h s f))))
  | _ => none, false⟩
def sp40 : FSpec := ⟨fun vs => match vs with
  | [.agg [.one (.str nm), .one (.int .i64 _w), .one (.int .i64 _h), .one (.sl (.flt .f32) _s)], .one (.sl (.sl (.flt .f32)) rows)] => some ([0 < List.length rows ∧ List.length rows ≤ 1000, RowsOk (List.length (List.getD (show List (List Nat) from rows) 0 [])) rows, List.length (List.getD (show List (List Nat) from rows) 0 []) ≤ 1000], .val (picF nm (List.length (List.getD (show List (List Nat) from rows) 0 [])) (List.length rows) (List.flatten (show List (List Nat) from rows))))
  | _ => none, true⟩
def sp38 : FSpec := ⟨fun vs => match vs with
  | [.agg [.one (.int .i64 a), .one (.int .i64 b)], .one (.int .i64 n)] => some ([], .val (iV (spanE a b n)))
  | _ => none, true⟩
def sp39 : FSpec := ⟨fun vs => match vs with
  | [.one (.sl (.flt .f32) l), .one (.ref (.pair (.int .i64) (.int .i64)) (a, b))] => some ([0 ≤ a ∧ a ≤ b ∧ b ≤ (List.length l : Int)], .val (.one (.sl (.flt .f32) (cutI a b l))))
  | _ => none, false⟩
def sp41 : FSpec := ⟨fun vs => match vs with
  | [.one (.sl (.sl (.flt .f32)) rows), .one (.fnd 39 true (.pair (.int .i64) (.int .i64)) (a, b))] => some ([List.length rows ≤ 1000, 0 ≤ a ∧ a ≤ b, ∀ r ∈ (show List (List Nat) from rows), b ≤ (List.length r : Int)], .val (.one (.frs rwT (List.map (cutI a b) (show List (List Nat) from rows)))))
  | _ => none, false⟩
def sp44 : FSpec := ⟨fun vs => match vs with
  | [.one (.sl (.sl (.flt .f32)) l)] => some ([List.length l ≤ 1000, List.length (List.flatten (show List (List Nat) from l)) ≤ 1000000], .val (.one (.frs (.flt .f32) (List.flatten (show List (List Nat) from l)))))
  | _ => none, true⟩
end Go.Sx

namespace Go.Sx
open U
theorem vc45 (nm : List UInt8) (w h : Int) (s : List Nat) (y : Int) : exF (env false [] []) h0 0 45 Proofs.Try.f45 [picV nm w h s, iV y] (.val (.one (.sl (.flt .f32) (rowI w s y)))) = (fits IntKind.i64 (y * w) ∧ fits IntKind.i64 (y + (1 : Int)) ∧ fits IntKind.i64 ((y + (1 : Int)) * w) ∧ ((0 : Int) ≤ y * w ∧ y * w ≤ (y + (1 : Int)) * w ∧ (y + (1 : Int)) * w ≤ (↑(List.length s) : Int)) ∧ List.take (Int.toNat ((y + (1 : Int)) * w) - Int.toNat (y * w)) (List.drop (Int.toNat (y * w)) s) = rowI w s y ∧ True) := by
  kernel_rfl
theorem vc42 (nm : List UInt8) (w h : Int) (s : List Nat) : exF (env false [(45, sp45)] []) h42 0 42 Proofs.Try.f42 [picV nm w h s] (.val (.one (.frs rwT (rowsI w h s)))) = ((∃ (g : Nat), Nat.le g (Int.toNat h) ∧ (0 : Int) = (↑g : Int) ∧ h = h ∧ (tab g fun (y : Nat) => rowI w s (↑y : Int)) = [] ∧ nm = nm ∧ w = w ∧ h = h ∧ s = s ∧ True) ∧ ∀ (g : Nat), Nat.le g (Int.toNat h) → splitB (decide ((↑g : Int) < h)) (((0 : Int) ≤ w ∧ w ≤ (1000 : Int)) ∧ ((0 : Int) ≤ (↑g : Int) ∧ (↑g : Int) ≤ (1000 : Int)) ∧ ((↑g : Int) + (1 : Int)) * w ≤ (↑(List.length s) : Int) ∧ room (List.length (tab g fun (y : Nat) => rowI w s (↑y : Int)) + (1 : Nat)) (24 : Nat) ∧ fits IntKind.i64 ((↑g : Int) + (1 : Int)) ∧ ∃ (g' : Nat), Nat.le g' (Int.toNat h) ∧ Int.toNat h - g' < Int.toNat h - g ∧ (↑g : Int) + (1 : Int) = (↑g' : Int) ∧ h = h ∧ ((tab g fun (y : Nat) => rowI w s (↑y : Int)) ++ [rowI w s (↑g : Int)] = tab g' fun (y : Nat) => rowI w s (↑y : Int)) ∧ nm = nm ∧ w = w ∧ h = h ∧ s = s ∧ True) ((tab g fun (y : Nat) => rowI w s (↑y : Int)) = rowsI w h s ∧ True)) := by
  kernel_rfl
theorem vc46 (nm : List UInt8) (w h : Int) (s : List Nat) (f : Int) : exF (env false [(45, sp45)] []) h42 0 46 Proofs.Try.f46 [picV nm w h s, iV f] (.val (.one (.frs rwT (evI w h s f)))) = (let q0 := ((h - f + (1 : Int)) / (2 : Int)); (∃ (g : Nat), Nat.le g (Int.toNat q0) ∧ f = f + (2 : Int) * (↑g : Int) ∧ (tab g fun (y : Nat) => rowI w s (f + (2 : Int) * (↑y : Int))) = [] ∧ nm = nm ∧ w = w ∧ h = h ∧ s = s ∧ True) ∧ ∀ (g : Nat), Nat.le g (Int.toNat q0) → splitB (decide (f + (2 : Int) * (↑g : Int) < h)) (((0 : Int) ≤ w ∧ w ≤ (1000 : Int)) ∧ ((0 : Int) ≤ f + (2 : Int) * (↑g : Int) ∧ f + (2 : Int) * (↑g : Int) ≤ (1000 : Int)) ∧ (f + (2 : Int) * (↑g : Int) + (1 : Int)) * w ≤ (↑(List.length s) : Int) ∧ room (List.length (tab g fun (y : Nat) => rowI w s (f + (2 : Int) * (↑y : Int))) + (1 : Nat)) (24 : Nat) ∧ fits IntKind.i64 (f + (2 : Int) * (↑g : Int) + (2 : Int)) ∧ ∃ (g' : Nat), Nat.le g' (Int.toNat q0) ∧ Int.toNat q0 - g' < Int.toNat q0 - g ∧ f + (2 : Int) * (↑g : Int) + (2 : Int) = f + (2 : Int) * (↑g' : Int) ∧ ((tab g fun (y : Nat) => rowI w s (f + (2 : Int) * (↑y : Int))) ++ [rowI w s (f + (2 : Int) * (↑g : Int))] = tab g' fun (y : Nat) => rowI w s (f + (2 : Int) * (↑y : Int))) ∧ nm = nm ∧ w = w ∧ h = h ∧ s = s ∧ True) ((tab g fun (y : Nat) => rowI w s (f + (2 : Int) * (↑y : Int))) = evI w h s f ∧ True)) := by
  kernel_rfl
theorem vc40 (nm : List UInt8) (w h : Int) (s : List Nat) (rows : List (List Nat)) : exF (env false [] []) h42 0 40 Proofs.Try.f40 [picV nm w h s, .one (.sl rwT rows)] (.val (picF nm (List.length (List.getD rows 0 [])) (List.length rows) (List.flatten rows))) = (let q0 := (List.length (List.getD rows (0 : Nat) [])); let q1 := (List.length rows); let q4 := ((↑q0 : Int) * (↑q1 : Int)); ((0 : Int) ≤ (0 : Int) ∧ (0 : Int) < (↑q1 : Int)) ∧ fits IntKind.i64 q4 ∧ (0 : Int) ≤ (↑q0 : Int) * (↑q1 : Int) ∧ room (Int.toNat q4) (4 : Nat) ∧ (∃ (g : Nat), Nat.le g q1 ∧ (0 : Int) = (↑g : Int) ∧ (↑q1 : Int) = (↑q1 : Int) ∧ rows = rows ∧ List.replicate (Int.toNat q4) (0 : Nat) = madeTo rows q0 q1 g ∧ nm = nm ∧ (↑q0 : Int) = (↑q0 : Int) ∧ (↑q1 : Int) = (↑q1 : Int) ∧ nilB = [] ∧ (0 : Int) = (0 : Int) ∧ (0 : Int) = (0 : Int) ∧ nm = nm ∧ w = w ∧ h = h ∧ s = s ∧ True) ∧ ∀ (g : Nat), let q2 := (madeTo rows q0 q1 g); let q3 := ((↑g : Int) * (↑q0 : Int)); let q5 := (↑(List.length q2) : Int); Nat.le g q1 → splitB (decide ((↑g : Int) < (↑q1 : Int))) (((0 : Int) ≤ (↑g : Int) ∧ (↑g : Int) < (↑q1 : Int)) ∧ fits IntKind.i64 q3 ∧ ((0 : Int) ≤ (↑g : Int) * (↑q0 : Int) ∧ (↑g : Int) * (↑q0 : Int) ≤ q5 ∧ q5 ≤ q5) ∧ Int.toNat q3 + (List.length q2 - Int.toNat q3) ≤ List.length q2 ∧ fits IntKind.i64 ((↑g : Int) + (1 : Int)) ∧ ∃ (g' : Nat), Nat.le g' q1 ∧ List.length rows - g' < List.length rows - g ∧ (↑g : Int) + (1 : Int) = (↑g' : Int) ∧ (↑q1 : Int) = (↑q1 : Int) ∧ rows = rows ∧ copyL (Int.toNat q3) (List.length q2 - Int.toNat q3) q2 (List.getD rows g []) = madeTo rows q0 q1 g' ∧ nm = nm ∧ (↑q0 : Int) = (↑q0 : Int) ∧ (↑q1 : Int) = (↑q1 : Int) ∧ nilB = [] ∧ (0 : Int) = (0 : Int) ∧ (0 : Int) = (0 : Int) ∧ nm = nm ∧ w = w ∧ h = h ∧ s = s ∧ True) (nm = nm ∧ (↑q0 : Int) = (↑q0 : Int) ∧ (↑q1 : Int) = (↑q1 : Int) ∧ madeTo rows q0 q1 g = List.flatten rows ∧ True)) := by
  kernel_rfl
theorem vc38 (a b n : Int) : exF (env false [(43, sp43)] []) h0 0 38 Proofs.Try.f38 [spV a b, iV n] (.val (iV (spanE a b n))) = (whenE (bif bif decide (a < (0 : Int)) then true else decide (b ≤ a) then true else decide (n < b)) (14 : Int) = spanE a b n ∧ True) := by
  kernel_rfl
theorem vc39 (l : List Nat) (a b : Int) : exF (env false [] []) h0 0 39 Proofs.Try.f39 [.one (.sl (.flt .f32) l), .one (.ref spT (a, b))] (.val (.one (.sl (.flt .f32) (cutI a b l)))) = (((0 : Int) ≤ a ∧ a ≤ b ∧ b ≤ (↑(List.length l) : Int)) ∧ List.take (Int.toNat b - Int.toNat a) (List.drop (Int.toNat a) l) = cutI a b l ∧ True) := by
  kernel_rfl
theorem vc41 (rows : List (List Nat)) (a b : Int) : exF (env false [(39, sp39)] []) h42 0 41 Proofs.Try.f41 [.one (.sl rwT rows), .one (.fnd 39 true spT (a, b))] (.val (.one (.frs rwT (rows.map (cutI a b))))) = (let q1 := (List.length rows); let q0 := (↑q1 : Int); (∃ (g : Nat), Nat.le g q1 ∧ (0 : Int) = (↑g : Int) ∧ q0 = q0 ∧ rows = rows ∧ (a, b) = (a, b) ∧ List.map (cutI a b) (List.take g rows) = [] ∧ True) ∧ ∀ (g : Nat), Nat.le g q1 → splitB (decide ((↑g : Int) < q0)) (((0 : Int) ≤ (↑g : Int) ∧ (↑g : Int) < q0) ∧ ((0 : Int) ≤ a ∧ a ≤ b ∧ b ≤ (↑(List.length (List.getD rows g [])) : Int)) ∧ room (List.length (List.map (cutI a b) (List.take g rows)) + (1 : Nat)) (24 : Nat) ∧ fits IntKind.i64 ((↑g : Int) + (1 : Int)) ∧ ∃ (g' : Nat), Nat.le g' q1 ∧ List.length rows - g' < List.length rows - g ∧ (↑g : Int) + (1 : Int) = (↑g' : Int) ∧ q0 = q0 ∧ rows = rows ∧ (a, b) = (a, b) ∧ List.map (cutI a b) (List.take g rows) ++ [cutI a b (List.getD rows g [])] = List.map (cutI a b) (List.take g' rows) ∧ True) (List.map (cutI a b) (List.take g rows) = List.map (cutI a b) rows ∧ True)) := by
  kernel_rfl
theorem vc44 (l : List (List Nat)) : exF (env false [(74, sp74)] []) h44 0 44 Proofs.Try.f44 [.one (.sl rwT l)] (.val (.one (.frs (.flt .f32) l.flatten))) = (let q2 := (List.length l); let q0 := (↑q2 : Int); (∃ (g : Nat), Nat.le g q2 ∧ (0 : Int) = (↑g : Int) ∧ (0 : Int) = (↑(List.length (List.flatten (List.take g l))) : Int) ∧ q0 = q0 ∧ l = l ∧ l = l ∧ True) ∧ ∀ (g : Nat), let q1 := (↑(List.length (List.flatten (List.take g l))) : Int); Nat.le g q2 → splitB (decide ((↑g : Int) < q0)) (((0 : Int) ≤ (↑g : Int) ∧ (↑g : Int) < q0) ∧ fits IntKind.i64 (q1 + (↑(List.length (List.getD l g [])) : Int)) ∧ fits IntKind.i64 ((↑g : Int) + (1 : Int)) ∧ ∃ (g' : Nat), Nat.le g' q2 ∧ List.length l - g' < List.length l - g ∧ (↑g : Int) + (1 : Int) = (↑g' : Int) ∧ q1 + (↑(List.length (List.getD l g [])) : Int) = (↑(List.length (List.flatten (List.take g' l))) : Int) ∧ q0 = q0 ∧ l = l ∧ l = l ∧ True) (((0 : Int) ≤ q1 ∧ q1 ≤ (1000000 : Int)) ∧ (∃ (g : Nat), Nat.le g q2 ∧ (0 : Int) = (↑g : Int) ∧ q0 = q0 ∧ l = l ∧ [] = List.flatten (List.take g l) ∧ True) ∧ ∀ (g : Nat), Nat.le g q2 → splitB (decide ((↑g : Int) < q0)) (((0 : Int) ≤ (↑g : Int) ∧ (↑g : Int) < q0) ∧ room (List.length (List.flatten (List.take g l)) + List.length (List.getD l g [])) (4 : Nat) ∧ fits IntKind.i64 ((↑g : Int) + (1 : Int)) ∧ ∃ (g' : Nat), Nat.le g' q2 ∧ List.length l - g' < List.length l - g ∧ (↑g : Int) + (1 : Int) = (↑g' : Int) ∧ q0 = q0 ∧ l = l ∧ List.flatten (List.take g l) ++ List.getD l g [] = List.flatten (List.take g' l) ∧ True) (List.flatten (List.take g l) = List.flatten l ∧ True))) := by
  kernel_rfl
end Go.Sx

namespace Go.Sx
open Go.Proofs Go.RowKit Go.Shelf Go.Lib
theorem grow_fn {P : Program} {ρ : Ren} (L : Lays8.n4 P ρ) {gl : Nat → Option ((t : Ty) × t.T)} {i : TypeInfo} {z : Value} {t : Ty} (hi : P.info? (ρ.t 25) = some i) (hz : i.zero = some z) (hs : 0 < i.size) (hzs : z.cells.size = t.sz)
    (n : Int) (h0 : 0 ≤ n) (hn : n ≤ 1000000000) (hb : n.toNat * i.bytes ≤ 140737488355328) : Fn P gl (ρ.f 4) [.one .nils, .one (.int .i64 n)] (.val (.one (.frs t []))) true := by
  intro w H vs hA hG hD
  obtain ⟨v, r, rfl, hv, v2, r2, rfl, hv2, hr⟩ := hD
  obtain rfl : r2 = [] := hr
  obtain rfl : v2 = .int .i64 n := hv2
  obtain rfl : v = .slice none 0 0 := hv
  obtain ⟨k, rfl⟩ : ∃ k : Nat, n = k := ⟨n.toNat, by omega⟩
  have hk : ((k : Int)).toNat = k := by omega
  rw [hk] at hb
  by_cases h : k = 0
  · subst h
    refine (Any8.slices_Grow_room L none 0 0 0 w (Nat.le_refl _) (by omega) (by omega) (by omega)).mono fun e w' ⟨he, hw⟩ => ?_
    subst hw
    exact ⟨_, fun _ => none, he, Below.refl _ _, fun _ _ h => (by cases h), fun _ _ => rfl, .inl ⟨rfl, rfl⟩⟩
  · refine (Any8.slices_Grow_grow L i z hi hz hs none 0 0 k [] w (Nat.le_refl _) (by omega) (by rw [Nat.zero_add]; exact hb) (by omega) (by simp) (fun _ => rfl) (fun _ h => by cases h)).mono fun e w' ⟨he, hw⟩ => ?_
    subst hw
    have hcap := grownCap_ge w (0 + k) 0 (ρ.t 25)
    have hcapm := grownCap_le_maxLen w (0 + k) 0 (ρ.t 25) (by simp only [maxLen]; omega)
    refine ⟨_, fun _ => none, he, ⟨rfl, rfl, rfl, ?_, fun j hj => ?_⟩, fun _ _ h => (by cases h), fun _ _ => rfl, .inr ⟨w.heap.size, grownCap w (0 + k) 0 (ρ.t 25), #[] ++ Builtin.zeroCells z.cells (0 + k - 0) ++ Builtin.zeroCells z.cells (grownCap w (0 + k) 0 (ρ.t 25) - (0 + k)), ρ.t 25, rfl, Nat.le_refl _, rfl, ⟨(0, 0), .inl rfl, ?_⟩, Nat.zero_le _, hcapm, ?_, fun i h => absurd h (Nat.not_lt_zero _)⟩⟩
    · show w.heap.size ≤ (w.heap.push _).size
      simp
    · show (w.heap.push _)[j]? = _
      rw [Array.getElem?_push, if_neg (by omega)]
    · show (w.heap.push _)[w.heap.size]? = _
      rw [Array.getElem?_push, if_pos rfl]
    · simp only [Array.size_append, List.size_toArray, List.length_nil, size_zeroCells, hzs]
      rw [Nat.zero_add, ← Nat.add_mul]; congr 1; omega
end Go.Sx

namespace Go.Proofs
open Go.Shelf
def Try.lays8_ren : Go.Shelf.Ren := ⟨fun | 4 => 74 | n => n, fun | 22 => 22 | 25 => 28 | n => n, fun | n => n⟩
theorem Try.lays8 : Go.Proofs.Lays8.n4 Try.prog Try.lays8_ren := {
  mixed := by kernel_rfl
  f4 := ⟨"slices.Grow[[]float32,float32]", by kernel_rfl, Try.func74.trans (congrArg some (by kernel_rfl))⟩
  t0 := Try.underlying0
  a0 := Try.isAgg0
  z0 := Try.sizeOf0
  v0 := Try.zeroValue0
  t3 := Try.underlying3
  a3 := Try.isAgg3
  z3 := Try.sizeOf3
  v3 := Try.zeroValue3
  t4 := Try.underlying4
  a4 := Try.isAgg4
  z4 := Try.sizeOf4
  v4 := Try.zeroValue4
  t9 := Try.underlying9
  a9 := Try.isAgg9
  z9 := Try.sizeOf9
  v9 := Try.zeroValue9
  t20 := Try.underlying20
  a20 := Try.isAgg20
  z20 := Try.sizeOf20
  v20 := Try.zeroValue20
  t22 := Try.underlying22
  a22 := Try.isAgg22
  z22 := Try.sizeOf22
  v22 := Try.zeroValue22
}
end Go.Proofs
namespace Go.Sx
theorem grow1 (n : Int) (h0 : 0 ≤ n) (hn : n ≤ 1000000) : Fn P1 gl1 74 [.one .nils, (.one (.int .i64 n))] (.val (.one (.frs (.flt .f32) []))) true := by
  obtain ⟨i, z, g1, g2, g3, g4, _, g6⟩ := (tt_ok tab1_ok 28 _ rfl).info
  have hz := g6 (.flt .f32) rfl (fun _ => none)
  have hzs : z.cells.size = Ty.sz (.flt .f32) := by simpa using Rd.len _ _ _ hz
  have g2' : i.size = 1 := g2
  have g3' : i.bytes = 4 := g3
  exact grow_fn (i := i) (z := z) (t := .flt .f32) Proofs.Try.lays8 g1 g4 (by omega) hzs n h0 (by omega) (by rw [g3']; omega)
end Go.Sx

namespace Go.Sx
open U
theorem step_mul (y w : Int) : (y + 1) * w = y * w + w := by rw [Int.add_mul, Int.one_mul]
theorem mul_le {y w A B : Int} (hy : 0 ≤ y ∧ y ≤ A) (hw : 0 ≤ w ∧ w ≤ B) : 0 ≤ y * w ∧ y * w ≤ A * B :=
  ⟨Int.mul_nonneg hy.1 hw.1, Int.mul_le_mul hy.2 hw.2 hw.1 (by omega)⟩
theorem rowEnd {y h w n : Int} (hy : y + 1 ≤ h) (hw : 0 ≤ w) (hl : h * w ≤ n) : (y + 1) * w ≤ n := Int.le_trans (Int.mul_le_mul_of_nonneg_right hy hw) hl
theorem fn45 (nm : List UInt8) (w h : Int) (s : List Nat) (y : Int) (hw : 0 ≤ w ∧ w ≤ 1000) (hy : 0 ≤ y ∧ y ≤ 1000) (hl : (y + 1) * w ≤ (s.length : Int)) : Fn P1 gl1 45 [picV nm w h s, iV y] (.val (.one (.sl (.flt .f32) (rowI w s y)))) false := by
  refine fn_of false [] [] h0 0 Proofs.Try.f45 trivial trivial (by kernel_rfl) rfl (by kernel_rfl) rfl rfl rfl ?_
  rw [vc45]
  try simp only [splitB_iff, -eq_self]
  have h1 := step_mul y w
  have h2 := mul_le hy hw
  refine ⟨by simp only [fits]; omega, by simp only [fits]; omega, by simp only [fits]; omega, ⟨by omega, by omega, by omega⟩, ?_, trivial⟩
  unfold rowI
  congr 1
  omega
theorem so45_ : SpecOk P1 gl1 45 sp45 := by
  intro vs ps r h hp
  simp only [sp45] at h
  split at h
  · cases h; exact fn45 _ _ _ _ _ (hp _ (.head _)) (hp _ (.tail _ (.head _))) (hp _ (.tail _ (.tail _ (.head _))))
  · cases h
theorem so45 : Sp1 45 sp45 := ⟨so45_, Proofs.Try.f45, _, by kernel_rfl, rfl, by kernel_rfl⟩
theorem fn42 (nm : List UInt8) (w h : Int) (s : List Nat) (hw : 0 ≤ w ∧ w ≤ 1000) (hh : 0 ≤ h ∧ h ≤ 1000) (hl : h * w ≤ (s.length : Int)) : Fn P1 gl1 42 [picV nm w h s] (.val (.one (.frs rwT (rowsI w h s)))) false := by
  refine fn_of false [(45, sp45)] [] h42 0 Proofs.Try.f42 ⟨so45, trivial⟩ trivial (by kernel_rfl) rfl (by kernel_rfl) rfl rfl rfl ?_
  rw [vc42]
  try simp only [splitB_iff, -eq_self]
  refine ⟨⟨0, Nat.zero_le _, by (repeat' (first | exact trivial | exact rfl | apply And.intro))⟩, fun g hg => ⟨fun hlt => ?_, fun hge => ?_⟩⟩
  · have hlt : (g : Int) < h := of_decide_eq_true hlt
    have hg : g ≤ h.toNat := hg
    refine ⟨hw, by omega, rowEnd (by omega) hw.1 hl, by simp only [room, tab_len]; omega, by simp only [fits]; omega, g + 1, by show g + 1 ≤ _; omega, by omega, by omega, rfl, (tab_succ _ _).symm, by (repeat' (first | exact trivial | exact rfl | apply And.intro))⟩
  · have hge : ¬ (g : Int) < h := of_decide_eq_false hge
    have hg : g ≤ h.toNat := hg
    have e : g = h.toNat := by omega
    subst e
    exact ⟨rfl, trivial⟩
theorem so42_ : SpecOk P1 gl1 42 sp42 := by
  intro vs ps r h hp
  simp only [sp42] at h
  split at h
  · cases h; exact fn42 _ _ _ _ (hp _ (.head _)) (hp _ (.tail _ (.head _))) (hp _ (.tail _ (.tail _ (.head _))))
  · cases h
theorem so42 : Sp1 42 sp42 := ⟨so42_, Proofs.Try.f42, _, by kernel_rfl, rfl, by kernel_rfl⟩
theorem fn46 (nm : List UInt8) (w h : Int) (s : List Nat) (f : Int) (hw : 0 ≤ w ∧ w ≤ 1000) (hh : 0 ≤ h ∧ h ≤ 1000) (hf : 0 ≤ f ∧ f ≤ h) (hl : h * w ≤ (s.length : Int)) : Fn P1 gl1 46 [picV nm w h s, iV f] (.val (.one (.frs rwT (evI w h s f)))) false := by
  refine fn_of false [(45, sp45)] [] h42 0 Proofs.Try.f46 ⟨so45, trivial⟩ trivial (by kernel_rfl) rfl (by kernel_rfl) rfl rfl rfl ?_
  rw [vc46]
  try simp only [splitB_iff, -eq_self]
  refine ⟨⟨0, Nat.zero_le _, by omega, by (repeat' (first | exact trivial | exact rfl | apply And.intro))⟩, fun g hg => ⟨fun hlt => ?_, fun hge => ?_⟩⟩
  · have hlt : f + 2 * (g : Int) < h := of_decide_eq_true hlt
    have hg : g ≤ ((h - f + 1) / 2).toNat := hg
    refine ⟨hw, by omega, rowEnd (by omega) hw.1 hl, by simp only [room, tab_len]; omega, by simp only [fits]; omega, g + 1, by show g + 1 ≤ _; omega, by omega, by omega, (tab_succ _ _).symm, by (repeat' (first | exact trivial | exact rfl | apply And.intro))⟩
  · have hge : ¬ f + 2 * (g : Int) < h := of_decide_eq_false hge
    have hg : g ≤ ((h - f + 1) / 2).toNat := hg
    have e : g = ((h - f + 1) / 2).toNat := by omega
    subst e
    exact ⟨rfl, trivial⟩
theorem so46_ : SpecOk P1 gl1 46 sp46 := by
  intro vs ps r h hp
  simp only [sp46] at h
  split at h
  · cases h; exact fn46 _ _ _ _ _ (hp _ (.head _)) (hp _ (.tail _ (.head _))) (hp _ (.tail _ (.tail _ (.head _)))) (hp _ (.tail _ (.tail _ (.tail _ (.head _)))))
  · cases h
theorem so46 : Sp1 46 sp46 := ⟨so46_, Proofs.Try.f46, _, by kernel_rfl, rfl, by kernel_rfl⟩
theorem fn40 (nm : List UInt8) (w h : Int) (s : List Nat) (rows : List (List Nat)) (hn : 0 < rows.length ∧ rows.length ≤ 1000) (hr : RowsOk (List.length (List.getD rows 0 [])) rows) (hw : (List.getD rows 0 []).length ≤ 1000) : Fn P1 gl1 40 [picV nm w h s, .one (.sl rwT rows)] (.val (picF nm (List.length (List.getD rows 0 [])) (List.length rows) (List.flatten rows))) true := by
  refine Fn.flat ?_ rfl
  refine fn_of false [] [] h42 0 Proofs.Try.f40 trivial trivial (by kernel_rfl) rfl (by kernel_rfl) rfl rfl rfl ?_
  rw [vc40]
  try simp only [splitB_iff, -eq_self]
  generalize hww : List.length (List.getD rows 0 []) = W at *
  have hm : W * rows.length ≤ 1000 * 1000 := Nat.mul_le_mul hw hn.2
  have em : (W : Int) * (rows.length : Int) = ((W * rows.length : Nat) : Int) := by rw [Int.natCast_mul]
  rw [em]
  refine ⟨by omega, by simp only [fits]; omega, by omega, by simp only [room]; omega, ⟨0, Nat.zero_le _, rfl, rfl, rfl, ?_, by (repeat' (first | exact trivial | exact rfl | apply And.intro))⟩, fun g hg => ⟨fun hlt => ?_, fun hge => ?_⟩⟩
  · rw [made_zero, Int.toNat_natCast, Nat.mul_comm]
  · have hlt : g < rows.length := by simpa using hlt
    have hml := made_len hr (i := g) rfl (by omega)
    have hgm : g * W + W ≤ rows.length * W := by rw [← Nat.succ_mul]; exact Nat.mul_le_mul_right _ hlt
    have eg : (g : Int) * (W : Int) = ((g * W : Nat) : Int) := by rw [Int.natCast_mul]
    have hm2 : rows.length * W = W * rows.length := Nat.mul_comm _ _
    rw [eg, Int.toNat_natCast]
    refine ⟨by omega, by simp only [fits]; omega, by omega, by omega, by simp only [fits]; omega, g + 1, hlt, by omega, by omega, rfl, rfl, copy_made hr rfl hlt, by (repeat' (first | exact trivial | exact rfl | apply And.intro))⟩
  · have hge : ¬ g < rows.length := by simpa using hge
    have hg : g ≤ rows.length := hg
    have e : g = rows.length := by omega
    subst e
    exact ⟨rfl, rfl, rfl, made_all _ _, trivial⟩
theorem so40_ : SpecOk P1 gl1 40 sp40 := by
  intro vs ps r h hp
  simp only [sp40] at h
  split at h
  · cases h; exact fn40 _ _ _ _ _ (hp _ (.head _)) (hp _ (.tail _ (.head _))) (hp _ (.tail _ (.tail _ (.head _))))
  · cases h
theorem so40 : Sp1 40 sp40 := ⟨so40_, Proofs.Try.f40, _, by kernel_rfl, rfl, by kernel_rfl⟩
theorem fn38 (a b n : Int)  : Fn P1 gl1 38 [spV a b, iV n] (.val (iV (spanE a b n))) true := by
  refine Fn.flat ?_ rfl
  refine fn_of false [(43, sp43)] [] h0 0 Proofs.Try.f38 ⟨so43, trivial⟩ trivial (by kernel_rfl) rfl (by kernel_rfl) rfl rfl rfl ?_
  rw [vc38]
  try simp only [splitB_iff, -eq_self]
  refine ⟨?_, trivial⟩
  unfold spanE whenE
  by_cases h1 : a < 0 <;> by_cases h2 : b ≤ a <;> by_cases h3 : n < b <;> simp [h1, h2, h3]
theorem so38_ : SpecOk P1 gl1 38 sp38 := by
  intro vs ps r h _
  simp only [sp38] at h
  split at h
  · cases h; exact fn38 _ _ _ 
  · cases h
theorem so38 : Sp1 38 sp38 := ⟨so38_, Proofs.Try.f38, _, by kernel_rfl, rfl, by kernel_rfl⟩
theorem fn39 (l : List Nat) (a b : Int) (h : 0 ≤ a ∧ a ≤ b ∧ b ≤ (l.length : Int)) : Fn P1 gl1 39 [.one (.sl (.flt .f32) l), .one (.ref spT (a, b))] (.val (.one (.sl (.flt .f32) (cutI a b l)))) false := by
  refine fn_of false [] [] h0 0 Proofs.Try.f39 trivial trivial (by kernel_rfl) rfl (by kernel_rfl) rfl rfl rfl ?_
  rw [vc39]
  try simp only [splitB_iff, -eq_self]
  exact ⟨h, rfl, trivial⟩
theorem so39_ : SpecOk P1 gl1 39 sp39 := by
  intro vs ps r h hp
  simp only [sp39] at h
  split at h
  · cases h; exact fn39 _ _ _ (hp _ (.head _))
  · cases h
theorem so39 : Sp1 39 sp39 := ⟨so39_, Proofs.Try.f39, _, by kernel_rfl, rfl, by kernel_rfl⟩
theorem fn41 (rows : List (List Nat)) (a b : Int) (hl : rows.length ≤ 1000) (ha : 0 ≤ a ∧ a ≤ b) (hb : ∀ r ∈ rows, b ≤ (r.length : Int)) : Fn P1 gl1 41 [.one (.sl rwT rows), .one (.fnd 39 true spT (a, b))] (.val (.one (.frs rwT (rows.map (cutI a b))))) false := by
  refine fn_of false [(39, sp39)] [] h42 0 Proofs.Try.f41 ⟨so39, trivial⟩ trivial (by kernel_rfl) rfl (by kernel_rfl) rfl rfl rfl ?_
  rw [vc41]
  try simp only [splitB_iff, -eq_self]
  refine ⟨⟨0, Nat.zero_le _, by (repeat' (first | exact trivial | exact rfl | apply And.intro))⟩, fun g hg => ⟨fun hlt => ?_, fun hge => ?_⟩⟩
  · have hlt : g < rows.length := by simpa using hlt
    refine ⟨by omega, ⟨ha.1, ha.2, hb _ (by rw [getD_of hlt]; exact List.getElem_mem hlt)⟩, by simp only [room, List.length_map, List.length_take]; omega, by simp only [fits]; omega, g + 1, hlt, by omega, by omega, rfl, rfl, rfl, ?_, trivial⟩
    rw [List.take_succ_eq_append_getElem hlt, List.map_append, getD_of hlt]
    rfl
  · have hge : ¬ g < rows.length := by simpa using hge
    rw [List.take_of_length_le (by omega)]
    exact ⟨rfl, trivial⟩
theorem so41_ : SpecOk P1 gl1 41 sp41 := by
  intro vs ps r h hp
  simp only [sp41] at h
  split at h
  · cases h; exact fn41 _ _ _ (hp _ (.head _)) (hp _ (.tail _ (.head _))) (hp _ (.tail _ (.tail _ (.head _))))
  · cases h
theorem so41 : Sp1 41 sp41 := ⟨so41_, Proofs.Try.f41, _, by kernel_rfl, rfl, by kernel_rfl⟩
theorem so74 : Sp1 74 sp74 := by
  refine ⟨fun vs ps r h hp => ?_, Proofs.Try.f74, _, by kernel_rfl, rfl, by kernel_rfl⟩
  simp only [sp74] at h
  split at h
  · cases h
    have := hp _ (.head _)
    exact grow1 _ this.1 this.2
  · cases h
theorem fn44 (l : List (List Nat)) (hl : l.length ≤ 1000) (hf : l.flatten.length ≤ 1000000) : Fn P1 gl1 44 [.one (.sl rwT l)] (.val (.one (.frs (.flt .f32) l.flatten))) true := by
  refine Fn.flat ?_ rfl
  refine fn_of false [(74, sp74)] [] h44 0 Proofs.Try.f44 ⟨so74, trivial⟩ trivial (by kernel_rfl) rfl (by kernel_rfl) rfl rfl rfl ?_
  rw [vc44]
  try simp only [splitB_iff, -eq_self]
  have key : ∀ g, g < l.length → (List.take (g + 1) l).flatten = (List.take g l).flatten ++ List.getD l g [] := fun g h => by
    rw [List.take_succ_eq_append_getElem h, List.flatten_append, getD_of h]
    simp
  have hle : ∀ g, (List.take g l).flatten.length ≤ l.flatten.length := fun g => by
    have h : l.flatten = (List.take g l).flatten ++ (l.drop g).flatten := by rw [← List.flatten_append, List.take_append_drop]
    rw [h, List.length_append]
    omega
  refine ⟨⟨0, Nat.zero_le _, by (repeat' (first | exact trivial | exact rfl | apply And.intro))⟩, fun g hg => ⟨fun hlt => ?_, fun hge => ⟨?_, ⟨0, Nat.zero_le _, by (repeat' (first | exact trivial | exact rfl | apply And.intro))⟩, fun g hg => ⟨fun hlt => ?_, fun hge => ?_⟩⟩⟩⟩
  · have hlt : g < l.length := by simpa using hlt
    have h1 := hle (g + 1)
    rw [key g hlt, List.length_append] at h1
    refine ⟨by omega, by simp only [fits]; omega, by simp only [fits]; omega, g + 1, hlt, by omega, by omega, ?_, by (repeat' (first | exact trivial | exact rfl | apply And.intro))⟩
    rw [key g hlt, List.length_append]
    omega
  · have := hle g
    omega
  · have hlt : g < l.length := by simpa using hlt
    have h1 := hle (g + 1)
    rw [key g hlt, List.length_append] at h1
    exact ⟨by omega, by simp only [room]; omega, by simp only [fits]; omega, g + 1, hlt, by omega, by omega, rfl, rfl, (key g hlt).symm, trivial⟩
  · have hge : ¬ g < l.length := by simpa using hge
    rw [List.take_of_length_le (by omega)]
    exact ⟨rfl, trivial⟩
theorem so44_ : SpecOk P1 gl1 44 sp44 := by
  intro vs ps r h hp
  simp only [sp44] at h
  split at h
  · cases h; exact fn44 _ (hp _ (.head _)) (hp _ (.tail _ (.head _)))
  · cases h
theorem so44 : Sp1 44 sp44 := ⟨so44_, Proofs.Try.f44, _, by kernel_rfl, rfl, by kernel_rfl⟩
end Go.Sx

namespace Go.Sx
def stayV : V → V
  | .one (.frs t xs) => .one (.sl t xs)
  | x => x
def staySV : SV → SV
  | .val x => .val (stayV x)
  | .tup xs => .tup (xs.map stayV)
def FSpec.frz (sp : FSpec) : FSpec := ⟨fun vs => match sp.run vs with
  | some (ps, .val (.one c)) => some (ps, .val (stayV (.one c)))
  | some (ps, .tup xs) => some (ps, .tup (xs.map stayV))
  | _ => none, false⟩
theorem stayV_den {w : World} {B : Nat} {H H2 : IH} (hh : HLe H H2) (hn : ∀ b o, B ≤ b → w.heap[b]? = some o → H2 b = some o) {x : V} {v : Value} (h : DenRV w B H x v) : DenRV w B H2 (stayV x) v := by
  have other : ∀ y : V, pureV y = true ∧ DenV ρ0 H y v → pureV y = true ∧ DenV ρ0 H2 y v := fun y hy => ⟨hy.1, DenV.mono (REq.refl 0 ρ0) hh (pureV_lt hy.1 0) hy.2⟩
  cases x with
  | agg cs => exact other _ h
  | one c =>
    cases c with
    | frs t xs =>
      have ho : OwnRow w B H v t xs := h
      show pureV (.one (.sl t xs)) = true ∧ Rd H2 (.sl t) xs [v]
      refine ⟨rfl, ?_⟩
      rcases ho with ⟨rfl, rfl⟩ | ⟨g, cap, cur, e, rfl, h2, _, ⟨fz, _, h4⟩, h5, _, _, h8⟩
      · exact ⟨none, 0, rfl, Nat.le_refl _, .inl rfl⟩
      · exact ⟨some ⟨g, 0, none⟩, cap, rfl, h5, .inr ⟨g, 0, cur, e, _, rfl, hn g _ h2 h4, fun i hi => by rw [Nat.zero_add]; exact Rd.mono hh _ _ _ (h8 i hi)⟩⟩
    | _ => exact other _ h
theorem isFrs_stay (x : V) : isFrs (stayV x) = false := by
  cases x with
  | agg cs => rfl
  | one c => cases c <;> rfl
theorem stayVs_den {w : World} {B : Nat} {H H2 : IH} (hh : HLe H H2) (hn : ∀ b o, B ≤ b → w.heap[b]? = some o → H2 b = some o) : ∀ {xs : List V} {vs : List Value}, DenRVs w B H xs vs → DenRVs w B H2 (xs.map stayV) vs
  | [], _, h => h
  | x :: r, _, ⟨v, vs', e, h1, h2, _⟩ => ⟨v, vs', e, stayV_den hh hn h1, stayVs_den hh hn h2, fun h => by rw [isFrs_stay] at h; cases h⟩
theorem Fn.frz {P : Program} {gl : Nat → Option ((t : Ty) × t.T)} {f : FuncId} {args : List V} {r : SV} {fr : Bool} (hr : ∀ x, r = .val x → ∃ c, x = .one c) (h : Fn P gl f args r fr) : Fn P gl f args (staySV r) false := by
  intro w H vs hag G hd
  refine (h w H vs hag G hd).mono ?_
  rintro e w' ⟨v, H', rfl, h1, h2, h3, h4⟩
  have hh : HLe H' (fun b => if b < w.heap.size then H b else w'.heap[b]?) := by
    intro b o ho
    show (if b < w.heap.size then H b else w'.heap[b]?) = some o
    split
    · rename_i hlt
      have := h3 b hlt
      rw [ho] at this
      split at this
      · cases this
      · exact this.symm
    · exact h2 b o ho
  have hn : ∀ b o, w.heap.size ≤ b → w'.heap[b]? = some o → (fun b => if b < w.heap.size then H b else w'.heap[b]?) b = some o := fun b o hb ho => (if_neg (by omega)).trans ho
  refine ⟨v, fun b => if b < w.heap.size then H b else w'.heap[b]?, rfl, h1, fun b o ho => ?_, fun b hb => if_pos hb, ?_⟩
  · simp only [] at ho
    split at ho
    · rename_i hlt; rw [h1.block b hlt]; exact hag b o ho
    · exact ho
  · cases r with
    | val x =>
      obtain ⟨c, rfl⟩ := hr x rfl
      have e : aggFr (stayV (.one c)) = none := by cases c <;> rfl
      have h5 : DenRV w' w.heap.size _ (.one c) v := h4
      show match aggFr (stayV (.one c)) with | none => _ | some xs => _
      rw [e]
      exact stayV_den hh hn h5
    | tup xs =>
      obtain ⟨us, e, hus⟩ := h4
      exact ⟨us, e, stayVs_den hh hn hus⟩
theorem Sp1.frz {f : FuncId} {sp : FSpec} (h : Sp1 f sp) : Sp1 f sp.frz := by
  refine ⟨fun vs ps r hr hp => ?_, h.2⟩
  unfold FSpec.frz at hr
  simp only [] at hr
  split at hr
  · rename_i ps' c hs
    cases hr
    exact (h.1 vs _ _ hs hp).frz (fun x hx => by cases hx; exact ⟨c, rfl⟩)
  · rename_i ps' xs hs
    cases hr
    exact (h.1 vs _ _ hs hp).frz (fun x hx => by cases hx)
  · cases hr
end Go.Sx

namespace Go.Sx.U
abbrev Pic := List UInt8 × Int × Int × List Nat
def sumL (a b : List Nat) : List Nat := tab a.length fun i => smp (six (List.getD a i 0) + six (List.getD b i 0))
def negL (a : List Nat) : List Nat := tab a.length fun i => smp (-(six (List.getD a i 0)))
def Fit2 (a b : List Nat) : Prop := ∀ i, i < a.length → -16384 ≤ six (List.getD a i 0) + six (List.getD b i 0) ∧ six (List.getD a i 0) + six (List.getD b i 0) ≤ 16384
def crpR (w h : Int) (s : List Nat) (c0 c1 r0 r1 : Int) : List (List Nat) := List.map (cutI c0 c1) (List.take (r1.toNat - r0.toNat) (List.drop r0.toNat (rowsI w h s)))
def crpI (w h : Int) (s : List Nat) (c0 c1 r0 r1 : Int) : List Nat := (crpR w h s c0 c1 r0 r1).flatten
def besR (wa wb h : Int) (a b : List Nat) : List (List Nat) := tab h.toNat fun y => List.flatten [rowI wa a (y : Nat), rowI wb b (y : Nat)]
def besI (wa wb h : Int) (a b : List Nat) : List Nat := (besR wa wb h a b).flatten
def aboI (w ha hb : Int) (a b : List Nat) : List Nat := (rowsI w ha a ++ rowsI w hb b).flatten
def fldP (nm : List UInt8) (w h : Int) (s : List Nat) (f : Int) : Pic := (nm, w, (h - f + 1) / 2, (evI w h s f).flatten)
def wovR (pa pb : Pic) (n : Nat) : List (List Nat) := tab n fun y => rowI (List.getD [pa, pb] (y % 2) ([], 0, 0, [])).2.1 (List.getD [pa, pb] (y % 2) ([], 0, 0, [])).2.2.2 ((y : Int) / 2)
def wovI (nm : List UInt8) (w ha hb : Int) (a b : List Nat) : List Nat := (wovR (nm, w, ha, a) (nm, w, hb, b) (ha + hb).toNat).flatten
end Go.Sx.U
namespace Go.Sx
open U
abbrev pcT : Ty := .pair .str (.pair (.int .i64) (.pair (.int .i64) (.sl (.flt .f32))))
def capOf (s : St) : Option (List Nat) := match lookT s.tm 1 with
  | some (.val (.one (.fn _ [] [(id, _)]))) => match picAt s id with
    | some (_, _, xs) => some xs
    | _ => none
  | _ => none
def hChg (g : List Nat → Nat → Int) (s : St) : Option LInv := match lookT s.tm 2, lookT s.tm 6 with
  | some (.val (.one (.ptr b2 0))), some (.val (.one (.ptr b6 0))) => match picAt s b2, lookO s.ob b6 with
    | some (_, _, xs), some (.box [n, w, h, _]) => some ⟨Nat, fun i => ⟨tI 15 i :: keepT [1, 2, 4, 5, 6, 13, 14] s.tm,
        (b6, some (.box [n, w, h, .one (.own s.nx)])) :: (s.nx, some (.row (.flt .f32) (tab i fun j => smp (g xs j)))) :: (liveO [] s.ob).filter (fun x => x.1 != b6), s.nx + 1, s.lr⟩, fun i => i ≤ List.length xs, fun i => List.length xs - i⟩
    | _, _ => none
  | _, _ => none
def h7 : Hints := ⟨fun f k s => match f, k with
  | 31, 4 => match capOf s with
    | some ys => hChg (fun xs j => six (List.getD xs j 0) + six (List.getD ys j 0)) s
    | _ => none
  | 11, 1000005 => match lookT s.tm 9 with
    | some (.val (.one (.fn f [] [(b, 0)]))) => match lookO s.ob b with
      | some (.box [.one (.int .i64 x), .one (.int .i64 y)]) => some ⟨Nat, fun _ => ⟨(9, .val (.one (.fnd f true spT (x, y)))) :: keepT [3, 5, 6] s.tm, (liveO [] s.ob).filter (fun x => x.1 != b), s.nx, s.lr⟩, fun _ => True, fun _ => 0⟩
      | _ => none
    | _ => none
  | 12, 9 => match picAt s 0, picAt s 4 with
    | some (w, h, xs), some (w', _, ys) => some ⟨Nat, fun i => ⟨[tI 41 i, (8, .val (.one (.own s.nx)))] ++ keepT [2, 3, 4, 5, 40] s.tm, (s.nx, some (.row rwT (tab i fun y => List.flatten [rowI w xs (y : Nat), rowI w' ys (y : Nat)]))) :: lessO s [8], s.nx + 1, s.lr⟩, fun i => i ≤ h.toNat, fun i => h.toNat - i⟩
    | _, _ => none
  | 16, 11 => match lookT s.tm 7, intAt s 55 with
    | some (.val (.one (.ptr b 0))), some n => match lookO s.ob b with
      | some (.box [.arr _ (.pair .str (.pair (.int .i64) (.pair (.int .i64) (.sl (.flt .f32))))) [pa, pb]]) => some ⟨Nat, fun i => ⟨[tI 56 i, (8, .val (.one (.own s.nx)))] ++ keepT [2, 4, 7, 55] s.tm, (s.nx, some (.row rwT (wovR pa pb i))) :: lessO s [8], s.nx + 1, s.lr⟩, fun i => i ≤ n.toNat, fun i => n.toNat - i⟩
      | _ => none
    | _, _ => none
  | _, _ => none, 0⟩
def h9 : Hints := ⟨fun f k s => match f, k with
  | 31, 4 => hChg (fun xs j => -(six (List.getD xs j 0))) s
  | _, _ => none, 0⟩
def sp40h : FSpec := ⟨fun vs => match vs with
  | [.agg [.one (.str nm), .one (.int .i64 _w), .one (.int .i64 _h), .one (.sl (.flt .f32) _s)], .one (.sl (.sl (.flt .f32)) rows)] => some ([0 < List.length rows ∧ List.length rows ≤ 1000, RowsOk (List.length (List.getD (show List (List Nat) from rows) 0 [])) rows, List.length (List.getD (show List (List Nat) from rows) 0 []) ≤ 1000], .val (picV nm (List.length (List.getD (show List (List Nat) from rows) 0 [])) (List.length rows) (List.flatten (show List (List Nat) from rows))))
  | _ => none, true⟩
def sp8h : FSpec := ⟨fun vs => match vs with
  | [.agg [.one (.str nm), .one (.int .i64 w), .one (.int .i64 h), .one (.sl (.flt .f32) s)]] => some ([List.length s ≤ 1000000], .val (picV nm w h s))
  | _ => none, true⟩
def sp7 : FSpec := ⟨fun vs => match vs with
  | [.agg [.one (.str nm), .one (.int .i64 w), .one (.int .i64 h), .one (.sl (.flt .f32) s)], .agg [.one (.str nm2), .one (.int .i64 w2), .one (.int .i64 h2), .one (.sl (.flt .f32) s2)]] => some ([w2 = w ∧ h2 = h, List.length s ≤ 1000000 ∧ List.length s2 ≤ 1000000, chkPic nm w h s = 0, chkPic nm2 w2 h2 s2 = 0, Fit2 s s2], .tup [picV nm w h (sumL s s2), iV 0])
  | _ => none, true⟩
def sp9 : FSpec := ⟨fun vs => match vs with
  | [.agg [.one (.str nm), .one (.int .i64 w), .one (.int .i64 h), .one (.sl (.flt .f32) s)], .one (.int .i64 a), .one (.int .i64 b)] => some ([a = -1 ∧ b = 1, List.length s ≤ 1000000, chkPic nm w h s = 0], .tup [picV nm w h (negL s), iV 0])
  | _ => none, true⟩
def sp11 : FSpec := ⟨fun vs => match vs with
  | [.agg [.one (.str nm), .one (.int .i64 w), .one (.int .i64 h), .one (.sl (.flt .f32) s)], .agg [.one (.int .i64 c0), .one (.int .i64 c1)], .agg [.one (.int .i64 r0), .one (.int .i64 r1)]] => some ([List.length s ≤ 1000000, chkPic nm w h s = 0, 0 ≤ c0 ∧ c0 < c1 ∧ c1 ≤ w, 0 ≤ r0 ∧ r0 < r1 ∧ r1 ≤ h], .tup [picV nm (c1 - c0) (r1 - r0) (crpI w h s c0 c1 r0 r1), iV 0])
  | _ => none, true⟩
def sp12 : FSpec := ⟨fun vs => match vs with
  | [.agg [.one (.str nm), .one (.int .i64 w), .one (.int .i64 h), .one (.sl (.flt .f32) s)], .agg [.one (.str nm2), .one (.int .i64 w2), .one (.int .i64 h2), .one (.sl (.flt .f32) s2)]] => some ([h2 = h, List.length s ≤ 1000000 ∧ List.length s2 ≤ 1000000, chkPic nm w h s = 0, chkPic nm2 w2 h2 s2 = 0, w + w2 ≤ 64], .tup [picV nm (w + w2) h (besI w w2 h s s2), iV 0])
  | _ => none, true⟩
def sp13 : FSpec := ⟨fun vs => match vs with
  | [.agg [.one (.str nm), .one (.int .i64 w), .one (.int .i64 h), .one (.sl (.flt .f32) s)], .agg [.one (.str nm2), .one (.int .i64 w2), .one (.int .i64 h2), .one (.sl (.flt .f32) s2)]] => some ([w2 = w, List.length s ≤ 1000000 ∧ List.length s2 ≤ 1000000, chkPic nm w h s = 0, chkPic nm2 w2 h2 s2 = 0, h + h2 ≤ 64], .tup [picV nm w (h + h2) (aboI w h h2 s s2), iV 0])
  | _ => none, true⟩
def sp16 : FSpec := ⟨fun vs => match vs with
  | [.agg [.one (.str nm), .one (.int .i64 w), .one (.int .i64 h), .one (.sl (.flt .f32) s)], .agg [.one (.str nm2), .one (.int .i64 w2), .one (.int .i64 h2), .one (.sl (.flt .f32) s2)]] => some ([nm2 = nm ∧ w2 = w, List.length s ≤ 1000000 ∧ List.length s2 ≤ 1000000, chkPic nm w h s = 0, chkPic nm2 w2 h2 s2 = 0, h2 ≤ h ∧ h ≤ h2 + 1, h + h2 ≤ 64], .tup [picV nm w (h + h2) (wovI nm w h h2 s s2), iV 0])
  | _ => none, true⟩
@[reducible] noncomputable def fb31 : Nat × Func := (31, Proofs.Try.f31)
@[reducible] noncomputable def fb32 : Nat × Func := (32, Proofs.Try.f32)
@[reducible] noncomputable def fb36 : Nat × Func := (36, Proofs.Try.f36)
end Go.Sx
namespace Go.Sx
open U
def sp37 : FSpec := ⟨fun vs => match vs with
  | [.one (.int .i64 a), .one (.int .i64 d)] => some ([-4000000000 ≤ a ∧ a ≤ 4000000000, 0 < d ∧ d ≤ 4000000000], .val (iV (a / d)))
  | _ => none, true⟩
def sp14 : FSpec := ⟨fun vs => match vs with
  | [.agg [.one (.str nm), .one (.int .i64 w), .one (.int .i64 h), .one (.sl (.flt .f32) s)]] => some ([List.length s ≤ 1000000, chkPic nm w h s = 0, 2 ≤ h], .tup [.agg [.arr 2 pcT [fldP nm w h s 0, fldP nm w h s 1]], iV 0])
  | _ => none, false⟩
end Go.Sx
