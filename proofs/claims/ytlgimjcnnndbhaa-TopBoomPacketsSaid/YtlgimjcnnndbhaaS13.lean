/- A verified symbolic run of functions, part 13: lemmas, no claim of their own. -/
import Derived.Test.YtlgimjcnnndbhaaS12
import Derived.Shelf.Spec.SlicesGrow
import Derived.Test.YtlgimjcnnndbhaaProg
namespace Go.Sx
open U
theorem getD_mem' {α : Type} {l : List α} {i : Nat} {d : α} (h : i < l.length) : List.getD l i d ∈ l := by
  rw [getD_of h]; exact List.getElem_mem h
theorem fst_bad {nm : List UInt8} {w h : Int} {s : List Nat} (e : (first [whenE (!isName nm) 8, within w 1 64, within h 1 64] != 0) = true) : first [whenE (!isName nm) 8, within w 1 64, within h 1 64] = chkPic nm w h s := by
  unfold chkPic
  rw [if_pos (by simpa using e)]
theorem fst_good {nm : List UInt8} {w h : Int} (e : (first [whenE (!isName nm) 8, within w 1 64, within h 1 64] != 0) = false) : isName nm = true ∧ (1 ≤ w ∧ w ≤ 64) ∧ (1 ≤ h ∧ h ≤ 64) := by
  have e : first [whenE (!isName nm) 8, within w 1 64, within h 1 64] = 0 := by simpa using e
  have := first_zero.1 e
  refine ⟨?_, within_zero.1 (this _ (by simp)), within_zero.1 (this _ (by simp))⟩
  have := this (whenE (!isName nm) 8) (by simp)
  cases hn : isName nm with
  | true => rfl
  | false => rw [hn] at this; simp [whenE] at this
theorem chk_rest {nm : List UInt8} {w h : Int} {s : List Nat} (e : (first [whenE (!isName nm) 8, within w 1 64, within h 1 64] != 0) = false) : chkPic nm w h s = if (s.length : Int) ≠ w * h then 2 else first (s.map chkS) := by
  unfold chkPic
  rw [if_neg (by simpa using e)]
theorem mul_fits {w h : Int} (hw : 1 ≤ w ∧ w ≤ 64) (hh : 1 ≤ h ∧ h ≤ 64) : 1 ≤ w * h ∧ w * h ≤ 4096 := by
  have h1 : w * h ≤ 64 * 64 := Int.mul_le_mul hw.2 hh.2 (by omega) (by omega)
  have h2 : 1 * 1 ≤ w * h := Int.mul_le_mul hw.1 hh.1 (by omega) (by omega)
  omega
theorem chkPic_zero {nm : List UInt8} {w h : Int} {s : List Nat} : chkPic nm w h s = 0 ↔ isName nm = true ∧ (1 ≤ w ∧ w ≤ 64) ∧ (1 ≤ h ∧ h ≤ 64) ∧ (s.length : Int) = w * h ∧ OkS s := by
  cases hb : (first [whenE (!isName nm) 8, within w 1 64, within h 1 64] != 0) with
  | true =>
    refine ⟨fun e => ?_, fun e => ?_⟩
    · rw [← fst_bad hb] at e
      rw [e] at hb; cases hb
    · exfalso
      have : first [whenE (!isName nm) 8, within w 1 64, within h 1 64] = 0 := by
        rw [first_zero]
        intro n hn
        simp only [List.mem_cons, List.not_mem_nil, or_false] at hn
        rcases hn with rfl | rfl | rfl
        · rw [e.1]; rfl
        · exact within_zero.2 e.2.1
        · exact within_zero.2 e.2.2.1
      rw [this] at hb; cases hb
  | false =>
    rw [chk_rest hb]
    obtain ⟨h1, h2, h3⟩ := fst_good hb
    by_cases hl : (s.length : Int) = w * h
    · rw [if_neg (fun e => e hl)]
      refine ⟨fun e => ⟨h1, h2, h3, hl, fun b hb => first_zero.1 e _ (List.mem_map.2 ⟨b, hb, rfl⟩)⟩, fun e => first_zero.2 fun n hn => ?_⟩
      obtain ⟨b, hb, rfl⟩ := List.mem_map.1 hn
      exact e.2.2.2.2 b hb
    · rw [if_pos hl]
      exact ⟨fun e => (by cases e), fun e => absurd e.2.2.2.1 hl⟩
theorem fn35 (n lo hi : Int)  : Fn P1 gl1 35 [iV n, iV lo, iV hi] (.val (iV (within n lo hi))) true := by
  refine Fn.flat ?_ rfl
  refine fn_of false [(43, sp43)] [] h0 0 Proofs.Try.f35 ⟨so43, trivial⟩ trivial (by kernel_rfl) rfl (by kernel_rfl) rfl rfl rfl ?_
  rw [vc35]
  try simp only [splitB_iff, -eq_self]
  unfold within
  by_cases h1 : n < lo <;> by_cases h2 : hi < n <;> simp [h1, h2, whenE]
theorem so35_ : SpecOk P1 gl1 35 sp35 := by
  intro vs ps r h _
  simp only [sp35] at h
  split at h
  · cases h; exact fn35 _ _ _ 
  · cases h
theorem so35 : Sp1 35 sp35 := ⟨so35_, Proofs.Try.f35, _, by kernel_rfl, rfl, by kernel_rfl⟩
theorem fn28 (xs : List Int) (hl : xs.length ≤ 1000000000) : Fn P1 gl1 28 [.one (.sl (.int .i64) xs)] (.val (iV (first xs))) true := by
  refine Fn.flat ?_ rfl
  refine fn_of false [] [] h28 0 Proofs.Try.f28 trivial trivial (by kernel_rfl) rfl (by kernel_rfl) rfl rfl rfl ?_
  rw [vc28]
  try simp only [splitB_iff, -eq_self]
  refine ⟨⟨0, by simp, by simp⟩, fun g hg => ⟨fun hlt => ?_, fun hge => ?_⟩⟩
  · have hlt' : g < xs.length := by simpa using hlt
    rw [getD_of hlt', hg.2, first_drop xs g hlt']
    refine ⟨by omega, fun h => ⟨?_, trivial⟩, fun h => ⟨by simp only [fits]; omega, g + 1, ⟨by omega, ?_⟩, by omega, by simp⟩⟩
    · rw [if_neg (by simpa using h)]
    · rw [if_pos (by simpa using h)]
  · have hge' : ¬ g < xs.length := by simpa using hge
    rw [hg.2, List.drop_of_length_le (by omega)]
    simp [first]
theorem so28_ : SpecOk P1 gl1 28 sp28 := by
  intro vs ps r h hp
  simp only [sp28] at h
  split at h
  · cases h; exact fn28 _ (hp _ (.head _))
  · cases h
theorem so28 : Sp1 28 sp28 := ⟨so28_, Proofs.Try.f28, _, by kernel_rfl, rfl, by kernel_rfl⟩
theorem fn71 (l : List Nat) (hl : l.length ≤ 1000000) : Fn P1 gl1 71 [.one (.sl (.flt .f32) l), .one (.fn 72 [] [])] (.val (.one (.frs (.int .i64) (l.map chkS)))) true := by
  refine Fn.flat ?_ rfl
  refine fn_of false [(72, sp72)] [] h28 0 Proofs.Try.f71 ⟨so72, trivial⟩ trivial (by kernel_rfl) rfl (by kernel_rfl) rfl rfl rfl ?_
  rw [vc71]
  try simp only [splitB_iff, -eq_self]
  refine ⟨⟨0, Nat.zero_le _, rfl, by trivial, by trivial, by simp⟩, fun g hg => ⟨fun hlt => ?_, fun hge => ?_⟩⟩
  · have hlt' : g < l.length := by simpa using hlt
    refine ⟨by omega, by simp only [room, List.length_map, List.length_take]; omega, by simp only [fits]; omega, g + 1, hlt', by omega, by simp, by trivial, by trivial, ?_, trivial⟩
    rw [getD_of hlt', List.take_succ_eq_append_getElem hlt', List.map_append]
    rfl
  · have hge' : ¬ g < l.length := by simpa using hge
    rw [List.take_of_length_le (by omega)]
    exact ⟨rfl, trivial⟩
theorem so71_ : SpecOk P1 gl1 71 sp71 := by
  intro vs ps r h hp
  simp only [sp71] at h
  split at h
  · cases h; exact fn71 _ (hp _ (.head _))
  · cases h
theorem so71 : Sp1 71 sp71 := ⟨so71_, Proofs.Try.f71, _, by kernel_rfl, rfl, by kernel_rfl⟩
theorem fn29 (nm : List UInt8) (w h : Int) (s : List Nat) (hl : s.length ≤ 1000000) : Fn P1 gl1 29 [picV nm w h s] (.val (iV (chkPic nm w h s))) true := by
  refine Fn.flat ?_ rfl
  refine fn_of false [(43, sp43), (35, sp35), (28, sp28), (70, sp70), (71, sp71)] [] h0 0 Proofs.Try.f29 ⟨so43, so35, so28, so70, so71, trivial⟩ trivial (by kernel_rfl) rfl (by kernel_rfl) rfl rfl rfl ?_
  rw [vc29]
  try simp only [splitB_iff, -eq_self]
  refine ⟨by omega, fun e => ⟨fst_bad e, trivial⟩, fun e => ?_⟩
  obtain ⟨h1, h2, h3⟩ := fst_good e
  have h4 := mul_fits h2 h3
  rw [chk_rest e]
  refine ⟨by simp only [fits]; omega, fun e2 => ⟨?_, trivial⟩, fun e2 => ⟨hl, by rw [List.length_map]; omega, ?_, trivial⟩⟩
  · rw [if_pos (by simpa using e2)]
  · rw [if_neg (by simpa using e2)]
theorem so29_ : SpecOk P1 gl1 29 sp29 := by
  intro vs ps r h hp
  simp only [sp29] at h
  split at h
  · cases h; exact fn29 _ _ _ _ (hp _ (.head _))
  · cases h
theorem so29 : Sp1 29 sp29 := ⟨so29_, Proofs.Try.f29, _, by kernel_rfl, rfl, by kernel_rfl⟩
theorem fn25 (nm : List UInt8) (w h : Int) (s : List Nat) (hn : nm.length ≤ 1000000) (hl : s.length ≤ 1000000) : Fn P1 gl1 25 [picV nm w h s] (.val (iV (chkPic nm w h s))) true := by
  refine Fn.flat ?_ rfl
  refine fn_of false [(63, sp63), (64, sp64), (62, sp62), (65, sp65)] [] h28 0 Proofs.Try.f25 ⟨so63, so64, so62, so65, trivial⟩ trivial (by kernel_rfl) rfl (by kernel_rfl) rfl rfl rfl ?_
  rw [vc25]
  try simp only [splitB_iff, -eq_self]
  refine ⟨by omega, by omega, fun e => ⟨fst_bad e, trivial⟩, fun e => ?_⟩
  obtain ⟨h1, h2, h3⟩ := fst_good e
  have h4 := mul_fits h2 h3
  rw [chk_rest e]
  refine ⟨by simp only [fits]; omega, fun e2 => ⟨?_, trivial⟩, fun e2 => ?_⟩
  · rw [if_pos (by simpa using e2)]
  · rw [if_neg (by simpa using e2)]
    refine ⟨⟨0, ⟨by omega, by simp⟩, rfl, rfl, rfl, rfl, rfl, rfl, trivial⟩, fun g hg => ⟨fun hlt => ⟨?_, fun k => ?_, fun k => ?_⟩, fun hge => ?_⟩⟩
    · have hlt : g < s.length := by simpa using hlt
      omega
    · have hlt : g < s.length := by simpa using hlt
      rw [hg.2, first_drop _ g (by simpa using hlt)]
      rw [getD_of hlt] at k ⊢
      simp only [List.getElem_map]
      rw [if_neg (by simpa using k)]
      exact ⟨rfl, trivial⟩
    · have hlt : g < s.length := by simpa using hlt
      refine ⟨by simp only [fits]; omega, g + 1, ⟨by omega, ?_⟩, by omega, by simp, rfl, rfl, rfl, rfl, rfl, trivial⟩
      rw [hg.2, first_drop _ g (by simpa using hlt)]
      rw [getD_of hlt] at k
      simp only [List.getElem_map]
      rw [if_pos (by simpa using k)]
    · have hge : ¬ g < s.length := by simpa using hge
      rw [hg.2, List.drop_of_length_le (by rw [List.length_map]; omega)]
      exact ⟨rfl, trivial⟩
theorem so25_ : SpecOk P1 gl1 25 sp25 := by
  intro vs ps r h hp
  simp only [sp25] at h
  split at h
  · cases h; exact fn25 _ _ _ _ (hp _ (.head _)) (hp _ (.tail _ (.head _)))
  · cases h
theorem so25 : Sp1 25 sp25 := ⟨so25_, Proofs.Try.f25, _, by kernel_rfl, rfl, by kernel_rfl⟩
theorem fn24 (nm : List UInt8) (w h : Int) (s : List Nat)  : Fn P1 gl1 24 [picV nm w h s] (.val (bV (shortPic nm w h s))) true := by
  refine Fn.flat ?_ rfl
  refine fn_of false [] [] h0 0 Proofs.Try.f24 trivial trivial (by kernel_rfl) rfl (by kernel_rfl) rfl rfl rfl ?_
  rw [vc24]
  try simp only [splitB_iff, -eq_self]
  refine ⟨?_, trivial⟩
  unfold shortPic shSide
  have e1 : decide ((nm.length : Int) ≤ 40) = decide (nm.length ≤ 40) := decide_eq_decide.2 (by omega)
  have e2 : decide ((s.length : Int) ≤ 160) = decide (s.length ≤ 160) := decide_eq_decide.2 (by omega)
  rw [e1, e2]
  simp only [bcond_l, bcond_r, Bool.and_assoc]
theorem so24_ : SpecOk P1 gl1 24 sp24 := by
  intro vs ps r h _
  simp only [sp24] at h
  split at h
  · cases h; exact fn24 _ _ _ _ 
  · cases h
theorem so24 : Sp1 24 sp24 := ⟨so24_, Proofs.Try.f24, _, by kernel_rfl, rfl, by kernel_rfl⟩
theorem fn5 (nm : List UInt8) (w h : Int) (s : List Nat)  : Fn P1 gl1 5 [picV nm w h s] (.val (bV (smallPic nm w h s))) true := by
  refine Fn.flat ?_ rfl
  refine fn_of false [(24, sp24), (25, sp25)] [] h0 0 Proofs.Try.f5 ⟨so24, so25, trivial⟩ trivial (by kernel_rfl) rfl (by kernel_rfl) rfl rfl rfl ?_
  rw [vc5]
  try simp only [splitB_iff, -eq_self]
  have hs : shortPic nm w h s = true → nm.length ≤ 40 ∧ s.length ≤ 160 := fun e => by
    unfold shortPic at e
    simp only [Bool.and_eq_true, decide_eq_true_eq] at e
    exact ⟨e.1, e.2.1⟩
  refine ⟨fun e => by have := hs e; omega, fun e => by have := hs e; omega, ?_, trivial⟩
  unfold smallPic
  rw [bcond_r]
  congr 1
theorem so5_ : SpecOk P1 gl1 5 sp5 := by
  intro vs ps r h _
  simp only [sp5] at h
  split at h
  · cases h; exact fn5 _ _ _ _ 
  · cases h
theorem so5 : Sp1 5 sp5 := ⟨so5_, Proofs.Try.f5, _, by kernel_rfl, rfl, by kernel_rfl⟩
theorem fn34 (nm : List UInt8) (w h : Int) (s : List Nat) (hl : s.length ≤ 1000000) : Fn P1 gl1 34 [picV nm w h s] (.val (picF nm w h s)) true := by
  refine Fn.flat ?_ rfl
  refine fn_of false [] [] h0 0 Proofs.Try.f34 trivial trivial (by kernel_rfl) rfl (by kernel_rfl) rfl rfl rfl ?_
  rw [vc34]
  try simp only [splitB_iff, -eq_self]
  exact ⟨by simp only [room]; omega, rfl, rfl, rfl, rfl, trivial⟩
theorem so34_ : SpecOk P1 gl1 34 sp34 := by
  intro vs ps r h hp
  simp only [sp34] at h
  split at h
  · cases h; exact fn34 _ _ _ _ (hp _ (.head _))
  · cases h
theorem so34 : Sp1 34 sp34 := ⟨so34_, Proofs.Try.f34, _, by kernel_rfl, rfl, by kernel_rfl⟩
theorem fn8 (nm : List UInt8) (w h : Int) (s : List Nat) (hl : s.length ≤ 1000000) : Fn P1 gl1 8 [picV nm w h s] (.val (picF nm w h s)) true := by
  refine Fn.flat ?_ rfl
  refine fn_of false [(34, sp34)] [] h0 0 Proofs.Try.f8 ⟨so34, trivial⟩ trivial (by kernel_rfl) rfl (by kernel_rfl) rfl rfl rfl ?_
  rw [vc8]
  try simp only [splitB_iff, -eq_self]
  exact ⟨hl, rfl, rfl, rfl, rfl, trivial⟩
theorem so8_ : SpecOk P1 gl1 8 sp8 := by
  intro vs ps r h hp
  simp only [sp8] at h
  split at h
  · cases h; exact fn8 _ _ _ _ (hp _ (.head _))
  · cases h
theorem so8 : Sp1 8 sp8 := ⟨so8_, Proofs.Try.f8, _, by kernel_rfl, rfl, by kernel_rfl⟩
theorem fn27 (a b : List Nat) (hl : a.length ≤ 1000000000) : Fn P1 gl1 27 [.one (.sl (.flt .f32) a), .one (.sl (.flt .f32) b)] (.val (bV (sameS a b))) true := by
  refine Fn.flat ?_ rfl
  refine fn_of false [] [] h28 0 Proofs.Try.f27 trivial trivial (by kernel_rfl) rfl (by kernel_rfl) rfl rfl rfl ?_
  rw [vc27]
  try simp only [splitB_iff, -eq_self]
  have key : ∀ i, (Ieee.Format.order (FloatKind.format FloatKind.f32) (List.getD a i 0) (List.getD b i 0) != some Ordering.eq) = !Op.floatEq .f32 (List.getD a i 0) (List.getD b i 0) := fun _ => rfl
  simp only [key, Bool.not_eq_true', Bool.not_eq_false', -eq_self]
  refine ⟨fun h => ?_, fun h => ⟨⟨0, ⟨by omega, fun j hj => absurd hj (by omega)⟩, rfl, rfl, rfl, trivial⟩, fun g hg => ⟨fun hlt => ⟨?_, ?_, fun k => ?_, fun k => ?_⟩, fun hge => ?_⟩⟩⟩
  · have h : ¬ (a.length : Int) = b.length := by simpa using h
    unfold sameS
    rw [decide_eq_false h]
    exact ⟨rfl, trivial⟩
  · have hlt : g < a.length := by simpa using hlt
    omega
  · have h : (a.length : Int) = b.length := by simpa using h
    have hlt : g < a.length := by simpa using hlt
    omega
  · have hlt : g < a.length := by simpa using hlt
    have : sameS a b = false := by
      unfold sameS
      rw [Bool.and_eq_false_iff]
      refine .inr ?_
      rw [List.all_eq_false]
      exact ⟨g, List.mem_range.2 hlt, by rw [k]; decide⟩
    rw [this]
    exact ⟨rfl, trivial⟩
  · have hlt : g < a.length := by simpa using hlt
    refine ⟨by simp only [fits]; omega, g + 1, ⟨by omega, fun j hj => ?_⟩, by omega, by simp, rfl, rfl, trivial⟩
    by_cases e : j = g
    · subst e; exact k
    · exact hg.2 j (by omega)
  · have h : (a.length : Int) = b.length := by simpa using h
    have hge : ¬ g < a.length := by simpa using hge
    have : sameS a b = true := by
      unfold sameS
      simp only [Bool.and_eq_true, decide_eq_true_eq, List.all_eq_true, List.mem_range]
      exact ⟨h, fun i hi => hg.2 i (by omega)⟩
    rw [this]
    exact ⟨rfl, trivial⟩
theorem so27_ : SpecOk P1 gl1 27 sp27 := by
  intro vs ps r h hp
  simp only [sp27] at h
  split at h
  · cases h; exact fn27 _ _ (hp _ (.head _))
  · cases h
theorem so27 : Sp1 27 sp27 := ⟨so27_, Proofs.Try.f27, _, by kernel_rfl, rfl, by kernel_rfl⟩
theorem fn15 (n1 : List UInt8) (w1 h1 : Int) (s1 : List Nat) (n2 : List UInt8) (w2 h2 : Int) (s2 : List Nat) (hl : s1.length ≤ 1000000000) : Fn P1 gl1 15 [picV n1 w1 h1 s1, picV n2 w2 h2 s2] (.val (bV (samePic n1 w1 h1 s1 n2 w2 h2 s2))) true := by
  refine Fn.flat ?_ rfl
  refine fn_of false [(27, sp27)] [] h0 0 Proofs.Try.f15 ⟨so27, trivial⟩ trivial (by kernel_rfl) rfl (by kernel_rfl) rfl rfl rfl ?_
  rw [vc15]
  try simp only [splitB_iff, -eq_self]
  refine ⟨fun _ => hl, ?_, trivial⟩
  unfold samePic
  simp only [bcond_r, Bool.and_assoc]
theorem so15_ : SpecOk P1 gl1 15 sp15 := by
  intro vs ps r h hp
  simp only [sp15] at h
  split at h
  · cases h; exact fn15 _ _ _ _ _ _ _ _ (hp _ (.head _))
  · cases h
theorem so15 : Sp1 15 sp15 := ⟨so15_, Proofs.Try.f15, _, by kernel_rfl, rfl, by kernel_rfl⟩
end Go.Sx

namespace Go.Sx.U
def rowI (w : Int) (s : List Nat) (y : Int) : List Nat := List.take w.toNat (List.drop (y * w).toNat s)
def evI (w h : Int) (s : List Nat) (f : Int) : List (List Nat) := tab ((h - f + 1) / 2).toNat fun i => rowI w s (f + 2 * (i : Nat))
def cutI (c0 c1 : Int) (l : List Nat) : List Nat := List.take (c1.toNat - c0.toNat) (List.drop c0.toNat l)
def RowsOk (w : Nat) (rows : List (List Nat)) : Prop := ∀ r ∈ rows, r.length = w
def madeTo (rows : List (List Nat)) (w h : Nat) (i : Nat) : List Nat := (List.take i rows).flatten ++ List.replicate ((h - i) * w) 0
theorem flat_len {w : Nat} : ∀ {rows : List (List Nat)}, RowsOk w rows → rows.flatten.length = rows.length * w
  | [], _ => by simp
  | r :: rows, h => by
    rw [List.flatten_cons, List.length_append, h r List.mem_cons_self, flat_len (rows := rows) fun x hx => h x (List.mem_cons_of_mem _ hx), List.length_cons, Nat.succ_mul]
    omega
theorem rowsOk_take {w : Nat} {rows : List (List Nat)} (h : RowsOk w rows) (i : Nat) : RowsOk w (rows.take i) := fun r hr => h r (List.mem_of_mem_take hr)
theorem rowsOk_tab {w n : Nat} {f : Nat → List Nat} (h : ∀ i, i < n → (f i).length = w) : RowsOk w (tab n f) := fun r hr => by
  obtain ⟨i, hi, rfl⟩ := mem_tab hr
  exact h i hi
theorem rowI_len {w y : Int} {s : List Nat} (hw : 0 ≤ w) (hy : 0 ≤ y) (h : (y + 1) * w ≤ (s.length : Int)) : (rowI w s y).length = w.toNat := by
  unfold rowI
  have h1 : 0 ≤ y * w := Int.mul_nonneg hy hw
  rw [Int.add_mul, Int.one_mul] at h
  rw [List.length_take, List.length_drop]
  omega
theorem copy_made {rows : List (List Nat)} {w h i : Nat} (hr : RowsOk w rows) (hl : rows.length = h) (hi : i < rows.length) :
    copyL (i * w) ((madeTo rows w h i).length - i * w) (madeTo rows w h i) (List.getD rows i []) = madeTo rows w h (i + 1) := by
  have h1 : ((List.take i rows).flatten).length = i * w := by
    rw [flat_len (rowsOk_take hr i), List.length_take, Nat.min_eq_left (by omega)]
  have h2 : (List.getD rows i []).length = w := hr _ (by rw [getD_of hi]; exact List.getElem_mem hi)
  have h3 : (h - i) * w = w + (h - (i + 1)) * w := by
    rw [show h - i = (h - (i + 1)) + 1 by omega, Nat.succ_mul]; omega
  have h4 : List.take ((madeTo rows w h i).length - i * w) (List.getD rows i []) = List.getD rows i [] := by
    refine List.take_of_length_le ?_
    rw [h2]
    unfold madeTo
    rw [List.length_append, List.length_replicate, h1, h3]
    omega
  have h5 : min (List.getD rows i []).length ((madeTo rows w h i).length - i * w) = w := by
    rw [h2]
    unfold madeTo
    rw [List.length_append, List.length_replicate, h1, h3]
    omega
  unfold copyL
  rw [h4, h5]
  unfold madeTo
  rw [h3, List.take_left' h1, List.take_succ_eq_append_getElem hi, List.flatten_append, List.flatten_singleton, ← getD_of (d := []) hi]
  congr 1
  rw [List.drop_append, h1, List.drop_of_length_le (by omega), List.nil_append, List.drop_replicate]
  congr 1
  omega
theorem made_zero (rows : List (List Nat)) (w h : Nat) : madeTo rows w h 0 = List.replicate (h * w) 0 := by simp [madeTo]
theorem made_all (rows : List (List Nat)) (w : Nat) : madeTo rows w rows.length rows.length = rows.flatten := by simp [madeTo]
theorem made_len {rows : List (List Nat)} {w h i : Nat} (hr : RowsOk w rows) (hl : rows.length = h) (hi : i ≤ h) : (madeTo rows w h i).length = h * w := by
  unfold madeTo
  rw [List.length_append, flat_len (rowsOk_take hr i), List.length_take, List.length_replicate, Nat.min_eq_left (by omega), ← Nat.add_mul]
  congr 1
  omega
end Go.Sx.U

namespace Go.Sx
open U
abbrev rwT : Ty := .sl (.flt .f32)
abbrev spT : Ty := .pair (.int .i64) (.int .i64)
def picAt (s : St) (b : Nat) : Option (Int × Int × List Nat) := match lookO s.ob b with
  | some (.box [_, .one (.int .i64 w), .one (.int .i64 h), .one (.sl (.flt .f32) xs)]) => some (w, h, xs)
  | _ => none
def intAt (s : St) (t : Nat) : Option Int := match lookT s.tm t with
  | some (.val (.one (.int .i64 n))) => some n
  | _ => none
def h42 : Hints := ⟨fun f k s => match f, k with
  | 42, 3 => match picAt s 0 with
    | some (w, h, xs) => some ⟨Nat, fun i => ⟨[tI 7 i, tI 6 h, (1, .val (.one (.ptr 0 0))), (3, .val (.one (.own s.nx)))], (s.nx, some (.row rwT (tab i fun y => rowI w xs (y : Nat)))) :: lessO s [3], s.nx + 1, s.lr⟩, fun i => i ≤ h.toNat, fun i => h.toNat - i⟩
    | _ => none
  | 46, 3 => match picAt s 0, intAt s 1 with
    | some (w, h, xs), some f => some ⟨Nat, fun i => ⟨[tI 6 (f + 2 * (i : Nat)), (2, .val (.one (.ptr 0 0))), (5, .val (.one (.own s.nx)))], (s.nx, some (.row rwT (tab i fun y => rowI w xs (f + 2 * (y : Nat))))) :: lessO s [5], s.nx + 1, s.lr⟩, fun i => i ≤ ((h - f + 1) / 2).toNat, fun i => ((h - f + 1) / 2).toNat - i⟩
    | _, _ => none
  | 40, 4 => match lookT s.tm 5, listAs s 24 rwT with
    | some (.val (.one (.ptr b 0))), some rows => match lookO s.ob b with
      | some (.box [_, _, _, .one (.own id)]) => some ⟨Nat, fun i => ⟨tI 26 i :: keepT [4, 5, 24, 25] s.tm, (id, some (.row (.flt .f32) (madeTo rows (List.length (List.getD rows 0 [])) (List.length rows) i))) :: (liveO [] s.ob).filter (fun x => x.1 != id), s.nx, s.lr⟩, fun i => i ≤ List.length rows, fun i => List.length rows - i⟩
      | _ => none
    | _, _ => none
  | 41, 3 => match lookT s.tm 1 with
    | some (.val (.one (.fnd _ true (.pair (.int .i64) (.int .i64)) x))) => hMapG rwT rwT (cutI x.1 x.2) 8 10 5 [1, 9] s
    | _ => none
  | _, _ => none, 0⟩
end Go.Sx
namespace Go.Sx
open U
def sp45 : FSpec := ⟨fun vs => match vs with
  | [.agg [.one (.str _nm), .one (.int .i64 w), .one (.int .i64 _h), .one (.sl (.flt .f32) s)], .one (.int .i64 y)] => some ([0 ≤ w ∧ w ≤ 1000, 0 ≤ y ∧ y ≤ 1000, (y + 1) * w ≤ (List.length s : Int)], .val (.one (.sl (.flt .f32) (rowI w s y))))
  | _ => none, false⟩
def sp46 : FSpec := ⟨fun vs => match vs with
  | [.agg [.one (.str _nm), .one (.int .i64 w), .one (.int .i64 h), .one (.sl (.flt .f32) s)], .one (.int .i64 f)] => some ([0 ≤ w ∧ w ≤ 1000, 0 ≤ h ∧ h ≤ 1000, 0 ≤ f ∧ f ≤ h, h * w ≤ (List.length s : Int)], .val (.one (.frs rwT (evI w h s f))))
  | _ => none, false⟩
def sp40 : FSpec := ⟨fun vs => match vs with
  | [.agg [.one (.str nm), .one (.int .i64 _w), .one (.int .i64 _h), .one (.sl (.flt .f32) _s)], .one (.sl (.sl (.flt .f32)) rows)] => some ([0 < List.length rows ∧ List.length rows ≤ 1000, RowsOk (List.length (List.getD (show List (List Nat) from rows) 0 [])) rows, List.length (List.getD (show List (List Nat) from rows) 0 []) ≤ 1000], .val (picF nm (List.length (List.getD (show List (List Nat) from rows) 0 [])) (List.length rows) (List.flatten (show List (List Nat) from rows))))
  | _ => none, true⟩
end Go.Sx

namespace Go.Sx
open U
theorem vc45 (nm : List UInt8) (w h : Int) (s : List Nat) (y : Int) : exF (env false [] []) h0 0 45 Proofs.Try.f45 [picV nm w h s, iV y] (.val (.one (.sl (.flt .f32) (rowI w s y)))) = (fits IntKind.i64 (y * w) ∧ fits IntKind.i64 (y + (1 : Int)) ∧ fits IntKind.i64 ((y + (1 : Int)) * w) ∧ ((0 : Int) ≤ y * w ∧ y * w ≤ (y + (1 : Int)) * w ∧ (y + (1 : Int)) * w ≤ (↑(List.length s) : Int)) ∧ List.take (Int.toNat ((y + (1 : Int)) * w) - Int.toNat (y * w)) (List.drop (Int.toNat (y * w)) s) = rowI w s y ∧ True) := by
  kernel_rfl
theorem vc46 (nm : List UInt8) (w h : Int) (s : List Nat) (f : Int) : exF (env false [(45, sp45)] []) h42 0 46 Proofs.Try.f46 [picV nm w h s, iV f] (.val (.one (.frs rwT (evI w h s f)))) = (let q0 := ((h - f + (1 : Int)) / (2 : Int)); (∃ (g : Nat), Nat.le g (Int.toNat q0) ∧ f = f + (2 : Int) * (↑g : Int) ∧ (tab g fun (y : Nat) => rowI w s (f + (2 : Int) * (↑y : Int))) = [] ∧ nm = nm ∧ w = w ∧ h = h ∧ s = s ∧ True) ∧ ∀ (g : Nat), Nat.le g (Int.toNat q0) → splitB (decide (f + (2 : Int) * (↑g : Int) < h)) (((0 : Int) ≤ w ∧ w ≤ (1000 : Int)) ∧ ((0 : Int) ≤ f + (2 : Int) * (↑g : Int) ∧ f + (2 : Int) * (↑g : Int) ≤ (1000 : Int)) ∧ (f + (2 : Int) * (↑g : Int) + (1 : Int)) * w ≤ (↑(List.length s) : Int) ∧ room (List.length (tab g fun (y : Nat) => rowI w s (f + (2 : Int) * (↑y : Int))) + (1 : Nat)) (24 : Nat) ∧ fits IntKind.i64 (f + (2 : Int) * (↑g : Int) + (2 : Int)) ∧ ∃ (g' : Nat), Nat.le g' (Int.toNat q0) ∧ Int.toNat q0 - g' < Int.toNat q0 - g ∧ f + (2 : Int) * (↑g : Int) + (2 : Int) = f + (2 : Int) * (↑g' : Int) ∧ ((tab g fun (y : Nat) => rowI w s (f + (2 : Int) * (↑y : Int))) ++ [rowI w s (f + (2 : Int) * (↑g : Int))] = tab g' fun (y : Nat) => rowI w s (f + (2 : Int) * (↑y : Int))) ∧ nm = nm ∧ w = w ∧ h = h ∧ s = s ∧ True) ((tab g fun (y : Nat) => rowI w s (f + (2 : Int) * (↑y : Int))) = evI w h s f ∧ True)) := by
  kernel_rfl
theorem vc40 (nm : List UInt8) (w h : Int) (s : List Nat) (rows : List (List Nat)) : exF (env false [] []) h42 0 40 Proofs.Try.f40 [picV nm w h s, .one (.sl rwT rows)] (.val (picF nm (List.length (List.getD rows 0 [])) (List.length rows) (List.flatten rows))) = (let q0 := (List.length (List.getD rows (0 : Nat) [])); let q1 := (List.length rows); let q4 := ((↑q0 : Int) * (↑q1 : Int)); ((0 : Int) ≤ (0 : Int) ∧ (0 : Int) < (↑q1 : Int)) ∧ fits IntKind.i64 q4 ∧ (0 : Int) ≤ (↑q0 : Int) * (↑q1 : Int) ∧ room (Int.toNat q4) (4 : Nat) ∧ (∃ (g : Nat), Nat.le g q1 ∧ (0 : Int) = (↑g : Int) ∧ (↑q1 : Int) = (↑q1 : Int) ∧ rows = rows ∧ List.replicate (Int.toNat q4) (0 : Nat) = madeTo rows q0 q1 g ∧ nm = nm ∧ (↑q0 : Int) = (↑q0 : Int) ∧ (↑q1 : Int) = (↑q1 : Int) ∧ nilB = [] ∧ (0 : Int) = (0 : Int) ∧ (0 : Int) = (0 : Int) ∧ nm = nm ∧ w = w ∧ h = h ∧ s = s ∧ True) ∧ ∀ (g : Nat), let q2 := (madeTo rows q0 q1 g); let q3 := ((↑g : Int) * (↑q0 : Int)); let q5 := (↑(List.length q2) : Int); Nat.le g q1 → splitB (decide ((↑g : Int) < (↑q1 : Int))) (((0 : Int) ≤ (↑g : Int) ∧ (↑g : Int) < (↑q1 : Int)) ∧ fits IntKind.i64 q3 ∧ ((0 : Int) ≤ (↑g : Int) * (↑q0 : Int) ∧ (↑g : Int) * (↑q0 : Int) ≤ q5 ∧ q5 ≤ q5) ∧ Int.toNat q3 + (List.length q2 - Int.toNat q3) ≤ List.length q2 ∧ fits IntKind.i64 ((↑g : Int) + (1 : Int)) ∧ ∃ (g' : Nat), Nat.le g' q1 ∧ List.length rows - g' < List.length rows - g ∧ (↑g : Int) + (1 : Int) = (↑g' : Int) ∧ (↑q1 : Int) = (↑q1 : Int) ∧ rows = rows ∧ copyL (Int.toNat q3) (List.length q2 - Int.toNat q3) q2 (List.getD rows g []) = madeTo rows q0 q1 g' ∧ nm = nm ∧ (↑q0 : Int) = (↑q0 : Int) ∧ (↑q1 : Int) = (↑q1 : Int) ∧ nilB = [] ∧ (0 : Int) = (0 : Int) ∧ (0 : Int) = (0 : Int) ∧ nm = nm ∧ w = w ∧ h = h ∧ s = s ∧ True) (nm = nm ∧ (↑q0 : Int) = (↑q0 : Int) ∧ (↑q1 : Int) = (↑q1 : Int) ∧ madeTo rows q0 q1 g = List.flatten rows ∧ True)) := by
  kernel_rfl
end Go.Sx

namespace Go.Sx
open Go.Proofs Go.RowKit Go.Shelf Go.Lib
end Go.Sx

namespace Go.Proofs
open Go.Shelf
end Go.Proofs
namespace Go.Sx
end Go.Sx

namespace Go.Sx
open U
theorem step_mul (y w : Int) : (y + 1) * w = y * w + w := by rw [Int.add_mul, Int.one_mul]
theorem mul_le {y w A B : Int} (hy : 0 ≤ y ∧ y ≤ A) (hw : 0 ≤ w ∧ w ≤ B) : 0 ≤ y * w ∧ y * w ≤ A * B :=
  ⟨Int.mul_nonneg hy.1 hw.1, Int.mul_le_mul hy.2 hw.2 hw.1 (by omega)⟩
theorem rowEnd {y h w n : Int} (hy : y + 1 ≤ h) (hw : 0 ≤ w) (hl : h * w ≤ n) : (y + 1) * w ≤ n := Int.le_trans (Int.mul_le_mul_of_nonneg_right hy hw) hl
theorem fn45 (nm : List UInt8) (w h : Int) (s : List Nat) (y : Int) (hw : 0 ≤ w ∧ w ≤ 1000) (hy : 0 ≤ y ∧ y ≤ 1000) (hl : (y + 1) * w ≤ (s.length : Int)) : Fn P1 gl1 45 [picV nm w h s, iV y] (.val (.one (.sl (.flt .f32) (rowI w s y)))) false := by
  refine fn_of false [] [] h0 0 Proofs.Try.f45 trivial trivial (by kernel_rfl) rfl (by kernel_rfl) rfl rfl rfl ?_
  rw [vc45]
  try simp only [splitB_iff, -eq_self]
  have h1 := step_mul y w
  have h2 := mul_le hy hw
  refine ⟨by simp only [fits]; omega, by simp only [fits]; omega, by simp only [fits]; omega, ⟨by omega, by omega, by omega⟩, ?_, trivial⟩
  unfold rowI
  congr 1
  omega
theorem so45_ : SpecOk P1 gl1 45 sp45 := by
  intro vs ps r h hp
  simp only [sp45] at h
  split at h
  · cases h; exact fn45 _ _ _ _ _ (hp _ (.head _)) (hp _ (.tail _ (.head _))) (hp _ (.tail _ (.tail _ (.head _))))
  · cases h
theorem so45 : Sp1 45 sp45 := ⟨so45_, Proofs.Try.f45, _, by kernel_rfl, rfl, by kernel_rfl⟩
theorem fn46 (nm : List UInt8) (w h : Int) (s : List Nat) (f : Int) (hw : 0 ≤ w ∧ w ≤ 1000) (hh : 0 ≤ h ∧ h ≤ 1000) (hf : 0 ≤ f ∧ f ≤ h) (hl : h * w ≤ (s.length : Int)) : Fn P1 gl1 46 [picV nm w h s, iV f] (.val (.one (.frs rwT (evI w h s f)))) false := by
  refine fn_of false [(45, sp45)] [] h42 0 Proofs.Try.f46 ⟨so45, trivial⟩ trivial (by kernel_rfl) rfl (by kernel_rfl) rfl rfl rfl ?_
  rw [vc46]
  try simp only [splitB_iff, -eq_self]
  refine ⟨⟨0, Nat.zero_le _, by omega, by (repeat' (first | exact trivial | exact rfl | apply And.intro))⟩, fun g hg => ⟨fun hlt => ?_, fun hge => ?_⟩⟩
  · have hlt : f + 2 * (g : Int) < h := of_decide_eq_true hlt
    have hg : g ≤ ((h - f + 1) / 2).toNat := hg
    refine ⟨hw, by omega, rowEnd (by omega) hw.1 hl, by simp only [room, tab_len]; omega, by simp only [fits]; omega, g + 1, by show g + 1 ≤ _; omega, by omega, by omega, (tab_succ _ _).symm, by (repeat' (first | exact trivial | exact rfl | apply And.intro))⟩
  · have hge : ¬ f + 2 * (g : Int) < h := of_decide_eq_false hge
    have hg : g ≤ ((h - f + 1) / 2).toNat := hg
    have e : g = ((h - f + 1) / 2).toNat := by omega
    subst e
    exact ⟨rfl, trivial⟩
theorem so46_ : SpecOk P1 gl1 46 sp46 := by
  intro vs ps r h hp
  simp only [sp46] at h
  split at h
  · cases h; exact fn46 _ _ _ _ _ (hp _ (.head _)) (hp _ (.tail _ (.head _))) (hp _ (.tail _ (.tail _ (.head _)))) (hp _ (.tail _ (.tail _ (.tail _ (.head _)))))
  · cases h
theorem so46 : Sp1 46 sp46 := ⟨so46_, Proofs.Try.f46, _, by kernel_rfl, rfl, by kernel_rfl⟩
theorem fn40 (nm : List UInt8) (w h : Int) (s : List Nat) (rows : List (List Nat)) (hn : 0 < rows.length ∧ rows.length ≤ 1000) (hr : RowsOk (List.length (List.getD rows 0 [])) rows) (hw : (List.getD rows 0 []).length ≤ 1000) : Fn P1 gl1 40 [picV nm w h s, .one (.sl rwT rows)] (.val (picF nm (List.length (List.getD rows 0 [])) (List.length rows) (List.flatten rows))) true := by
  refine Fn.flat ?_ rfl
  refine fn_of false [] [] h42 0 Proofs.Try.f40 trivial trivial (by kernel_rfl) rfl (by kernel_rfl) rfl rfl rfl ?_
  rw [vc40]
  try simp only [splitB_iff, -eq_self]
  generalize hww : List.length (List.getD rows 0 []) = W at *
  have hm : W * rows.length ≤ 1000 * 1000 := Nat.mul_le_mul hw hn.2
  have em : (W : Int) * (rows.length : Int) = ((W * rows.length : Nat) : Int) := by rw [Int.natCast_mul]
  rw [em]
  refine ⟨by omega, by simp only [fits]; omega, by omega, by simp only [room]; omega, ⟨0, Nat.zero_le _, rfl, rfl, rfl, ?_, by (repeat' (first | exact trivial | exact rfl | apply And.intro))⟩, fun g hg => ⟨fun hlt => ?_, fun hge => ?_⟩⟩
  · rw [made_zero, Int.toNat_natCast, Nat.mul_comm]
  · have hlt : g < rows.length := by simpa using hlt
    have hml := made_len hr (i := g) rfl (by omega)
    have hgm : g * W + W ≤ rows.length * W := by rw [← Nat.succ_mul]; exact Nat.mul_le_mul_right _ hlt
    have eg : (g : Int) * (W : Int) = ((g * W : Nat) : Int) := by rw [Int.natCast_mul]
    have hm2 : rows.length * W = W * rows.length := Nat.mul_comm _ _
    rw [eg, Int.toNat_natCast]
    refine ⟨by omega, by simp only [fits]; omega, by omega, by omega, by simp only [fits]; omega, g + 1, hlt, by omega, by omega, rfl, rfl, copy_made hr rfl hlt, by (repeat' (first | exact trivial | exact rfl | apply And.intro))⟩
  · have hge : ¬ g < rows.length := by simpa using hge
    have hg : g ≤ rows.length := hg
    have e : g = rows.length := by omega
    subst e
    exact ⟨rfl, rfl, rfl, made_all _ _, trivial⟩
theorem so40_ : SpecOk P1 gl1 40 sp40 := by
  intro vs ps r h hp
  simp only [sp40] at h
  split at h
  · cases h; exact fn40 _ _ _ _ _ (hp _ (.head _)) (hp _ (.tail _ (.head _))) (hp _ (.tail _ (.tail _ (.head _))))
  · cases h
theorem so40 : Sp1 40 sp40 := ⟨so40_, Proofs.Try.f40, _, by kernel_rfl, rfl, by kernel_rfl⟩
end Go.Sx

namespace Go.Sx
end Go.Sx

namespace Go.Sx.U
abbrev Pic := List UInt8 × Int × Int × List Nat
def fldP (nm : List UInt8) (w h : Int) (s : List Nat) (f : Int) : Pic := (nm, w, (h - f + 1) / 2, (evI w h s f).flatten)
def wovR (pa pb : Pic) (n : Nat) : List (List Nat) := tab n fun y => rowI (List.getD [pa, pb] (y % 2) ([], 0, 0, [])).2.1 (List.getD [pa, pb] (y % 2) ([], 0, 0, [])).2.2.2 ((y : Int) / 2)
end Go.Sx.U
namespace Go.Sx
open U
abbrev pcT : Ty := .pair .str (.pair (.int .i64) (.pair (.int .i64) (.sl (.flt .f32))))
def capOf (s : St) : Option (List Nat) := match lookT s.tm 1 with
  | some (.val (.one (.fn _ [] [(id, _)]))) => match picAt s id with
    | some (_, _, xs) => some xs
    | _ => none
  | _ => none
def hChg (g : List Nat → Nat → Int) (s : St) : Option LInv := match lookT s.tm 2, lookT s.tm 6 with
  | some (.val (.one (.ptr b2 0))), some (.val (.one (.ptr b6 0))) => match picAt s b2, lookO s.ob b6 with
    | some (_, _, xs), some (.box [n, w, h, _]) => some ⟨Nat, fun i => ⟨tI 15 i :: keepT [1, 2, 4, 5, 6, 13, 14] s.tm,
        (b6, some (.box [n, w, h, .one (.own s.nx)])) :: (s.nx, some (.row (.flt .f32) (tab i fun j => smp (g xs j)))) :: (liveO [] s.ob).filter (fun x => x.1 != b6), s.nx + 1, s.lr⟩, fun i => i ≤ List.length xs, fun i => List.length xs - i⟩
    | _, _ => none
  | _, _ => none
def h7 : Hints := ⟨fun f k s => match f, k with
  | 31, 4 => match capOf s with
    | some ys => hChg (fun xs j => six (List.getD xs j 0) + six (List.getD ys j 0)) s
    | _ => none
  | 11, 1000005 => match lookT s.tm 9 with
    | some (.val (.one (.fn f [] [(b, 0)]))) => match lookO s.ob b with
      | some (.box [.one (.int .i64 x), .one (.int .i64 y)]) => some ⟨Nat, fun _ => ⟨(9, .val (.one (.fnd f true spT (x, y)))) :: keepT [3, 5, 6] s.tm, (liveO [] s.ob).filter (fun x => x.1 != b), s.nx, s.lr⟩, fun _ => True, fun _ => 0⟩
      | _ => none
    | _ => none
  | 12, 9 => match picAt s 0, picAt s 4 with
    | some (w, h, xs), some (w', _, ys) => some ⟨Nat, fun i => ⟨[tI 41 i, (8, .val (.one (.own s.nx)))] ++ keepT [2, 3, 4, 5, 40] s.tm, (s.nx, some (.row rwT (tab i fun y => List.flatten [rowI w xs (y : Nat), rowI w' ys (y : Nat)]))) :: lessO s [8], s.nx + 1, s.lr⟩, fun i => i ≤ h.toNat, fun i => h.toNat - i⟩
    | _, _ => none
  | 16, 11 => match lookT s.tm 7, intAt s 55 with
    | some (.val (.one (.ptr b 0))), some n => match lookO s.ob b with
      | some (.box [.arr _ (.pair .str (.pair (.int .i64) (.pair (.int .i64) (.sl (.flt .f32))))) [pa, pb]]) => some ⟨Nat, fun i => ⟨[tI 56 i, (8, .val (.one (.own s.nx)))] ++ keepT [2, 4, 7, 55] s.tm, (s.nx, some (.row rwT (wovR pa pb i))) :: lessO s [8], s.nx + 1, s.lr⟩, fun i => i ≤ n.toNat, fun i => n.toNat - i⟩
      | _ => none
    | _, _ => none
  | _, _ => none, 0⟩
def h9 : Hints := ⟨fun f k s => match f, k with
  | 31, 4 => hChg (fun xs j => -(six (List.getD xs j 0))) s
  | _, _ => none, 0⟩
def sp40h : FSpec := ⟨fun vs => match vs with
  | [.agg [.one (.str nm), .one (.int .i64 _w), .one (.int .i64 _h), .one (.sl (.flt .f32) _s)], .one (.sl (.sl (.flt .f32)) rows)] => some ([0 < List.length rows ∧ List.length rows ≤ 1000, RowsOk (List.length (List.getD (show List (List Nat) from rows) 0 [])) rows, List.length (List.getD (show List (List Nat) from rows) 0 []) ≤ 1000], .val (picV nm (List.length (List.getD (show List (List Nat) from rows) 0 [])) (List.length rows) (List.flatten (show List (List Nat) from rows))))
  | _ => none, true⟩
def sp8h : FSpec := ⟨fun vs => match vs with
  | [.agg [.one (.str nm), .one (.int .i64 w), .one (.int .i64 h), .one (.sl (.flt .f32) s)]] => some ([List.length s ≤ 1000000], .val (picV nm w h s))
  | _ => none, true⟩
end Go.Sx
namespace Go.Sx
open U
def sp14 : FSpec := ⟨fun vs => match vs with
  | [.agg [.one (.str nm), .one (.int .i64 w), .one (.int .i64 h), .one (.sl (.flt .f32) s)]] => some ([List.length s ≤ 1000000, chkPic nm w h s = 0, 2 ≤ h], .tup [.agg [.arr 2 pcT [fldP nm w h s 0, fldP nm w h s 1]], iV 0])
  | _ => none, false⟩
end Go.Sx

namespace Go.Sx
open U
theorem vc40h (nm : List UInt8) (w h : Int) (s : List Nat) (rows : List (List Nat)) : exFr (env false [] []) h42 0 40 Proofs.Try.f40 [picV nm w h s, .one (.sl rwT rows)] (.val (picV nm (List.length (List.getD rows 0 [])) (List.length rows) (List.flatten rows))) = (let q0 := (List.length (List.getD rows (0 : Nat) [])); let q1 := (List.length rows); let q4 := ((↑q0 : Int) * (↑q1 : Int)); ((0 : Int) ≤ (0 : Int) ∧ (0 : Int) < (↑q1 : Int)) ∧ fits IntKind.i64 q4 ∧ (0 : Int) ≤ (↑q0 : Int) * (↑q1 : Int) ∧ room (Int.toNat q4) (4 : Nat) ∧ (∃ (g : Nat), Nat.le g q1 ∧ (0 : Int) = (↑g : Int) ∧ (↑q1 : Int) = (↑q1 : Int) ∧ rows = rows ∧ List.replicate (Int.toNat q4) (0 : Nat) = madeTo rows q0 q1 g ∧ nm = nm ∧ (↑q0 : Int) = (↑q0 : Int) ∧ (↑q1 : Int) = (↑q1 : Int) ∧ nilB = [] ∧ (0 : Int) = (0 : Int) ∧ (0 : Int) = (0 : Int) ∧ nm = nm ∧ w = w ∧ h = h ∧ s = s ∧ True) ∧ ∀ (g : Nat), let q2 := (madeTo rows q0 q1 g); let q3 := ((↑g : Int) * (↑q0 : Int)); let q5 := (↑(List.length q2) : Int); Nat.le g q1 → splitB (decide ((↑g : Int) < (↑q1 : Int))) (((0 : Int) ≤ (↑g : Int) ∧ (↑g : Int) < (↑q1 : Int)) ∧ fits IntKind.i64 q3 ∧ ((0 : Int) ≤ (↑g : Int) * (↑q0 : Int) ∧ (↑g : Int) * (↑q0 : Int) ≤ q5 ∧ q5 ≤ q5) ∧ Int.toNat q3 + (List.length q2 - Int.toNat q3) ≤ List.length q2 ∧ fits IntKind.i64 ((↑g : Int) + (1 : Int)) ∧ ∃ (g' : Nat), Nat.le g' q1 ∧ List.length rows - g' < List.length rows - g ∧ (↑g : Int) + (1 : Int) = (↑g' : Int) ∧ (↑q1 : Int) = (↑q1 : Int) ∧ rows = rows ∧ copyL (Int.toNat q3) (List.length q2 - Int.toNat q3) q2 (List.getD rows g []) = madeTo rows q0 q1 g' ∧ nm = nm ∧ (↑q0 : Int) = (↑q0 : Int) ∧ (↑q1 : Int) = (↑q1 : Int) ∧ nilB = [] ∧ (0 : Int) = (0 : Int) ∧ (0 : Int) = (0 : Int) ∧ nm = nm ∧ w = w ∧ h = h ∧ s = s ∧ True) (nm = nm ∧ (↑q0 : Int) = (↑q0 : Int) ∧ (↑q1 : Int) = (↑q1 : Int) ∧ madeTo rows q0 q1 g = List.flatten rows ∧ True)) := by
  kernel_rfl
theorem vc8h (nm : List UInt8) (w h : Int) (s : List Nat) : exFr (env false [(34, sp34)] []) h0 0 8 Proofs.Try.f8 [picV nm w h s] (.val (picV nm w h s)) = (List.length s ≤ (1000000 : Nat) ∧ nm = nm ∧ w = w ∧ h = h ∧ s = s ∧ True) := by
  kernel_rfl
theorem vc14 (nm : List UInt8) (w h : Int) (s : List Nat) : exF (env false [(29, sp29), (43, sp43), (28, sp28), (46, sp46), (40, sp40h)] []) h7 0 14 Proofs.Try.f14 [picV nm w h s] (.tup [.agg [.arr 2 pcT [fldP nm w h s 0, fldP nm w h s 1]], iV 0]) = (let q0 := (evI w h s (0 : Int)); let q1 := (evI w h s (1 : Int)); let q2 := (List.getD q0 (0 : Nat) []); let q3 := (List.getD q1 (0 : Nat) []); List.length s ≤ (1000000 : Nat) ∧ (2 : Nat) ≤ (1000000000 : Nat) ∧ splitB (first [chkPic nm w h s, whenE (h == (1 : Int)) (16 : Int)] != (0 : Int)) (List.replicate (2 : Nat) ([], (0 : Int), (0 : Int), []) = [fldP nm w h s (0 : Int), fldP nm w h s (1 : Int)] ∧ first [chkPic nm w h s, whenE (h == (1 : Int)) (16 : Int)] = (0 : Int) ∧ True) (((0 : Int) ≤ w ∧ w ≤ (1000 : Int)) ∧ ((0 : Int) ≤ h ∧ h ≤ (1000 : Int)) ∧ ((0 : Int) ≤ (0 : Int) ∧ (0 : Int) ≤ h) ∧ h * w ≤ (↑(List.length s) : Int) ∧ ((0 : Nat) < List.length q0 ∧ List.length q0 ≤ (1000 : Nat)) ∧ RowsOk (List.length q2) q0 ∧ List.length q2 ≤ (1000 : Nat) ∧ ((0 : Int) ≤ w ∧ w ≤ (1000 : Int)) ∧ ((0 : Int) ≤ h ∧ h ≤ (1000 : Int)) ∧ ((0 : Int) ≤ (1 : Int) ∧ (1 : Int) ≤ h) ∧ h * w ≤ (↑(List.length s) : Int) ∧ ((0 : Nat) < List.length q1 ∧ List.length q1 ≤ (1000 : Nat)) ∧ RowsOk (List.length q3) q1 ∧ List.length q3 ≤ (1000 : Nat) ∧ [(nm, (↑(List.length q2) : Int), (↑(List.length q0) : Int), List.flatten q0), (nm, (↑(List.length q3) : Int), (↑(List.length q1) : Int), List.flatten q1)] = [fldP nm w h s (0 : Int), fldP nm w h s (1 : Int)] ∧ (0 : Int) = (0 : Int) ∧ True)) := by
  kernel_rfl
end Go.Sx

namespace Go.Sx
open U
theorem fn40h (nm : List UInt8) (w h : Int) (s : List Nat) (rows : List (List Nat)) (hn : 0 < rows.length ∧ rows.length ≤ 1000) (hr : RowsOk (List.length (List.getD rows 0 [])) rows) (hw : (List.getD rows 0 []).length ≤ 1000) : Fn P1 gl1 40 [picV nm w h s, .one (.sl rwT rows)] (.val (picV nm (List.length (List.getD rows 0 [])) (List.length rows) (List.flatten rows))) true := by
  refine fn_ofr false [] [] h42 0 Proofs.Try.f40 trivial trivial (by kernel_rfl) rfl (by kernel_rfl) rfl rfl rfl ?_
  rw [vc40h]
  try simp only [splitB_iff, -eq_self]
  generalize hww : List.length (List.getD rows 0 []) = W at *
  have hm : W * rows.length ≤ 1000 * 1000 := Nat.mul_le_mul hw hn.2
  have em : (W : Int) * (rows.length : Int) = ((W * rows.length : Nat) : Int) := by rw [Int.natCast_mul]
  rw [em]
  refine ⟨by omega, by simp only [fits]; omega, by omega, by simp only [room]; omega, ⟨0, Nat.zero_le _, rfl, rfl, rfl, ?_, by (repeat' (first | exact trivial | exact rfl | apply And.intro))⟩, fun g hg => ⟨fun hlt => ?_, fun hge => ?_⟩⟩
  · rw [made_zero, Int.toNat_natCast, Nat.mul_comm]
  · have hlt : g < rows.length := by simpa using hlt
    have hml := made_len hr (i := g) rfl (by omega)
    have hgm : g * W + W ≤ rows.length * W := by rw [← Nat.succ_mul]; exact Nat.mul_le_mul_right _ hlt
    have eg : (g : Int) * (W : Int) = ((g * W : Nat) : Int) := by rw [Int.natCast_mul]
    have hm2 : rows.length * W = W * rows.length := Nat.mul_comm _ _
    rw [eg, Int.toNat_natCast]
    refine ⟨by omega, by simp only [fits]; omega, by omega, by omega, by simp only [fits]; omega, g + 1, hlt, by omega, by omega, rfl, rfl, copy_made hr rfl hlt, by (repeat' (first | exact trivial | exact rfl | apply And.intro))⟩
  · have hge : ¬ g < rows.length := by simpa using hge
    have hg : g ≤ rows.length := hg
    have e : g = rows.length := by omega
    subst e
    exact ⟨rfl, rfl, rfl, made_all _ _, trivial⟩
theorem so40h : Sp1 40 sp40h := by
  refine ⟨fun vs ps r h hp => ?_, so40.2⟩
  simp only [sp40h] at h
  split at h
  · cases h
    exact fn40h _ _ _ _ _ (hp _ (.head _)) (hp _ (.tail _ (.head _))) (hp _ (.tail _ (.tail _ (.head _))))
  · cases h
theorem fn8h (nm : List UInt8) (w h : Int) (s : List Nat) (hl : s.length ≤ 1000000) : Fn P1 gl1 8 [picV nm w h s] (.val (picV nm w h s)) true := by
  refine fn_ofr false [(34, sp34)] [] h0 0 Proofs.Try.f8 ⟨so34, trivial⟩ trivial (by kernel_rfl) rfl (by kernel_rfl) rfl rfl rfl ?_
  rw [vc8h]
  try simp only [splitB_iff, -eq_self]
  exact ⟨hl, rfl, rfl, rfl, rfl, trivial⟩
theorem so8h : Sp1 8 sp8h := by
  refine ⟨fun vs ps r h hp => ?_, so8.2⟩
  simp only [sp8h] at h
  split at h
  · cases h
    exact fn8h _ _ _ _ (hp _ (.head _))
  · cases h
theorem fst2 {a b : Int} (ha : a = 0) (hb : b = 0) : (first [a, b] != 0) = false := by subst ha; subst hb; rfl
theorem no {b : Bool} (h : b = false) {p : Prop} : b = true → p := fun e => by rw [h] at e; cases e
theorem ok_at {s : List Nat} (h : OkS s) {i : Nat} (hi : i < s.length) : chkS (List.getD s i 0) = 0 := h _ (getD_mem' hi)
theorem evI_len (w h : Int) (s : List Nat) (f : Int) : (evI w h s f).length = ((h - f + 1) / 2).toNat := by unfold evI; rw [tab_len]
theorem ev_ok {w h : Int} {s : List Nat} {f : Int} (hw : 0 ≤ w) (hf : 0 ≤ f) (hl : h * w ≤ (s.length : Int)) : RowsOk w.toNat (evI w h s f) := rowsOk_tab fun i hi => rowI_len hw (by omega) (rowEnd (h := h) (by omega) hw hl)
theorem row0 {W : Nat} {rows : List (List Nat)} (h : RowsOk W rows) (hn : 0 < rows.length) : (List.getD rows 0 []).length = W := h _ (getD_mem' hn)
theorem fn14 (nm : List UInt8) (w h : Int) (s : List Nat) (hl : s.length ≤ 1000000) (hc : chkPic nm w h s = 0) (h2 : 2 ≤ h) : Fn P1 gl1 14 [picV nm w h s] (.tup [.agg [.arr 2 pcT [fldP nm w h s 0, fldP nm w h s 1]], iV 0]) false := by
  refine fn_of false [(29, sp29), (43, sp43), (28, sp28), (46, sp46), (40, sp40h)] [] h7 0 Proofs.Try.f14 ⟨so29, so43, so28, so46, so40h, trivial⟩ trivial (by kernel_rfl) rfl (by kernel_rfl) rfl rfl rfl ?_
  rw [vc14]
  try simp only [splitB_iff, -eq_self]
  obtain ⟨k1, k2, k3, k4, k5⟩ := chkPic_zero.1 hc
  have hm : h * w ≤ (s.length : Int) := by rw [k4, Int.mul_comm]; exact Int.le_refl _
  have e1 : whenE (h == 1) 16 = 0 := by
    have : (h == 1) = false := by simp; omega
    rw [this]; rfl
  have a0 := ev_ok (w := w) (h := h) (s := s) (f := 0) (by omega) (by omega) hm
  have a1 := ev_ok (w := w) (h := h) (s := s) (f := 1) (by omega) (by omega) hm
  have l0 := evI_len w h s 0
  have l1 := evI_len w h s 1
  have f0 : ((h - 0 + 1) / 2).toNat = ((h + 1) / 2).toNat := by rw [Int.sub_zero]
  have r0 := row0 a0 (by omega)
  have r1 := row0 a1 (by omega)
  rw [r0, r1]
  refine ⟨hl, by omega, no (fst2 hc e1), fun _ => ⟨by omega, by omega, by omega, hm, by omega, a0, by omega, by omega, by omega, by omega, hm, by omega, a1, by omega, ?_, rfl, trivial⟩⟩
  unfold fldP
  rw [l0, l1]
  have q1 : ((w.toNat : Nat) : Int) = w := Int.toNat_of_nonneg (by omega)
  have q2 : ((((h - 0 + 1) / 2).toNat : Nat) : Int) = (h - 0 + 1) / 2 := Int.toNat_of_nonneg (by omega)
  have q3 : ((((h - 1 + 1) / 2).toNat : Nat) : Int) = (h - 1 + 1) / 2 := Int.toNat_of_nonneg (by omega)
  rw [q1, q2, q3]
theorem so14_ : SpecOk P1 gl1 14 sp14 := by
  intro vs ps r h hp
  simp only [sp14] at h
  split at h
  · cases h; exact fn14 _ _ _ _ (hp _ (.head _)) (hp _ (.tail _ (.head _))) (hp _ (.tail _ (.tail _ (.head _))))
  · cases h
theorem so14 : Sp1 14 sp14 := ⟨so14_, Proofs.Try.f14, _, by kernel_rfl, rfl, by kernel_rfl⟩
end Go.Sx

namespace Go.Sx.U
def sum (f d : Int) (s : List Int) : Int := s.foldl (fun x b => (f * x + b) % d) 1
def word (n : Int) : List Int := [n / 256 % 256, n % 256]
def long (n : Int) : List Int := word (n / 65536) ++ word n
def nz (b : Nat) : Nat := if six b = 0 then 0 else b
def packH (nm : List UInt8) (w h : Int) : List Int := [80, 73, 67, 84] ++ [(nm.length : Int) % 256] ++ strNs nm ++ [w % 256, h % 256]
def packS (s : List Nat) : List Int := (s.map fun b => long (nz b : Int)).flatten
def packD (nm : List UInt8) (w h : Int) (s : List Nat) : List Int := packH nm w h ++ packS s
def packL (nm : List UInt8) (w h : Int) (s : List Nat) : List Int := packD nm w h s ++ long (sum 263 16777183 (packD nm w h s))
def crv0 : List (Int × Int) := [(0, 0), (64, 128)]
def roundI2 (a d : Int) : Int := (2 * a + d) / (2 * d)
def valC (n : Int) : Int := if n ≤ 0 then 0 else if n ≤ 64 then 0 + roundI2 (128 * n) 64 else 128
def appL (s : List Nat) : List Nat := s.map fun b => smp (valC (six b))
def Wd (s : List Nat) : Prop := ∀ b ∈ s, b < 4294967296
end Go.Sx.U
namespace Go.Sx
open U
abbrev ptT : Ty := .pair (.int .i64) (.int .i64)
def h76 : Hints := ⟨fun f k s => match f, k with
  | 76, 3 => match listOf s 10, lookT s.tm 1, lookT s.tm 2 with
    | some ⟨.int .u8, xs⟩, some (.val (.one (.int .i64 fa))), some (.val (.one (.int .i64 d))) => some ⟨Nat, fun i => s.at [10, 11, 1, 2] [tI 12 i, tI 7 (sum fa d (List.take i xs))], fun i => i ≤ List.length xs, fun i => List.length xs - i⟩
    | _, _, _ => none
  | 17, 8 => match lookO s.ob 0 with
    | some (.box [.one (.str nm), .one (.int .i64 w), .one (.int .i64 h), .one (.sl (.flt .f32) xs)]) => some ⟨Nat, fun i => ⟨[tI 38 i, (5, .val (.one (.own s.nx)))] ++ keepT [36, 37] s.tm, (s.nx, some (.row (.int .u8) (packH nm w h ++ packS (List.take i xs)))) :: lessO s [5], s.nx + 1, s.lr⟩, fun i => i ≤ List.length xs, fun i => List.length xs - i⟩
    | _ => none
  | _, _ => none, 0⟩
def h66 : Hints := ⟨fun f k s => match f, k with
  | 66, 2 => hFirst 5 6 7 s
  | _, _ => none, 0⟩
def h26 : Hints := ⟨fun f k s => match f, k with
  | 85, 3 => hMapG (.flt .f32) (.flt .f32) (fun b => smp (valC (six b))) 8 10 5 [1, 9] s
  | _, _ => none, 0⟩
def q0 : List Nat := [1065353216, 1073741824, 1077936128, 1082130432]
def h6 : Hints := ⟨fun f k s => match f, k with
  | 6, 1000002 => match lookT s.tm 1 with
    | some (.val (.one (.ptr b 0))) => some ⟨List Nat, fun q => ⟨keepT [1] s.tm, [(b, some (.box [.one (.str [112]), .one (.int .i64 2), .one (.int .i64 2), .one (.sl (.flt .f32) q)]))], s.nx, s.lr⟩, fun q => q = q0, fun _ => 0⟩
    | _ => none
  | _, _ => none, 0⟩
def sp67 : FSpec := ⟨fun vs => match vs with
  | [.one (.sl (.pair (.int .i64) (.int .i64)) c)] => if (show List (Int × Int) from c) = crv0 then some ([], .val (iV 0)) else none
  | _ => none, true⟩
def sp69 : FSpec := ⟨fun vs => match vs with
  | [.one (.sl (.pair (.int .i64) (.int .i64)) c), .one (.int .i64 n)] => if (show List (Int × Int) from c) = crv0 then some ([-20000 ≤ n ∧ n ≤ 20000], .val (iV (valC n))) else none
  | _ => none, true⟩
def sp26 : FSpec := ⟨fun vs => match vs with
  | [.one (.sl (.pair (.int .i64) (.int .i64)) c), .agg [.one (.str nm), .one (.int .i64 w), .one (.int .i64 h), .one (.sl (.flt .f32) s)]] => if (show List (Int × Int) from c) = crv0 then some ([List.length s ≤ 1000000, chkPic nm w h s = 0], .tup [picV nm w h (appL s), iV 0]) else none
  | _ => none, true⟩
@[reducible] noncomputable def fb47 : Nat × Func := (47, Proofs.Try.f47)
@[reducible] noncomputable def fb75 : Nat × Func := (75, Proofs.Try.f75)
@[reducible] noncomputable def fb49 : Nat × Func := (49, Proofs.Try.f49)
@[reducible] noncomputable def fb97 : Nat × Func := (97, Proofs.Try.f97)
@[reducible] noncomputable def fb96 : Nat × Func := (96, Proofs.Try.f96)
@[reducible] noncomputable def fb68 : Nat × Func := (68, Proofs.Try.f68)
@[reducible] noncomputable def fb86 : Nat × Func := (86, Proofs.Try.f86)
@[reducible] noncomputable def fb85 : Nat × Func := (85, Proofs.Try.f85)
end Go.Sx
namespace Go.Sx
open U
def sp76 : FSpec := ⟨fun vs => match vs with
  | [.one (.sl (.int .u8) xs), .one (.int .i64 f), .one (.int .i64 d)] => some ([List.length xs ≤ 1000000000, Bytes xs, 0 ≤ f ∧ f ≤ 1000, 1 < d ∧ d ≤ 1000000000], .val (iV (sum f d xs)))
  | _ => none, true⟩
def sp17 : FSpec := ⟨fun vs => match vs with
  | [.agg [.one (.str nm), .one (.int .i64 w), .one (.int .i64 h), .one (.sl (.flt .f32) s)]] => some ([List.length s ≤ 1000000, chkPic nm w h s = 0, Wd s], .tup [.one (.frs (.int .u8) (packL nm w h s)), iV 0])
  | _ => none, true⟩
def sp83 : FSpec := ⟨fun vs => match vs with
  | [.one (.bool b), .one (.int .i64 e)] => some ([], .val (iV (whenE b e)))
  | _ => none, true⟩
def sp66 : FSpec := ⟨fun vs => match vs with
  | [.one (.sl (.int .i64) xs)] => some ([List.length xs ≤ 1000000000], .val (iV (first xs)))
  | _ => none, true⟩
def sp84 : FSpec := ⟨fun vs => match vs with
  | [.one (.int .i64 n)] => some ([], .val (iV (within n (-16384) 16384)))
  | _ => none, true⟩
def sp89 : FSpec := ⟨fun vs => match vs with
  | [.one (.int .i64 a), .one (.int .i64 d)] => some ([-1000000000 ≤ a ∧ a ≤ 1000000000, 0 < d ∧ d ≤ 1000000000], .val (iV (roundI2 a d)))
  | _ => none, true⟩
def sp88 : FSpec := ⟨fun vs => match vs with
  | [.one (.flt .f32 b)] => some ([chkS b = 0], .val (iV (six b)))
  | _ => none, true⟩
def sp87 : FSpec := ⟨fun vs => match vs with
  | [.one (.int .i64 n)] => some ([-8388608 ≤ n ∧ n ≤ 8388608], .val (fV (smp n)))
  | _ => none, true⟩
def sp6 : FSpec := ⟨fun vs => match vs with
  | [] => some ([], .val (bV true))
  | _ => none, true⟩
end Go.Sx

namespace Go.Sx
open U
theorem vc76 (xs : List Int) (f d : Int) : exF (env false [] []) h76 0 76 Proofs.Try.f76 [.one (.sl (.int .u8) xs), iV f, iV d] (.val (iV (sum f d xs))) = (let q0 := (↑(List.length xs) : Int); (∃ (g : Nat), Nat.le g (List.length xs) ∧ (0 : Int) = (↑g : Int) ∧ (1 : Int) = sum f d (List.take g xs) ∧ q0 = q0 ∧ xs = xs ∧ f = f ∧ d = d ∧ True) ∧ ∀ (g : Nat), let q1 := (f * sum f d (List.take g xs) + List.getD xs g (0 : Int)); Nat.le g (List.length xs) → splitB (decide ((↑g : Int) < q0)) (((0 : Int) ≤ (↑g : Int) ∧ (↑g : Int) < q0) ∧ fits IntKind.i64 (f * sum f d (List.take g xs)) ∧ fits IntKind.i64 (List.getD xs g (0 : Int)) ∧ fits IntKind.i64 q1 ∧ ((0 : Int) ≤ f * sum f d (List.take g xs) + List.getD xs g (0 : Int) ∧ (0 : Int) < d) ∧ fits IntKind.i64 ((↑g : Int) + (1 : Int)) ∧ ∃ (g' : Nat), Nat.le g' (List.length xs) ∧ List.length xs - g' < List.length xs - g ∧ (↑g : Int) + (1 : Int) = (↑g' : Int) ∧ q1 % d = sum f d (List.take g' xs) ∧ q0 = q0 ∧ xs = xs ∧ f = f ∧ d = d ∧ True) (sum f d (List.take g xs) = sum f d xs ∧ True)) := by
  kernel_rfl
theorem vc17 (nm : List UInt8) (w h : Int) (s : List Nat) : exF (env false [(29, sp29), (76, sp76)] [fb47, fb75, fb49]) h76 3 17 Proofs.Try.f17 [picV nm w h s] (.tup [.one (.frs (.int .u8) (packL nm w h s)), iV 0]) = (let q1 := ((0 : Int) ≤ (8 : Int) ∧ (8 : Nat) ≤ IntKind.bits IntKind.i64); let q3 := (↑(List.length nm) : Int); let q9 := (List.length s); let q4 := (↑q9 : Int); let q5 := ((0 : Int) ≤ (16 : Int) ∧ (16 : Nat) ≤ IntKind.bits IntKind.i64); let q6 := (16777183 : Int); List.length s ≤ (1000000 : Nat) ∧ splitB (chkPic nm w h s != (0 : Int)) (packL nm w h s = [] ∧ chkPic nm w h s = (0 : Int) ∧ True) ((0 : Nat) < (4 : Nat) ∧ room (5 : Nat) (1 : Nat) ∧ room (List.length ([(80 : Int), (73 : Int), (67 : Int), (84 : Int)] ++ [q3 % (256 : Int)]) + List.length nm) (1 : Nat) ∧ room (List.length ([(80 : Int), (73 : Int), (67 : Int), (84 : Int)] ++ [q3 % (256 : Int)] ++ strNs nm) + (2 : Nat)) (1 : Nat) ∧ (∃ (g : Nat), Nat.le g q9 ∧ (0 : Int) = (↑g : Int) ∧ q4 = q4 ∧ s = s ∧ [(80 : Int), (73 : Int), (67 : Int), (84 : Int)] ++ [q3 % (256 : Int)] ++ strNs nm ++ [w % (256 : Int), h % (256 : Int)] = packH nm w h ++ packS (List.take g s) ∧ [w % (256 : Int), h % (256 : Int)] = [w % (256 : Int), h % (256 : Int)] ∧ [q3 % (256 : Int)] = [q3 % (256 : Int)] ∧ nm = nm ∧ w = w ∧ h = h ∧ s = s ∧ True) ∧ ∀ (g : Nat), let q7 := (List.take g s); let q0 := (packH nm w h ++ packS q7); let q2 := (↑(List.getD s g (0 : Nat)) : Int); let q8 := (List.length q0 + (2 : Nat)); Nat.le g q9 → splitB (decide ((↑g : Int) < q4)) (((0 : Int) ≤ (↑g : Int) ∧ (↑g : Int) < q4) ∧ splitB (Ieee.Format.order (FloatKind.format FloatKind.f32) (List.getD s g (0 : Nat)) (0 : Nat) == some Ordering.eq) (fits IntKind.i64 (0 : Int) ∧ q5 ∧ q1 ∧ room q8 (1 : Nat) ∧ q1 ∧ room (List.length (packH nm w h ++ packS q7 ++ [(0 / 65536 : Int) / (256 : Int) % (256 : Int), (0 / 65536 : Int) % (256 : Int)]) + (2 : Nat)) (1 : Nat) ∧ fits IntKind.i64 ((↑g : Int) + (1 : Int)) ∧ ∃ (g' : Nat), Nat.le g' q9 ∧ List.length s - g' < List.length s - g ∧ (↑g : Int) + (1 : Int) = (↑g' : Int) ∧ q4 = q4 ∧ s = s ∧ packH nm w h ++ packS q7 ++ [(0 / 65536 : Int) / (256 : Int) % (256 : Int), (0 / 65536 : Int) % (256 : Int)] ++ [(0 / 256 : Int) % (256 : Int), (0 : Int) % (256 : Int)] = packH nm w h ++ packS (List.take g' s) ∧ [w % (256 : Int), h % (256 : Int)] = [w % (256 : Int), h % (256 : Int)] ∧ [q3 % (256 : Int)] = [q3 % (256 : Int)] ∧ nm = nm ∧ w = w ∧ h = h ∧ s = s ∧ True) (fits IntKind.i64 q2 ∧ q5 ∧ q1 ∧ room q8 (1 : Nat) ∧ q1 ∧ room (List.length (packH nm w h ++ packS q7 ++ [q2 / (65536 : Int) / (256 : Int) % (256 : Int), q2 / (65536 : Int) % (256 : Int)]) + (2 : Nat)) (1 : Nat) ∧ fits IntKind.i64 ((↑g : Int) + (1 : Int)) ∧ ∃ (g' : Nat), Nat.le g' q9 ∧ List.length s - g' < List.length s - g ∧ (↑g : Int) + (1 : Int) = (↑g' : Int) ∧ q4 = q4 ∧ s = s ∧ packH nm w h ++ packS q7 ++ [q2 / (65536 : Int) / (256 : Int) % (256 : Int), q2 / (65536 : Int) % (256 : Int)] ++ [q2 / (256 : Int) % (256 : Int), q2 % (256 : Int)] = packH nm w h ++ packS (List.take g' s) ∧ [w % (256 : Int), h % (256 : Int)] = [w % (256 : Int), h % (256 : Int)] ∧ [q3 % (256 : Int)] = [q3 % (256 : Int)] ∧ nm = nm ∧ w = w ∧ h = h ∧ s = s ∧ True)) (List.length q0 ≤ (1000000000 : Nat) ∧ Bytes q0 ∧ ((0 : Int) ≤ (263 : Int) ∧ (263 : Int) ≤ (1000 : Int)) ∧ ((1 : Int) < q6 ∧ q6 ≤ (1000000000 : Int)) ∧ q5 ∧ q1 ∧ room q8 (1 : Nat) ∧ q1 ∧ room (List.length (packH nm w h ++ packS q7 ++ [sum (263 : Int) q6 q0 / (65536 : Int) / (256 : Int) % (256 : Int), sum (263 : Int) q6 q0 / (65536 : Int) % (256 : Int)]) + (2 : Nat)) (1 : Nat) ∧ packH nm w h ++ packS q7 ++ [sum (263 : Int) q6 q0 / (65536 : Int) / (256 : Int) % (256 : Int), sum (263 : Int) q6 q0 / (65536 : Int) % (256 : Int)] ++ [sum (263 : Int) q6 q0 / (256 : Int) % (256 : Int), sum (263 : Int) q6 q0 % (256 : Int)] = packL nm w h s ∧ (0 : Int) = (0 : Int) ∧ True))) := by
  kernel_rfl
theorem vc83 (b : Bool) (e : Int) : exF (env false [] []) h0 0 83 Proofs.Try.f83 [bV b, iV e] (.val (iV (whenE b e))) = (splitB b (e = whenE b e ∧ True) ((0 : Int) = whenE b e ∧ True)) := by
  kernel_rfl
theorem vc66 (xs : List Int) : exF (env false [] []) h66 0 66 Proofs.Try.f66 [.one (.sl (.int .i64) xs)] (.val (iV (first xs))) = (let q0 := (↑(List.length xs) : Int); (∃ (g : Nat), (g ≤ List.length xs ∧ first xs = first (List.drop g xs)) ∧ (0 : Int) = (↑g : Int) ∧ q0 = q0 ∧ xs = xs ∧ True) ∧ ∀ (g : Nat), g ≤ List.length xs ∧ first xs = first (List.drop g xs) → splitB (decide ((↑g : Int) < q0)) (((0 : Int) ≤ (↑g : Int) ∧ (↑g : Int) < q0) ∧ splitB (List.getD xs g (0 : Int) != (0 : Int)) (List.getD xs g (0 : Int) = first xs ∧ True) (fits IntKind.i64 ((↑g : Int) + (1 : Int)) ∧ ∃ (g' : Nat), (g' ≤ List.length xs ∧ first xs = first (List.drop g' xs)) ∧ List.length xs - g' < List.length xs - g ∧ (↑g : Int) + (1 : Int) = (↑g' : Int) ∧ q0 = q0 ∧ xs = xs ∧ True)) ((0 : Int) = first xs ∧ True)) := by
  kernel_rfl
theorem vc84 (n : Int) : exF (env false [(83, sp83)] [fb96]) h0 3 84 Proofs.Try.f84 [iV n] (.val (iV (within n (-16384) 16384))) = (whenE (bif decide (n < (-16384 : Int)) then true else decide ((16384 : Int) < n)) (3 : Int) = within n (-16384 : Int) (16384 : Int) ∧ True) := by
  kernel_rfl
theorem vc67 (_u : Unit) : exF (env false [(83, sp83), (66, sp66), (84, sp84)] []) (hu 4) 0 67 Proofs.Try.f67 [.one (.sl ptT [(0, 0), (64, 128)])] (.val (iV 0)) = ((2 : Nat) ≤ (1000000000 : Nat) ∧ ((0 : Int) ≤ (0 : Int) ∧ (0 : Int) < (2 : Int)) ∧ fits IntKind.i64 (-1 : Int) ∧ ((0 : Int) ≤ max (0 : Int) (-1 : Int) ∧ max (0 : Int) (-1 : Int) < (2 : Int)) ∧ (3 : Nat) ≤ (1000000000 : Nat) ∧ fits IntKind.i64 (1 : Int) ∧ ((0 : Int) ≤ (1 : Int) ∧ (1 : Int) < (2 : Int)) ∧ fits IntKind.i64 (0 : Int) ∧ ((0 : Int) ≤ max (0 : Int) (0 : Int) ∧ max (0 : Int) (0 : Int) < (2 : Int)) ∧ (3 : Nat) ≤ (1000000000 : Nat) ∧ fits IntKind.i64 (2 : Int) ∧ (0 : Int) = (0 : Int) ∧ True) := by
  kernel_rfl
theorem vc89 (a d : Int) : exF (env true [] [fb97]) h0 3 89 Proofs.Try.f89 [iV a, iV d] (.val (iV (roundI2 a d))) = (let q2 := (IntKind.wrap IntKind.i64 ((2 : Int) * a) + d); let q0 := (IntKind.wrap IntKind.i64 q2); let q1 := (IntKind.wrap IntKind.i64 ((2 : Int) * d)); (IntKind.wrap IntKind.i64 ((2 : Int) * d) ≠ (0 : Int) ∧ fits IntKind.i64 (Int.tdiv q0 q1)) ∧ splitB (decide (IntKind.wrap IntKind.i64 q2 < IntKind.wrap IntKind.i64 (Int.tdiv q0 q1 * IntKind.wrap IntKind.i64 ((2 : Int) * d)))) (IntKind.wrap IntKind.i64 (Int.tdiv q0 q1 - (1 : Int)) = roundI2 a d ∧ True) (Int.tdiv q0 q1 = roundI2 a d ∧ True)) := by
  kernel_rfl
theorem vc88 (b : Nat) : exF (env false [] []) h0 0 88 Proofs.Try.f88 [fV b] (.val (iV (six b))) = (Option.isSome (Ieee.Format.mul (FloatKind.format FloatKind.f32) (1098907648 : Nat) b) = true ∧ (Option.isSome (Ieee.Datum.toInt Ieee.Toward.zero (FloatKind.decode FloatKind.f32 (Option.getD (Ieee.Format.mul (FloatKind.format FloatKind.f32) (1098907648 : Nat) b) (0 : Nat)))) = true ∧ IntKind.min IntKind.i64 ≤ Option.getD (Ieee.Datum.toInt Ieee.Toward.zero (FloatKind.decode FloatKind.f32 (Option.getD (Ieee.Format.mul (FloatKind.format FloatKind.f32) (1098907648 : Nat) b) (0 : Nat)))) (0 : Int) ∧ Option.getD (Ieee.Datum.toInt Ieee.Toward.zero (FloatKind.decode FloatKind.f32 (Option.getD (Ieee.Format.mul (FloatKind.format FloatKind.f32) (1098907648 : Nat) b) (0 : Nat)))) (0 : Int) ≤ IntKind.max IntKind.i64) ∧ Option.getD (Ieee.Datum.toInt Ieee.Toward.zero (FloatKind.decode FloatKind.f32 (Option.getD (Ieee.Format.mul (FloatKind.format FloatKind.f32) (1098907648 : Nat) b) (0 : Nat)))) (0 : Int) = six b ∧ True) := by
  kernel_rfl
theorem vc87 (n : Int) : exF (env false [] []) h0 0 87 Proofs.Try.f87 [iV n] (.val (fV (smp n))) = (Option.isSome (Ieee.Format.div (FloatKind.format FloatKind.f32) (FloatKind.nearest FloatKind.f32 n) (1098907648 : Nat)) = true ∧ Option.getD (Ieee.Format.div (FloatKind.format FloatKind.f32) (FloatKind.nearest FloatKind.f32 n) (1098907648 : Nat)) (0 : Nat) = smp n ∧ True) := by
  kernel_rfl
theorem vc69 (n : Int) : exF (env false [(89, sp89)] []) (hu 4) 0 69 Proofs.Try.f69 [.one (.sl ptT [(0, 0), (64, 128)]), iV n] (.val (iV (valC n))) = (let q0 := (List.getD [((0 : Int), (0 : Int)), ((64 : Int), (128 : Int))] (Int.toNat (-1 : Int)) ((0 : Int), (0 : Int))); let q1 := ((0 : Int) ≤ (0 : Int) ∧ (0 : Int) < (2 : Int)); let q2 := ((0 : Int) - q0.2); let q3 := (n - (0 : Int)); let q4 := ((0 : Int) ≤ (1 : Int) ∧ (1 : Int) < (2 : Int)); let q5 := (1000000000 : Int); q1 ∧ splitB (decide (n ≤ (0 : Int))) (q1 ∧ (0 : Int) = valC n ∧ True) (q1 ∧ splitB (decide (n ≤ (0 : Int))) (fits IntKind.i64 (-1 : Int) ∧ ((0 : Int) ≤ (-1 : Int) ∧ (-1 : Int) < (2 : Int)) ∧ fits IntKind.i64 q2 ∧ fits IntKind.i64 (n - q0.1) ∧ fits IntKind.i64 (q2 * (n - q0.1)) ∧ fits IntKind.i64 ((0 : Int) - q0.1) ∧ ((-1000000000 : Int) ≤ q2 * (n - q0.1) ∧ q2 * (n - q0.1) ≤ q5) ∧ ((0 : Int) < (0 : Int) - q0.1 ∧ (0 : Int) - q0.1 ≤ q5) ∧ fits IntKind.i64 (q0.2 + roundI2 (q2 * (n - q0.1)) ((0 : Int) - q0.1)) ∧ q0.2 + roundI2 (q2 * (n - q0.1)) ((0 : Int) - q0.1) = valC n ∧ True) (fits IntKind.i64 (1 : Int) ∧ q4 ∧ splitB (decide (n ≤ (64 : Int))) (fits IntKind.i64 (0 : Int) ∧ q1 ∧ fits IntKind.i64 (128 : Int) ∧ fits IntKind.i64 q3 ∧ fits IntKind.i64 ((128 : Int) * q3) ∧ fits IntKind.i64 (64 : Int) ∧ ((-1000000000 : Int) ≤ (128 : Int) * q3 ∧ (128 : Int) * q3 ≤ q5) ∧ ((0 : Int) < (64 : Int) ∧ (64 : Int) ≤ q5) ∧ fits IntKind.i64 ((0 : Int) + roundI2 ((128 : Int) * q3) (64 : Int)) ∧ (0 : Int) + roundI2 ((128 : Int) * q3) (64 : Int) = valC n ∧ True) (fits IntKind.i64 (2 : Int) ∧ fits IntKind.i64 (1 : Int) ∧ q4 ∧ (128 : Int) = valC n ∧ True)))) := by
  kernel_rfl
theorem vc26 (nm : List UInt8) (w h : Int) (s : List Nat) : exFr (env false [(67, sp67), (29, sp29), (66, sp66), (88, sp88), (87, sp87), (69, sp69)] [fb68, fb86, fb85]) h26 3 26 Proofs.Try.f26 [.one (.sl ptT [(0, 0), (64, 128)]), picV nm w h s] (.tup [picV nm w h (appL s), iV 0]) = (let q1 := (↑(List.length s) : Int); let q2 := ((64 : Int), (128 : Int)); let q3 := ((0 : Int), (0 : Int)); List.length s ≤ (1000000 : Nat) ∧ (2 : Nat) ≤ (1000000000 : Nat) ∧ splitB (first [(0 : Int), chkPic nm w h s] != (0 : Int)) ([] = nm ∧ (0 : Int) = w ∧ (0 : Int) = h ∧ appL s = [] ∧ first [(0 : Int), chkPic nm w h s] = (0 : Int) ∧ True) ((∃ (g : Nat), Nat.le g (List.length s) ∧ (0 : Int) = (↑g : Int) ∧ q1 = q1 ∧ s = s ∧ List.map (fun (b : Nat) => smp (valC (six b))) (List.take g s) = [] ∧ nilB = [] ∧ (0 : Int) = (0 : Int) ∧ (0 : Int) = (0 : Int) ∧ [q3, q2] = [q3, q2] ∧ nm = nm ∧ w = w ∧ h = h ∧ s = s ∧ [(0 : Int), chkPic nm w h s] = [(0 : Int), chkPic nm w h s] ∧ nilB = [] ∧ (0 : Int) = (0 : Int) ∧ (0 : Int) = (0 : Int) ∧ nm = nm ∧ w = w ∧ h = h ∧ s = s ∧ True) ∧ ∀ (g : Nat), let q0 := (List.getD s g (0 : Nat)); Nat.le g (List.length s) → splitB (decide ((↑g : Int) < q1)) (((0 : Int) ≤ (↑g : Int) ∧ (↑g : Int) < q1) ∧ chkS q0 = (0 : Int) ∧ ((-20000 : Int) ≤ six q0 ∧ six q0 ≤ (20000 : Int)) ∧ ((-8388608 : Int) ≤ valC (six q0) ∧ valC (six q0) ≤ (8388608 : Int)) ∧ room (List.length (List.map (fun (b : Nat) => smp (valC (six b))) (List.take g s)) + (1 : Nat)) (4 : Nat) ∧ fits IntKind.i64 ((↑g : Int) + (1 : Int)) ∧ ∃ (g' : Nat), Nat.le g' (List.length s) ∧ List.length s - g' < List.length s - g ∧ (↑g : Int) + (1 : Int) = (↑g' : Int) ∧ q1 = q1 ∧ s = s ∧ List.map (fun (b : Nat) => smp (valC (six b))) (List.take g s) ++ [smp (valC (six q0))] = List.map (fun (b : Nat) => smp (valC (six b))) (List.take g' s) ∧ nilB = [] ∧ (0 : Int) = (0 : Int) ∧ (0 : Int) = (0 : Int) ∧ [q3, q2] = [q3, q2] ∧ nm = nm ∧ w = w ∧ h = h ∧ s = s ∧ [(0 : Int), chkPic nm w h s] = [(0 : Int), chkPic nm w h s] ∧ nilB = [] ∧ (0 : Int) = (0 : Int) ∧ (0 : Int) = (0 : Int) ∧ nm = nm ∧ w = w ∧ h = h ∧ s = s ∧ True) (nm = nm ∧ w = w ∧ h = h ∧ List.map (fun (b : Nat) => smp (valC (six b))) (List.take g s) = appL s ∧ (0 : Int) = (0 : Int) ∧ True))) := by
  kernel_rfl
theorem vc6 (_u : Unit) : exF (env false [(14, sp14), (17, sp17), (26, sp26), (27, sp27)] []) h6 0 6 Proofs.Try.f6 [] (.val (bV true)) = ((∃ (g : List Nat), g = [(1065353216 : Nat), (1073741824 : Nat), (1077936128 : Nat), (1082130432 : Nat)] ∧ Array.toList (ByteArray.data { data := #[(112 : UInt8)] }) = [(112 : UInt8)] ∧ (2 : Int) = (2 : Int) ∧ (2 : Int) = (2 : Int) ∧ [(1065353216 : Nat), (1073741824 : Nat), (1077936128 : Nat), (1082130432 : Nat)] = g ∧ True) ∧ ∀ (g : List Nat), g = [(1065353216 : Nat), (1073741824 : Nat), (1077936128 : Nat), (1082130432 : Nat)] → List.length g ≤ (1000000 : Nat) ∧ chkPic [(112 : UInt8)] (2 : Int) (2 : Int) g = (0 : Int) ∧ (2 : Int) ≤ (2 : Int) ∧ List.length g ≤ (1000000 : Nat) ∧ chkPic [(112 : UInt8)] (2 : Int) (2 : Int) g = (0 : Int) ∧ Wd g ∧ List.length g ≤ (1000000 : Nat) ∧ chkPic [(112 : UInt8)] (2 : Int) (2 : Int) g = (0 : Int) ∧ ((bif bif (0 : Int) == (0 : Int) then (0 : Int) == (0 : Int) else false then (0 : Int) == (0 : Int) else false) = true → (0 : Int) ≤ (1 : Int) ∧ (1 : Int) < (2 : Int)) ∧ ((bif bif (0 : Int) == (0 : Int) then (0 : Int) == (0 : Int) else false then (0 : Int) == (0 : Int) else false) = true → (1 : Nat) < (2 : Nat)) ∧ ((bif bif (0 : Int) == (0 : Int) then (0 : Int) == (0 : Int) else false then (0 : Int) == (0 : Int) else false) = true → List.length (Prod.snd (Prod.snd (Prod.snd (fldP [(112 : UInt8)] (2 : Int) (2 : Int) g (1 : Int))))) ≤ (1000000000 : Nat)) ∧ ((bif bif bif bif (0 : Int) == (0 : Int) then (0 : Int) == (0 : Int) else false then (0 : Int) == (0 : Int) else false then sameS (Prod.snd (Prod.snd (Prod.snd (fldP [(112 : UInt8)] (2 : Int) (2 : Int) g (1 : Int))))) [(1077936128 : Nat), (1082130432 : Nat)] else false then (↑(List.length (packL [(112 : UInt8)] (2 : Int) (2 : Int) g)) : Int) == (28 : Int) else false) = true → List.length (appL g) ≤ (1000000000 : Nat)) ∧ (bif bif bif bif bif (0 : Int) == (0 : Int) then (0 : Int) == (0 : Int) else false then (0 : Int) == (0 : Int) else false then sameS (Prod.snd (Prod.snd (Prod.snd (fldP [(112 : UInt8)] (2 : Int) (2 : Int) g (1 : Int))))) [(1077936128 : Nat), (1082130432 : Nat)] else false then (↑(List.length (packL [(112 : UInt8)] (2 : Int) (2 : Int) g)) : Int) == (28 : Int) else false then sameS (appL g) [(1073741824 : Nat), (1082130432 : Nat), (1086324736 : Nat), (1090519040 : Nat)] else false) = true ∧ True) := by
  kernel_rfl
end Go.Sx

namespace Go.Sx
open U
theorem sum_bd {f d : Int} (hd : 1 < d) : ∀ (s : List Int), 0 ≤ sum f d s ∧ sum f d s < d := by
  intro s
  have key : ∀ (s : List Int) (x : Int), 0 ≤ x ∧ x < d → 0 ≤ s.foldl (fun x b => (f * x + b) % d) x ∧ s.foldl (fun x b => (f * x + b) % d) x < d := by
    intro s
    induction s with
    | nil => intro x h; exact h
    | cons b s ih => intro x h; exact ih _ ⟨Int.emod_nonneg _ (by omega), Int.emod_lt_of_pos _ (by omega)⟩
  exact key s 1 ⟨by omega, hd⟩
theorem sum_snoc (f d : Int) (xs : List Int) (g : Nat) (h : g < xs.length) : sum f d (xs.take (g + 1)) = (f * sum f d (xs.take g) + xs[g]) % d := by
  unfold sum
  rw [List.take_succ_eq_append_getElem h, List.foldl_append]
  rfl
theorem fn76 (xs : List Int) (f d : Int) (hl : xs.length ≤ 1000000000) (hb : Bytes xs) (hf : 0 ≤ f ∧ f ≤ 1000) (hd : 1 < d ∧ d ≤ 1000000000) : Fn P1 gl1 76 [.one (.sl (.int .u8) xs), iV f, iV d] (.val (iV (sum f d xs))) true := by
  refine Fn.flat ?_ rfl
  refine fn_of false [] [] h76 0 Proofs.Try.f76 trivial trivial (by kernel_rfl) rfl (by kernel_rfl) rfl rfl rfl ?_
  rw [vc76]
  try simp only [splitB_iff, -eq_self]
  refine ⟨⟨0, Nat.zero_le _, by simp [sum]⟩, fun g hg => ⟨fun hlt => ?_, fun hge => ?_⟩⟩
  · have hlt' : g < xs.length := by simpa using hlt
    have hg' : g ≤ xs.length := hg
    rw [getD_of hlt']
    have h1 := sum_bd (f := f) hd.1 (xs.take g)
    have h2 := hb xs[g] (List.getElem_mem hlt')
    have h3 : 0 ≤ f * sum f d (xs.take g) := Int.mul_nonneg hf.1 h1.1
    have h4 : f * sum f d (xs.take g) ≤ 1000 * 1000000000 := Int.mul_le_mul hf.2 (by omega) h1.1 (by omega)
    refine ⟨by omega, by simp only [fits]; omega, by simp only [fits]; omega, by simp only [fits]; omega, by omega, by simp only [fits]; omega, g + 1, hlt', by omega, by simp, ?_, by simp⟩
    rw [sum_snoc f d xs g hlt']
  · have hge' : ¬ g < xs.length := by simpa using hge
    rw [List.take_of_length_le (by omega)]
    simp
theorem so76_ : SpecOk P1 gl1 76 sp76 := by
  intro vs ps r h hp
  simp only [sp76] at h
  split at h
  · cases h; exact fn76 _ _ _ (hp _ (.head _)) (hp _ (.tail _ (.head _))) (hp _ (.tail _ (.tail _ (.head _)))) (hp _ (.tail _ (.tail _ (.tail _ (.head _)))))
  · cases h
theorem so76 : Sp1 76 sp76 := ⟨so76_, Proofs.Try.f76, _, by kernel_rfl, rfl, by kernel_rfl⟩
theorem byApp {a b : List Int} (h : Bytes a) (k : Bytes b) : Bytes (a ++ b) := by
  intro x hx
  rcases List.mem_append.1 hx with hx | hx
  · exact h x hx
  · exact k x hx
theorem mod_byte (n : Int) : 0 ≤ n % 256 ∧ n % 256 ≤ 255 := ⟨Int.emod_nonneg _ (by decide), by have := Int.emod_lt_of_pos n (show 0 < 256 by decide); omega⟩
theorem word_bytes (n : Int) : Bytes (word n) := fun x hx => by
  simp only [word, List.mem_cons, List.not_mem_nil, or_false] at hx
  rcases hx with rfl | rfl
  · exact mod_byte _
  · exact mod_byte _
theorem long_bytes (n : Int) : Bytes (long n) := byApp (word_bytes _) (word_bytes _)
theorem long_len (n : Int) : (long n).length = 4 := rfl
theorem strNs_bytes (l : List UInt8) : Bytes (strNs l) := fun x hx => by
  obtain ⟨c, _, rfl⟩ := List.mem_map.1 hx
  have := c.toNat_lt
  omega
theorem strNs_len (l : List UInt8) : (strNs l).length = l.length := by simp [strNs]
theorem packH_bytes (nm : List UInt8) (w h : Int) : Bytes (packH nm w h) := by
  refine byApp (byApp (byApp ?_ ?_) (strNs_bytes nm)) ?_
  · intro x hx; simp only [List.mem_cons, List.not_mem_nil, or_false] at hx; rcases hx with rfl | rfl | rfl | rfl <;> decide
  · intro x hx; rw [List.mem_singleton.1 hx]; exact mod_byte _
  · intro x hx
    simp only [List.mem_cons, List.not_mem_nil, or_false] at hx
    rcases hx with rfl | rfl
    · exact mod_byte _
    · exact mod_byte _
theorem packH_len (nm : List UInt8) (w h : Int) : (packH nm w h).length = nm.length + 7 := by
  simp only [packH, List.length_append, List.length_cons, List.length_nil, strNs_len]
  omega
theorem packS_app (a b : List Nat) : packS (a ++ b) = packS a ++ packS b := by simp [packS]
theorem packS_len : ∀ (s : List Nat), (packS s).length = 4 * s.length
  | [] => rfl
  | b :: s => by
    show (long (nz b : Int) ++ packS s).length = _
    rw [List.length_append, long_len, packS_len s, List.length_cons]; omega
theorem packS_bytes (s : List Nat) : Bytes (packS s) := fun x hx => by
  obtain ⟨l, hl, hx⟩ := List.mem_flatten.1 hx
  obtain ⟨b, _, rfl⟩ := List.mem_map.1 hl
  exact long_bytes _ x hx
theorem packS_succ {s : List Nat} {g : Nat} (h : g < s.length) : packS (List.take (g + 1) s) = packS (List.take g s) ++ long (nz (List.getD s g 0) : Int) := by
  rw [List.take_succ_eq_append_getElem h, packS_app, getD_of h]
  simp [packS]
theorem packD_len (nm : List UInt8) (w h : Int) (s : List Nat) : (packD nm w h s).length = nm.length + 7 + 4 * s.length := by
  unfold packD
  rw [List.length_append, packH_len, packS_len]
theorem packL_len (nm : List UInt8) (w h : Int) (s : List Nat) : (packL nm w h s).length = nm.length + 11 + 4 * s.length := by
  unfold packL
  rw [List.length_append, packD_len, long_len]
  omega
theorem packD_bytes (nm : List UInt8) (w h : Int) (s : List Nat) : Bytes (packD nm w h s) := byApp (packH_bytes _ _ _) (packS_bytes _)
theorem packL_bytes (nm : List UInt8) (w h : Int) (s : List Nat) : Bytes (packL nm w h s) := byApp (packD_bytes _ _ _ _) (long_bytes _)
theorem zero_test {b : Nat} (h : chkS b = 0) : (Ieee.Format.order (FloatKind.format .f32) b 0 == some Ordering.eq) = decide (six b = 0) := by
  have h0 : chkS 0 = 0 := by decide +kernel
  have := eq_s (isS_chk h) (isS_chk h0)
  rw [six_zero] at this
  exact this
theorem name_len {l : List UInt8} (h : isName l = true) : 1 ≤ l.length ∧ l.length ≤ 24 := by
  unfold isName at h
  simp only [Bool.and_eq_true, decide_eq_true_eq] at h
  refine ⟨?_, h.2.2⟩
  cases l with
  | nil => exact absurd rfl h.2.1
  | cons a r => simp
theorem fn17 (nm : List UInt8) (w h : Int) (s : List Nat) (hl : s.length ≤ 1000000) (hc : chkPic nm w h s = 0) (hd : Wd s) : Fn P1 gl1 17 [picV nm w h s] (.tup [.one (.frs (.int .u8) (packL nm w h s)), iV 0]) true := by
  refine Fn.flat ?_ rfl
  refine fn_of false [(29, sp29), (76, sp76)] [fb47, fb75, fb49] h76 3 Proofs.Try.f17 ⟨so29, so76, trivial⟩ ⟨⟨by kernel_rfl, by kernel_rfl, _, rfl, by kernel_rfl⟩, ⟨by kernel_rfl, by kernel_rfl, _, rfl, by kernel_rfl⟩, ⟨by kernel_rfl, by kernel_rfl, _, rfl, by kernel_rfl⟩, trivial⟩ (by kernel_rfl) rfl (by kernel_rfl) rfl rfl rfl ?_
  rw [vc17]
  try simp only [splitB_iff, -eq_self]
  obtain ⟨c1, c2, c3, c4, c5⟩ := chkPic_zero.1 hc
  have hn := name_len c1
  have hm := mul_fits c2 c3
  have H : ∀ n : Int, [n / 65536 / 256 % 256, n / 65536 % 256] ++ [n / 256 % 256, n % 256] = long n := fun _ => rfl
  have l1 := packH_len nm w h
  refine ⟨hl, fun e => ?_, fun _ => ⟨by omega, by simp only [room]; omega, by simp only [room, List.length_append, List.length_cons, List.length_nil]; omega, by simp only [room, List.length_append, List.length_cons, List.length_nil, strNs_len]; omega, ⟨0, Nat.zero_le _, rfl, rfl, rfl, ?_, by (repeat' (first | exact trivial | exact rfl | apply And.intro))⟩, fun g hg => ⟨fun hlt => ⟨?_, fun e => ?_, fun e => ?_⟩, fun hge => ?_⟩⟩⟩
  · rw [hc] at e; cases e
  · simp [packS, packH]
  · have hlt : g < s.length := by simpa using hlt
    omega
  · have hlt : g < s.length := by simpa using hlt
    have hl2 : (packS (List.take g s)).length ≤ 4 * 4096 := by rw [packS_len, List.length_take]; omega
    rw [zero_test (ok_at c5 hlt)] at e
    have e : six (List.getD s g 0) = 0 := of_decide_eq_true e
    refine ⟨by simp only [fits]; omega, ⟨by omega, by decide⟩, ⟨by omega, by decide⟩, by simp only [room, List.length_append]; omega, ⟨by omega, by decide⟩, by simp only [room, List.length_append, List.length_cons, List.length_nil]; omega, by simp only [fits]; omega, g + 1, hlt, by omega, by omega, rfl, rfl, ?_, by (repeat' (first | exact trivial | exact rfl | apply And.intro))⟩
    rw [packS_succ hlt, show nz (List.getD s g 0) = 0 by unfold nz; rw [if_pos e], List.append_assoc, H, List.append_assoc]
    rfl
  · have hlt : g < s.length := by simpa using hlt
    have hl2 : (packS (List.take g s)).length ≤ 4 * 4096 := by rw [packS_len, List.length_take]; omega
    rw [zero_test (ok_at c5 hlt)] at e
    have e : ¬ six (List.getD s g 0) = 0 := of_decide_eq_false e
    have hb := hd _ (getD_mem' (d := 0) hlt)
    refine ⟨by simp only [fits]; omega, ⟨by omega, by decide⟩, ⟨by omega, by decide⟩, by simp only [room, List.length_append]; omega, ⟨by omega, by decide⟩, by simp only [room, List.length_append, List.length_cons, List.length_nil]; omega, by simp only [fits]; omega, g + 1, hlt, by omega, by omega, rfl, rfl, ?_, by (repeat' (first | exact trivial | exact rfl | apply And.intro))⟩
    rw [packS_succ hlt, show nz (List.getD s g 0) = List.getD s g 0 by unfold nz; rw [if_neg e], List.append_assoc, H, List.append_assoc]
  · have hge : ¬ g < s.length := by simpa using hge
    rw [List.take_of_length_le (by omega)]
    have hl2 : (packS s).length ≤ 4 * 4096 := by rw [packS_len]; omega
    refine ⟨by rw [List.length_append]; omega, packD_bytes nm w h s, by omega, by omega, ⟨by omega, by decide⟩, ⟨by omega, by decide⟩, by simp only [room, List.length_append]; omega, ⟨by omega, by decide⟩, by simp only [room, List.length_append, List.length_cons, List.length_nil]; omega, ?_, rfl, trivial⟩
    rw [List.append_assoc, H]
    rfl
theorem so17_ : SpecOk P1 gl1 17 sp17 := by
  intro vs ps r h hp
  simp only [sp17] at h
  split at h
  · cases h; exact fn17 _ _ _ _ (hp _ (.head _)) (hp _ (.tail _ (.head _))) (hp _ (.tail _ (.tail _ (.head _))))
  · cases h
theorem so17 : Sp1 17 sp17 := ⟨so17_, Proofs.Try.f17, _, by kernel_rfl, rfl, by kernel_rfl⟩
theorem fn83 (b : Bool) (e : Int)  : Fn P1 gl1 83 [bV b, iV e] (.val (iV (whenE b e))) true := by
  refine Fn.flat ?_ rfl
  refine fn_of false [] [] h0 0 Proofs.Try.f83 trivial trivial (by kernel_rfl) rfl (by kernel_rfl) rfl rfl rfl ?_
  rw [vc83]
  try simp only [splitB_iff, -eq_self]
  cases b <;> simp [whenE]
theorem so83_ : SpecOk P1 gl1 83 sp83 := by
  intro vs ps r h _
  simp only [sp83] at h
  split at h
  · cases h; exact fn83 _ _ 
  · cases h
theorem so83 : Sp1 83 sp83 := ⟨so83_, Proofs.Try.f83, _, by kernel_rfl, rfl, by kernel_rfl⟩
theorem fn66 (xs : List Int) (hl : xs.length ≤ 1000000000) : Fn P1 gl1 66 [.one (.sl (.int .i64) xs)] (.val (iV (first xs))) true := by
  refine Fn.flat ?_ rfl
  refine fn_of false [] [] h66 0 Proofs.Try.f66 trivial trivial (by kernel_rfl) rfl (by kernel_rfl) rfl rfl rfl ?_
  rw [vc66]
  try simp only [splitB_iff, -eq_self]
  refine ⟨⟨0, by simp, by simp⟩, fun g hg => ⟨fun hlt => ?_, fun hge => ?_⟩⟩
  · have hlt' : g < xs.length := by simpa using hlt
    rw [getD_of hlt', hg.2, first_drop xs g hlt']
    refine ⟨by omega, fun h => ⟨?_, trivial⟩, fun h => ⟨by simp only [fits]; omega, g + 1, ⟨by omega, ?_⟩, by omega, by simp⟩⟩
    · rw [if_neg (by simpa using h)]
    · rw [if_pos (by simpa using h)]
  · have hge' : ¬ g < xs.length := by simpa using hge
    rw [hg.2, List.drop_of_length_le (by omega)]
    simp [first]
theorem so66_ : SpecOk P1 gl1 66 sp66 := by
  intro vs ps r h hp
  simp only [sp66] at h
  split at h
  · cases h; exact fn66 _ (hp _ (.head _))
  · cases h
theorem so66 : Sp1 66 sp66 := ⟨so66_, Proofs.Try.f66, _, by kernel_rfl, rfl, by kernel_rfl⟩
theorem fn84 (n : Int)  : Fn P1 gl1 84 [iV n] (.val (iV (within n (-16384) 16384))) true := by
  refine Fn.flat ?_ rfl
  refine fn_of false [(83, sp83)] [fb96] h0 3 Proofs.Try.f84 ⟨so83, trivial⟩ ⟨⟨by kernel_rfl, by kernel_rfl, _, rfl, by kernel_rfl⟩, trivial⟩ (by kernel_rfl) rfl (by kernel_rfl) rfl rfl rfl ?_
  rw [vc84]
  try simp only [splitB_iff, -eq_self]
  unfold within
  by_cases h1 : n < -16384 <;> by_cases h2 : 16384 < n <;> simp [h1, h2, whenE]
theorem so84_ : SpecOk P1 gl1 84 sp84 := by
  intro vs ps r h _
  simp only [sp84] at h
  split at h
  · cases h; exact fn84 _ 
  · cases h
theorem so84 : Sp1 84 sp84 := ⟨so84_, Proofs.Try.f84, _, by kernel_rfl, rfl, by kernel_rfl⟩
theorem fn67   : Fn P1 gl1 67 [.one (.sl ptT [(0, 0), (64, 128)])] (.val (iV 0)) true := by
  refine Fn.flat ?_ rfl
  refine fn_of false [(83, sp83), (66, sp66), (84, sp84)] [] (hu 4) 0 Proofs.Try.f67 ⟨so83, so66, so84, trivial⟩ trivial (by kernel_rfl) rfl (by kernel_rfl) rfl rfl rfl ?_
  rw [vc67 ()]
  try simp only [splitB_iff, -eq_self]
  simp only [fits]
  decide
theorem fn89 (a d : Int) (ha : -1000000000 ≤ a ∧ a ≤ 1000000000) (hd : 0 < d ∧ d ≤ 1000000000) : Fn P1 gl1 89 [iV a, iV d] (.val (iV (roundI2 a d))) true := by
  refine Fn.flat ?_ rfl
  refine fn_of true [] [fb97] h0 3 Proofs.Try.f89 trivial ⟨⟨by kernel_rfl, by kernel_rfl, _, rfl, by kernel_rfl⟩, trivial⟩ (by kernel_rfl) rfl (by kernel_rfl) rfl rfl rfl ?_
  rw [vc89]
  try simp only [splitB_iff, -eq_self]
  have hd2 : 0 < 2 * d := by omega
  obtain ⟨t1, t2, t3, t4⟩ := tdiv_le (a := 2 * a + d) (B := 4000000000) hd2 (by omega)
  obtain ⟨f1, f2⟩ := floor_tdiv (a := 2 * a + d) hd2
  simp only [fitw (n := 2 * a) (by omega), fitw (n := 2 * d) (by omega), fitw (n := 2 * a + d) (by omega), fitw (n := (2 * a + d).tdiv (2 * d) * (2 * d)) (by omega), fitw (n := (2 * a + d).tdiv (2 * d) - 1) (by omega)]
  refine ⟨⟨by omega, by simp only [fits]; omega⟩, fun h => ?_, fun h => ?_⟩
  · exact ⟨f1 (of_decide_eq_true h), trivial⟩
  · exact ⟨f2 (of_decide_eq_false h), trivial⟩
theorem so89_ : SpecOk P1 gl1 89 sp89 := by
  intro vs ps r h hp
  simp only [sp89] at h
  split at h
  · cases h; exact fn89 _ _ (hp _ (.head _)) (hp _ (.tail _ (.head _)))
  · cases h
theorem so89 : Sp1 89 sp89 := ⟨so89_, Proofs.Try.f89, _, by kernel_rfl, rfl, by kernel_rfl⟩
theorem fn88 (b : Nat) (hb : chkS b = 0) : Fn P1 gl1 88 [fV b] (.val (iV (six b))) true := by
  refine Fn.flat ?_ rfl
  refine fn_of false [] [] h0 0 Proofs.Try.f88 trivial trivial (by kernel_rfl) rfl (by kernel_rfl) rfl rfl rfl ?_
  rw [vc88]
  try simp only [splitB_iff, -eq_self]
  obtain ⟨y, e1, e2, e3⟩ := six_step hb
  have e2' : Ieee.Datum.toInt .zero (FloatKind.decode .f32 y) = some (six b) := e2
  simp only [fmt32, e1, e2', Option.isSome_some, Option.getD_some]
  refine ⟨trivial, ⟨trivial, ?_, ?_⟩, trivial, trivial⟩
  · show (-9223372036854775808 : Int) ≤ _; omega
  · show _ ≤ (9223372036854775807 : Int); omega
theorem so88_ : SpecOk P1 gl1 88 sp88 := by
  intro vs ps r h hp
  simp only [sp88] at h
  split at h
  · cases h; exact fn88 _ (hp _ (.head _))
  · cases h
theorem so88 : Sp1 88 sp88 := ⟨so88_, Proofs.Try.f88, _, by kernel_rfl, rfl, by kernel_rfl⟩
theorem fn87 (n : Int) (hb : -8388608 ≤ n ∧ n ≤ 8388608) : Fn P1 gl1 87 [iV n] (.val (fV (smp n))) true := by
  refine Fn.flat ?_ rfl
  refine fn_of false [] [] h0 0 Proofs.Try.f87 trivial trivial (by kernel_rfl) rfl (by kernel_rfl) rfl rfl rfl ?_
  rw [vc87]
  try simp only [splitB_iff, -eq_self]
  obtain ⟨e1, e2, e3⟩ := smp_num (n := n) (by omega)
  have e1' : Ieee.Format.div Ieee.single (FloatKind.nearest .f32 n) 1098907648 = some (smp n) := e1
  simp only [fmt32, e1', Option.isSome_some, Option.getD_some]
  exact ⟨trivial, trivial, trivial⟩
theorem so87_ : SpecOk P1 gl1 87 sp87 := by
  intro vs ps r h hp
  simp only [sp87] at h
  split at h
  · cases h; exact fn87 _ (hp _ (.head _))
  · cases h
theorem so87 : Sp1 87 sp87 := ⟨so87_, Proofs.Try.f87, _, by kernel_rfl, rfl, by kernel_rfl⟩
theorem valC_bd (n : Int) : 0 ≤ valC n ∧ valC n ≤ 200 := by
  unfold valC roundI2
  split
  · omega
  · split <;> omega
theorem fn69 (n : Int) (hn : -20000 ≤ n ∧ n ≤ 20000) : Fn P1 gl1 69 [.one (.sl ptT [(0, 0), (64, 128)]), iV n] (.val (iV (valC n))) true := by
  refine Fn.flat ?_ rfl
  refine fn_of false [(89, sp89)] [] (hu 4) 0 Proofs.Try.f69 ⟨so89, trivial⟩ trivial (by kernel_rfl) rfl (by kernel_rfl) rfl rfl rfl ?_
  rw [vc69]
  try simp only [splitB_iff, -eq_self]
  refine ⟨by omega, fun e => ⟨by omega, ?_, trivial⟩, fun e => ⟨by omega, fun e2 => ?_, fun e2 => ⟨by simp only [fits]; omega, by omega, fun e3 => ⟨by simp only [fits]; omega, by omega, by simp only [fits]; omega, by simp only [fits]; omega, by simp only [fits]; omega, by simp only [fits]; omega, by omega, by omega, ?_, ?_, trivial⟩, fun e3 => ⟨by simp only [fits]; omega, by simp only [fits]; omega, by omega, ?_, trivial⟩⟩⟩⟩
  · unfold valC
    rw [if_pos (of_decide_eq_true e)]
  · rw [e] at e2; cases e2
  · have h1 := of_decide_eq_true e3
    have h2 := of_decide_eq_false e
    simp only [fits, roundI2]
    omega
  · have h1 := of_decide_eq_true e3
    have h2 := of_decide_eq_false e
    unfold valC
    rw [if_neg h2, if_pos h1, Int.sub_zero]
  · have h1 := of_decide_eq_false e3
    have h2 := of_decide_eq_false e
    unfold valC
    rw [if_neg h2, if_neg h1]
theorem so67 : Sp1 67 sp67 := by
  refine ⟨fun vs ps r h hp => ?_, Proofs.Try.f67, _, by kernel_rfl, rfl, by kernel_rfl⟩
  simp only [sp67] at h
  split at h
  · split at h
    · rename_i e; cases h
      have e : _ = crv0 := e
      subst e
      exact fn67
    · cases h
  · cases h
theorem so69 : Sp1 69 sp69 := by
  refine ⟨fun vs ps r h hp => ?_, Proofs.Try.f69, _, by kernel_rfl, rfl, by kernel_rfl⟩
  simp only [sp69] at h
  split at h
  · split at h
    · rename_i e; cases h
      have e : _ = crv0 := e
      subst e
      exact fn69 _ (hp _ (.head _))
    · cases h
  · cases h
theorem fn26 (nm : List UInt8) (w h : Int) (s : List Nat) (hl : s.length ≤ 1000000) (hc : chkPic nm w h s = 0) : Fn P1 gl1 26 [.one (.sl ptT [(0, 0), (64, 128)]), picV nm w h s] (.tup [picV nm w h (appL s), iV 0]) true := by
  refine fn_ofr false [(67, sp67), (29, sp29), (66, sp66), (88, sp88), (87, sp87), (69, sp69)] [fb68, fb86, fb85] h26 3 Proofs.Try.f26 ⟨so67, so29, so66, so88, so87, so69, trivial⟩ ⟨⟨by kernel_rfl, by kernel_rfl, _, rfl, by kernel_rfl⟩, ⟨by kernel_rfl, by kernel_rfl, _, rfl, by kernel_rfl⟩, ⟨by kernel_rfl, by kernel_rfl, _, rfl, by kernel_rfl⟩, trivial⟩ (by kernel_rfl) rfl (by kernel_rfl) rfl rfl rfl ?_
  rw [vc26]
  try simp only [splitB_iff, -eq_self]
  obtain ⟨c1, c2, c3, c4, c5⟩ := chkPic_zero.1 hc
  refine ⟨hl, by omega, no (fst2 rfl hc), fun _ => ⟨⟨0, Nat.zero_le _, by (repeat' (first | exact trivial | exact rfl | apply And.intro))⟩, fun g hg => ⟨fun hlt => ?_, fun hge => ?_⟩⟩⟩
  · have hlt : g < s.length := by simpa using hlt
    have hb := chk_six (ok_at c5 hlt)
    have hv := valC_bd (six (List.getD s g 0))
    refine ⟨by omega, ok_at c5 hlt, by omega, by omega, by simp only [room, List.length_map, List.length_take]; omega, by simp only [fits]; omega, g + 1, hlt, by omega, by omega, rfl, rfl, ?_, by (repeat' (first | exact trivial | exact rfl | apply And.intro))⟩
    rw [List.take_succ_eq_append_getElem hlt, List.map_append, getD_of hlt]
    rfl
  · have hge : ¬ g < s.length := by simpa using hge
    rw [List.take_of_length_le (by omega)]
    (repeat' (first | exact trivial | exact rfl | apply And.intro))
theorem so26 : Sp1 26 sp26 := by
  refine ⟨fun vs ps r h hp => ?_, Proofs.Try.f26, _, by kernel_rfl, rfl, by kernel_rfl⟩
  simp only [sp26] at h
  split at h
  · split at h
    · rename_i e; cases h
      have e : _ = crv0 := e
      subst e
      exact fn26 _ _ _ _ (hp _ (.head _)) (hp _ (.tail _ (.head _)))
    · cases h
  · cases h
theorem fn6   : Fn P1 gl1 6 [] (.val (bV true)) true := by
  refine Fn.flat ?_ rfl
  refine fn_of false [(14, sp14), (17, sp17), (26, sp26), (27, sp27)] [] h6 0 Proofs.Try.f6 ⟨so14, so17, so26, so27, trivial⟩ trivial (by kernel_rfl) rfl (by kernel_rfl) rfl rfl rfl ?_
  rw [vc6 ()]
  try simp only [splitB_iff, -eq_self]
  refine ⟨⟨q0, rfl, by (repeat' (first | exact trivial | exact rfl | apply And.intro))⟩, fun g hg => ?_⟩
  have hg : g = q0 := hg
  subst hg
  have e1 : chkPic [(112 : UInt8)] 2 2 q0 = 0 := by decide +kernel
  have e2 : Wd q0 := by unfold Wd; decide
  refine ⟨by decide, e1, by omega, by decide, e1, e2, by decide, e1, fun _ => by decide, fun _ => by decide, fun _ => by decide +kernel, fun _ => by decide +kernel, by decide +kernel, trivial⟩
theorem so6_ : SpecOk P1 gl1 6 sp6 := by
  intro vs ps r h _
  simp only [sp6] at h
  split at h
  · cases h; exact fn6  
  · cases h
theorem so6 : Sp1 6 sp6 := ⟨so6_, Proofs.Try.f6, _, by kernel_rfl, rfl, by kernel_rfl⟩
end Go.Sx
