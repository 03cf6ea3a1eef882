/- A verified symbolic run of functions, part 14: lemmas, no claim of their own. -/
import Derived.Test.YtpfngnmgipnmlaaDoorS13
/- Contracts. -/
namespace Go.Sx
open U
theorem nameAt_let (l : List UInt8) (i : Nat) : nameAt l i = (letB ((l.getD i 0).toNat : Int) || (i != 0 && (digB ((l.getD i 0).toNat : Int) || ((l.getD i 0).toNat : Int) == 95))) := by
  unfold nameAt letB digB
  generalize (l.getD i 0).toNat = b
  rw [Bool.eq_iff_iff]
  simp only [bcond_l, bcond_r, Bool.or_eq_true, Bool.and_eq_true, decide_eq_true_eq, beq_iff_eq, bne_iff_ne]
  omega
theorem upTo_map (g : Int → Int) (l : List Int) : ∀ n, n ≤ l.length → first ((l.take n).map g) = upTo (fun j => g (l.getD j 0)) n
  | 0, _ => rfl
  | n + 1, h => by
    have ih := upTo_map g l n (by omega)
    rw [List.take_succ_eq_append_getElem (show n < l.length by omega), List.map_append]
    simp only [upTo, ← ih, List.map_cons, List.map_nil]
    rw [getD_of (show n < l.length by omega)]
    generalize (l.take n).map g = xs
    induction xs with
    | nil => simp only [List.nil_append, first]; split <;> simp_all
    | cons x r ih2 =>
      by_cases h0 : x = 0 <;> simp [first, h0, ih2]
theorem fn146 (n : Int)  : Fn P1 gl1 146 [uV n] (.val (bV (letB n))) true := by
  refine Fn.flat ?_ rfl
  refine fn_of false [] [] h0 0 Proofs.Tryd.f146 trivial trivial (by kernel_rfl) rfl (by kernel_rfl) rfl rfl rfl ?_
  rw [vc146]
  try simp only [splitB_iff, -eq_self]
  exact ⟨rfl, trivial⟩
theorem so146_ : SpecOk P1 gl1 146 sp146 := by
  intro vs ps r h _
  simp only [sp146] at h
  split at h
  · cases h; exact fn146 _ 
  · cases h
theorem so146 : Sp1 146 sp146 := ⟨so146_, Proofs.Tryd.f146, _, by kernel_rfl, rfl, by kernel_rfl⟩
theorem fn147 (n : Int)  : Fn P1 gl1 147 [uV n] (.val (bV (digB n))) true := by
  refine Fn.flat ?_ rfl
  refine fn_of false [] [] h0 0 Proofs.Tryd.f147 trivial trivial (by kernel_rfl) rfl (by kernel_rfl) rfl rfl rfl ?_
  rw [vc147]
  try simp only [splitB_iff, -eq_self]
  exact ⟨rfl, trivial⟩
theorem so147_ : SpecOk P1 gl1 147 sp147 := by
  intro vs ps r h _
  simp only [sp147] at h
  split at h
  · cases h; exact fn147 _ 
  · cases h
theorem so147 : Sp1 147 sp147 := ⟨so147_, Proofs.Tryd.f147, _, by kernel_rfl, rfl, by kernel_rfl⟩
theorem fn134 (l : List UInt8) (hl : l.length ≤ 1000000000) : Fn P1 gl1 134 [sV l] (.val (bV (isName l))) true := by
  refine Fn.flat ?_ rfl
  refine fn_of false [(146, sp146), (147, sp147)] [] h134 0 Proofs.Tryd.f134 ⟨so146, so147, trivial⟩ trivial (by kernel_rfl) rfl (by kernel_rfl) rfl rfl rfl ?_
  rw [vc134]
  try simp only [splitB_iff, -eq_self]
  simp only [bcond_l, bcond_r, Bool.or_eq_true, Bool.or_eq_false_iff, Bool.and_eq_true, Bool.and_eq_false_iff, Bool.not_eq_true', Bool.not_eq_false', decide_eq_true_eq, decide_eq_false_iff_not, beq_iff_eq, beq_eq_false_iff_ne, bne_iff_ne, bne_eq_false_iff_eq]
  refine ⟨fun h => by omega, fun h => ⟨?_, trivial⟩, fun h => ?_⟩
  · rcases h with h | h
    · cases hq : isName l with
      | false => rfl
      | true =>
        unfold isName at hq
        simp only [Bool.and_eq_true, decide_eq_true_eq] at hq
        have h2 := hq.2
        have : l.length ≠ 0 := fun e => h2.1 (List.eq_nil_of_length_eq_zero e)
        omega
    · by_cases h0 : l.length = 0
      · have := List.eq_nil_of_length_eq_zero h0
        subst this; rfl
      · rw [isName_not (j := 0) (by omega)]
        rw [nameAt_let, h]; rfl
  · refine ⟨⟨1, ⟨by omega, by omega, fun j hj => ?_⟩, by trivial, by trivial, by trivial⟩, fun g hg => ⟨fun hlt => ⟨by omega, fun _ => by omega, fun _ => by omega, fun h2 => ⟨?_, by trivial⟩, fun h2 => ⟨by simp only [fits]; omega, g + 1, ⟨by omega, by omega, fun j hj => ?_⟩, by omega, by simp, by trivial, by trivial⟩⟩, fun hge => ⟨?_, by trivial⟩⟩⟩
    · have : j = 0 := by omega
      subst this
      rw [nameAt_let, h.2]; rfl
    · rw [isName_not (j := g) (by omega)]
      rw [nameAt_let]
      simp only [Bool.or_eq_false_iff, Bool.and_eq_false_iff, beq_eq_false_iff_ne, bne_eq_false_iff_eq]
      exact ⟨h2.1.1, .inr ⟨h2.1.2, h2.2⟩⟩
    · by_cases e : j < g
      · exact hg.2.2 j e
      · have : j = g := by omega
        subst this
        rw [nameAt_let]
        simp only [Bool.or_eq_true, Bool.and_eq_true, beq_iff_eq, bne_iff_ne]
        have := hg.2.1
        rcases h2 with (h2 | h2) | h2
        · exact .inl h2
        · exact .inr ⟨by omega, .inl h2⟩
        · exact .inr ⟨by omega, .inr h2⟩
    · have : g = l.length := by omega
      subst this
      rw [isName_of hg.2.2]
      symm
      simp only [Bool.and_eq_true, decide_eq_true_eq]
      refine ⟨fun e => ?_, by omega⟩
      subst e
      have := hg.2.1
      simp at this
theorem so134_ : SpecOk P1 gl1 134 sp134 := by
  intro vs ps r h hp
  simp only [sp134] at h
  split at h
  · cases h; exact fn134 _ (hp _ (.head _))
  · cases h
theorem so134 : Sp1 134 sp134 := ⟨so134_, Proofs.Tryd.f134, _, by kernel_rfl, rfl, by kernel_rfl⟩
theorem fn96 (l : List UInt8) (hl : l.length ≤ 1000000000) : Fn P1 gl1 96 [sV l] (.val (iV (whenE (!isName l) 8))) true := by
  refine Fn.flat ?_ rfl
  refine fn_of false [(134, sp134), (97, sp97)] [] h0 0 Proofs.Tryd.f96 ⟨so134, so97, trivial⟩ trivial (by kernel_rfl) rfl (by kernel_rfl) rfl rfl rfl ?_
  rw [vc96]
  try simp only [splitB_iff, -eq_self]
  exact ⟨hl, rfl, trivial⟩
theorem so96_ : SpecOk P1 gl1 96 sp96 := by
  intro vs ps r h hp
  simp only [sp96] at h
  split at h
  · cases h; exact fn96 _ (hp _ (.head _))
  · cases h
theorem so96 : Sp1 96 sp96 := ⟨so96_, Proofs.Tryd.f96, _, by kernel_rfl, rfl, by kernel_rfl⟩

theorem fn37 (nm : List UInt8) (f : Int) (l : List Int) (hn : nm.length ≤ 1000000000) (hl : l.length ≤ 1000000) : Fn P1 gl1 37 [rV nm f l] (.val (iV (checkReel nm f l))) true := by
  refine Fn.flat ?_ rfl
  refine fn_of false [(96, sp96), (46, sp46), (44, sp44), (97, sp97)] [] h37 0 Proofs.Tryd.f37 ⟨so96, so46, so44, so97, trivial⟩ trivial (by kernel_rfl) rfl (by kernel_rfl) rfl rfl rfl ?_
  rw [vc37]
  try simp only [splitB_iff, -eq_self]
  have hw : first (wf16 l) = upTo (fun j => within (l.getD j 0) 0 65535) l.length := by
    have := upTo_map (fun n => within n 0 65535) l l.length (Nat.le_refl _)
    rwa [List.take_length] at this
  simp only [decide_eq_true_eq, decide_eq_false_iff_not, beq_iff_eq, beq_eq_false_iff_ne, bne_iff_ne, bne_eq_false_iff_eq]
  refine ⟨hn, by decide, fun h => ⟨?_, trivial⟩, fun h => ⟨fun h2 => ⟨?_, trivial⟩, fun h2 => ⟨fun h3 => ⟨?_, trivial⟩, fun h3 => ⟨⟨0, ⟨Nat.zero_le _, rfl⟩, by trivial, by trivial, by trivial, by trivial, by trivial, by trivial⟩, fun g hg => ⟨fun hlt => ⟨by omega, fun h4 => ⟨?_, trivial⟩, fun h4 => ⟨by simp only [fits]; omega, g + 1, ⟨by omega, upTo_succ hg.2 h4⟩, by omega, by simp, by trivial, by trivial, by trivial, by trivial, by trivial⟩⟩, fun hge => ?_⟩⟩⟩⟩⟩
  · unfold checkReel
    have e : ∀ a b : Int, first [whenE (!isName nm) 8, within f 0 10000000, a, b] = first [whenE (!isName nm) 8, within f 0 10000000] := by
      intro a b
      simp only [first] at h ⊢
      by_cases h1 : whenE (!isName nm) 8 = 0
      · rw [if_pos h1, if_pos h1] at *
        by_cases h2 : within f 0 10000000 = 0
        · simp [h2] at h
        · rw [if_neg h2, if_neg h2]
      · rw [if_neg h1, if_neg h1]
    rw [e, if_neg h]
  · have hz := (first_zero_iff _).1 h
    have h0 : l.length = 0 := by omega
    unfold checkReel
    have : first [whenE (!isName nm) 8, within f 0 10000000, whenE (decide (l.length = 0)) 12, whenE (decide (256 < l.length)) 5] = 12 := by
      simp only [first]
      rw [hz _ List.mem_cons_self, hz (within f 0 10000000) (List.mem_cons_of_mem _ List.mem_cons_self), h0]
      rfl
    rw [this]; rfl
  · have hz := (first_zero_iff _).1 h
    unfold checkReel
    have e1 : decide (l.length = 0) = false := decide_eq_false (by omega)
    have e2 : decide (256 < l.length) = true := decide_eq_true (by omega)
    have : first [whenE (!isName nm) 8, within f 0 10000000, whenE (decide (l.length = 0)) 12, whenE (decide (256 < l.length)) 5] = 5 := by
      simp only [first]
      rw [hz _ List.mem_cons_self, hz (within f 0 10000000) (List.mem_cons_of_mem _ List.mem_cons_self), e1, e2]
      rfl
    rw [this]; rfl
  · have hz := (first_zero_iff _).1 h
    have e1 : decide (l.length = 0) = false := decide_eq_false (by omega)
    have e2 : decide (256 < l.length) = false := decide_eq_false (by omega)
    have h0 : first [whenE (!isName nm) 8, within f 0 10000000, whenE (decide (l.length = 0)) 12, whenE (decide (256 < l.length)) 5] = 0 := by
      simp only [first]
      rw [hz _ List.mem_cons_self, hz (within f 0 10000000) (List.mem_cons_of_mem _ List.mem_cons_self), e1, e2]
      rfl
    have hu := upTo_eq hg.2 h4 (show g < l.length by omega)
    unfold checkReel
    rw [if_pos h0, hw, if_neg (by rw [hu]; exact h4), hu]
  · have hz := (first_zero_iff _).1 h
    have e1 : decide (l.length = 0) = false := decide_eq_false (by omega)
    have e2 : decide (256 < l.length) = false := decide_eq_false (by omega)
    have h0 : first [whenE (!isName nm) 8, within f 0 10000000, whenE (decide (l.length = 0)) 12, whenE (decide (256 < l.length)) 5] = 0 := by
      simp only [first]
      rw [hz _ List.mem_cons_self, hz (within f 0 10000000) (List.mem_cons_of_mem _ List.mem_cons_self), e1, e2]
      rfl
    have hr := within_zero.1 (hz (within f 0 10000000) (List.mem_cons_of_mem _ List.mem_cons_self))
    have hgl : g = l.length := by omega
    subst hgl
    refine ⟨by simp only [fits]; omega, ?_, trivial⟩
    unfold checkReel
    rw [if_pos h0, hw, if_pos hg.2]
theorem so37_ : SpecOk P1 gl1 37 sp37 := by
  intro vs ps r h hp
  simp only [sp37] at h
  split at h
  · cases h; exact fn37 _ _ _ (hp _ (.head _)) (hp _ (.tail _ (.head _)))
  · cases h
theorem so37 : Sp1 37 sp37 := ⟨so37_, Proofs.Tryd.f37, _, by kernel_rfl, rfl, by kernel_rfl⟩

theorem fn83 (R : List Rl) (nm : List UInt8) (hl : R.length ≤ 1000000000) : Fn P1 gl1 83 [.one (.sl rlT R), sV nm] (.val (iV (findN R nm))) true := by
  refine Fn.flat ?_ rfl
  refine fn_of false [] [] h83 0 Proofs.Tryd.f83 trivial trivial (by kernel_rfl) rfl (by kernel_rfl) rfl rfl rfl ?_
  rw [vc83]
  try simp only [splitB_iff, -eq_self]
  simp only [decide_eq_true_eq, decide_eq_false_iff_not, beq_iff_eq, beq_eq_false_iff_ne]
  refine ⟨⟨0, ⟨Nat.zero_le _, Nat.zero_le _⟩, by trivial, by trivial, by trivial, by trivial⟩, fun g hg => ⟨fun hlt => ⟨by omega, fun h => ⟨?_, trivial⟩, fun h => ⟨by simp only [fits]; omega, g + 1, ⟨by omega, ?_⟩, by omega, by simp, by trivial, by trivial, by trivial⟩⟩, fun hge => ⟨?_, trivial⟩⟩⟩
  · have := idxN_at (show g < R.length by omega) h
    have e : idxN nm R = g := by omega
    unfold findN
    rw [e, if_pos (by omega)]
  · exact idxN_next hg.2 (by omega) h
  · have := idxN_le nm R
    unfold findN
    rw [if_neg (by omega)]
theorem so83_ : SpecOk P1 gl1 83 sp83 := by
  intro vs ps r h hp
  simp only [sp83] at h
  split at h
  · cases h; exact fn83 _ _ (hp _ (.head _))
  · cases h
theorem so83 : Sp1 83 sp83 := ⟨so83_, Proofs.Tryd.f83, _, by kernel_rfl, rfl, by kernel_rfl⟩

theorem fn82 (R : List Rl) (hl : R.length ≤ 1000000000) (hR : ∀ r ∈ R, r.2.2.length ≤ 1000000 ∧ r.1.length ≤ 1000000000) : Fn P1 gl1 82 [.one (.sl rlT R)] (.val (iV (chkRs R))) true := by
  refine Fn.flat ?_ rfl
  refine fn_of false [(37, sp37), (83, sp83)] [] h82 0 Proofs.Tryd.f82 ⟨so37, so83, trivial⟩ trivial (by kernel_rfl) rfl (by kernel_rfl) rfl rfl rfl ?_
  rw [vc82]
  try simp only [splitB_iff, -eq_self]
  simp only [decide_eq_true_eq, decide_eq_false_iff_not, bne_iff_ne, bne_eq_false_iff_eq]
  refine ⟨fun h => ⟨by unfold chkRs; rw [if_pos (by omega)], trivial⟩, fun h => ?_⟩
  have hc : chkRs R = upTo (chkRl R) R.length := by unfold chkRs; rw [if_neg (by omega)]
  rw [hc]
  refine ⟨⟨0, ⟨Nat.zero_le _, rfl⟩, by trivial, by trivial, by trivial⟩, fun g hg => ⟨fun hlt => ?_, fun hge => ?_⟩⟩
  · have hlt' : g < R.length := by omega
    have hT : (R.take g).length = g := by rw [List.length_take]; omega
    have hr := hR _ (getD_mem (d := r0) hlt')
    have hd : dupR R g = true ↔ idxN (R.getD g r0).1 R < g := by
      unfold dupR
      rw [decide_eq_true_eq]
      have e : ∀ i, i < g → (R.take g).getD i r0 = R.getD i r0 := fun i hi => by
        rw [List.getD_eq_getElem?_getD, List.getElem?_take, if_pos hi, ← List.getD_eq_getElem?_getD]
      constructor
      · intro hi
        have h1 : (rlOf (R.take g) (R.getD g r0).1).1 = (R.getD g r0).1 := idxN_name (by omega)
        unfold rlOf at h1
        rw [e _ hi] at h1
        have := idxN_at (nm := (R.getD g r0).1) (R := R) (d := r0) (by omega) h1
        omega
      · intro hi
        have h1 : (rlOf R (R.getD g r0).1).1 = (R.getD g r0).1 := idxN_name (by omega)
        unfold rlOf at h1
        rw [← e _ hi] at h1
        have := idxN_at (nm := (R.getD g r0).1) (R := R.take g) (d := r0) (by omega) h1
        omega
    have hle : idxN (R.getD g r0).1 R ≤ g := idxN_at (d := r0) hlt' rfl
    have hf : findN R (R.getD g r0).1 = (idxN (R.getD g r0).1 R : Int) := by unfold findN; rw [if_pos (by omega)]
    rw [hf]
    refine ⟨by omega, hr.2, hr.1, fun h2 => ⟨?_, trivial⟩, fun h2 => ⟨by omega, hl, fun h3 => ⟨?_, trivial⟩, fun h3 => ⟨by simp only [fits]; omega, g + 1, ⟨hlt', upTo_succ hg.2 ?_⟩, by omega, by simp, by trivial, by trivial⟩⟩⟩
    · have h4 : chkRl R g = checkReel (R.getD g r0).1 (R.getD g r0).2.1 (R.getD g r0).2.2 := by
        unfold chkRl; simp only [first]; rw [if_neg h2]
      rw [upTo_eq hg.2 (by rw [h4]; exact h2) hlt', h4]
    · have h4 : chkRl R g = 9 := by
        unfold chkRl; simp only [first]; rw [if_pos h2, hd.2 (by omega)]; rfl
      rw [upTo_eq hg.2 (by rw [h4]; decide) hlt', h4]
    · have h5 : dupR R g = false := by
        rw [← Bool.not_eq_true, hd]; omega
      unfold chkRl; simp only [first]; rw [if_pos h2, h5]; rfl
  · have : g = R.length := by omega
    subst this
    exact ⟨hg.2.symm, trivial⟩
theorem so82_ : SpecOk P1 gl1 82 sp82 := by
  intro vs ps r h hp
  simp only [sp82] at h
  split at h
  · cases h; exact fn82 _ (hp _ (.head _)) (hp _ (.tail _ (.head _)))
  · cases h
theorem so82 : Sp1 82 sp82 := ⟨so82_, Proofs.Tryd.f82, _, by kernel_rfl, rfl, by kernel_rfl⟩

theorem fn84 (nm : List UInt8) (f : Int) (l : List Int) (n : Int) (hf : fits .i64 (f + (l.length : Int))) : Fn P1 gl1 84 [rV nm f l, iV n] (.val (bV (hasB (nm, f, l) n))) true := by
  refine Fn.flat ?_ rfl
  refine fn_of false [] [] h0 0 Proofs.Tryd.f84 trivial trivial (by kernel_rfl) rfl (by kernel_rfl) rfl rfl rfl ?_
  rw [vc84]
  try simp only [splitB_iff, -eq_self]
  exact ⟨fun _ => hf, rfl, trivial⟩
theorem so84_ : SpecOk P1 gl1 84 sp84 := by
  intro vs ps r h hp
  simp only [sp84] at h
  split at h
  · cases h; exact fn84 _ _ _ _ (hp _ (.head _))
  · cases h
theorem so84 : Sp1 84 sp84 := ⟨so84_, Proofs.Tryd.f84, _, by kernel_rfl, rfl, by kernel_rfl⟩

theorem fn85 (L : List Ed) (hL : EdsIn L) : Fn P1 gl1 85 [.one (.sl edT L)] (.tup [.one (.frs (.int .i64) (startsL L)), iV (lenL L)]) true := by
  refine Fn.flat ?_ rfl
  refine fn_of false [] [] h85 0 Proofs.Tryd.f85 trivial trivial (by kernel_rfl) rfl (by kernel_rfl) rfl rfl rfl ?_
  rw [vc85]
  try simp only [splitB_iff, -eq_self]
  simp only [decide_eq_true_eq, decide_eq_false_iff_not]
  refine ⟨⟨0, Nat.zero_le _, by trivial, by trivial, by trivial, by trivial, by trivial⟩, fun g hg => ⟨fun hlt => ?_, fun hge => ?_⟩⟩
  · have hlt' : g < L.length := by omega
    have h16 := hL.1
    have hx := hL.2 _ (getD_mem (d := e0) hlt')
    have hb := begN_bd hL g (by omega)
    have e : begN L (g + 1) = begN L g + ((L.getD g e0).2.2.1 - (L.getD g e0).2.1) := rfl
    refine ⟨by simp only [room, List.length_map, List.length_range]; omega, by omega, by simp only [fits]; omega, by omega, by simp only [fits]; omega, by simp only [fits]; omega, g + 1, hlt', by omega, by simp, by omega, by trivial, ?_, by trivial⟩
    rw [map_range]
  · have : g = L.length := by have : g ≤ L.length := hg
                              omega
    subst this
    exact ⟨rfl, rfl, trivial⟩
theorem so85_ : SpecOk P1 gl1 85 sp85 := by
  intro vs ps r h hp
  simp only [sp85] at h
  split at h
  · cases h; exact fn85 _ (hp _ (.head _))
  · cases h
theorem so85 : Sp1 85 sp85 := ⟨so85_, Proofs.Tryd.f85, _, by kernel_rfl, rfl, by kernel_rfl⟩

theorem fn86 (L : List Ed) (fr : Int) (hL : EdsIn L) (hs : ∀ x ∈ L, -100 ≤ x.2.2.2.2 ∧ x.2.2.2.2 ≤ 100) : Fn P1 gl1 86 [.one (.sl edT L), iV fr] (.val (iV (sndI L fr L.length))) true := by
  refine Fn.flat ?_ rfl
  refine fn_of false [(85, sp85)] [] h86 0 Proofs.Tryd.f86 ⟨so85, trivial⟩ trivial (by kernel_rfl) rfl (by kernel_rfl) rfl rfl rfl ?_
  rw [vc86]
  try simp only [splitB_iff, -eq_self]
  have hS : ∀ g, g < L.length → (startsL L).getD g 0 = begN L g := fun g hg => by
    unfold startsL
    rw [List.getD_eq_getElem?_getD, List.getElem?_map, List.getElem?_range hg]; rfl
  have hSl : (startsL L).length = L.length := by simp [startsL]
  simp only [decide_eq_true_eq, decide_eq_false_iff_not, hSl]
  refine ⟨hL, ⟨0, Nat.zero_le _, by trivial, by trivial, by trivial, by trivial, by trivial, by trivial⟩, fun g hg => ⟨fun hlt => ?_, fun hge => ?_⟩⟩
  · have hlt' : g < L.length := by omega
    have h16 := hL.1
    have hb := begN_bd hL g (by omega)
    have hx := hs _ (getD_mem (d := e0) hlt')
    rw [hS g hlt']
    refine ⟨by omega, hlt', by omega, by simp only [fits]; omega, fun h => ⟨by simp only [fits]; omega, g + 1, hlt', by omega, by simp, ?_, by trivial, by trivial, by trivial, by trivial⟩, fun h => ⟨by simp only [fits]; omega, g + 1, hlt', by omega, by simp, ?_, by trivial, by trivial, by trivial, by trivial⟩⟩
    · simp only [sndI]; rw [if_pos h]
    · simp only [sndI]; rw [if_neg h]
  · have : g = L.length := by have : g ≤ L.length := hg
                              omega
    subst this
    exact ⟨rfl, trivial⟩
theorem so86_ : SpecOk P1 gl1 86 sp86 := by
  intro vs ps r h hp
  simp only [sp86] at h
  split at h
  · cases h; exact fn86 _ _ (hp _ (.head _)) (hp _ (.tail _ (.head _)))
  · cases h
theorem so86 : Sp1 86 sp86 := ⟨so86_, Proofs.Tryd.f86, _, by kernel_rfl, rfl, by kernel_rfl⟩

theorem fn80 (nm : List UInt8) (f : Int) (l : List Int)  : Fn P1 gl1 80 [rV nm f l] (.val (bV (shortR (nm, f, l)))) true := by
  refine Fn.flat ?_ rfl
  refine fn_of false [] [] h0 0 Proofs.Tryd.f80 trivial trivial (by kernel_rfl) rfl (by kernel_rfl) rfl rfl rfl ?_
  rw [vc80]
  try simp only [splitB_iff, -eq_self]
  refine ⟨?_, trivial⟩
  unfold shortR
  rw [Bool.eq_iff_iff]
  simp only [bcond_l, bcond_r, Bool.or_eq_true, Bool.and_eq_true, decide_eq_true_eq, beq_iff_eq]
  omega
theorem so80_ : SpecOk P1 gl1 80 sp80 := by
  intro vs ps r h _
  simp only [sp80] at h
  split at h
  · cases h; exact fn80 _ _ _ 
  · cases h
theorem so80 : Sp1 80 sp80 := ⟨so80_, Proofs.Tryd.f80, _, by kernel_rfl, rfl, by kernel_rfl⟩

theorem fn81 (L : List Ed) (hl : L.length ≤ 9223372036854775807) : Fn P1 gl1 81 [.one (.sl edT L)] (.val (bV (shortE L))) true := by
  refine Fn.flat ?_ rfl
  refine fn_of false [] [] h81 0 Proofs.Tryd.f81 trivial trivial (by kernel_rfl) rfl (by kernel_rfl) rfl rfl rfl ?_
  rw [vc81]
  try simp only [splitB_iff, -eq_self]
  simp only [bcond_l, decide_eq_true_eq, decide_eq_false_iff_not]
  refine ⟨⟨0, ⟨Nat.zero_le _, fun j hj => by omega⟩, by trivial, by trivial, by trivial⟩, fun g hg => ⟨fun hlt => ⟨by omega, fun h => ⟨?_, trivial⟩, fun h => ⟨by simp only [fits]; omega, g + 1, ⟨by omega, fun j hj => ?_⟩, by omega, by simp, by trivial, by trivial⟩⟩, fun hge => ⟨?_, trivial⟩⟩⟩
  · symm
    unfold shortE
    rw [Bool.and_eq_false_iff]
    left
    rw [List.all_eq_false]
    refine ⟨_, getD_mem (d := e0) (show g < L.length by omega), ?_⟩
    rw [decide_eq_true_eq]; omega
  · by_cases e : j < g
    · exact hg.2 j e
    · have : j = g := by omega
      subst this; omega
  · have : g = L.length := by omega
    subst this
    unfold shortE
    have : (L.all fun x => decide (x.1.length ≤ 40)) = true := by
      rw [List.all_eq_true]
      intro x hx
      obtain ⟨i, hi, rfl⟩ := mem_getD e0 hx
      exact decide_eq_true (hg.2 i hi)
    rw [this, Bool.true_and, Bool.eq_iff_iff]
    simp only [Bool.or_eq_true, decide_eq_true_eq, beq_iff_eq]
    omega
theorem so81_ : SpecOk P1 gl1 81 sp81 := by
  intro vs ps r h hp
  simp only [sp81] at h
  split at h
  · cases h; exact fn81 _ (hp _ (.head _))
  · cases h
theorem so81 : Sp1 81 sp81 := ⟨so81_, Proofs.Tryd.f81, _, by kernel_rfl, rfl, by kernel_rfl⟩

theorem fn24 (R : List Rl) (L : List Ed) (hl : R.length ≤ 9223372036854775807) (hL : L.length ≤ 9223372036854775807) : Fn P1 gl1 24 [.one (.sl rlT R), .one (.sl edT L)] (.val (bV (shortB R L))) true := by
  refine Fn.flat ?_ rfl
  refine fn_of false [(80, sp80), (81, sp81)] [] h24 0 Proofs.Tryd.f24 ⟨so80, so81, trivial⟩ trivial (by kernel_rfl) rfl (by kernel_rfl) rfl rfl rfl ?_
  rw [vc24]
  try simp only [splitB_iff, -eq_self]
  have h9 : (((R.length : Int) == 9)) = decide (R.length = 9) := by rw [Bool.eq_iff_iff]; simp only [decide_eq_true_eq, beq_iff_eq]; omega
  have h4 : decide ((R.length : Int) ≤ 4) = decide (R.length ≤ 4) := decide_eq_decide.2 (by omega)
  rw [h9, h4, bcond_l, bcond_r]
  simp only [Bool.not_eq_true', Bool.not_eq_false', decide_eq_true_eq, decide_eq_false_iff_not]
  refine ⟨⟨0, ⟨Nat.zero_le _, fun j hj => by omega⟩, by trivial, by trivial, by trivial, by trivial⟩, fun g hg => ⟨fun hlt => ⟨by omega, fun h => ⟨?_, trivial⟩, fun h => ⟨by simp only [fits]; omega, g + 1, ⟨by omega, fun j hj => ?_⟩, by omega, by simp, by trivial, by trivial, by trivial⟩⟩, fun hge => ⟨fun _ => hL, ?_, trivial⟩⟩⟩
  · symm
    unfold shortB
    rw [Bool.and_eq_false_iff]
    left
    rw [List.all_eq_false]
    refine ⟨_, getD_mem (d := r0) (show g < R.length by omega), ?_⟩
    rw [Bool.not_eq_true]; exact h
  · by_cases e : j < g
    · exact hg.2 j e
    · have : j = g := by omega
      subst this; exact h
  · have : g = R.length := by omega
    subst this
    unfold shortB
    have : R.all shortR = true := by
      rw [List.all_eq_true]
      intro x hx
      obtain ⟨i, hi, rfl⟩ := mem_getD r0 hx
      exact hg.2 i hi
    rw [this, Bool.true_and]
theorem so24_ : SpecOk P1 gl1 24 sp24 := by
  intro vs ps r h hp
  simp only [sp24] at h
  split at h
  · cases h; exact fn24 _ _ (hp _ (.head _)) (hp _ (.tail _ (.head _)))
  · cases h
theorem so24 : Sp1 24 sp24 := ⟨so24_, Proofs.Tryd.f24, _, by kernel_rfl, rfl, by kernel_rfl⟩

theorem fn25 (R : List Rl) (L : List Ed) (hl : R.length ≤ 1000000000) (hR : ∀ r ∈ R, r.2.2.length ≤ 1000000 ∧ r.1.length ≤ 1000000000) (hL : L.length ≤ 1000000000) (hF : ∀ x ∈ L, fits .i64 x.2.2.1) : Fn P1 gl1 25 [.one (.sl rlT R), .one (.sl edT L)] (.val (iV (chkEds R L))) true := by
  refine Fn.flat ?_ rfl
  refine fn_of false [(82, sp82), (83, sp83), (84, sp84), (85, sp85), (86, sp86), (46, sp46), (44, sp44)] [] h25 0 Proofs.Tryd.f25 ⟨so82, so83, so84, so85, so86, so46, so44, trivial⟩ trivial (by kernel_rfl) rfl (by kernel_rfl) rfl rfl rfl ?_
  rw [vc25]
  try simp only [splitB_iff, -eq_self]
  have hS : ∀ g, g < L.length → (startsL L).getD g 0 = begN L g := fun g hg => by
    unfold startsL
    rw [List.getD_eq_getElem?_getD, List.getElem?_map, List.getElem?_range hg]; rfl
  have hSl : (startsL L).length = L.length := by simp [startsL]
  refine ⟨hl, hR, fun h => ⟨chkEds_rs (by simpa using h), trivial⟩, fun h => ?_⟩
  have h1 : chkRs R = 0 := by simpa using h
  refine ⟨fun h => ⟨chkEds_many h1 (by have := of_decide_eq_true h; omega), trivial⟩, fun h => ?_⟩
  have h2 : ¬ 16 < L.length := by have := of_decide_eq_false h; omega
  have hrb := fun nm => reel_bd h1 nm
  refine ⟨⟨0, ⟨Nat.zero_le _, rfl⟩, by trivial, by trivial, by trivial, by trivial⟩, fun g hg => ⟨fun hlt => ?_, fun hge => ?_⟩⟩
  · have hlt' : g < L.length := by simpa using hlt
    have e1 : ((g : Int) - 1).toNat = g - 1 := by omega
    rw [e1]
    refine ⟨by omega, hl, fun h3 => ⟨?_, trivial⟩, fun h3 => ?_⟩
    · refine chkEds_at h1 h2 hg.2 hlt' (chkEd_unknown fun hk => ?_) (by decide)
      have := (findN_some hk).1
      have := of_decide_eq_true h3
      omega
    · have hk : idxN (L.getD g e0).1 R < R.length := by
        apply Classical.byContradiction
        intro hc
        have := findN_none hc
        have := of_decide_eq_false h3
        omega
      obtain ⟨f1, f2⟩ := findN_some hk
      have hr := hrb (L.getD g e0).1
      have hEq : ((rlOf R (L.getD g e0).1).1, (rlOf R (L.getD g e0).1).2.1, (rlOf R (L.getD g e0).1).2.2) = rlOf R (L.getD g e0).1 := rfl
      have hEn : endR (rlOf R (L.getD g e0).1) = (rlOf R (L.getD g e0).1).2.1 + ((rlOf R (L.getD g e0).1).2.2.length : Int) := rfl
      rw [f2, hEq, ← hEn]
      refine ⟨fun _ => by omega, fun _ => by simp only [fits]; omega, fun _ => by omega, fun h4 => ?_, fun _ => by simp only [fits]; omega, fun h4 => ⟨?_, trivial⟩, fun h4 => ?_⟩
      · simp only [bcond_l, Bool.or_eq_false_iff, Bool.not_eq_false', decide_eq_false_iff_not, hasB_iff] at h4
        have := hF _ (getD_mem (d := e0) hlt')
        simp only [fits] at *; omega
      · simp only [bcond_l, Bool.or_eq_true, Bool.not_eq_true', decide_eq_true_eq, hasB_not] at h4
        exact chkEds_at h1 h2 hg.2 hlt' (chkEd_span hk (by omega)) (by decide)
      · simp only [bcond_l, Bool.or_eq_false_iff, Bool.not_eq_false', decide_eq_false_iff_not, hasB_iff] at h4
        have hsp : ¬ ((L.getD g e0).2.2.1 ≤ (L.getD g e0).2.1 ∨ (L.getD g e0).2.1 < (rlOf R (L.getD g e0).1).2.1 ∨ endR (rlOf R (L.getD g e0).1) < (L.getD g e0).2.2.1) := by omega
        have hpr : first [within (L.getD g e0).2.2.2.1 0 ((L.getD g e0).2.2.1 - (L.getD g e0).2.1), within (L.getD g e0).2.2.2.2 (-100) 100] = prs (L.getD g e0) := rfl
        rw [hpr]
        refine ⟨by simp only [fits]; omega, by decide, fun h5 => ⟨?_, trivial⟩, fun h5 => ?_⟩
        · have h5' : prs (L.getD g e0) ≠ 0 := by simpa using h5
          exact chkEds_at h1 h2 hg.2 hlt' (chkEd_prs hk hsp h5') h5'
        · have h5' : prs (L.getD g e0) = 0 := by simpa using h5
          have hz := (first_zero_iff _).1 (hpr.trans h5')
          have hz1 := within_zero.1 (hz _ List.mem_cons_self)
          have hz2 := within_zero.1 (hz _ (List.mem_cons_of_mem _ List.mem_cons_self))
          simp only [bcond_l, bcond_r, Bool.or_eq_true, Bool.or_eq_false_iff, Bool.and_eq_true, Bool.and_eq_false_iff, Bool.not_eq_true', Bool.not_eq_false', decide_eq_true_eq, decide_eq_false_iff_not, beq_iff_eq, beq_eq_false_iff_ne, bne_iff_ne, bne_eq_false_iff_eq]
          refine ⟨fun h6 => ⟨?_, trivial⟩, fun h6 => ?_⟩
          · have g0 : g = 0 := by omega
            subst g0
            refine chkEds_at h1 h2 hg.2 hlt' ?_ (by decide)
            rw [chkEd_first hk hsp h5', decide_eq_true h6.2]; rfl
          · have hpk : 0 < g → idxN (L.getD (g - 1) e0).1 R < R.length ∧ (0 ≤ (L.getD (g - 1) e0).2.2.1 ∧ (L.getD (g - 1) e0).2.2.1 ≤ 10000000) ∧ (L.getD (g - 1) e0).2.2.1 ≤ endR (rlOf R (L.getD (g - 1) e0).1) ∧ (rlOf R (L.getD (g - 1) e0).1).2.1 < (L.getD (g - 1) e0).2.2.1 := fun h0 => by
              have hp := chkEd_ok (upTo_zero.1 hg.2 (g - 1) (by omega))
              have := hrb (L.getD (g - 1) e0).1
              have a1 := hp.lo
              have a2 := hp.lt
              have a3 := hp.hi
              exact ⟨hp.idx, by omega, by omega, by omega⟩
            have hEn' : endR (rlOf R (L.getD (g - 1) e0).1) = (rlOf R (L.getD (g - 1) e0).1).2.1 + ((rlOf R (L.getD (g - 1) e0).1).2.2.length : Int) := rfl
            have hEq' : ((rlOf R (L.getD (g - 1) e0).1).1, (rlOf R (L.getD (g - 1) e0).1).2.1, (rlOf R (L.getD (g - 1) e0).1).2.2) = rlOf R (L.getD (g - 1) e0).1 := rfl
            have hr' := hrb (L.getD (g - 1) e0).1
            refine ⟨fun _ => by simp only [fits]; omega, fun _ => by omega, fun _ => hl, fun h7 => ?_, fun _ => by simp only [fits]; omega, fun _ => by omega, fun h7 => ?_, fun h7 => ?_, fun h7 => ?_, fun h7 => ⟨?_, trivial⟩, fun h7 => ?_⟩
            · have := (findN_some (hpk (by omega)).1).1
              have := (hpk (by omega)).1
              omega
            · have := hpk (by omega)
              simp only [fits]; omega
            · have := hpk (by omega)
              simp only [fits]; omega
            · have h8 := hpk (by omega)
              rw [(findN_some h8.1).2, ← hEn']
              simp only [fits]; omega
            · have h8 := hpk (by omega)
              have h9 := h7.2
              rw [(findN_some h8.1).2, hEq', hasB_not] at h9
              refine chkEds_at h1 h2 hg.2 hlt' ?_ (by decide)
              rw [chkEd_later (by omega) hk hsp h5', decide_eq_true (by omega)]; rfl
            · refine ⟨by simp only [fits]; omega, g + 1, ⟨hlt', upTo_succ hg.2 ?_⟩, by omega, by omega, by trivial, by trivial, by trivial⟩
              by_cases g0 : g = 0
              · subst g0
                rw [chkEd_first hk hsp h5', whenE_zero (by decide), decide_eq_false_iff_not]
                rcases h6 with h6 | h6
                · omega
                · omega
              · have h8 := hpk (by omega)
                rw [chkEd_later (by omega) hk hsp h5', whenE_zero (by decide), decide_eq_false_iff_not]
                rcases h7 with h7 | h7
                · omega
                · rw [(findN_some h8.1).2, hEq', hasB_iff] at h7
                  omega
  · have hgl : g = L.length := by have : ¬ g < L.length := by simpa using hge
                                  omega
    subst hgl
    have he := upTo_zero.1 hg.2
    have hE : EdsIn L := EdsIn_of h1 (by omega) he
    refine ⟨hE, fun h3 => ⟨chkEds_big h1 h2 hg.2 (of_decide_eq_true h3), trivial⟩, fun h3 => ?_⟩
    have h3' : ¬ 1024 < lenL L := of_decide_eq_false h3
    have hb : ∀ i, i < L.length → (0 ≤ begN L i ∧ begN L i ≤ 1024) ∧ (-100 ≤ (L.getD i e0).2.2.2.2 ∧ (L.getD i e0).2.2.2.2 ≤ 100) := fun i hi => by
      have := pl_bd h1 (by omega) he (by omega) _ (getD_mem (d := pl0) (show i < (ls L).length by rw [ls_len]; exact hi))
      rw [ls_get L hi] at this
      exact ⟨this.2.2.2.2, this.2.2.2.1⟩
    have hn := begN_bd hE L.length (Nat.le_refl _)
    have hN : begN L L.length = lenL L := rfl
    rw [hN] at hn
    rw [hSl]
    have hord : ∀ i, 0 < i → i < L.length → (ordE (ls L) (lenL L) i = 0 ↔ ¬ (sN L i ≤ sN L (i - 1) ∨ lenL L ≤ sN L i)) := fun i h0 hi => by
      unfold ordE
      rw [whenE_zero (by decide), decide_eq_false_iff_not, sndN_ls hi, sndN_ls (show i - 1 < L.length by omega)]
      constructor
      · exact fun h5 h6 => h5 ⟨h0, h6⟩
      · exact fun h5 h6 => h5 h6.2
    refine ⟨⟨1, ⟨by omega, .inl rfl, fun k hk hkl => ?_⟩, by trivial, by trivial, by trivial, by trivial, by trivial, by trivial⟩, fun i hi => ⟨fun hlt => ?_, fun hge => ?_⟩⟩
    · have : k = 0 := by omega
      subst this
      unfold ordE
      rw [whenE_zero (by decide), decide_eq_false_iff_not]
      omega
    · have hlt' : i < L.length := by simpa using hlt
      have e1 : ((i : Int) - 1).toNat = i - 1 := by omega
      have hi1 := hi.1
      have b1 := hb i hlt'
      have b2 := hb (i - 1) (by omega)
      rw [e1, hS i hlt', hS (i - 1) (by omega)]
      have hs1 : begN L i + (L.getD i e0).2.2.2.2 = sN L i := rfl
      have hs2 : begN L (i - 1) + (L.getD (i - 1) e0).2.2.2.2 = sN L (i - 1) := rfl
      rw [hs1, hs2]
      refine ⟨by omega, hlt', by omega, by simp only [fits]; omega, by simp only [fits]; omega, by omega, by omega, by simp only [fits]; omega, by omega, by simp only [fits]; omega, fun _ => by omega, fun _ => hlt', fun _ => by omega, fun _ => by simp only [fits]; omega, fun h5 => ⟨?_, trivial⟩, fun h5 => ⟨by simp only [fits]; omega, i + 1, ⟨by omega, .inr hlt', fun k hk hkl => ?_⟩, by omega, by omega, by trivial, by trivial, by trivial, by trivial, by trivial⟩⟩
      · simp only [bcond_l, Bool.or_eq_true, decide_eq_true_eq] at h5
        exact chkEds_ord h1 h2 hg.2 h3' hlt' (by rw [Ne, hord i (by omega) hlt']; exact fun h6 => h6 h5)
      · by_cases e : k = i
        · subst e
          rw [hord k (by omega) hlt']
          simp only [bcond_l, Bool.or_eq_false_iff, decide_eq_false_iff_not] at h5
          omega
        · exact hi.2.2 k (by omega) hkl
    · have hge' : ¬ i < L.length := by simpa using hge
      have ho : ∀ g, g < L.length → ordE (ls L) (lenL L) g = 0 := fun g hg => hi.2.2 g (by omega) hg
      have hsnd := sndOk_of h1 h2 he ho
      refine ⟨⟨0, ⟨Nat.zero_le _, fun k t hk => by omega⟩, by trivial, by trivial, by trivial, by trivial, by trivial, by trivial⟩, fun k hk => ⟨fun hlt => ?_, fun hge => ?_⟩⟩
      · have hkl : k < L.length := by simpa using hlt
        refine ⟨⟨0, ⟨Nat.zero_le _, fun t ht => by omega⟩, by trivial, by trivial, by trivial, by trivial, by trivial, by trivial, by trivial⟩, fun t ht => ⟨fun htl => ?_, fun htg => ?_⟩⟩
        · have htl' : (t : Int) < lenL L := of_decide_eq_true htl
          have hx := chkEd_ok (he k hkl)
          obtain ⟨f1, f2⟩ := findN_some hx.idx
          have hr := hrb (L.getD k e0).1
          have hEq : ((rlOf R (L.getD k e0).1).1, (rlOf R (L.getD k e0).1).2.1, (rlOf R (L.getD k e0).1).2.2) = rlOf R (L.getD k e0).1 := rfl
          have hEn : endR (rlOf R (L.getD k e0).1) = (rlOf R (L.getD k e0).1).2.1 + ((rlOf R (L.getD k e0).1).2.2.length : Int) := rfl
          have hb1 := hb k hkl
          have hin := hE.2 _ (getD_mem (d := e0) hkl)
          have hidx := hx.idx
          rw [f2, hEq, ← hEn, hS k hkl]
          refine ⟨hE, fun x hx => ?_, fun _ => by omega, fun _ => hl, fun _ => by omega, fun _ => by omega, fun _ => by simp only [fits]; omega, fun _ => by omega, fun _ => hkl, fun _ => by simp only [fits]; omega, fun _ => by simp only [fits]; omega, fun h5 => ⟨?_, trivial⟩, fun h5 => ⟨by simp only [fits]; omega, t + 1, ⟨by omega, fun t' ht' => ?_⟩, by omega, by omega, by trivial, by trivial, by trivial, by trivial, by trivial, by trivial⟩⟩
          · obtain ⟨j, hj, rfl⟩ := mem_getD e0 hx
            exact (hb j hj).2
          · simp only [bcond_r, Bool.and_eq_true, beq_iff_eq, Bool.not_eq_true'] at h5
            exact chkEds_sp h1 h2 hg.2 h3' ho hkl ((bad_iff h1 hsnd hkl).2 ⟨t, htl', h5⟩)
          · by_cases e : t' < t
            · exact ht.2 t' e
            · have : t' = t := by omega
              subst this
              intro h6
              rw [← Bool.not_eq_true] at h5
              apply h5
              simp only [bcond_r, Bool.and_eq_true, beq_iff_eq, Bool.not_eq_true']
              exact h6
        · have htg' : ¬ (t : Int) < lenL L := of_decide_eq_false htg
          refine ⟨by simp only [fits]; omega, k + 1, ⟨hkl, fun j t' hj ht' => ?_⟩, by omega, by omega, by trivial, by trivial, by trivial, by trivial, by trivial⟩
          by_cases e : j < k
          · exact hk.2 j t' e ht'
          · have : j = k := by omega
            subst this
            exact ht.2 t' (by omega)
      · have hge' : ¬ k < L.length := by simpa using hge
        refine ⟨chkEds_good h1 h2 hg.2 h3' ho fun g hg => ?_, trivial⟩
        apply Classical.byContradiction
        intro hc
        obtain ⟨t, ht, hb⟩ := (bad_iff h1 hsnd hg).1 hc
        exact hk.2 g t (by omega) ht hb
theorem so25_ : SpecOk P1 gl1 25 sp25 := by
  intro vs ps r h hp
  simp only [sp25] at h
  split at h
  · cases h; exact fn25 _ _ (hp _ (.head _)) (hp _ (.tail _ (.head _))) (hp _ (.tail _ (.tail _ (.head _)))) (hp _ (.tail _ (.tail _ (.tail _ (.head _)))))
  · cases h
theorem so25 : Sp1 25 sp25 := ⟨so25_, Proofs.Tryd.f25, _, by kernel_rfl, rfl, by kernel_rfl⟩

end Go.Sx

/- Plain functions and hints. -/
namespace Go.Sx.U
abbrev Mu := List (Tk × Bool)
def sp0 : Int × Int := (0, 0)
/-- A frame of a reel is used. -/
def useTk (m : Mu) (x : Tk) : Mu := U.mapPut (.pair .str (.pair (.int .i64) (.pair (.int .i64) (.int .i64)))) .bool m (x.1, x.2.1, 0, 0) true
def useTo (m : Mu) (ts : List Tk) : Nat → Mu
  | 0 => m
  | j + 1 => useTk (useTo m ts j) (ts.getD j tk0)
/-- The takes that are seen and heard at a frame. -/
def allN (p : List Pl) (t : Nat) : List Tk := takesN p (t : Int) ++ [soundN p (t : Int)]
def usedTo (p : List Pl) : Nat → Mu
  | 0 => []
  | t + 1 => useTo (usedTo p t) (allN p t) (allN p t).length
def usedB (m : Mu) (nm : List UInt8) (n : Int) : Bool := (U.mapGet (.pair .str (.pair (.int .i64) (.pair (.int .i64) (.int .i64)))) .bool m (nm, n, 0, 0)).getD false
/-- Spans with another number. -/
def addSp (o : List (Int × Int)) (n : Int) : List (Int × Int) :=
  if 0 < o.length ∧ (o.getD (o.length - 1) sp0).2 = n then o.set (o.length - 1) ((o.getD (o.length - 1) sp0).1, (o.getD (o.length - 1) sp0).2 + 1) else o ++ [(n, n + 1)]
def spTo (is : Int → Bool) (a : Int) : Nat → List (Int × Int)
  | 0 => []
  | i + 1 => if is (a + (i : Int)) = true then addSp (spTo is a i) (a + (i : Int)) else spTo is a i
def reelSp (m : Mu) (r : Rl) : List (Int × Int) := spTo (usedB m r.1) r.2.1 r.2.2.length
def needTo (m : Mu) (R : List Rl) : Nat → List (List UInt8 × Int × Int)
  | 0 => []
  | i + 1 => needTo m R i ++ (reelSp m (R.getD i r0)).map fun s => ((R.getD i r0).1, s.1, s.2)
def needN (R : List Rl) (L : List Ed) : List (List UInt8 × Int × Int) := if chkEds R L = 0 then needTo (usedTo (ls L) (lenL L).toNat) R R.length else []
end Go.Sx.U
namespace Go.Sx
open U
abbrev snT : Ty := .pair (.int .i64) (.int .i64)
abbrev ndT : Ty := .pair .str (.pair (.int .i64) (.int .i64))
abbrev muT : Ty := .pair .str (.pair (.int .i64) (.pair (.int .i64) (.int .i64)))
/-- The box that holds a map of the call's own. -/
def muB : List (Nat × Option AObj) → Option (Nat × Nat)
  | [] => none
  | (i, some (.box [.one (.own j)])) :: _ => some (i, j)
  | _ :: r => muB r
/-- The entries of a map of the call's own. -/
def muOf (ob : List (Nat × Option AObj)) (j : Nat) : Option Mu := match lookO ob j with
  | some (.map true false (.pair .str (.pair (.int .i64) (.pair (.int .i64) (.int .i64)))) .bool l) => some l
  | _ => none
def lessI (ob : List (Nat × Option AObj)) (js : List Nat) : List (Nat × Option AObj) := (liveO [] ob).filter fun x => !(js.contains x.1)
def h42 : Hints := ⟨fun f k s => match f, k with
  | 132, 1 => match lsAt s 1, muB (liveO [] s.ob) with
    | some (p, n, _), some (_, j) => some ⟨Nat, fun i => ⟨tI 6 i :: keepT [0, 1, 5] s.tm, (j, some (.map true false muT .bool (usedTo p i))) :: lessI s.ob [j], s.nx, s.lr⟩, fun i => i ≤ n.toNat, fun i => n.toNat - i⟩
    | _, _ => none
  | 42, 10 => match ptrId s 8, listAs s 37 tkT with
    | some b, some ts => match lookO s.ob b with
      | some (.box [.one (.own j)]) => match muOf s.ob j with
        | some m => some ⟨Nat, fun i => ⟨tI 39 i :: keepT [7, 8, 37, 38] s.tm, (j, some (.map true false muT .bool (useTo m ts i))) :: lessI s.ob [j], s.nx, s.lr⟩, fun i => i ≤ List.length ts, fun i => List.length ts - i⟩
        | _ => none
      | _ => none
    | _, _ => none
  | 42, 16 => match ptrId s 8, listAs s 50 rlT with
    | some b, some R => match lookO s.ob b with
      | some (.box [.one (.own j)]) => match muOf s.ob j with
        | some m => some ⟨Nat, fun i => ⟨[tI 52 i, (13, .val (.one (.own s.nx)))] ++ keepT [8, 50, 51] s.tm, (s.nx, some (.row ndT (needTo m R i))) :: lessO s [13], s.nx + 1, s.lr⟩, fun i => i ≤ List.length R, fun i => List.length R - i⟩
        | _ => none
      | _ => none
    | _, _ => none
  | 42, 19 => match listAs s 61 snT, rlAt s 15, listAs s 13 ndT with
    | some sps, some (nm, _, _), some o => some ⟨Nat, fun i => ⟨[tI 63 i, (13, .val (.one (.own s.nx)))] ++ keepT [8, 15, 50, 51, 52, 61, 62] s.tm, (s.nx, some (.row ndT (o ++ (List.take i sps).map fun x => (nm, x.1, x.2)))) :: lessO s [13], s.nx + 1, s.lr⟩, fun i => i ≤ List.length sps, fun i => List.length sps - i⟩
    | _, _, _ => none
  | 101, 3 => match intOfT s 0, intOfT s 1, lookT s.tm 2 with
    | some a, some b, some (.val (.one (.fn 102 [] [(q, 0), (r, 0)]))) => match lookO s.ob q, lookO s.ob r with
      | some (.box [.one (.own j)]), some (.box (.one (.str nm) :: _)) => match muOf s.ob j with
        | some m => some ⟨Nat, fun i => ⟨[tI 8 (a + (i : Int)), (7, .val (.one (.own s.nx)))] ++ keepT [0, 1, 2] s.tm, (s.nx, some (.row snT (spTo (usedB m nm) a i))) :: lessO s [7], s.nx + 1, s.lr⟩, fun i => i ≤ (b - a).toNat, fun i => (b - a).toNat - i⟩
        | _ => none
      | _, _ => none
    | _, _, _ => none
  | _, _ => none, 0⟩
@[reducible] noncomputable def fb101 : Nat × Func := (101, Proofs.Tryd.f101)
@[reducible] noncomputable def fb102 : Nat × Func := (102, Proofs.Tryd.f102)
def sp133n : FSpec := ⟨fun vs => match vs with
  | [.agg [.one (.sl (.pair (.pair .str (.pair (.int .i64) (.pair (.int .i64) (.pair (.int .i64) (.int .i64))))) (.int .i64)) p), .one (.int .i64 _), .one (.mp false true .str (.pair .str (.pair (.int .i64) (.sl (.int .i64)))) _)], .one (.int .i64 fr)] =>
    some ([PlsOk p, 0 ≤ fr ∧ fr ≤ 100000], .val (.one (.frs tkT (takesN p fr))))
  | _ => none, true⟩
end Go.Sx
namespace Go.Sx
open U
def sp42 : FSpec := ⟨fun vs => match vs with
  | [.one (.sl (.pair .str (.pair (.int .i64) (.sl (.int .i64)))) R), .one (.sl (.pair .str (.pair (.int .i64) (.pair (.int .i64) (.pair (.int .i64) (.int .i64))))) L)] => some ([List.length R ≤ 1000000000, ∀ r ∈ (show List Rl from R), List.length r.2.2 ≤ 1000000, List.length L ≤ 1000000000], .tup [.one (.frs ndT (needN R L)), iV (chkEds R L)])
  | _ => none, true⟩
end Go.Sx

/- What the engine asks, written out (printed by a program). -/
namespace Go.Sx
open U
theorem vc133n (p : List Pl) (n : Int) (m : List (List UInt8 × Rl)) (fr : Int) : exF (env false [(145, sp145), (135, sp135)] []) h0 0 133 Proofs.Tryd.f133 [lsV p n m, iV fr] (.val (.one (.frs tkT (takesN p fr)))) = (let q0 := (List.getD p (lastTo begP p fr (List.length p)) pl0); let q1 := (↑(lastTo begP p fr (List.length p)) : Int); let q2 := (q0.1.2.2.2.1 + (1 : Int)); let q3 := (List.getD p (Int.toNat (q1 - (1 : Int))) pl0); let q4 := (q0.1.2.2.2.1 - (fr - q0.2)); List.length p ≤ (1000000 : Nat) ∧ ((0 : Int) ≤ q1 ∧ q1 < (↑(List.length p) : Int)) ∧ fits IntKind.i64 (fr - q0.2) ∧ splitB (decide (q0.1.2.2.2.1 ≤ fr - q0.2)) (fits IntKind.i64 (q0.1.2.1 + (fr - q0.2)) ∧ [(q0.1.1, q0.1.2.1 + (fr - q0.2), (1 : Int), (1 : Int))] = takesN p fr ∧ True) (fits IntKind.i64 (q1 - (1 : Int)) ∧ ((0 : Int) ≤ q1 - (1 : Int) ∧ q1 - (1 : Int) < (↑(List.length p) : Int)) ∧ fits IntKind.i64 (q3.1.2.2.1 + (fr - q0.2)) ∧ fits IntKind.i64 q4 ∧ fits IntKind.i64 q2 ∧ (0 : Int) < q0.1.2.2.2.1 - (fr - q0.2) ∧ (0 : Int) < q0.1.2.2.2.1 + (1 : Int) ∧ (q0.1.2.2.2.1 - (fr - q0.2) ≤ (1000000 : Int) ∧ q0.1.2.2.2.1 + (1 : Int) ≤ (1000000 : Int)) ∧ fits IntKind.i64 (q0.1.2.1 + (fr - q0.2)) ∧ fits IntKind.i64 (fr - q0.2 + (1 : Int)) ∧ fits IntKind.i64 q2 ∧ (0 : Int) < fr - q0.2 + (1 : Int) ∧ (0 : Int) < q0.1.2.2.2.1 + (1 : Int) ∧ (fr - q0.2 + (1 : Int) ≤ (1000000 : Int) ∧ q0.1.2.2.2.1 + (1 : Int) ≤ (1000000 : Int)) ∧ [(q3.1.1, q3.1.2.2.1 + (fr - q0.2), (lowN q4 q2).1, (lowN q4 q2).2), (q0.1.1, q0.1.2.1 + (fr - q0.2), (lowN (fr - q0.2 + (1 : Int)) q2).1, (lowN (fr - q0.2 + (1 : Int)) q2).2)] = takesN p fr ∧ True)) := by
  kernel_rfl
theorem vc42 (R : List Rl) (L : List Ed) : exF (env false [(43, sp43), (88, sp88), (133, sp133n), (98, sp98), (77, sp77)] [fb95, fb132, fb101, fb102]) h42 3 42 Proofs.Tryd.f42 [.one (.sl rlT R), .one (.sl edT L)] (.tup [.one (.frs ndT (needN R L)), iV (chkEds R L)]) = (let q3 := (List.length L); let q4 := (List.length R); let q13 := (Ty.pair Ty.str (Ty.pair (Ty.int IntKind.i64) (Ty.pair (Ty.int IntKind.i64) (Ty.int IntKind.i64)))); List.length R ≤ (1000000000 : Nat) ∧ (∀ (r : Rl), r ∈ R → List.length r.2.2 ≤ (1000000 : Nat)) ∧ List.length L ≤ (1000000000 : Nat) ∧ splitB (chkEds R L != (0 : Int)) (needN R L = [] ∧ chkEds R L = chkEds R L ∧ True) (List.length R ≤ (1000000000 : Nat) ∧ EdsIn L ∧ (∃ (g : Nat), Nat.le g (Int.toNat (begN L q3)) ∧ (0 : Int) = (↑g : Int) ∧ begN L q3 = begN L q3 ∧ [] = usedTo (plTo L q3) g ∧ plTo L q3 = plTo L q3 ∧ begN L q3 = begN L q3 ∧ mapR R q4 = mapR R q4 ∧ plTo L q3 = plTo L q3 ∧ begN L q3 = begN L q3 ∧ mapR R q4 = mapR R q4 ∧ True) ∧ ∀ (g : Nat), let q15 := (soundN (plTo L q3) (↑g : Int)); let q0 := (q15.1, q15.2.1, q15.2.2.1, q15.2.2.2); let q5 := (takesN (plTo L q3) (↑g : Int) ++ [q0]); let q7 := (usedTo (plTo L q3) g); let q12 := (↑(List.length q5) : Int); let q17 := ((0 : Int) ≤ (↑g : Int) ∧ (↑g : Int) ≤ (100000 : Int)); Nat.le g (Int.toNat (begN L q3)) → splitB (decide ((↑g : Int) < begN L q3)) (PlsOk (plTo L q3) ∧ q17 ∧ PlsOk (plTo L q3) ∧ q17 ∧ room (List.length (takesN (plTo L q3) (↑g : Int)) + (1 : Nat)) (40 : Nat) ∧ (∃ (g_1 : Nat), Nat.le g_1 (List.length q5) ∧ (0 : Int) = (↑g_1 : Int) ∧ q12 = q12 ∧ usedTo (plTo L q3) g = useTo q7 q5 g_1 ∧ takesN (plTo L q3) (↑g : Int) ++ [q0] = takesN (plTo L q3) (↑g : Int) ++ [q0] ∧ [q0] = [q0] ∧ plTo L q3 = plTo L q3 ∧ begN L q3 = begN L q3 ∧ mapR R q4 = mapR R q4 ∧ plTo L q3 = plTo L q3 ∧ begN L q3 = begN L q3 ∧ mapR R q4 = mapR R q4 ∧ True) ∧ ∀ (g_1 : Nat), Nat.le g_1 (List.length q5) → splitB (decide ((↑g_1 : Int) < q12)) (((0 : Int) ≤ (↑g_1 : Int) ∧ (↑g_1 : Int) < q12) ∧ g_1 < List.length q5 ∧ fits IntKind.i64 ((↑g_1 : Int) + (1 : Int)) ∧ ∃ (g' : Nat), Nat.le g' (List.length q5) ∧ List.length q5 - g' < List.length q5 - g_1 ∧ (↑g_1 : Int) + (1 : Int) = (↑g' : Int) ∧ q12 = q12 ∧ mapPut q13 Ty.bool (useTo q7 q5 g_1) ((List.getD q5 g_1 tk0).1, (List.getD q5 g_1 tk0).2.1, (0 : Int), (0 : Int)) true = useTo q7 q5 g' ∧ takesN (plTo L q3) (↑g : Int) ++ [q0] = takesN (plTo L q3) (↑g : Int) ++ [q0] ∧ [q0] = [q0] ∧ plTo L q3 = plTo L q3 ∧ begN L q3 = begN L q3 ∧ mapR R q4 = mapR R q4 ∧ plTo L q3 = plTo L q3 ∧ begN L q3 = begN L q3 ∧ mapR R q4 = mapR R q4 ∧ True) (fits IntKind.i64 ((↑g : Int) + (1 : Int)) ∧ ∃ (g' : Nat), Nat.le g' (Int.toNat (begN L q3)) ∧ Int.toNat (begN L q3) - g' < Int.toNat (begN L q3) - g ∧ (↑g : Int) + (1 : Int) = (↑g' : Int) ∧ begN L q3 = begN L q3 ∧ useTo q7 q5 g_1 = usedTo (plTo L q3) g' ∧ plTo L q3 = plTo L q3 ∧ begN L q3 = begN L q3 ∧ mapR R q4 = mapR R q4 ∧ plTo L q3 = plTo L q3 ∧ begN L q3 = begN L q3 ∧ mapR R q4 = mapR R q4 ∧ True)) ((∃ (g_1 : Nat), Nat.le g_1 q4 ∧ (0 : Int) = (↑g_1 : Int) ∧ (↑q4 : Int) = (↑q4 : Int) ∧ R = R ∧ needTo q7 R g_1 = [] ∧ usedTo (plTo L q3) g = usedTo (plTo L q3) g ∧ plTo L q3 = plTo L q3 ∧ begN L q3 = begN L q3 ∧ mapR R q4 = mapR R q4 ∧ plTo L q3 = plTo L q3 ∧ begN L q3 = begN L q3 ∧ mapR R q4 = mapR R q4 ∧ True) ∧ ∀ (g_1 : Nat), let q2 := (List.getD R g_1 r0); let q8 := (↑(List.length q2.2.2) : Int); let q10 := (q2.2.1 + q8 - q2.2.1); let q11 := (usedB q7 q2.1); let q19 := (Int.toNat q10); Nat.le g_1 q4 → splitB (decide ((↑g_1 : Int) < (↑q4 : Int))) (((0 : Int) ≤ (↑g_1 : Int) ∧ (↑g_1 : Int) < (↑q4 : Int)) ∧ fits IntKind.i64 (q2.2.1 + q8) ∧ (∃ (g_2 : Nat), Nat.le g_2 q19 ∧ q2.2.1 = q2.2.1 + (↑g_2 : Int) ∧ q2.2.1 = q2.2.1 ∧ q2.2.1 + q8 = q2.2.1 + q8 ∧ spTo q11 q2.2.1 g_2 = [] ∧ q2.1 = q2.1 ∧ q2.2.1 = q2.2.1 ∧ q2.2.2 = q2.2.2 ∧ needTo q7 R g_1 = needTo q7 R g_1 ∧ usedTo (plTo L q3) g = usedTo (plTo L q3) g ∧ plTo L q3 = plTo L q3 ∧ begN L q3 = begN L q3 ∧ mapR R q4 = mapR R q4 ∧ plTo L q3 = plTo L q3 ∧ begN L q3 = begN L q3 ∧ mapR R q4 = mapR R q4 ∧ True) ∧ ∀ (g_2 : Nat), let q1 := (spTo q11 q2.2.1 g_2); let q6 := (↑(List.length q1) : Int); let q16 := (q6 - (1 : Int)); let q9 := (List.getD q1 (Int.toNat q16) ((0 : Int), (0 : Int))); let q14 := (q2.2.1 + (↑g_2 : Int) + (1 : Int)); let q18 := ((0 : Int) ≤ q6 - (1 : Int) ∧ q6 - (1 : Int) < q6); Nat.le g_2 q19 → splitB (decide (q2.2.1 + (↑g_2 : Int) < q2.2.1 + q8)) (splitB (!Option.getD (mapGet q13 Ty.bool q7 (q2.1, q2.2.1 + (↑g_2 : Int), (0 : Int), (0 : Int))) false) (fits IntKind.i64 q14 ∧ ∃ (g' : Nat), Nat.le g' q19 ∧ Int.toNat q10 - g' < Int.toNat q10 - g_2 ∧ q2.2.1 + (↑g_2 : Int) + (1 : Int) = q2.2.1 + (↑g' : Int) ∧ q2.2.1 = q2.2.1 ∧ q2.2.1 + q8 = q2.2.1 + q8 ∧ spTo q11 q2.2.1 g_2 = spTo q11 q2.2.1 g' ∧ q2.1 = q2.1 ∧ q2.2.1 = q2.2.1 ∧ q2.2.2 = q2.2.2 ∧ needTo q7 R g_1 = needTo q7 R g_1 ∧ usedTo (plTo L q3) g = usedTo (plTo L q3) g ∧ plTo L q3 = plTo L q3 ∧ begN L q3 = begN L q3 ∧ mapR R q4 = mapR R q4 ∧ plTo L q3 = plTo L q3 ∧ begN L q3 = begN L q3 ∧ mapR R q4 = mapR R q4 ∧ True) ((decide ((0 : Int) < q6) = true → fits IntKind.i64 q16) ∧ (decide ((0 : Int) < q6) = true → (0 : Int) ≤ q6 - (1 : Int) ∧ q6 - (1 : Int) < q6) ∧ (decide ((0 : Int) < q6) = true → Int.toNat q16 < List.length q1) ∧ splitB (bif decide ((0 : Int) < q6) then q9.2 == q2.2.1 + (↑g_2 : Int) else false) (fits IntKind.i64 q16 ∧ q18 ∧ Int.toNat q16 < List.length q1 ∧ fits IntKind.i64 (q9.2 + (1 : Int)) ∧ q18 ∧ Int.toNat q16 < List.length q1 ∧ fits IntKind.i64 q14 ∧ ∃ (g' : Nat), Nat.le g' q19 ∧ Int.toNat q10 - g' < Int.toNat q10 - g_2 ∧ q2.2.1 + (↑g_2 : Int) + (1 : Int) = q2.2.1 + (↑g' : Int) ∧ q2.2.1 = q2.2.1 ∧ q2.2.1 + q8 = q2.2.1 + q8 ∧ List.set q1 (Int.toNat q16) (q9.1, q9.2 + (1 : Int)) = spTo q11 q2.2.1 g' ∧ q2.1 = q2.1 ∧ q2.2.1 = q2.2.1 ∧ q2.2.2 = q2.2.2 ∧ needTo q7 R g_1 = needTo q7 R g_1 ∧ usedTo (plTo L q3) g = usedTo (plTo L q3) g ∧ plTo L q3 = plTo L q3 ∧ begN L q3 = begN L q3 ∧ mapR R q4 = mapR R q4 ∧ plTo L q3 = plTo L q3 ∧ begN L q3 = begN L q3 ∧ mapR R q4 = mapR R q4 ∧ True) (fits IntKind.i64 q14 ∧ room (List.length q1 + (1 : Nat)) (16 : Nat) ∧ fits IntKind.i64 q14 ∧ ∃ (g' : Nat), Nat.le g' q19 ∧ Int.toNat q10 - g' < Int.toNat q10 - g_2 ∧ q2.2.1 + (↑g_2 : Int) + (1 : Int) = q2.2.1 + (↑g' : Int) ∧ q2.2.1 = q2.2.1 ∧ q2.2.1 + q8 = q2.2.1 + q8 ∧ spTo q11 q2.2.1 g_2 ++ [(q2.2.1 + (↑g_2 : Int), q2.2.1 + (↑g_2 : Int) + (1 : Int))] = spTo q11 q2.2.1 g' ∧ q2.1 = q2.1 ∧ q2.2.1 = q2.2.1 ∧ q2.2.2 = q2.2.2 ∧ needTo q7 R g_1 = needTo q7 R g_1 ∧ usedTo (plTo L q3) g = usedTo (plTo L q3) g ∧ plTo L q3 = plTo L q3 ∧ begN L q3 = begN L q3 ∧ mapR R q4 = mapR R q4 ∧ plTo L q3 = plTo L q3 ∧ begN L q3 = begN L q3 ∧ mapR R q4 = mapR R q4 ∧ True))) ((∃ (g_3 : Nat), Nat.le g_3 (List.length q1) ∧ (0 : Int) = (↑g_3 : Int) ∧ q6 = q6 ∧ (↑g_1 : Int) = (↑g_1 : Int) ∧ (↑q4 : Int) = (↑q4 : Int) ∧ R = R ∧ needTo q7 R g_1 = needTo q7 R g_1 ++ List.map (fun (x : Int × Int) => (q2.1, x.1, x.2)) (List.take g_3 q1) ∧ spTo q11 q2.2.1 g_2 = spTo q11 q2.2.1 g_2 ∧ q2.1 = q2.1 ∧ q2.2.1 = q2.2.1 ∧ q2.2.2 = q2.2.2 ∧ usedTo (plTo L q3) g = usedTo (plTo L q3) g ∧ plTo L q3 = plTo L q3 ∧ begN L q3 = begN L q3 ∧ mapR R q4 = mapR R q4 ∧ plTo L q3 = plTo L q3 ∧ begN L q3 = begN L q3 ∧ mapR R q4 = mapR R q4 ∧ True) ∧ ∀ (g_3 : Nat), Nat.le g_3 (List.length q1) → splitB (decide ((↑g_3 : Int) < q6)) (((0 : Int) ≤ (↑g_3 : Int) ∧ (↑g_3 : Int) < q6) ∧ g_3 < List.length q1 ∧ room (List.length (needTo q7 R g_1 ++ List.map (fun (x : Int × Int) => (q2.1, x.1, x.2)) (List.take g_3 q1)) + (1 : Nat)) (32 : Nat) ∧ fits IntKind.i64 ((↑g_3 : Int) + (1 : Int)) ∧ ∃ (g' : Nat), Nat.le g' (List.length q1) ∧ List.length q1 - g' < List.length q1 - g_3 ∧ (↑g_3 : Int) + (1 : Int) = (↑g' : Int) ∧ q6 = q6 ∧ (↑g_1 : Int) = (↑g_1 : Int) ∧ (↑q4 : Int) = (↑q4 : Int) ∧ R = R ∧ needTo q7 R g_1 ++ List.map (fun (x : Int × Int) => (q2.1, x.1, x.2)) (List.take g_3 q1) ++ [(q2.1, (List.getD q1 g_3 ((0 : Int), (0 : Int))).1, (List.getD q1 g_3 ((0 : Int), (0 : Int))).2)] = needTo q7 R g_1 ++ List.map (fun (x : Int × Int) => (q2.1, x.1, x.2)) (List.take g' q1) ∧ spTo q11 q2.2.1 g_2 = spTo q11 q2.2.1 g_2 ∧ q2.1 = q2.1 ∧ q2.2.1 = q2.2.1 ∧ q2.2.2 = q2.2.2 ∧ usedTo (plTo L q3) g = usedTo (plTo L q3) g ∧ plTo L q3 = plTo L q3 ∧ begN L q3 = begN L q3 ∧ mapR R q4 = mapR R q4 ∧ plTo L q3 = plTo L q3 ∧ begN L q3 = begN L q3 ∧ mapR R q4 = mapR R q4 ∧ True) (fits IntKind.i64 ((↑g_1 : Int) + (1 : Int)) ∧ ∃ (g' : Nat), Nat.le g' q4 ∧ List.length R - g' < List.length R - g_1 ∧ (↑g_1 : Int) + (1 : Int) = (↑g' : Int) ∧ (↑q4 : Int) = (↑q4 : Int) ∧ R = R ∧ needTo q7 R g_1 ++ List.map (fun (x : Int × Int) => (q2.1, x.1, x.2)) (List.take g_3 q1) = needTo q7 R g' ∧ usedTo (plTo L q3) g = usedTo (plTo L q3) g ∧ plTo L q3 = plTo L q3 ∧ begN L q3 = begN L q3 ∧ mapR R q4 = mapR R q4 ∧ plTo L q3 = plTo L q3 ∧ begN L q3 = begN L q3 ∧ mapR R q4 = mapR R q4 ∧ True))) (needTo q7 R g_1 = needN R L ∧ (0 : Int) = chkEds R L ∧ True)))) := by
  kernel_rfl
end Go.Sx

/- Contracts. -/
namespace Go.Sx
open U
theorem fn133n (p : List Pl) (n : Int) (m : List (List UInt8 × Rl)) (fr : Int) (hp : PlsOk p) (hf : 0 ≤ fr ∧ fr ≤ 100000) : Fn P1 gl1 133 [lsV p n m, iV fr] (.val (.one (.frs tkT (takesN p fr)))) true := by
  refine Fn.flat ?_ rfl
  refine fn_of false [(145, sp145), (135, sp135)] [] h0 0 Proofs.Tryd.f133 ⟨so145, so135, trivial⟩ trivial (by kernel_rfl) rfl (by kernel_rfl) rfl rfl rfl ?_
  rw [vc133n]
  try simp only [splitB_iff, -eq_self]
  obtain ⟨h0, h16, hx, hb0, hf0⟩ := hp
  have hl := lastTo_lt begP p fr p.length h0
  have hle : begP (p.getD (lastTo begP p fr p.length) pl0) ≤ fr := lastTo_le (by show (p.getD 0 pl0).2 ≤ fr; omega) _
  have hk := hx _ (getD_mem (d := pl0) hl)
  have hT : takesN p fr = takesE (p.getD (lastTo begP p fr p.length) pl0).1 (p.getD (lastTo begP p fr p.length - 1) pl0).1 (fr - (p.getD (lastTo begP p fr p.length) pl0).2) := rfl
  rw [hT]
  generalize lastTo begP p fr p.length = k at *
  change (p.getD k pl0).2 ≤ fr at hle
  change _ ∧ _ ∧ fits .i64 (fr - (p.getD k pl0).2) ∧ _
  refine ⟨by omega, by omega, by simp only [fits]; omega, fun h => ?_, fun h => ?_⟩
  · have h' : (p.getD k pl0).1.2.2.2.1 ≤ fr - (p.getD k pl0).2 := of_decide_eq_true h
    refine ⟨?_, ?_, trivial⟩
    · show fits .i64 ((p.getD k pl0).1.2.1 + (fr - (p.getD k pl0).2))
      simp only [fits]; omega
    · unfold takesE
      rw [if_pos h']
  · have h' : ¬ (p.getD k pl0).1.2.2.2.1 ≤ fr - (p.getD k pl0).2 := of_decide_eq_false h
    have hk1 : 0 < k := by
      apply Nat.pos_of_ne_zero
      rintro rfl
      omega
    have e1 : ((k : Int) - 1).toNat = k - 1 := by omega
    have hb := hx _ (getD_mem (d := pl0) (show k - 1 < p.length by omega))
    rw [e1]
    unfold takesE
    rw [if_neg h']
    refine ⟨?_, ?_, ?_, ?_, ?_, ?_, ?_, ?_, ?_, ?_, ?_, ?_, ?_, ?_, ?_⟩ <;> first | omega | (simp only [fits]; omega) | trivial | skip
theorem so133n_ : SpecOk P1 gl1 133 sp133n := by
  intro vs ps r h hp
  simp only [sp133n] at h
  split at h
  · cases h
    exact fn133n _ _ _ _ (hp _ (.head _)) (hp _ (.tail _ (.head _)))
  · cases h
theorem so133n : Sp1 133 sp133n := ⟨so133n_, Proofs.Tryd.f133, _, by kernel_rfl, rfl, by kernel_rfl⟩

theorem addSp_len (o : List (Int × Int)) (n : Int) : (addSp o n).length ≤ o.length + 1 := by
  unfold addSp
  split
  · rw [List.length_set]; omega
  · simp
theorem spTo_len (is : Int → Bool) (a : Int) : ∀ i, (spTo is a i).length ≤ i
  | 0 => Nat.le_refl _
  | i + 1 => by
    have ih := spTo_len is a i
    have := addSp_len (spTo is a i) (a + (i : Int))
    simp only [spTo]
    split <;> omega
theorem need_len {m : Mu} {R : List Rl} (h : ∀ i, (R.getD i r0).2.2.length ≤ 256) : ∀ n, (needTo m R n).length ≤ 256 * n
  | 0 => Nat.le_refl _
  | n + 1 => by
    have ih := need_len (m := m) h n
    have h1 : (reelSp m (R.getD n r0)).length ≤ (R.getD n r0).2.2.length := spTo_len _ _ _
    have h2 := h n
    simp only [needTo, List.length_append, List.length_map]
    omega
theorem fn42 (R : List Rl) (L : List Ed) (hl : R.length ≤ 1000000000) (hR : ∀ r ∈ R, r.2.2.length ≤ 1000000) (hL : L.length ≤ 1000000000) : Fn P1 gl1 42 [.one (.sl rlT R), .one (.sl edT L)] (.tup [.one (.frs ndT (needN R L)), iV (chkEds R L)]) true := by
  refine Fn.flat ?_ rfl
  refine fn_of false [(43, sp43), (88, sp88), (133, sp133n), (98, sp98), (77, sp77)] [fb95, fb132, fb101, fb102] h42 3 Proofs.Tryd.f42 ⟨so43, so88, so133n, so98, so77, trivial⟩ ⟨⟨by kernel_rfl, by kernel_rfl, _, rfl, by kernel_rfl⟩, ⟨by kernel_rfl, by kernel_rfl, _, rfl, by kernel_rfl⟩, ⟨by kernel_rfl, by kernel_rfl, _, rfl, by kernel_rfl⟩, ⟨by kernel_rfl, by kernel_rfl, _, rfl, by kernel_rfl⟩, trivial⟩ (by kernel_rfl) rfl (by kernel_rfl) rfl rfl rfl ?_
  rw [vc42]
  try simp only [splitB_iff, -eq_self]
  simp only [eq_self, true_and, and_true, and_self]
  refine ⟨hl, hR, hL, fun h => ?_, fun h => ?_⟩
  · have h' : chkEds R L ≠ 0 := by simpa using h
    unfold needN
    rw [if_neg h']
  have h' : chkEds R L = 0 := by simpa using h
  have hk := chkEds_zero.1 h'
  have hn := lenL_nn hk
  have hbig := hk.big
  have hrs := rs_at hk.rs
  have hN : begN L L.length = lenL L := rfl
  have hP : plTo L L.length = ls L := rfl
  simp only [hN, hP]
  refine ⟨hl, hk.eds, ⟨0, Nat.zero_le _, rfl, rfl⟩, fun g hg => ⟨fun hlt => ?_, fun hge => ?_⟩⟩
  · have hlt' : (g : Int) < lenL L := of_decide_eq_true hlt
    have hpl := hk.pls' (show (0 : Int) ≤ g by omega) hlt'
    have ht := takes_ok hk (show (0 : Int) ≤ g by omega) hlt'
    have hall : takesN (ls L) (g : Int) ++ [((soundN (ls L) (g : Int)).1, (soundN (ls L) (g : Int)).2.1, (soundN (ls L) (g : Int)).2.2.1, (soundN (ls L) (g : Int)).2.2.2)] = allN (ls L) g := rfl
    have hlen : (allN (ls L) g).length ≤ 3 := by unfold allN; rw [List.length_append]; have := ht.1; simp; omega
    simp only [hall]
    refine ⟨hpl, by omega, hpl, by omega, by simp only [room]; omega, ⟨0, Nat.zero_le _, rfl, rfl⟩, fun j hj => ⟨fun hjl => ?_, fun hjg => ?_⟩⟩
    · have hjl' : j < (allN (ls L) g).length := by have := of_decide_eq_true hjl; omega
      exact ⟨by omega, hjl', by simp only [fits]; omega, j + 1, hjl', by omega, by omega, rfl⟩
    · have hje : j = (allN (ls L) g).length := by
        have h3 := of_decide_eq_false hjg
        have h4 : j ≤ (allN (ls L) g).length := hj
        omega
      subst hje
      refine ⟨by simp only [fits]; omega, g + 1, ?_, by omega, by omega, rfl⟩
      show g + 1 ≤ (lenL L).toNat
      omega
  · have hgl : g = (lenL L).toNat := by
      have h3 := of_decide_eq_false hge
      have h4 : g ≤ (lenL L).toNat := hg
      omega
    subst hgl
    generalize hU : usedTo (ls L) (lenL L).toNat = m
    have hr256 : ∀ i, (R.getD i r0).2.2.length ≤ 256 := fun i => by
      by_cases h : i < R.length
      · have := (hrs.2 _ (getD_mem (d := r0) h)).len
        omega
      · rw [List.getD_eq_getElem?_getD, List.getElem?_eq_none (by omega)]
        exact Nat.zero_le _
    refine ⟨⟨0, Nat.zero_le _, rfl, rfl⟩, fun i hi => ⟨fun hlt => ?_, fun hge => ?_⟩⟩
    · have hlt' : i < R.length := by have := of_decide_eq_true hlt; omega
      have hro := hrs.2 _ (getD_mem (d := r0) hlt')
      have hf := hro.start
      have hr2 := hr256 i
      have hnl := need_len (m := m) hr256 i
      generalize hr : R.getD i r0 = r at *
      have hmp : ∀ n : Int, (U.mapGet (.pair .str (.pair (.int .i64) (.pair (.int .i64) (.int .i64)))) .bool m (r.1, n, 0, 0)).getD false = usedB m r.1 n := fun _ => rfl
      have hcount : (r.2.1 + (r.2.2.length : Int) - r.2.1).toNat = r.2.2.length := by omega
      simp only [hmp, hcount]
      refine ⟨by omega, by simp only [fits]; omega, ⟨0, Nat.zero_le _, by simp, rfl⟩, fun j hj => ⟨fun hjl => ⟨fun hno => ?_, fun hyes => ?_⟩, fun hjg => ?_⟩⟩
      · have hjl' : j < r.2.2.length := by have := of_decide_eq_true hjl; omega
        have hno' : usedB m r.1 (r.2.1 + (j : Int)) = false := by simpa using hno
        refine ⟨by simp only [fits]; omega, j + 1, hjl', by omega, by omega, ?_⟩
        simp only [spTo, hno']
        rfl
      · have hjl' : j < r.2.2.length := by have := of_decide_eq_true hjl; omega
        have hyes' : usedB m r.1 (r.2.1 + (j : Int)) = true := by simpa using hyes
        have hsl := spTo_len (usedB m r.1) r.2.1 j
        have hsucc : spTo (usedB m r.1) r.2.1 (j + 1) = addSp (spTo (usedB m r.1) r.2.1 j) (r.2.1 + (j : Int)) := by simp only [spTo, hyes', if_true]
        generalize spTo (usedB m r.1) r.2.1 j = o at *
        have hpos : ∀ h : decide ((0 : Int) < (o.length : Int)) = true, 0 < o.length := fun h => by have := of_decide_eq_true h; omega
        have hidx : 0 < o.length → ((o.length : Int) - 1).toNat = o.length - 1 := fun h => by omega
        refine ⟨fun h => by have := hpos h; simp only [fits]; omega, fun h => by have := hpos h; omega, fun h => by have := hpos h; omega, fun h => ?_, fun h => ?_⟩
        · cases h0 : decide ((0 : Int) < (o.length : Int)) with
          | false => rw [h0] at h; cases h
          | true =>
            rw [h0] at h
            have h1 := hpos h0
            rw [hidx h1] at h ⊢
            have h2 : (o.getD (o.length - 1) (0, 0)).2 = r.2.1 + (j : Int) := by simpa using h
            refine ⟨by simp only [fits]; omega, by omega, by omega, by simp only [fits]; omega, by omega, by omega, by simp only [fits]; omega, j + 1, hjl', by omega, by omega, ?_⟩
            rw [hsucc]
            unfold addSp
            rw [if_pos ⟨h1, h2⟩]
            rfl
        · refine ⟨by simp only [fits]; omega, by simp only [room]; omega, by simp only [fits]; omega, j + 1, hjl', by omega, by omega, ?_⟩
          rw [hsucc]
          unfold addSp
          rw [if_neg]
          rintro ⟨h1, h2⟩
          have h0 : decide ((0 : Int) < (o.length : Int)) = true := decide_eq_true (by omega)
          rw [h0, hidx h1] at h
          have h2' : (o.getD (o.length - 1) (0, 0)).2 = r.2.1 + (j : Int) := h2
          rw [h2'] at h
          simp at h
      · have hje : j = r.2.2.length := by
          have h3 := of_decide_eq_false hjg
          have h4 : j ≤ r.2.2.length := hj
          omega
        subst hje
        have hsl := spTo_len (usedB m r.1) r.2.1 r.2.2.length
        have hsp : spTo (usedB m r.1) r.2.1 r.2.2.length = reelSp m r := rfl
        rw [hsp] at hsl ⊢
        refine ⟨⟨0, Nat.zero_le _, rfl, by simp⟩, fun q hq => ⟨fun hql => ?_, fun hqg => ?_⟩⟩
        · have hql' : q < (reelSp m r).length := by have := of_decide_eq_true hql; omega
          refine ⟨by omega, hql', by simp only [room, List.length_append, List.length_map, List.length_take]; omega, by simp only [fits]; omega, q + 1, hql', by omega, by omega, ?_⟩
          rw [getD_of hql', List.take_succ_eq_append_getElem hql', List.map_append, List.append_assoc]
          rfl
        · have hqe : ¬ q < (reelSp m r).length := by have := of_decide_eq_false hqg; omega
          refine ⟨by simp only [fits]; omega, i + 1, hlt', by omega, by omega, ?_⟩
          rw [List.take_of_length_le (by omega)]
          simp only [needTo, hr]
    · have hie : i = R.length := by
        have h3 := of_decide_eq_false hge
        have h4 : i ≤ R.length := hi
        omega
      subst hie
      refine ⟨?_, h'.symm⟩
      unfold needN
      rw [if_pos h', hU]
theorem so42_ : SpecOk P1 gl1 42 sp42 := by
  intro vs ps r h hp
  simp only [sp42] at h
  split at h
  · cases h; exact fn42 _ _ (hp _ (.head _)) (hp _ (.tail _ (.head _))) (hp _ (.tail _ (.tail _ (.head _))))
  · cases h
theorem so42 : Sp1 42 sp42 := ⟨so42_, Proofs.Tryd.f42, _, by kernel_rfl, rfl, by kernel_rfl⟩

end Go.Sx

/- Plain functions and hints. -/
namespace Go.Sx.U
def RateOk (F : Int) (D : Bool) : Prop := (F = 24 ∨ F = 25 ∨ F = 30) ∧ (D = true → F = 30)
def dayN (F : Int) (D : Bool) : Int := if D then 86400 * F - 2592 else 86400 * F
def frameN (F : Int) (D : Bool) (h m s f : Int) : Int := if D then (60 * (60 * h + m) + s) * F + f - 2 * ((60 * h + m) - (60 * h + m) / 10) else (60 * (60 * h + m) + s) * F + f
def skipN (D : Bool) (n : Int) : Int := if D then (if 1800 ≤ n % 17982 then n + 18 * (n / 17982) + 2 * (1 + (n % 17982 - 1800) / 1798) else n + 18 * (n / 17982)) else n
def LabOk (F : Int) (D : Bool) (h m s f : Int) : Prop := (0 ≤ h ∧ h ≤ 23) ∧ (0 ≤ m ∧ m ≤ 59) ∧ (0 ≤ s ∧ s ≤ 59) ∧ (0 ≤ f ∧ f ≤ F - 1) ∧ ¬ (D = true ∧ m % 10 ≠ 0 ∧ s = 0 ∧ f < 2)
def labH (F : Int) (D : Bool) (n : Int) : Int := skipN D n / F / 3600
def labM (F : Int) (D : Bool) (n : Int) : Int := skipN D n / F / 60 % 60
def labS (F : Int) (D : Bool) (n : Int) : Int := skipN D n / F % 60
def labF (F : Int) (D : Bool) (n : Int) : Int := skipN D n % F
def chkRate (F : Int) (D : Bool) : Int := if F = 24 ∨ F = 25 ∨ F = 30 then (if D = true ∧ F ≠ 30 then 24 else 0) else 13
def dropB (D : Bool) (m s f : Int) : Bool := D && (m % 10 != 0) && (s == 0) && decide (f < 2)
def chkLab (F : Int) (D : Bool) (h m s f : Int) : Int := first [chkRate F D, within h 0 23, within m 0 59, within s 0 59, within f 0 (F - 1), whenE (dropB D m s f) 7]
def chkStamp (F : Int) (D : Bool) (h m s f u : Int) : Int := first [chkLab F D h m s f, within u 0 65535]
abbrev Lb := Int × Int × Int × Int
abbrev St7 := (Int × Bool) × Lb × Int
def chkSt (x : St7) : Int := chkStamp x.1.1 x.1.2 x.2.1.1 x.2.1.2.1 x.2.1.2.2.1 x.2.1.2.2.2 x.2.2
def addN (F : Int) (D : Bool) (h m s f n : Int) : Int := (frameN F D h m s f + n) % dayN F D
def lab (F : Int) (D : Bool) (n : Int) : Lb := (labH F D n, labM F D n, labS F D n, labF F D n)
def bcd (n : Int) : Int := (n / 10 * 16 + n % 10) % 256
def word0 (F : Int) (D : Bool) (h m s f u : Int) : List Int := [bcd f, bcd s, bcd m, bcd h, F % 256 + (if D then 128 else 0), u / 256 % 256, u % 256]
def wordS (F : Int) (D : Bool) (h m s f u : Int) : List Int := word0 F D h m s f u ++ [par (word0 F D h m s f u), 63, 253]
def zero10w : List Int := List.replicate 10 0
def lo4 (x : Int) : Int := bits .and .u8 x 15
def dig (x : Int) : Int := x / 16 * 10 + lo4 x
def stOf (d : List Int) : St7 := ((bits .andNot .u8 (d.getD 4 0) 128, decide (0 < bits .and .u8 (d.getD 4 0) 128)), (dig (d.getD 3 0), dig (d.getD 2 0), dig (d.getD 1 0), dig (d.getD 0 0)), d.getD 5 0 * 256 + d.getD 6 0)
def digOk (x : Int) : Prop := x / 16 ≤ 9 ∧ lo4 x ≤ 9
def okW (d : List Int) : Prop := d.getD 8 0 = 63 ∧ d.getD 9 0 = 253 ∧ par (d.take 7) = d.getD 7 0 ∧ (digOk (d.getD 0 0) ∧ digOk (d.getD 1 0) ∧ digOk (d.getD 2 0) ∧ digOk (d.getD 3 0)) ∧ chkSt (stOf d) = 0
def StOk (x : St7) : Prop := RateOk x.1.1 x.1.2 ∧ LabOk x.1.1 x.1.2 x.2.1.1 x.2.1.2.1 x.2.1.2.2.1 x.2.1.2.2.2 ∧ 0 ≤ x.2.2 ∧ x.2.2 ≤ 65535
def follows (x o : St7) : Bool := decide (x.1 = o.1) && decide (x.2.1 = lab o.1.1 o.1.2 (addN o.1.1 o.1.2 o.2.1.1 o.2.1.2.1 o.2.1.2.2.1 o.2.1.2.2.2 1))
def st0 : St7 := ((0, false), (0, 0, 0, 0), 0)
/-- The indices at which stamps jump. -/
def jumpsTo (l : List St7) : Nat → List Int
  | 0 => []
  | i + 1 => if 0 < i ∧ follows (l.getD i st0) (l.getD (i - 1) st0) = false then jumpsTo l i ++ [(i : Int)] else jumpsTo l i
end Go.Sx.U
namespace Go.Sx
open U
abbrev rtT : Ty := .pair (.int .i64) .bool
abbrev lbT : Ty := .pair (.int .i64) (.pair (.int .i64) (.pair (.int .i64) (.int .i64)))
abbrev stT : Ty := .pair (.pair (.int .i64) .bool) (.pair (.pair (.int .i64) (.pair (.int .i64) (.pair (.int .i64) (.int .i64)))) (.int .i64))
@[reducible] def rtV (F : Int) (D : Bool) : V := .agg [.one (.int .i64 F), .one (.bool D)]
@[reducible] def lbV (h m s f : Int) : V := .agg [.one (.int .i64 h), .one (.int .i64 m), .one (.int .i64 s), .one (.int .i64 f)]
@[reducible] def lbW (l : Lb) : V := lbV l.1 l.2.1 l.2.2.1 l.2.2.2
@[reducible] def stV (F : Int) (D : Bool) (h m s f u : Int) : V := .agg [.one (.int .i64 F), .one (.bool D), .one (.int .i64 h), .one (.int .i64 m), .one (.int .i64 s), .one (.int .i64 f), .one (.int .i64 u)]
@[reducible] def stW (x : St7) : V := stV x.1.1 x.1.2 x.2.1.1 x.2.1.2.1 x.2.1.2.2.1 x.2.1.2.2.2 x.2.2
def h52 : Hints := ⟨fun f k s => match f, k with
  | 52, 2 => hFirst 5 6 7 s
  | _, _ => none, 0⟩
def h66 : Hints := hPar 66 3 6 7 8 3 []
def h69 : Hints := ⟨fun f k s => match f, k with
  | 69, 3 => hMapI stT chkSt 8 9 10 5 [1] s
  | _, _ => none, 0⟩
def h19 : Hints := ⟨fun f k s => match f, k with
  | 19, 9 => match listAs s 21 stT with
    | some xs => some ⟨Nat, fun i => ⟨[tI 23 i, (6, .val (.one (.own s.nx)))] ++ keepT [0, 21, 22] s.tm, (s.nx, some (.row (.int .i64) (jumpsTo xs i))) :: lessO s [6], s.nx + 1, s.lr⟩, fun i => i ≤ List.length xs, fun i => List.length xs - i⟩
    | _ => none
  | _, _ => none, 0⟩
@[reducible] noncomputable def fb143 : Nat × Func := (143, Proofs.Tryd.f143)
@[reducible] noncomputable def fb67 : Nat × Func := (67, Proofs.Tryd.f67)
def sp109 : FSpec := ⟨fun vs => match vs with
  | [.one (.sl (.int .i64) xs), .one (.int .i64 n)] => some ([xs = [24, 25, 30]], .val (bV (decide (n = 24 ∨ n = 25 ∨ n = 30))))
  | _ => none, true⟩
end Go.Sx
namespace Go.Sx
open U
def sp68 : FSpec := ⟨fun vs => match vs with
  | [.one (.bool b), .one (.int .i64 e)] => some ([], .val (iV (whenE b e)))
  | _ => none, true⟩
def sp53 : FSpec := ⟨fun vs => match vs with
  | [.one (.int .i64 n), .one (.int .i64 lo), .one (.int .i64 hi)] => some ([], .val (iV (within n lo hi)))
  | _ => none, true⟩
def sp52 : FSpec := ⟨fun vs => match vs with
  | [.one (.sl (.int .i64) xs)] => some ([List.length xs ≤ 1000000000], .val (iV (first xs)))
  | _ => none, true⟩
def sp107 : FSpec := ⟨fun vs => match vs with
  | [.agg [.one (.int .i64 F), .one (.bool D)]] => some ([], .val (iV (chkRate F D)))
  | _ => none, true⟩
def sp108 : FSpec := ⟨fun vs => match vs with
  | [.agg [.one (.int .i64 _F), .one (.bool D)], .agg [.one (.int .i64 _h), .one (.int .i64 m), .one (.int .i64 s), .one (.int .i64 f)]] => some ([0 ≤ m], .val (bV (dropB D m s f)))
  | _ => none, true⟩
def sp45 : FSpec := ⟨fun vs => match vs with
  | [.agg [.one (.int .i64 F), .one (.bool D)], .agg [.one (.int .i64 h), .one (.int .i64 m), .one (.int .i64 s), .one (.int .i64 f)]] => some ([], .val (iV (chkLab F D h m s f)))
  | _ => none, true⟩
def sp8 : FSpec := ⟨fun vs => match vs with
  | [.agg [.one (.int .i64 F), .one (.bool D), .one (.int .i64 h), .one (.int .i64 m), .one (.int .i64 s), .one (.int .i64 f), .one (.int .i64 u)]] => some ([], .val (iV (chkStamp F D h m s f u)))
  | _ => none, true⟩
def sp48 : FSpec := ⟨fun vs => match vs with
  | [.agg [.one (.int .i64 F), .one (.bool D)]] => some ([], .val (iV (chkRate F D)))
  | _ => none, true⟩
def sp49 : FSpec := ⟨fun vs => match vs with
  | [.agg [.one (.int .i64 F), .one (.bool D)]] => some ([0 ≤ F ∧ F ≤ 1000], .val (iV (dayN F D)))
  | _ => none, true⟩
def sp110 : FSpec := ⟨fun vs => match vs with
  | [.agg [.one (.int .i64 _h), .one (.int .i64 m), .one (.int .i64 s), .one (.int .i64 f)], .agg [.one (.int .i64 _F), .one (.bool D)]] => some ([0 ≤ m], .val (bV (dropB D m s f)))
  | _ => none, true⟩
def sp50 : FSpec := ⟨fun vs => match vs with
  | [.agg [.one (.int .i64 F), .one (.bool D)], .agg [.one (.int .i64 h), .one (.int .i64 m), .one (.int .i64 s), .one (.int .i64 f)]] => some ([0 ≤ m, 0 ≤ F ∧ F ≤ 1000], .val (iV (chkLab F D h m s f)))
  | _ => none, true⟩
def sp55 : FSpec := ⟨fun vs => match vs with
  | [.agg [.one (.int .i64 F), .one (.bool D), .one (.int .i64 h), .one (.int .i64 m), .one (.int .i64 s), .one (.int .i64 f), .one (.int .i64 u)]] => some ([0 ≤ m, 0 ≤ F ∧ F ≤ 1000], .val (iV (chkStamp F D h m s f u)))
  | _ => none, true⟩
def sp51 : FSpec := ⟨fun vs => match vs with
  | [.agg [.one (.int .i64 h), .one (.int .i64 m), .one (.int .i64 s), .one (.int .i64 f)], .agg [.one (.int .i64 F), .one (.bool D)]] => some ([RateOk F D, LabOk F D h m s f], .val (iV (frameN F D h m s f)))
  | _ => none, true⟩
def sp10 : FSpec := ⟨fun vs => match vs with
  | [.agg [.one (.int .i64 F), .one (.bool D)]] => some ([RateOk F D], .tup [iV (dayN F D), iV 0])
  | _ => none, true⟩
def sp11 : FSpec := ⟨fun vs => match vs with
  | [.agg [.one (.int .i64 F), .one (.bool D)], .agg [.one (.int .i64 h), .one (.int .i64 m), .one (.int .i64 s), .one (.int .i64 f)]] => some ([RateOk F D, LabOk F D h m s f], .tup [iV (frameN F D h m s f), iV 0])
  | _ => none, true⟩
def sp111 : FSpec := ⟨fun vs => match vs with
  | [.agg [.one (.int .i64 F), .one (.bool D)], .one (.int .i64 n)] => some ([RateOk F D, 0 ≤ n ∧ n < dayN F D], .val (lbW (lab F D n)))
  | _ => none, true⟩
def sp54 : FSpec := ⟨fun vs => match vs with
  | [.agg [.one (.int .i64 h), .one (.int .i64 m), .one (.int .i64 s), .one (.int .i64 f)], .agg [.one (.int .i64 F), .one (.bool D)], .one (.int .i64 n)] => some ([RateOk F D, LabOk F D h m s f, 0 ≤ n ∧ n ≤ 10000000], .val (lbW (lab F D (addN F D h m s f n))))
  | _ => none, true⟩
def sp12 : FSpec := ⟨fun vs => match vs with
  | [.agg [.one (.int .i64 F), .one (.bool D)], .agg [.one (.int .i64 h), .one (.int .i64 m), .one (.int .i64 s), .one (.int .i64 f)], .one (.int .i64 n)] => some ([RateOk F D, LabOk F D h m s f, 0 ≤ n ∧ n ≤ 10000000], .tup [lbW (lab F D (addN F D h m s f n)), iV 0])
  | _ => none, true⟩
def sp66 : FSpec := ⟨fun vs => match vs with
  | [.one (.sl (.int .u8) xs)] => some ([List.length xs ≤ 1000000000, Bytes xs], .val (uV (par xs)))
  | _ => none, true⟩
def sp56 : FSpec := ⟨fun vs => match vs with
  | [.agg [.one (.int .i64 F), .one (.bool D), .one (.int .i64 h), .one (.int .i64 m), .one (.int .i64 s), .one (.int .i64 f), .one (.int .i64 u)]] => some ([RateOk F D, LabOk F D h m s f, 0 ≤ u ∧ u ≤ 65535], .val (aV 10 (wordS F D h m s f u)))
  | _ => none, true⟩
def sp13 : FSpec := ⟨fun vs => match vs with
  | [.agg [.one (.int .i64 F), .one (.bool D), .one (.int .i64 h), .one (.int .i64 m), .one (.int .i64 s), .one (.int .i64 f), .one (.int .i64 u)]] => some ([RateOk F D, LabOk F D h m s f, 0 ≤ u ∧ u ≤ 65535], .tup [aV 10 (wordS F D h m s f u), iV 0])
  | _ => none, true⟩
def sp18 : FSpec := ⟨fun vs => match vs with
  | [.agg [.arr 10 (.int .u8) d]] => some ([List.length d = 10, Bytes d, okW d], .tup [stW (stOf d), iV 0])
  | _ => none, true⟩
def sp69 : FSpec := ⟨fun vs => match vs with
  | [.one (.sl (.pair (.pair (.int .i64) .bool) (.pair (.pair (.int .i64) (.pair (.int .i64) (.pair (.int .i64) (.int .i64)))) (.int .i64))) l), .one (.fn 55 [] [])] => some ([List.length l ≤ 1000000, ∀ x ∈ (show List St7 from l), StOk x], .val (.one (.frs (.int .i64) (List.map chkSt (show List St7 from l)))))
  | _ => none, true⟩
def sp70 : FSpec := ⟨fun vs => match vs with
  | [.agg [.one (.int .i64 F), .one (.bool D), .one (.int .i64 h), .one (.int .i64 m), .one (.int .i64 s), .one (.int .i64 f), .one (.int .i64 u), .one (.int .i64 _a)], .agg [.one (.int .i64 F'), .one (.bool D'), .one (.int .i64 h'), .one (.int .i64 m'), .one (.int .i64 s'), .one (.int .i64 f'), .one (.int .i64 u'), .one (.int .i64 _b)]] => some ([StOk ((F', D'), (h', m', s', f'), u')], .val (bV (follows ((F, D), (h, m, s, f), u) ((F', D'), (h', m', s', f'), u'))))
  | _ => none, true⟩
def sp19 : FSpec := ⟨fun vs => match vs with
  | [.one (.sl (.pair (.pair (.int .i64) .bool) (.pair (.pair (.int .i64) (.pair (.int .i64) (.pair (.int .i64) (.int .i64)))) (.int .i64))) l)] => some ([List.length l ≤ 256, ∀ x ∈ (show List St7 from l), StOk x], .tup [.one (.frs (.int .i64) (jumpsTo (show List St7 from l) (List.length l))), iV 0])
  | _ => none, true⟩
end Go.Sx
