/- A verified symbolic run of functions, part 13: lemmas, no claim of their own. -/
import Derived.Test.YtpbipfdpoijgoaaGreatDoorS12
/- Contracts. -/
namespace Go.Sx
open U
theorem nil_sl {t : Ty} {H : IH} {v : Value} (h : DenV ρ0 H (.one .nils) v) : DenV ρ0 H (.one (.sl t [])) v := by
  obtain rfl : v = .slice none 0 0 := h
  exact ⟨none, 0, rfl, Nat.le_refl _, .inl rfl⟩
theorem Fn.args {P : Program} {gl : Nat → Option ((t : Ty) × t.T)} {f : FuncId} {a a' : List V} {r : SV} {fr : Bool} (h : Fn P gl f a' r fr) (hd : ∀ H vs, DenVs ρ0 H a vs → DenVs ρ0 H a' vs) : Fn P gl f a r fr :=
  fun w H vs h1 h2 h3 => h w H vs h1 h2 (hd H vs h3)
theorem nameAt_let (l : List UInt8) (i : Nat) : nameAt l i = (letB ((l.getD i 0).toNat : Int) || (i != 0 && (digB ((l.getD i 0).toNat : Int) || ((l.getD i 0).toNat : Int) == 95))) := by
  unfold nameAt letB digB
  generalize (l.getD i 0).toNat = b
  rw [Bool.eq_iff_iff]
  simp only [bcond_l, bcond_r, Bool.or_eq_true, Bool.and_eq_true, decide_eq_true_eq, beq_iff_eq, bne_iff_ne]
  omega
theorem upTo_map (g : Int → Int) (l : List Int) : ∀ n, n ≤ l.length → first ((l.take n).map g) = upTo (fun j => g (l.getD j 0)) n
  | 0, _ => rfl
  | n + 1, h => by
    have ih := upTo_map g l n (by omega)
    rw [List.take_succ_eq_append_getElem (show n < l.length by omega), List.map_append]
    simp only [upTo, ← ih, List.map_cons, List.map_nil]
    rw [getD_of (show n < l.length by omega)]
    generalize (l.take n).map g = xs
    induction xs with
    | nil => simp only [List.nil_append, first]; split <;> simp_all
    | cons x r ih2 =>
      by_cases h0 : x = 0 <;> simp [first, h0, ih2]
theorem fn210 (n : Int)  : Fn P1 gl1 210 [uV n] (.val (bV (letB n))) true := by
  refine Fn.flat ?_ rfl
  refine fn_of false [] [] h0 0 Proofs.Tryz.f210 trivial trivial (by kernel_rfl) rfl (by kernel_rfl) rfl rfl rfl ?_
  rw [vc210]
  try simp only [splitB_iff, -eq_self]
  exact ⟨rfl, trivial⟩
theorem so210_ : SpecOk P1 gl1 210 sp210 := by
  intro vs ps r h _
  simp only [sp210] at h
  split at h
  · cases h; exact fn210 _ 
  · cases h
theorem so210 : Sp1 210 sp210 := ⟨so210_, Proofs.Tryz.f210, _, by kernel_rfl, rfl, by kernel_rfl⟩
theorem fn211 (n : Int)  : Fn P1 gl1 211 [uV n] (.val (bV (digB n))) true := by
  refine Fn.flat ?_ rfl
  refine fn_of false [] [] h0 0 Proofs.Tryz.f211 trivial trivial (by kernel_rfl) rfl (by kernel_rfl) rfl rfl rfl ?_
  rw [vc211]
  try simp only [splitB_iff, -eq_self]
  exact ⟨rfl, trivial⟩
theorem so211_ : SpecOk P1 gl1 211 sp211 := by
  intro vs ps r h _
  simp only [sp211] at h
  split at h
  · cases h; exact fn211 _ 
  · cases h
theorem so211 : Sp1 211 sp211 := ⟨so211_, Proofs.Tryz.f211, _, by kernel_rfl, rfl, by kernel_rfl⟩
theorem fn169 (l : List UInt8) (hl : l.length ≤ 1000000000) : Fn P1 gl1 169 [sV l] (.val (bV (isName l))) true := by
  refine Fn.flat ?_ rfl
  refine fn_of false [(210, sp210), (211, sp211)] [] h169 0 Proofs.Tryz.f169 ⟨so210, so211, trivial⟩ trivial (by kernel_rfl) rfl (by kernel_rfl) rfl rfl rfl ?_
  rw [vc169]
  try simp only [splitB_iff, -eq_self]
  simp only [bcond_l, bcond_r, Bool.or_eq_true, Bool.or_eq_false_iff, Bool.and_eq_true, Bool.and_eq_false_iff, Bool.not_eq_true', Bool.not_eq_false', decide_eq_true_eq, decide_eq_false_iff_not, beq_iff_eq, beq_eq_false_iff_ne, bne_iff_ne, bne_eq_false_iff_eq]
  refine ⟨fun h => by omega, fun h => ⟨?_, trivial⟩, fun h => ?_⟩
  · rcases h with h | h
    · cases hq : isName l with
      | false => rfl
      | true =>
        unfold isName at hq
        simp only [Bool.and_eq_true, decide_eq_true_eq] at hq
        have h2 := hq.2
        have : l.length ≠ 0 := fun e => h2.1 (List.eq_nil_of_length_eq_zero e)
        omega
    · by_cases h0 : l.length = 0
      · have := List.eq_nil_of_length_eq_zero h0
        subst this; rfl
      · rw [isName_not (j := 0) (by omega)]
        rw [nameAt_let, h]; rfl
  · refine ⟨⟨1, ⟨by omega, by omega, fun j hj => ?_⟩, by trivial, by trivial, by trivial⟩, fun g hg => ⟨fun hlt => ⟨by omega, fun _ => by omega, fun _ => by omega, fun h2 => ⟨?_, by trivial⟩, fun h2 => ⟨by simp only [fits]; omega, g + 1, ⟨by omega, by omega, fun j hj => ?_⟩, by omega, by simp, by trivial, by trivial⟩⟩, fun hge => ⟨?_, by trivial⟩⟩⟩
    · have : j = 0 := by omega
      subst this
      rw [nameAt_let, h.2]; rfl
    · rw [isName_not (j := g) (by omega)]
      rw [nameAt_let]
      simp only [Bool.or_eq_false_iff, Bool.and_eq_false_iff, beq_eq_false_iff_ne, bne_eq_false_iff_eq]
      exact ⟨h2.1.1, .inr ⟨h2.1.2, h2.2⟩⟩
    · by_cases e : j < g
      · exact hg.2.2 j e
      · have : j = g := by omega
        subst this
        rw [nameAt_let]
        simp only [Bool.or_eq_true, Bool.and_eq_true, beq_iff_eq, bne_iff_ne]
        have := hg.2.1
        rcases h2 with (h2 | h2) | h2
        · exact .inl h2
        · exact .inr ⟨by omega, .inl h2⟩
        · exact .inr ⟨by omega, .inr h2⟩
    · have : g = l.length := by omega
      subst this
      rw [isName_of hg.2.2]
      symm
      simp only [Bool.and_eq_true, decide_eq_true_eq]
      refine ⟨fun e => ?_, by omega⟩
      subst e
      have := hg.2.1
      simp at this
theorem so169_ : SpecOk P1 gl1 169 sp169 := by
  intro vs ps r h hp
  simp only [sp169] at h
  split at h
  · cases h; exact fn169 _ (hp _ (.head _))
  · cases h
theorem so169 : Sp1 169 sp169 := ⟨so169_, Proofs.Tryz.f169, _, by kernel_rfl, rfl, by kernel_rfl⟩
theorem fn102 (l : List UInt8) (hl : l.length ≤ 1000000000) : Fn P1 gl1 102 [sV l] (.val (iV (whenE (!isName l) 8))) true := by
  refine Fn.flat ?_ rfl
  refine fn_of false [(169, sp169), (70, sp70)] [] h0 0 Proofs.Tryz.f102 ⟨so169, so70, trivial⟩ trivial (by kernel_rfl) rfl (by kernel_rfl) rfl rfl rfl ?_
  rw [vc102]
  try simp only [splitB_iff, -eq_self]
  exact ⟨hl, rfl, trivial⟩
theorem so102_ : SpecOk P1 gl1 102 sp102 := by
  intro vs ps r h hp
  simp only [sp102] at h
  split at h
  · cases h; exact fn102 _ (hp _ (.head _))
  · cases h
theorem so102 : Sp1 102 sp102 := ⟨so102_, Proofs.Tryz.f102, _, by kernel_rfl, rfl, by kernel_rfl⟩

theorem fn21 (nm : List UInt8) (f : Int) (l : List Int) (hn : nm.length ≤ 1000000000) (hl : l.length ≤ 1000000) : Fn P1 gl1 21 [rV nm f l] (.val (iV (checkReel nm f l))) true := by
  refine Fn.flat ?_ rfl
  refine fn_of false [(102, sp102), (87, sp87), (61, sp61), (70, sp70)] [] h21 0 Proofs.Tryz.f21 ⟨so102, so87, so61, so70, trivial⟩ trivial (by kernel_rfl) rfl (by kernel_rfl) rfl rfl rfl ?_
  rw [vc21]
  try simp only [splitB_iff, -eq_self]
  have hw : first (wf16 l) = upTo (fun j => within (l.getD j 0) 0 65535) l.length := by
    have := upTo_map (fun n => within n 0 65535) l l.length (Nat.le_refl _)
    rwa [List.take_length] at this
  simp only [decide_eq_true_eq, decide_eq_false_iff_not, beq_iff_eq, beq_eq_false_iff_ne, bne_iff_ne, bne_eq_false_iff_eq]
  refine ⟨hn, by decide, fun h => ⟨?_, trivial⟩, fun h => ⟨fun h2 => ⟨?_, trivial⟩, fun h2 => ⟨fun h3 => ⟨?_, trivial⟩, fun h3 => ⟨⟨0, ⟨Nat.zero_le _, rfl⟩, by trivial, by trivial, by trivial, by trivial, by trivial, by trivial⟩, fun g hg => ⟨fun hlt => ⟨by omega, fun h4 => ⟨?_, trivial⟩, fun h4 => ⟨by simp only [fits]; omega, g + 1, ⟨by omega, upTo_succ hg.2 h4⟩, by omega, by simp, by trivial, by trivial, by trivial, by trivial, by trivial⟩⟩, fun hge => ?_⟩⟩⟩⟩⟩
  · unfold checkReel
    have e : ∀ a b : Int, first [whenE (!isName nm) 8, within f 0 10000000, a, b] = first [whenE (!isName nm) 8, within f 0 10000000] := by
      intro a b
      simp only [first] at h ⊢
      by_cases h1 : whenE (!isName nm) 8 = 0
      · rw [if_pos h1, if_pos h1] at *
        by_cases h2 : within f 0 10000000 = 0
        · simp [h2] at h
        · rw [if_neg h2, if_neg h2]
      · rw [if_neg h1, if_neg h1]
    rw [e, if_neg h]
  · have hz := (first_zero_iff _).1 h
    have h0 : l.length = 0 := by omega
    unfold checkReel
    have : first [whenE (!isName nm) 8, within f 0 10000000, whenE (decide (l.length = 0)) 12, whenE (decide (256 < l.length)) 5] = 12 := by
      simp only [first]
      rw [hz _ List.mem_cons_self, hz (within f 0 10000000) (List.mem_cons_of_mem _ List.mem_cons_self), h0]
      rfl
    rw [this]; rfl
  · have hz := (first_zero_iff _).1 h
    unfold checkReel
    have e1 : decide (l.length = 0) = false := decide_eq_false (by omega)
    have e2 : decide (256 < l.length) = true := decide_eq_true (by omega)
    have : first [whenE (!isName nm) 8, within f 0 10000000, whenE (decide (l.length = 0)) 12, whenE (decide (256 < l.length)) 5] = 5 := by
      simp only [first]
      rw [hz _ List.mem_cons_self, hz (within f 0 10000000) (List.mem_cons_of_mem _ List.mem_cons_self), e1, e2]
      rfl
    rw [this]; rfl
  · have hz := (first_zero_iff _).1 h
    have e1 : decide (l.length = 0) = false := decide_eq_false (by omega)
    have e2 : decide (256 < l.length) = false := decide_eq_false (by omega)
    have h0 : first [whenE (!isName nm) 8, within f 0 10000000, whenE (decide (l.length = 0)) 12, whenE (decide (256 < l.length)) 5] = 0 := by
      simp only [first]
      rw [hz _ List.mem_cons_self, hz (within f 0 10000000) (List.mem_cons_of_mem _ List.mem_cons_self), e1, e2]
      rfl
    have hu := upTo_eq hg.2 h4 (show g < l.length by omega)
    unfold checkReel
    rw [if_pos h0, hw, if_neg (by rw [hu]; exact h4), hu]
  · have hz := (first_zero_iff _).1 h
    have e1 : decide (l.length = 0) = false := decide_eq_false (by omega)
    have e2 : decide (256 < l.length) = false := decide_eq_false (by omega)
    have h0 : first [whenE (!isName nm) 8, within f 0 10000000, whenE (decide (l.length = 0)) 12, whenE (decide (256 < l.length)) 5] = 0 := by
      simp only [first]
      rw [hz _ List.mem_cons_self, hz (within f 0 10000000) (List.mem_cons_of_mem _ List.mem_cons_self), e1, e2]
      rfl
    have hr := within_zero.1 (hz (within f 0 10000000) (List.mem_cons_of_mem _ List.mem_cons_self))
    have hgl : g = l.length := by omega
    subst hgl
    refine ⟨by simp only [fits]; omega, ?_, trivial⟩
    unfold checkReel
    rw [if_pos h0, hw, if_pos hg.2]
theorem so21_ : SpecOk P1 gl1 21 sp21 := by
  intro vs ps r h hp
  simp only [sp21] at h
  split at h
  · cases h; exact fn21 _ _ _ (hp _ (.head _)) (hp _ (.tail _ (.head _)))
  · cases h
theorem so21 : Sp1 21 sp21 := ⟨so21_, Proofs.Tryz.f21, _, by kernel_rfl, rfl, by kernel_rfl⟩

theorem fn115 (R : List Rl) (nm : List UInt8) (hl : R.length ≤ 1000000000) : Fn P1 gl1 115 [.one (.sl rlT R), sV nm] (.val (iV (findN R nm))) true := by
  refine Fn.flat ?_ rfl
  refine fn_of false [] [] h115 0 Proofs.Tryz.f115 trivial trivial (by kernel_rfl) rfl (by kernel_rfl) rfl rfl rfl ?_
  rw [vc115]
  try simp only [splitB_iff, -eq_self]
  simp only [decide_eq_true_eq, decide_eq_false_iff_not, beq_iff_eq, beq_eq_false_iff_ne]
  refine ⟨⟨0, ⟨Nat.zero_le _, Nat.zero_le _⟩, by trivial, by trivial, by trivial, by trivial⟩, fun g hg => ⟨fun hlt => ⟨by omega, fun h => ⟨?_, trivial⟩, fun h => ⟨by simp only [fits]; omega, g + 1, ⟨by omega, ?_⟩, by omega, by simp, by trivial, by trivial, by trivial⟩⟩, fun hge => ⟨?_, trivial⟩⟩⟩
  · have := idxN_at (show g < R.length by omega) h
    have e : idxN nm R = g := by omega
    unfold findN
    rw [e, if_pos (by omega)]
  · exact idxN_next hg.2 (by omega) h
  · have := idxN_le nm R
    unfold findN
    rw [if_neg (by omega)]
theorem so115_ : SpecOk P1 gl1 115 sp115 := by
  intro vs ps r h hp
  simp only [sp115] at h
  split at h
  · cases h; exact fn115 _ _ (hp _ (.head _))
  · cases h
theorem so115 : Sp1 115 sp115 := ⟨so115_, Proofs.Tryz.f115, _, by kernel_rfl, rfl, by kernel_rfl⟩

theorem fn26 (R : List Rl) (hl : R.length ≤ 1000000000) (hR : ∀ r ∈ R, r.2.2.length ≤ 1000000 ∧ r.1.length ≤ 1000000000) : Fn P1 gl1 26 [.one (.sl rlT R)] (.val (iV (chkRs R))) true := by
  refine Fn.flat ?_ rfl
  refine fn_of false [(21, sp21), (115, sp115)] [] h26 0 Proofs.Tryz.f26 ⟨so21, so115, trivial⟩ trivial (by kernel_rfl) rfl (by kernel_rfl) rfl rfl rfl ?_
  rw [vc26]
  try simp only [splitB_iff, -eq_self]
  simp only [decide_eq_true_eq, decide_eq_false_iff_not, bne_iff_ne, bne_eq_false_iff_eq]
  refine ⟨fun h => ⟨by unfold chkRs; rw [if_pos (by omega)], trivial⟩, fun h => ?_⟩
  have hc : chkRs R = upTo (chkRl R) R.length := by unfold chkRs; rw [if_neg (by omega)]
  rw [hc]
  refine ⟨⟨0, ⟨Nat.zero_le _, rfl⟩, by trivial, by trivial, by trivial⟩, fun g hg => ⟨fun hlt => ?_, fun hge => ?_⟩⟩
  · have hlt' : g < R.length := by omega
    have hT : (R.take g).length = g := by rw [List.length_take]; omega
    have hr := hR _ (getD_mem (d := r0) hlt')
    have hd : dupR R g = true ↔ idxN (R.getD g r0).1 R < g := by
      unfold dupR
      rw [decide_eq_true_eq]
      have e : ∀ i, i < g → (R.take g).getD i r0 = R.getD i r0 := fun i hi => by
        rw [List.getD_eq_getElem?_getD, List.getElem?_take, if_pos hi, ← List.getD_eq_getElem?_getD]
      constructor
      · intro hi
        have h1 : (rlOf (R.take g) (R.getD g r0).1).1 = (R.getD g r0).1 := idxN_name (by omega)
        unfold rlOf at h1
        rw [e _ hi] at h1
        have := idxN_at (nm := (R.getD g r0).1) (R := R) (d := r0) (by omega) h1
        omega
      · intro hi
        have h1 : (rlOf R (R.getD g r0).1).1 = (R.getD g r0).1 := idxN_name (by omega)
        unfold rlOf at h1
        rw [← e _ hi] at h1
        have := idxN_at (nm := (R.getD g r0).1) (R := R.take g) (d := r0) (by omega) h1
        omega
    have hle : idxN (R.getD g r0).1 R ≤ g := idxN_at (d := r0) hlt' rfl
    have hf : findN R (R.getD g r0).1 = (idxN (R.getD g r0).1 R : Int) := by unfold findN; rw [if_pos (by omega)]
    rw [hf]
    refine ⟨by omega, hr.2, hr.1, fun h2 => ⟨?_, trivial⟩, fun h2 => ⟨by omega, hl, fun h3 => ⟨?_, trivial⟩, fun h3 => ⟨by simp only [fits]; omega, g + 1, ⟨hlt', upTo_succ hg.2 ?_⟩, by omega, by simp, by trivial, by trivial⟩⟩⟩
    · have h4 : chkRl R g = checkReel (R.getD g r0).1 (R.getD g r0).2.1 (R.getD g r0).2.2 := by
        unfold chkRl; simp only [first]; rw [if_neg h2]
      rw [upTo_eq hg.2 (by rw [h4]; exact h2) hlt', h4]
    · have h4 : chkRl R g = 9 := by
        unfold chkRl; simp only [first]; rw [if_pos h2, hd.2 (by omega)]; rfl
      rw [upTo_eq hg.2 (by rw [h4]; decide) hlt', h4]
    · have h5 : dupR R g = false := by
        rw [← Bool.not_eq_true, hd]; omega
      unfold chkRl; simp only [first]; rw [if_pos h2, h5]; rfl
  · have : g = R.length := by omega
    subst this
    exact ⟨hg.2.symm, trivial⟩
theorem so26_ : SpecOk P1 gl1 26 sp26 := by
  intro vs ps r h hp
  simp only [sp26] at h
  split at h
  · cases h; exact fn26 _ (hp _ (.head _)) (hp _ (.tail _ (.head _)))
  · cases h
theorem so26 : Sp1 26 sp26 := ⟨so26_, Proofs.Tryz.f26, _, by kernel_rfl, rfl, by kernel_rfl⟩

theorem fn125 (nm : List UInt8) (f : Int) (l : List Int) (n : Int) (hf : fits .i64 (f + (l.length : Int))) : Fn P1 gl1 125 [rV nm f l, iV n] (.val (bV (hasB (nm, f, l) n))) true := by
  refine Fn.flat ?_ rfl
  refine fn_of false [] [] h0 0 Proofs.Tryz.f125 trivial trivial (by kernel_rfl) rfl (by kernel_rfl) rfl rfl rfl ?_
  rw [vc125]
  try simp only [splitB_iff, -eq_self]
  exact ⟨fun _ => hf, rfl, trivial⟩
theorem so125_ : SpecOk P1 gl1 125 sp125 := by
  intro vs ps r h hp
  simp only [sp125] at h
  split at h
  · cases h; exact fn125 _ _ _ _ (hp _ (.head _))
  · cases h
theorem so125 : Sp1 125 sp125 := ⟨so125_, Proofs.Tryz.f125, _, by kernel_rfl, rfl, by kernel_rfl⟩

theorem fn39 (L : List Ed) (hL : EdsIn L) : Fn P1 gl1 39 [.one (.sl edT L)] (.tup [.one (.frs (.int .i64) (startsL L)), iV (lenL L)]) true := by
  refine Fn.flat ?_ rfl
  refine fn_of false [] [] h39 0 Proofs.Tryz.f39 trivial trivial (by kernel_rfl) rfl (by kernel_rfl) rfl rfl rfl ?_
  rw [vc39]
  try simp only [splitB_iff, -eq_self]
  simp only [decide_eq_true_eq, decide_eq_false_iff_not]
  refine ⟨⟨0, Nat.zero_le _, by trivial, by trivial, by trivial, by trivial, by trivial⟩, fun g hg => ⟨fun hlt => ?_, fun hge => ?_⟩⟩
  · have hlt' : g < L.length := by omega
    have h16 := hL.1
    have hx := hL.2 _ (getD_mem (d := e0) hlt')
    have hb := begN_bd hL g (by omega)
    have e : begN L (g + 1) = begN L g + ((L.getD g e0).2.2.1 - (L.getD g e0).2.1) := rfl
    refine ⟨by simp only [room, List.length_map, List.length_range]; omega, by omega, by simp only [fits]; omega, by omega, by simp only [fits]; omega, by simp only [fits]; omega, g + 1, hlt', by omega, by simp, by omega, by trivial, ?_, by trivial⟩
    rw [map_range]
  · have : g = L.length := by have : g ≤ L.length := hg
                              omega
    subst this
    exact ⟨rfl, rfl, trivial⟩
theorem so39_ : SpecOk P1 gl1 39 sp39 := by
  intro vs ps r h hp
  simp only [sp39] at h
  split at h
  · cases h; exact fn39 _ (hp _ (.head _))
  · cases h
theorem so39 : Sp1 39 sp39 := ⟨so39_, Proofs.Tryz.f39, _, by kernel_rfl, rfl, by kernel_rfl⟩

theorem fn126 (L : List Ed) (fr : Int) (hL : EdsIn L) (hs : ∀ x ∈ L, -100 ≤ x.2.2.2.2 ∧ x.2.2.2.2 ≤ 100) : Fn P1 gl1 126 [.one (.sl edT L), iV fr] (.val (iV (sndI L fr L.length))) true := by
  refine Fn.flat ?_ rfl
  refine fn_of false [(39, sp39)] [] h126 0 Proofs.Tryz.f126 ⟨so39, trivial⟩ trivial (by kernel_rfl) rfl (by kernel_rfl) rfl rfl rfl ?_
  rw [vc126]
  try simp only [splitB_iff, -eq_self]
  have hS : ∀ g, g < L.length → (startsL L).getD g 0 = begN L g := fun g hg => by
    unfold startsL
    rw [List.getD_eq_getElem?_getD, List.getElem?_map, List.getElem?_range hg]; rfl
  have hSl : (startsL L).length = L.length := by simp [startsL]
  simp only [decide_eq_true_eq, decide_eq_false_iff_not, hSl]
  refine ⟨hL, ⟨0, Nat.zero_le _, by trivial, by trivial, by trivial, by trivial, by trivial, by trivial⟩, fun g hg => ⟨fun hlt => ?_, fun hge => ?_⟩⟩
  · have hlt' : g < L.length := by omega
    have h16 := hL.1
    have hb := begN_bd hL g (by omega)
    have hx := hs _ (getD_mem (d := e0) hlt')
    rw [hS g hlt']
    refine ⟨by omega, hlt', by omega, by simp only [fits]; omega, fun h => ⟨by simp only [fits]; omega, g + 1, hlt', by omega, by simp, ?_, by trivial, by trivial, by trivial, by trivial⟩, fun h => ⟨by simp only [fits]; omega, g + 1, hlt', by omega, by simp, ?_, by trivial, by trivial, by trivial, by trivial⟩⟩
    · simp only [sndI]; rw [if_pos h]
    · simp only [sndI]; rw [if_neg h]
  · have : g = L.length := by have : g ≤ L.length := hg
                              omega
    subst this
    exact ⟨rfl, trivial⟩
theorem so126_ : SpecOk P1 gl1 126 sp126 := by
  intro vs ps r h hp
  simp only [sp126] at h
  split at h
  · cases h; exact fn126 _ _ (hp _ (.head _)) (hp _ (.tail _ (.head _)))
  · cases h
theorem so126 : Sp1 126 sp126 := ⟨so126_, Proofs.Tryz.f126, _, by kernel_rfl, rfl, by kernel_rfl⟩

theorem fn16 (nm : List UInt8) (f : Int) (l : List Int)  : Fn P1 gl1 16 [rV nm f l] (.val (bV (shortR (nm, f, l)))) true := by
  refine Fn.flat ?_ rfl
  refine fn_of false [] [] h0 0 Proofs.Tryz.f16 trivial trivial (by kernel_rfl) rfl (by kernel_rfl) rfl rfl rfl ?_
  rw [vc16]
  try simp only [splitB_iff, -eq_self]
  refine ⟨?_, trivial⟩
  unfold shortR
  rw [Bool.eq_iff_iff]
  simp only [bcond_l, bcond_r, Bool.or_eq_true, Bool.and_eq_true, decide_eq_true_eq, beq_iff_eq]
  omega
theorem so16_ : SpecOk P1 gl1 16 sp16 := by
  intro vs ps r h _
  simp only [sp16] at h
  split at h
  · cases h; exact fn16 _ _ _ 
  · cases h
theorem so16 : Sp1 16 sp16 := ⟨so16_, Proofs.Tryz.f16, _, by kernel_rfl, rfl, by kernel_rfl⟩

theorem fn82 (L : List Ed) (hl : L.length ≤ 9223372036854775807) : Fn P1 gl1 82 [.one (.sl edT L)] (.val (bV (shortE L))) true := by
  refine Fn.flat ?_ rfl
  refine fn_of false [] [] h82 0 Proofs.Tryz.f82 trivial trivial (by kernel_rfl) rfl (by kernel_rfl) rfl rfl rfl ?_
  rw [vc82]
  try simp only [splitB_iff, -eq_self]
  simp only [bcond_l, decide_eq_true_eq, decide_eq_false_iff_not]
  refine ⟨⟨0, ⟨Nat.zero_le _, fun j hj => by omega⟩, by trivial, by trivial, by trivial⟩, fun g hg => ⟨fun hlt => ⟨by omega, fun h => ⟨?_, trivial⟩, fun h => ⟨by simp only [fits]; omega, g + 1, ⟨by omega, fun j hj => ?_⟩, by omega, by simp, by trivial, by trivial⟩⟩, fun hge => ⟨?_, trivial⟩⟩⟩
  · symm
    unfold shortE
    rw [Bool.and_eq_false_iff]
    left
    rw [List.all_eq_false]
    refine ⟨_, getD_mem (d := e0) (show g < L.length by omega), ?_⟩
    rw [decide_eq_true_eq]; omega
  · by_cases e : j < g
    · exact hg.2 j e
    · have : j = g := by omega
      subst this; omega
  · have : g = L.length := by omega
    subst this
    unfold shortE
    have : (L.all fun x => decide (x.1.length ≤ 40)) = true := by
      rw [List.all_eq_true]
      intro x hx
      obtain ⟨i, hi, rfl⟩ := mem_getD e0 hx
      exact decide_eq_true (hg.2 i hi)
    rw [this, Bool.true_and, Bool.eq_iff_iff]
    simp only [Bool.or_eq_true, decide_eq_true_eq, beq_iff_eq]
    omega
theorem so82_ : SpecOk P1 gl1 82 sp82 := by
  intro vs ps r h hp
  simp only [sp82] at h
  split at h
  · cases h; exact fn82 _ (hp _ (.head _))
  · cases h
theorem so82 : Sp1 82 sp82 := ⟨so82_, Proofs.Tryz.f82, _, by kernel_rfl, rfl, by kernel_rfl⟩

theorem fn17 (R : List Rl) (L : List Ed) (hl : R.length ≤ 9223372036854775807) (hL : L.length ≤ 9223372036854775807) : Fn P1 gl1 17 [.one (.sl rlT R), .one (.sl edT L)] (.val (bV (shortB R L))) true := by
  refine Fn.flat ?_ rfl
  refine fn_of false [(16, sp16), (82, sp82)] [] h17 0 Proofs.Tryz.f17 ⟨so16, so82, trivial⟩ trivial (by kernel_rfl) rfl (by kernel_rfl) rfl rfl rfl ?_
  rw [vc17]
  try simp only [splitB_iff, -eq_self]
  have h9 : (((R.length : Int) == 9)) = decide (R.length = 9) := by rw [Bool.eq_iff_iff]; simp only [decide_eq_true_eq, beq_iff_eq]; omega
  have h4 : decide ((R.length : Int) ≤ 4) = decide (R.length ≤ 4) := decide_eq_decide.2 (by omega)
  rw [h9, h4, bcond_l, bcond_r]
  simp only [Bool.not_eq_true', Bool.not_eq_false', decide_eq_true_eq, decide_eq_false_iff_not]
  refine ⟨⟨0, ⟨Nat.zero_le _, fun j hj => by omega⟩, by trivial, by trivial, by trivial, by trivial⟩, fun g hg => ⟨fun hlt => ⟨by omega, fun h => ⟨?_, trivial⟩, fun h => ⟨by simp only [fits]; omega, g + 1, ⟨by omega, fun j hj => ?_⟩, by omega, by simp, by trivial, by trivial, by trivial⟩⟩, fun hge => ⟨fun _ => hL, ?_, trivial⟩⟩⟩
  · symm
    unfold shortB
    rw [Bool.and_eq_false_iff]
    left
    rw [List.all_eq_false]
    refine ⟨_, getD_mem (d := r0) (show g < R.length by omega), ?_⟩
    rw [Bool.not_eq_true]; exact h
  · by_cases e : j < g
    · exact hg.2 j e
    · have : j = g := by omega
      subst this; exact h
  · have : g = R.length := by omega
    subst this
    unfold shortB
    have : R.all shortR = true := by
      rw [List.all_eq_true]
      intro x hx
      obtain ⟨i, hi, rfl⟩ := mem_getD r0 hx
      exact hg.2 i hi
    rw [this, Bool.true_and]
theorem so17_ : SpecOk P1 gl1 17 sp17 := by
  intro vs ps r h hp
  simp only [sp17] at h
  split at h
  · cases h; exact fn17 _ _ (hp _ (.head _)) (hp _ (.tail _ (.head _)))
  · cases h; exact Fn.args (fn17 _ [] (hp _ (.head _)) (hp _ (.tail _ (.head _)))) fun H vs d => by
      obtain ⟨v0, r0, rfl, h0, v1, r1, rfl, h1, hz⟩ := d
      exact ⟨_, _, rfl, h0, _, _, rfl, nil_sl h1, hz⟩
  · cases h
theorem so17 : Sp1 17 sp17 := ⟨so17_, Proofs.Tryz.f17, _, by kernel_rfl, rfl, by kernel_rfl⟩

theorem fn38 (R : List Rl) (L : List Ed) (hl : R.length ≤ 1000000000) (hR : ∀ r ∈ R, r.2.2.length ≤ 1000000 ∧ r.1.length ≤ 1000000000) (hL : L.length ≤ 1000000000) (hF : ∀ x ∈ L, fits .i64 x.2.2.1) : Fn P1 gl1 38 [.one (.sl rlT R), .one (.sl edT L)] (.val (iV (chkEds R L))) true := by
  refine Fn.flat ?_ rfl
  refine fn_of false [(26, sp26), (115, sp115), (125, sp125), (39, sp39), (126, sp126), (87, sp87), (61, sp61)] [] h38 0 Proofs.Tryz.f38 ⟨so26, so115, so125, so39, so126, so87, so61, trivial⟩ trivial (by kernel_rfl) rfl (by kernel_rfl) rfl rfl rfl ?_
  rw [vc38]
  try simp only [splitB_iff, -eq_self]
  have hS : ∀ g, g < L.length → (startsL L).getD g 0 = begN L g := fun g hg => by
    unfold startsL
    rw [List.getD_eq_getElem?_getD, List.getElem?_map, List.getElem?_range hg]; rfl
  have hSl : (startsL L).length = L.length := by simp [startsL]
  refine ⟨hl, hR, fun h => ⟨chkEds_rs (by simpa using h), trivial⟩, fun h => ?_⟩
  have h1 : chkRs R = 0 := by simpa using h
  refine ⟨fun h => ⟨chkEds_many h1 (by have := of_decide_eq_true h; omega), trivial⟩, fun h => ?_⟩
  have h2 : ¬ 16 < L.length := by have := of_decide_eq_false h; omega
  have hrb := fun nm => reel_bd h1 nm
  refine ⟨⟨0, ⟨Nat.zero_le _, rfl⟩, by trivial, by trivial, by trivial, by trivial⟩, fun g hg => ⟨fun hlt => ?_, fun hge => ?_⟩⟩
  · have hlt' : g < L.length := by simpa using hlt
    have e1 : ((g : Int) - 1).toNat = g - 1 := by omega
    rw [e1]
    refine ⟨by omega, hl, fun h3 => ⟨?_, trivial⟩, fun h3 => ?_⟩
    · refine chkEds_at h1 h2 hg.2 hlt' (chkEd_unknown fun hk => ?_) (by decide)
      have := (findN_some hk).1
      have := of_decide_eq_true h3
      omega
    · have hk : idxN (L.getD g e0).1 R < R.length := by
        apply Classical.byContradiction
        intro hc
        have := findN_none hc
        have := of_decide_eq_false h3
        omega
      obtain ⟨f1, f2⟩ := findN_some hk
      have hr := hrb (L.getD g e0).1
      have hEq : ((rlOf R (L.getD g e0).1).1, (rlOf R (L.getD g e0).1).2.1, (rlOf R (L.getD g e0).1).2.2) = rlOf R (L.getD g e0).1 := rfl
      have hEn : endR (rlOf R (L.getD g e0).1) = (rlOf R (L.getD g e0).1).2.1 + ((rlOf R (L.getD g e0).1).2.2.length : Int) := rfl
      rw [f2, hEq, ← hEn]
      refine ⟨fun _ => by omega, fun _ => by simp only [fits]; omega, fun _ => by omega, fun h4 => ?_, fun _ => by simp only [fits]; omega, fun h4 => ⟨?_, trivial⟩, fun h4 => ?_⟩
      · simp only [bcond_l, Bool.or_eq_false_iff, Bool.not_eq_false', decide_eq_false_iff_not, hasB_iff] at h4
        have := hF _ (getD_mem (d := e0) hlt')
        simp only [fits] at *; omega
      · simp only [bcond_l, Bool.or_eq_true, Bool.not_eq_true', decide_eq_true_eq, hasB_not] at h4
        exact chkEds_at h1 h2 hg.2 hlt' (chkEd_span hk (by omega)) (by decide)
      · simp only [bcond_l, Bool.or_eq_false_iff, Bool.not_eq_false', decide_eq_false_iff_not, hasB_iff] at h4
        have hsp : ¬ ((L.getD g e0).2.2.1 ≤ (L.getD g e0).2.1 ∨ (L.getD g e0).2.1 < (rlOf R (L.getD g e0).1).2.1 ∨ endR (rlOf R (L.getD g e0).1) < (L.getD g e0).2.2.1) := by omega
        have hpr : first [within (L.getD g e0).2.2.2.1 0 ((L.getD g e0).2.2.1 - (L.getD g e0).2.1), within (L.getD g e0).2.2.2.2 (-100) 100] = prs (L.getD g e0) := rfl
        rw [hpr]
        refine ⟨by simp only [fits]; omega, by decide, fun h5 => ⟨?_, trivial⟩, fun h5 => ?_⟩
        · have h5' : prs (L.getD g e0) ≠ 0 := by simpa using h5
          exact chkEds_at h1 h2 hg.2 hlt' (chkEd_prs hk hsp h5') h5'
        · have h5' : prs (L.getD g e0) = 0 := by simpa using h5
          have hz := (first_zero_iff _).1 (hpr.trans h5')
          have hz1 := within_zero.1 (hz _ List.mem_cons_self)
          have hz2 := within_zero.1 (hz _ (List.mem_cons_of_mem _ List.mem_cons_self))
          simp only [bcond_l, bcond_r, Bool.or_eq_true, Bool.or_eq_false_iff, Bool.and_eq_true, Bool.and_eq_false_iff, Bool.not_eq_true', Bool.not_eq_false', decide_eq_true_eq, decide_eq_false_iff_not, beq_iff_eq, beq_eq_false_iff_ne, bne_iff_ne, bne_eq_false_iff_eq]
          refine ⟨fun h6 => ⟨?_, trivial⟩, fun h6 => ?_⟩
          · have g0 : g = 0 := by omega
            subst g0
            refine chkEds_at h1 h2 hg.2 hlt' ?_ (by decide)
            rw [chkEd_first hk hsp h5', decide_eq_true h6.2]; rfl
          · have hpk : 0 < g → idxN (L.getD (g - 1) e0).1 R < R.length ∧ (0 ≤ (L.getD (g - 1) e0).2.2.1 ∧ (L.getD (g - 1) e0).2.2.1 ≤ 10000000) ∧ (L.getD (g - 1) e0).2.2.1 ≤ endR (rlOf R (L.getD (g - 1) e0).1) ∧ (rlOf R (L.getD (g - 1) e0).1).2.1 < (L.getD (g - 1) e0).2.2.1 := fun h0 => by
              have hp := chkEd_ok (upTo_zero.1 hg.2 (g - 1) (by omega))
              have := hrb (L.getD (g - 1) e0).1
              have a1 := hp.lo
              have a2 := hp.lt
              have a3 := hp.hi
              exact ⟨hp.idx, by omega, by omega, by omega⟩
            have hEn' : endR (rlOf R (L.getD (g - 1) e0).1) = (rlOf R (L.getD (g - 1) e0).1).2.1 + ((rlOf R (L.getD (g - 1) e0).1).2.2.length : Int) := rfl
            have hEq' : ((rlOf R (L.getD (g - 1) e0).1).1, (rlOf R (L.getD (g - 1) e0).1).2.1, (rlOf R (L.getD (g - 1) e0).1).2.2) = rlOf R (L.getD (g - 1) e0).1 := rfl
            have hr' := hrb (L.getD (g - 1) e0).1
            refine ⟨fun _ => by simp only [fits]; omega, fun _ => by omega, fun _ => hl, fun h7 => ?_, fun _ => by simp only [fits]; omega, fun _ => by omega, fun h7 => ?_, fun h7 => ?_, fun h7 => ?_, fun h7 => ⟨?_, trivial⟩, fun h7 => ?_⟩
            · have := (findN_some (hpk (by omega)).1).1
              have := (hpk (by omega)).1
              omega
            · have := hpk (by omega)
              simp only [fits]; omega
            · have := hpk (by omega)
              simp only [fits]; omega
            · have h8 := hpk (by omega)
              rw [(findN_some h8.1).2, ← hEn']
              simp only [fits]; omega
            · have h8 := hpk (by omega)
              have h9 := h7.2
              rw [(findN_some h8.1).2, hEq', hasB_not] at h9
              refine chkEds_at h1 h2 hg.2 hlt' ?_ (by decide)
              rw [chkEd_later (by omega) hk hsp h5', decide_eq_true (by omega)]; rfl
            · refine ⟨by simp only [fits]; omega, g + 1, ⟨hlt', upTo_succ hg.2 ?_⟩, by omega, by omega, by trivial, by trivial, by trivial⟩
              by_cases g0 : g = 0
              · subst g0
                rw [chkEd_first hk hsp h5', whenE_zero (by decide), decide_eq_false_iff_not]
                rcases h6 with h6 | h6
                · omega
                · omega
              · have h8 := hpk (by omega)
                rw [chkEd_later (by omega) hk hsp h5', whenE_zero (by decide), decide_eq_false_iff_not]
                rcases h7 with h7 | h7
                · omega
                · rw [(findN_some h8.1).2, hEq', hasB_iff] at h7
                  omega
  · have hgl : g = L.length := by have : ¬ g < L.length := by simpa using hge
                                  omega
    subst hgl
    have he := upTo_zero.1 hg.2
    have hE : EdsIn L := EdsIn_of h1 (by omega) he
    refine ⟨hE, fun h3 => ⟨chkEds_big h1 h2 hg.2 (of_decide_eq_true h3), trivial⟩, fun h3 => ?_⟩
    have h3' : ¬ 1024 < lenL L := of_decide_eq_false h3
    have hb : ∀ i, i < L.length → (0 ≤ begN L i ∧ begN L i ≤ 1024) ∧ (-100 ≤ (L.getD i e0).2.2.2.2 ∧ (L.getD i e0).2.2.2.2 ≤ 100) := fun i hi => by
      have := pl_bd h1 (by omega) he (by omega) _ (getD_mem (d := pl0) (show i < (ls L).length by rw [ls_len]; exact hi))
      rw [ls_get L hi] at this
      exact ⟨this.2.2.2.2, this.2.2.2.1⟩
    have hn := begN_bd hE L.length (Nat.le_refl _)
    have hN : begN L L.length = lenL L := rfl
    rw [hN] at hn
    rw [hSl]
    have hord : ∀ i, 0 < i → i < L.length → (ordE (ls L) (lenL L) i = 0 ↔ ¬ (sN L i ≤ sN L (i - 1) ∨ lenL L ≤ sN L i)) := fun i h0 hi => by
      unfold ordE
      rw [whenE_zero (by decide), decide_eq_false_iff_not, sndN_ls hi, sndN_ls (show i - 1 < L.length by omega)]
      constructor
      · exact fun h5 h6 => h5 ⟨h0, h6⟩
      · exact fun h5 h6 => h5 h6.2
    refine ⟨⟨1, ⟨by omega, .inl rfl, fun k hk hkl => ?_⟩, by trivial, by trivial, by trivial, by trivial, by trivial, by trivial⟩, fun i hi => ⟨fun hlt => ?_, fun hge => ?_⟩⟩
    · have : k = 0 := by omega
      subst this
      unfold ordE
      rw [whenE_zero (by decide), decide_eq_false_iff_not]
      omega
    · have hlt' : i < L.length := by simpa using hlt
      have e1 : ((i : Int) - 1).toNat = i - 1 := by omega
      have hi1 := hi.1
      have b1 := hb i hlt'
      have b2 := hb (i - 1) (by omega)
      rw [e1, hS i hlt', hS (i - 1) (by omega)]
      have hs1 : begN L i + (L.getD i e0).2.2.2.2 = sN L i := rfl
      have hs2 : begN L (i - 1) + (L.getD (i - 1) e0).2.2.2.2 = sN L (i - 1) := rfl
      rw [hs1, hs2]
      refine ⟨by omega, hlt', by omega, by simp only [fits]; omega, by simp only [fits]; omega, by omega, by omega, by simp only [fits]; omega, by omega, by simp only [fits]; omega, fun _ => by omega, fun _ => hlt', fun _ => by omega, fun _ => by simp only [fits]; omega, fun h5 => ⟨?_, trivial⟩, fun h5 => ⟨by simp only [fits]; omega, i + 1, ⟨by omega, .inr hlt', fun k hk hkl => ?_⟩, by omega, by omega, by trivial, by trivial, by trivial, by trivial, by trivial⟩⟩
      · simp only [bcond_l, Bool.or_eq_true, decide_eq_true_eq] at h5
        exact chkEds_ord h1 h2 hg.2 h3' hlt' (by rw [Ne, hord i (by omega) hlt']; exact fun h6 => h6 h5)
      · by_cases e : k = i
        · subst e
          rw [hord k (by omega) hlt']
          simp only [bcond_l, Bool.or_eq_false_iff, decide_eq_false_iff_not] at h5
          omega
        · exact hi.2.2 k (by omega) hkl
    · have hge' : ¬ i < L.length := by simpa using hge
      have ho : ∀ g, g < L.length → ordE (ls L) (lenL L) g = 0 := fun g hg => hi.2.2 g (by omega) hg
      have hsnd := sndOk_of h1 h2 he ho
      refine ⟨⟨0, ⟨Nat.zero_le _, fun k t hk => by omega⟩, by trivial, by trivial, by trivial, by trivial, by trivial, by trivial⟩, fun k hk => ⟨fun hlt => ?_, fun hge => ?_⟩⟩
      · have hkl : k < L.length := by simpa using hlt
        refine ⟨⟨0, ⟨Nat.zero_le _, fun t ht => by omega⟩, by trivial, by trivial, by trivial, by trivial, by trivial, by trivial, by trivial⟩, fun t ht => ⟨fun htl => ?_, fun htg => ?_⟩⟩
        · have htl' : (t : Int) < lenL L := of_decide_eq_true htl
          have hx := chkEd_ok (he k hkl)
          obtain ⟨f1, f2⟩ := findN_some hx.idx
          have hr := hrb (L.getD k e0).1
          have hEq : ((rlOf R (L.getD k e0).1).1, (rlOf R (L.getD k e0).1).2.1, (rlOf R (L.getD k e0).1).2.2) = rlOf R (L.getD k e0).1 := rfl
          have hEn : endR (rlOf R (L.getD k e0).1) = (rlOf R (L.getD k e0).1).2.1 + ((rlOf R (L.getD k e0).1).2.2.length : Int) := rfl
          have hb1 := hb k hkl
          have hin := hE.2 _ (getD_mem (d := e0) hkl)
          have hidx := hx.idx
          rw [f2, hEq, ← hEn, hS k hkl]
          refine ⟨hE, fun x hx => ?_, fun _ => by omega, fun _ => hl, fun _ => by omega, fun _ => by omega, fun _ => by simp only [fits]; omega, fun _ => by omega, fun _ => hkl, fun _ => by simp only [fits]; omega, fun _ => by simp only [fits]; omega, fun h5 => ⟨?_, trivial⟩, fun h5 => ⟨by simp only [fits]; omega, t + 1, ⟨by omega, fun t' ht' => ?_⟩, by omega, by omega, by trivial, by trivial, by trivial, by trivial, by trivial, by trivial⟩⟩
          · obtain ⟨j, hj, rfl⟩ := mem_getD e0 hx
            exact (hb j hj).2
          · simp only [bcond_r, Bool.and_eq_true, beq_iff_eq, Bool.not_eq_true'] at h5
            exact chkEds_sp h1 h2 hg.2 h3' ho hkl ((bad_iff h1 hsnd hkl).2 ⟨t, htl', h5⟩)
          · by_cases e : t' < t
            · exact ht.2 t' e
            · have : t' = t := by omega
              subst this
              intro h6
              rw [← Bool.not_eq_true] at h5
              apply h5
              simp only [bcond_r, Bool.and_eq_true, beq_iff_eq, Bool.not_eq_true']
              exact h6
        · have htg' : ¬ (t : Int) < lenL L := of_decide_eq_false htg
          refine ⟨by simp only [fits]; omega, k + 1, ⟨hkl, fun j t' hj ht' => ?_⟩, by omega, by omega, by trivial, by trivial, by trivial, by trivial, by trivial⟩
          by_cases e : j < k
          · exact hk.2 j t' e ht'
          · have : j = k := by omega
            subst this
            exact ht.2 t' (by omega)
      · have hge' : ¬ k < L.length := by simpa using hge
        refine ⟨chkEds_good h1 h2 hg.2 h3' ho fun g hg => ?_, trivial⟩
        apply Classical.byContradiction
        intro hc
        obtain ⟨t, ht, hb⟩ := (bad_iff h1 hsnd hg).1 hc
        exact hk.2 g t (by omega) ht hb
theorem so38_ : SpecOk P1 gl1 38 sp38 := by
  intro vs ps r h hp
  simp only [sp38] at h
  split at h
  · cases h; exact fn38 _ _ (hp _ (.head _)) (hp _ (.tail _ (.head _))) (hp _ (.tail _ (.tail _ (.head _)))) (hp _ (.tail _ (.tail _ (.tail _ (.head _)))))
  · cases h
theorem so38 : Sp1 38 sp38 := ⟨so38_, Proofs.Tryz.f38, _, by kernel_rfl, rfl, by kernel_rfl⟩

end Go.Sx

/- Plain functions and hints. -/
namespace Go.Sx.U
abbrev Mu := List (Tk × Bool)
def sp0 : Int × Int := (0, 0)
/-- A frame of a reel is used. -/
def useTk (m : Mu) (x : Tk) : Mu := U.mapPut (.pair .str (.pair (.int .i64) (.pair (.int .i64) (.int .i64)))) .bool m (x.1, x.2.1, 0, 0) true
def useTo (m : Mu) (ts : List Tk) : Nat → Mu
  | 0 => m
  | j + 1 => useTk (useTo m ts j) (ts.getD j tk0)
/-- The takes that are seen and heard at a frame. -/
def allN (p : List Pl) (t : Nat) : List Tk := takesN p (t : Int) ++ [soundN p (t : Int)]
def usedTo (p : List Pl) : Nat → Mu
  | 0 => []
  | t + 1 => useTo (usedTo p t) (allN p t) (allN p t).length
def usedB (m : Mu) (nm : List UInt8) (n : Int) : Bool := (U.mapGet (.pair .str (.pair (.int .i64) (.pair (.int .i64) (.int .i64)))) .bool m (nm, n, 0, 0)).getD false
/-- Spans with another number. -/
def addSp (o : List (Int × Int)) (n : Int) : List (Int × Int) :=
  if 0 < o.length ∧ (o.getD (o.length - 1) sp0).2 = n then o.set (o.length - 1) ((o.getD (o.length - 1) sp0).1, (o.getD (o.length - 1) sp0).2 + 1) else o ++ [(n, n + 1)]
def spTo (is : Int → Bool) (a : Int) : Nat → List (Int × Int)
  | 0 => []
  | i + 1 => if is (a + (i : Int)) = true then addSp (spTo is a i) (a + (i : Int)) else spTo is a i
def reelSp (m : Mu) (r : Rl) : List (Int × Int) := spTo (usedB m r.1) r.2.1 r.2.2.length
def needTo (m : Mu) (R : List Rl) : Nat → List (List UInt8 × Int × Int)
  | 0 => []
  | i + 1 => needTo m R i ++ (reelSp m (R.getD i r0)).map fun s => ((R.getD i r0).1, s.1, s.2)
def needN (R : List Rl) (L : List Ed) : List (List UInt8 × Int × Int) := if chkEds R L = 0 then needTo (usedTo (ls L) (lenL L).toNat) R R.length else []
end Go.Sx.U
namespace Go.Sx
open U
abbrev snT : Ty := .pair (.int .i64) (.int .i64)
abbrev ndT : Ty := .pair .str (.pair (.int .i64) (.int .i64))
abbrev muT : Ty := .pair .str (.pair (.int .i64) (.pair (.int .i64) (.int .i64)))
/-- The box that holds a map of the call's own. -/
def muB : List (Nat × Option AObj) → Option (Nat × Nat)
  | [] => none
  | (i, some (.box [.one (.own j)])) :: _ => some (i, j)
  | _ :: r => muB r
/-- The entries of a map of the call's own. -/
def muOf (ob : List (Nat × Option AObj)) (j : Nat) : Option Mu := match lookO ob j with
  | some (.map true false (.pair .str (.pair (.int .i64) (.pair (.int .i64) (.int .i64)))) .bool l) => some l
  | _ => none
def lessI (ob : List (Nat × Option AObj)) (js : List Nat) : List (Nat × Option AObj) := (liveO [] ob).filter fun x => !(js.contains x.1)
def h69 : Hints := ⟨fun f k s => match f, k with
  | 174, 1 => match lsAt s 1, muB (liveO [] s.ob) with
    | some (p, n, _), some (_, j) => some ⟨Nat, fun i => ⟨tI 6 i :: keepT [0, 1, 5] s.tm, (j, some (.map true false muT .bool (usedTo p i))) :: lessI s.ob [j], s.nx, s.lr⟩, fun i => i ≤ n.toNat, fun i => n.toNat - i⟩
    | _, _ => none
  | 69, 10 => match ptrId s 8, listAs s 37 tkT with
    | some b, some ts => match lookO s.ob b with
      | some (.box [.one (.own j)]) => match muOf s.ob j with
        | some m => some ⟨Nat, fun i => ⟨tI 39 i :: keepT [7, 8, 37, 38] s.tm, (j, some (.map true false muT .bool (useTo m ts i))) :: lessI s.ob [j], s.nx, s.lr⟩, fun i => i ≤ List.length ts, fun i => List.length ts - i⟩
        | _ => none
      | _ => none
    | _, _ => none
  | 69, 16 => match ptrId s 8, listAs s 50 rlT with
    | some b, some R => match lookO s.ob b with
      | some (.box [.one (.own j)]) => match muOf s.ob j with
        | some m => some ⟨Nat, fun i => ⟨[tI 52 i, (13, .val (.one (.own s.nx)))] ++ keepT [8, 50, 51] s.tm, (s.nx, some (.row ndT (needTo m R i))) :: lessO s [13], s.nx + 1, s.lr⟩, fun i => i ≤ List.length R, fun i => List.length R - i⟩
        | _ => none
      | _ => none
    | _, _ => none
  | 69, 19 => match listAs s 61 snT, rlAt s 15, listAs s 13 ndT with
    | some sps, some (nm, _, _), some o => some ⟨Nat, fun i => ⟨[tI 63 i, (13, .val (.one (.own s.nx)))] ++ keepT [8, 15, 50, 51, 52, 61, 62] s.tm, (s.nx, some (.row ndT (o ++ (List.take i sps).map fun x => (nm, x.1, x.2)))) :: lessO s [13], s.nx + 1, s.lr⟩, fun i => i ≤ List.length sps, fun i => List.length sps - i⟩
    | _, _, _ => none
  | 148, 3 => match intOfT s 0, intOfT s 1, lookT s.tm 2 with
    | some a, some b, some (.val (.one (.fn 149 [] [(q, 0), (r, 0)]))) => match lookO s.ob q, lookO s.ob r with
      | some (.box [.one (.own j)]), some (.box (.one (.str nm) :: _)) => match muOf s.ob j with
        | some m => some ⟨Nat, fun i => ⟨[tI 8 (a + (i : Int)), (7, .val (.one (.own s.nx)))] ++ keepT [0, 1, 2] s.tm, (s.nx, some (.row snT (spTo (usedB m nm) a i))) :: lessO s [7], s.nx + 1, s.lr⟩, fun i => i ≤ (b - a).toNat, fun i => (b - a).toNat - i⟩
        | _ => none
      | _, _ => none
    | _, _, _ => none
  | _, _ => none, 0⟩
@[reducible] noncomputable def fb148 : Nat × Func := (148, Proofs.Tryz.f148)
@[reducible] noncomputable def fb149 : Nat × Func := (149, Proofs.Tryz.f149)
def sp155n : FSpec := ⟨fun vs => match vs with
  | [.agg [.one (.sl (.pair (.pair .str (.pair (.int .i64) (.pair (.int .i64) (.pair (.int .i64) (.int .i64))))) (.int .i64)) p), .one (.int .i64 _), .one (.mp false true .str (.pair .str (.pair (.int .i64) (.sl (.int .i64)))) _)], .one (.int .i64 fr)] =>
    some ([PlsOk p, 0 ≤ fr ∧ fr ≤ 100000], .val (.one (.frs tkT (takesN p fr))))
  | _ => none, true⟩
end Go.Sx
namespace Go.Sx
open U
def sp69 : FSpec := ⟨fun vs => match vs with
  | [.one (.sl (.pair .str (.pair (.int .i64) (.sl (.int .i64)))) R), .one (.sl (.pair .str (.pair (.int .i64) (.pair (.int .i64) (.pair (.int .i64) (.int .i64))))) L)] => some ([List.length R ≤ 1000000000, ∀ r ∈ (show List Rl from R), List.length r.2.2 ≤ 1000000, List.length L ≤ 1000000000], .tup [.one (.frs ndT (needN R L)), iV (chkEds R L)])
  | _ => none, true⟩
end Go.Sx

/- What the engine asks, written out (printed by a program). -/
namespace Go.Sx
open U
theorem vc155n (p : List Pl) (n : Int) (m : List (List UInt8 × Rl)) (fr : Int) : exF (env false [(195, sp195), (175, sp175)] []) h0 0 155 Proofs.Tryz.f155 [lsV p n m, iV fr] (.val (.one (.frs tkT (takesN p fr)))) = (let q0 := (List.getD p (lastTo begP p fr (List.length p)) pl0); let q1 := (↑(lastTo begP p fr (List.length p)) : Int); let q2 := (q0.1.2.2.2.1 + (1 : Int)); let q3 := (List.getD p (Int.toNat (q1 - (1 : Int))) pl0); let q4 := (q0.1.2.2.2.1 - (fr - q0.2)); List.length p ≤ (1000000 : Nat) ∧ ((0 : Int) ≤ q1 ∧ q1 < (↑(List.length p) : Int)) ∧ fits IntKind.i64 (fr - q0.2) ∧ splitB (decide (q0.1.2.2.2.1 ≤ fr - q0.2)) (fits IntKind.i64 (q0.1.2.1 + (fr - q0.2)) ∧ [(q0.1.1, q0.1.2.1 + (fr - q0.2), (1 : Int), (1 : Int))] = takesN p fr ∧ True) (fits IntKind.i64 (q1 - (1 : Int)) ∧ ((0 : Int) ≤ q1 - (1 : Int) ∧ q1 - (1 : Int) < (↑(List.length p) : Int)) ∧ fits IntKind.i64 (q3.1.2.2.1 + (fr - q0.2)) ∧ fits IntKind.i64 q4 ∧ fits IntKind.i64 q2 ∧ (0 : Int) < q0.1.2.2.2.1 - (fr - q0.2) ∧ (0 : Int) < q0.1.2.2.2.1 + (1 : Int) ∧ (q0.1.2.2.2.1 - (fr - q0.2) ≤ (1000000 : Int) ∧ q0.1.2.2.2.1 + (1 : Int) ≤ (1000000 : Int)) ∧ fits IntKind.i64 (q0.1.2.1 + (fr - q0.2)) ∧ fits IntKind.i64 (fr - q0.2 + (1 : Int)) ∧ fits IntKind.i64 q2 ∧ (0 : Int) < fr - q0.2 + (1 : Int) ∧ (0 : Int) < q0.1.2.2.2.1 + (1 : Int) ∧ (fr - q0.2 + (1 : Int) ≤ (1000000 : Int) ∧ q0.1.2.2.2.1 + (1 : Int) ≤ (1000000 : Int)) ∧ [(q3.1.1, q3.1.2.2.1 + (fr - q0.2), (lowN q4 q2).1, (lowN q4 q2).2), (q0.1.1, q0.1.2.1 + (fr - q0.2), (lowN (fr - q0.2 + (1 : Int)) q2).1, (lowN (fr - q0.2 + (1 : Int)) q2).2)] = takesN p fr ∧ True)) := by
  kernel_rfl
theorem vc69 (R : List Rl) (L : List Ed) : exF (env false [(43, sp43), (120, sp120), (155, sp155n), (124, sp124), (112, sp112)] [fb123, fb174, fb148, fb149]) h69 3 69 Proofs.Tryz.f69 [.one (.sl rlT R), .one (.sl edT L)] (.tup [.one (.frs ndT (needN R L)), iV (chkEds R L)]) = (let q3 := (List.length L); let q4 := (List.length R); let q13 := (Ty.pair Ty.str (Ty.pair (Ty.int IntKind.i64) (Ty.pair (Ty.int IntKind.i64) (Ty.int IntKind.i64)))); List.length R ≤ (1000000000 : Nat) ∧ (∀ (r : Rl), r ∈ R → List.length r.2.2 ≤ (1000000 : Nat)) ∧ List.length L ≤ (1000000000 : Nat) ∧ splitB (chkEds R L != (0 : Int)) (needN R L = [] ∧ chkEds R L = chkEds R L ∧ True) (List.length R ≤ (1000000000 : Nat) ∧ EdsIn L ∧ (∃ (g : Nat), Nat.le g (Int.toNat (begN L q3)) ∧ (0 : Int) = (↑g : Int) ∧ begN L q3 = begN L q3 ∧ [] = usedTo (plTo L q3) g ∧ plTo L q3 = plTo L q3 ∧ begN L q3 = begN L q3 ∧ mapR R q4 = mapR R q4 ∧ plTo L q3 = plTo L q3 ∧ begN L q3 = begN L q3 ∧ mapR R q4 = mapR R q4 ∧ True) ∧ ∀ (g : Nat), let q15 := (soundN (plTo L q3) (↑g : Int)); let q0 := (q15.1, q15.2.1, q15.2.2.1, q15.2.2.2); let q5 := (takesN (plTo L q3) (↑g : Int) ++ [q0]); let q7 := (usedTo (plTo L q3) g); let q12 := (↑(List.length q5) : Int); let q17 := ((0 : Int) ≤ (↑g : Int) ∧ (↑g : Int) ≤ (100000 : Int)); Nat.le g (Int.toNat (begN L q3)) → splitB (decide ((↑g : Int) < begN L q3)) (PlsOk (plTo L q3) ∧ q17 ∧ PlsOk (plTo L q3) ∧ q17 ∧ room (List.length (takesN (plTo L q3) (↑g : Int)) + (1 : Nat)) (40 : Nat) ∧ (∃ (g_1 : Nat), Nat.le g_1 (List.length q5) ∧ (0 : Int) = (↑g_1 : Int) ∧ q12 = q12 ∧ usedTo (plTo L q3) g = useTo q7 q5 g_1 ∧ takesN (plTo L q3) (↑g : Int) ++ [q0] = takesN (plTo L q3) (↑g : Int) ++ [q0] ∧ [q0] = [q0] ∧ plTo L q3 = plTo L q3 ∧ begN L q3 = begN L q3 ∧ mapR R q4 = mapR R q4 ∧ plTo L q3 = plTo L q3 ∧ begN L q3 = begN L q3 ∧ mapR R q4 = mapR R q4 ∧ True) ∧ ∀ (g_1 : Nat), Nat.le g_1 (List.length q5) → splitB (decide ((↑g_1 : Int) < q12)) (((0 : Int) ≤ (↑g_1 : Int) ∧ (↑g_1 : Int) < q12) ∧ g_1 < List.length q5 ∧ fits IntKind.i64 ((↑g_1 : Int) + (1 : Int)) ∧ ∃ (g' : Nat), Nat.le g' (List.length q5) ∧ List.length q5 - g' < List.length q5 - g_1 ∧ (↑g_1 : Int) + (1 : Int) = (↑g' : Int) ∧ q12 = q12 ∧ mapPut q13 Ty.bool (useTo q7 q5 g_1) ((List.getD q5 g_1 tk0).1, (List.getD q5 g_1 tk0).2.1, (0 : Int), (0 : Int)) true = useTo q7 q5 g' ∧ takesN (plTo L q3) (↑g : Int) ++ [q0] = takesN (plTo L q3) (↑g : Int) ++ [q0] ∧ [q0] = [q0] ∧ plTo L q3 = plTo L q3 ∧ begN L q3 = begN L q3 ∧ mapR R q4 = mapR R q4 ∧ plTo L q3 = plTo L q3 ∧ begN L q3 = begN L q3 ∧ mapR R q4 = mapR R q4 ∧ True) (fits IntKind.i64 ((↑g : Int) + (1 : Int)) ∧ ∃ (g' : Nat), Nat.le g' (Int.toNat (begN L q3)) ∧ Int.toNat (begN L q3) - g' < Int.toNat (begN L q3) - g ∧ (↑g : Int) + (1 : Int) = (↑g' : Int) ∧ begN L q3 = begN L q3 ∧ useTo q7 q5 g_1 = usedTo (plTo L q3) g' ∧ plTo L q3 = plTo L q3 ∧ begN L q3 = begN L q3 ∧ mapR R q4 = mapR R q4 ∧ plTo L q3 = plTo L q3 ∧ begN L q3 = begN L q3 ∧ mapR R q4 = mapR R q4 ∧ True)) ((∃ (g_1 : Nat), Nat.le g_1 q4 ∧ (0 : Int) = (↑g_1 : Int) ∧ (↑q4 : Int) = (↑q4 : Int) ∧ R = R ∧ needTo q7 R g_1 = [] ∧ usedTo (plTo L q3) g = usedTo (plTo L q3) g ∧ plTo L q3 = plTo L q3 ∧ begN L q3 = begN L q3 ∧ mapR R q4 = mapR R q4 ∧ plTo L q3 = plTo L q3 ∧ begN L q3 = begN L q3 ∧ mapR R q4 = mapR R q4 ∧ True) ∧ ∀ (g_1 : Nat), let q2 := (List.getD R g_1 r0); let q8 := (↑(List.length q2.2.2) : Int); let q10 := (q2.2.1 + q8 - q2.2.1); let q11 := (usedB q7 q2.1); let q19 := (Int.toNat q10); Nat.le g_1 q4 → splitB (decide ((↑g_1 : Int) < (↑q4 : Int))) (((0 : Int) ≤ (↑g_1 : Int) ∧ (↑g_1 : Int) < (↑q4 : Int)) ∧ fits IntKind.i64 (q2.2.1 + q8) ∧ (∃ (g_2 : Nat), Nat.le g_2 q19 ∧ q2.2.1 = q2.2.1 + (↑g_2 : Int) ∧ q2.2.1 = q2.2.1 ∧ q2.2.1 + q8 = q2.2.1 + q8 ∧ spTo q11 q2.2.1 g_2 = [] ∧ q2.1 = q2.1 ∧ q2.2.1 = q2.2.1 ∧ q2.2.2 = q2.2.2 ∧ needTo q7 R g_1 = needTo q7 R g_1 ∧ usedTo (plTo L q3) g = usedTo (plTo L q3) g ∧ plTo L q3 = plTo L q3 ∧ begN L q3 = begN L q3 ∧ mapR R q4 = mapR R q4 ∧ plTo L q3 = plTo L q3 ∧ begN L q3 = begN L q3 ∧ mapR R q4 = mapR R q4 ∧ True) ∧ ∀ (g_2 : Nat), let q1 := (spTo q11 q2.2.1 g_2); let q6 := (↑(List.length q1) : Int); let q16 := (q6 - (1 : Int)); let q9 := (List.getD q1 (Int.toNat q16) ((0 : Int), (0 : Int))); let q14 := (q2.2.1 + (↑g_2 : Int) + (1 : Int)); let q18 := ((0 : Int) ≤ q6 - (1 : Int) ∧ q6 - (1 : Int) < q6); Nat.le g_2 q19 → splitB (decide (q2.2.1 + (↑g_2 : Int) < q2.2.1 + q8)) (splitB (!Option.getD (mapGet q13 Ty.bool q7 (q2.1, q2.2.1 + (↑g_2 : Int), (0 : Int), (0 : Int))) false) (fits IntKind.i64 q14 ∧ ∃ (g' : Nat), Nat.le g' q19 ∧ Int.toNat q10 - g' < Int.toNat q10 - g_2 ∧ q2.2.1 + (↑g_2 : Int) + (1 : Int) = q2.2.1 + (↑g' : Int) ∧ q2.2.1 = q2.2.1 ∧ q2.2.1 + q8 = q2.2.1 + q8 ∧ spTo q11 q2.2.1 g_2 = spTo q11 q2.2.1 g' ∧ q2.1 = q2.1 ∧ q2.2.1 = q2.2.1 ∧ q2.2.2 = q2.2.2 ∧ needTo q7 R g_1 = needTo q7 R g_1 ∧ usedTo (plTo L q3) g = usedTo (plTo L q3) g ∧ plTo L q3 = plTo L q3 ∧ begN L q3 = begN L q3 ∧ mapR R q4 = mapR R q4 ∧ plTo L q3 = plTo L q3 ∧ begN L q3 = begN L q3 ∧ mapR R q4 = mapR R q4 ∧ True) ((decide ((0 : Int) < q6) = true → fits IntKind.i64 q16) ∧ (decide ((0 : Int) < q6) = true → (0 : Int) ≤ q6 - (1 : Int) ∧ q6 - (1 : Int) < q6) ∧ (decide ((0 : Int) < q6) = true → Int.toNat q16 < List.length q1) ∧ splitB (bif decide ((0 : Int) < q6) then q9.2 == q2.2.1 + (↑g_2 : Int) else false) (fits IntKind.i64 q16 ∧ q18 ∧ Int.toNat q16 < List.length q1 ∧ fits IntKind.i64 (q9.2 + (1 : Int)) ∧ q18 ∧ Int.toNat q16 < List.length q1 ∧ fits IntKind.i64 q14 ∧ ∃ (g' : Nat), Nat.le g' q19 ∧ Int.toNat q10 - g' < Int.toNat q10 - g_2 ∧ q2.2.1 + (↑g_2 : Int) + (1 : Int) = q2.2.1 + (↑g' : Int) ∧ q2.2.1 = q2.2.1 ∧ q2.2.1 + q8 = q2.2.1 + q8 ∧ List.set q1 (Int.toNat q16) (q9.1, q9.2 + (1 : Int)) = spTo q11 q2.2.1 g' ∧ q2.1 = q2.1 ∧ q2.2.1 = q2.2.1 ∧ q2.2.2 = q2.2.2 ∧ needTo q7 R g_1 = needTo q7 R g_1 ∧ usedTo (plTo L q3) g = usedTo (plTo L q3) g ∧ plTo L q3 = plTo L q3 ∧ begN L q3 = begN L q3 ∧ mapR R q4 = mapR R q4 ∧ plTo L q3 = plTo L q3 ∧ begN L q3 = begN L q3 ∧ mapR R q4 = mapR R q4 ∧ True) (fits IntKind.i64 q14 ∧ room (List.length q1 + (1 : Nat)) (16 : Nat) ∧ fits IntKind.i64 q14 ∧ ∃ (g' : Nat), Nat.le g' q19 ∧ Int.toNat q10 - g' < Int.toNat q10 - g_2 ∧ q2.2.1 + (↑g_2 : Int) + (1 : Int) = q2.2.1 + (↑g' : Int) ∧ q2.2.1 = q2.2.1 ∧ q2.2.1 + q8 = q2.2.1 + q8 ∧ spTo q11 q2.2.1 g_2 ++ [(q2.2.1 + (↑g_2 : Int), q2.2.1 + (↑g_2 : Int) + (1 : Int))] = spTo q11 q2.2.1 g' ∧ q2.1 = q2.1 ∧ q2.2.1 = q2.2.1 ∧ q2.2.2 = q2.2.2 ∧ needTo q7 R g_1 = needTo q7 R g_1 ∧ usedTo (plTo L q3) g = usedTo (plTo L q3) g ∧ plTo L q3 = plTo L q3 ∧ begN L q3 = begN L q3 ∧ mapR R q4 = mapR R q4 ∧ plTo L q3 = plTo L q3 ∧ begN L q3 = begN L q3 ∧ mapR R q4 = mapR R q4 ∧ True))) ((∃ (g_3 : Nat), Nat.le g_3 (List.length q1) ∧ (0 : Int) = (↑g_3 : Int) ∧ q6 = q6 ∧ (↑g_1 : Int) = (↑g_1 : Int) ∧ (↑q4 : Int) = (↑q4 : Int) ∧ R = R ∧ needTo q7 R g_1 = needTo q7 R g_1 ++ List.map (fun (x : Int × Int) => (q2.1, x.1, x.2)) (List.take g_3 q1) ∧ spTo q11 q2.2.1 g_2 = spTo q11 q2.2.1 g_2 ∧ q2.1 = q2.1 ∧ q2.2.1 = q2.2.1 ∧ q2.2.2 = q2.2.2 ∧ usedTo (plTo L q3) g = usedTo (plTo L q3) g ∧ plTo L q3 = plTo L q3 ∧ begN L q3 = begN L q3 ∧ mapR R q4 = mapR R q4 ∧ plTo L q3 = plTo L q3 ∧ begN L q3 = begN L q3 ∧ mapR R q4 = mapR R q4 ∧ True) ∧ ∀ (g_3 : Nat), Nat.le g_3 (List.length q1) → splitB (decide ((↑g_3 : Int) < q6)) (((0 : Int) ≤ (↑g_3 : Int) ∧ (↑g_3 : Int) < q6) ∧ g_3 < List.length q1 ∧ room (List.length (needTo q7 R g_1 ++ List.map (fun (x : Int × Int) => (q2.1, x.1, x.2)) (List.take g_3 q1)) + (1 : Nat)) (32 : Nat) ∧ fits IntKind.i64 ((↑g_3 : Int) + (1 : Int)) ∧ ∃ (g' : Nat), Nat.le g' (List.length q1) ∧ List.length q1 - g' < List.length q1 - g_3 ∧ (↑g_3 : Int) + (1 : Int) = (↑g' : Int) ∧ q6 = q6 ∧ (↑g_1 : Int) = (↑g_1 : Int) ∧ (↑q4 : Int) = (↑q4 : Int) ∧ R = R ∧ needTo q7 R g_1 ++ List.map (fun (x : Int × Int) => (q2.1, x.1, x.2)) (List.take g_3 q1) ++ [(q2.1, (List.getD q1 g_3 ((0 : Int), (0 : Int))).1, (List.getD q1 g_3 ((0 : Int), (0 : Int))).2)] = needTo q7 R g_1 ++ List.map (fun (x : Int × Int) => (q2.1, x.1, x.2)) (List.take g' q1) ∧ spTo q11 q2.2.1 g_2 = spTo q11 q2.2.1 g_2 ∧ q2.1 = q2.1 ∧ q2.2.1 = q2.2.1 ∧ q2.2.2 = q2.2.2 ∧ usedTo (plTo L q3) g = usedTo (plTo L q3) g ∧ plTo L q3 = plTo L q3 ∧ begN L q3 = begN L q3 ∧ mapR R q4 = mapR R q4 ∧ plTo L q3 = plTo L q3 ∧ begN L q3 = begN L q3 ∧ mapR R q4 = mapR R q4 ∧ True) (fits IntKind.i64 ((↑g_1 : Int) + (1 : Int)) ∧ ∃ (g' : Nat), Nat.le g' q4 ∧ List.length R - g' < List.length R - g_1 ∧ (↑g_1 : Int) + (1 : Int) = (↑g' : Int) ∧ (↑q4 : Int) = (↑q4 : Int) ∧ R = R ∧ needTo q7 R g_1 ++ List.map (fun (x : Int × Int) => (q2.1, x.1, x.2)) (List.take g_3 q1) = needTo q7 R g' ∧ usedTo (plTo L q3) g = usedTo (plTo L q3) g ∧ plTo L q3 = plTo L q3 ∧ begN L q3 = begN L q3 ∧ mapR R q4 = mapR R q4 ∧ plTo L q3 = plTo L q3 ∧ begN L q3 = begN L q3 ∧ mapR R q4 = mapR R q4 ∧ True))) (needTo q7 R g_1 = needN R L ∧ (0 : Int) = chkEds R L ∧ True)))) := by
  kernel_rfl
end Go.Sx

/- Contracts. -/
namespace Go.Sx
open U
theorem fn155n (p : List Pl) (n : Int) (m : List (List UInt8 × Rl)) (fr : Int) (hp : PlsOk p) (hf : 0 ≤ fr ∧ fr ≤ 100000) : Fn P1 gl1 155 [lsV p n m, iV fr] (.val (.one (.frs tkT (takesN p fr)))) true := by
  refine Fn.flat ?_ rfl
  refine fn_of false [(195, sp195), (175, sp175)] [] h0 0 Proofs.Tryz.f155 ⟨so195, so175, trivial⟩ trivial (by kernel_rfl) rfl (by kernel_rfl) rfl rfl rfl ?_
  rw [vc155n]
  try simp only [splitB_iff, -eq_self]
  obtain ⟨h0, h16, hx, hb0, hf0⟩ := hp
  have hl := lastTo_lt begP p fr p.length h0
  have hle : begP (p.getD (lastTo begP p fr p.length) pl0) ≤ fr := lastTo_le (by show (p.getD 0 pl0).2 ≤ fr; omega) _
  have hk := hx _ (getD_mem (d := pl0) hl)
  have hT : takesN p fr = takesE (p.getD (lastTo begP p fr p.length) pl0).1 (p.getD (lastTo begP p fr p.length - 1) pl0).1 (fr - (p.getD (lastTo begP p fr p.length) pl0).2) := rfl
  rw [hT]
  generalize lastTo begP p fr p.length = k at *
  change (p.getD k pl0).2 ≤ fr at hle
  change _ ∧ _ ∧ fits .i64 (fr - (p.getD k pl0).2) ∧ _
  refine ⟨by omega, by omega, by simp only [fits]; omega, fun h => ?_, fun h => ?_⟩
  · have h' : (p.getD k pl0).1.2.2.2.1 ≤ fr - (p.getD k pl0).2 := of_decide_eq_true h
    refine ⟨?_, ?_, trivial⟩
    · show fits .i64 ((p.getD k pl0).1.2.1 + (fr - (p.getD k pl0).2))
      simp only [fits]; omega
    · unfold takesE
      rw [if_pos h']
  · have h' : ¬ (p.getD k pl0).1.2.2.2.1 ≤ fr - (p.getD k pl0).2 := of_decide_eq_false h
    have hk1 : 0 < k := by
      apply Nat.pos_of_ne_zero
      rintro rfl
      omega
    have e1 : ((k : Int) - 1).toNat = k - 1 := by omega
    have hb := hx _ (getD_mem (d := pl0) (show k - 1 < p.length by omega))
    rw [e1]
    unfold takesE
    rw [if_neg h']
    refine ⟨?_, ?_, ?_, ?_, ?_, ?_, ?_, ?_, ?_, ?_, ?_, ?_, ?_, ?_, ?_⟩ <;> first | omega | (simp only [fits]; omega) | trivial | skip
theorem so155n_ : SpecOk P1 gl1 155 sp155n := by
  intro vs ps r h hp
  simp only [sp155n] at h
  split at h
  · cases h
    exact fn155n _ _ _ _ (hp _ (.head _)) (hp _ (.tail _ (.head _)))
  · cases h
theorem so155n : Sp1 155 sp155n := ⟨so155n_, Proofs.Tryz.f155, _, by kernel_rfl, rfl, by kernel_rfl⟩

theorem addSp_len (o : List (Int × Int)) (n : Int) : (addSp o n).length ≤ o.length + 1 := by
  unfold addSp
  split
  · rw [List.length_set]; omega
  · simp
theorem spTo_len (is : Int → Bool) (a : Int) : ∀ i, (spTo is a i).length ≤ i
  | 0 => Nat.le_refl _
  | i + 1 => by
    have ih := spTo_len is a i
    have := addSp_len (spTo is a i) (a + (i : Int))
    simp only [spTo]
    split <;> omega
theorem need_len {m : Mu} {R : List Rl} (h : ∀ i, (R.getD i r0).2.2.length ≤ 256) : ∀ n, (needTo m R n).length ≤ 256 * n
  | 0 => Nat.le_refl _
  | n + 1 => by
    have ih := need_len (m := m) h n
    have h1 : (reelSp m (R.getD n r0)).length ≤ (R.getD n r0).2.2.length := spTo_len _ _ _
    have h2 := h n
    simp only [needTo, List.length_append, List.length_map]
    omega
theorem fn69 (R : List Rl) (L : List Ed) (hl : R.length ≤ 1000000000) (hR : ∀ r ∈ R, r.2.2.length ≤ 1000000) (hL : L.length ≤ 1000000000) : Fn P1 gl1 69 [.one (.sl rlT R), .one (.sl edT L)] (.tup [.one (.frs ndT (needN R L)), iV (chkEds R L)]) true := by
  refine Fn.flat ?_ rfl
  refine fn_of false [(43, sp43), (120, sp120), (155, sp155n), (124, sp124), (112, sp112)] [fb123, fb174, fb148, fb149] h69 3 Proofs.Tryz.f69 ⟨so43, so120, so155n, so124, so112, trivial⟩ ⟨⟨by kernel_rfl, by kernel_rfl, _, rfl, by kernel_rfl⟩, ⟨by kernel_rfl, by kernel_rfl, _, rfl, by kernel_rfl⟩, ⟨by kernel_rfl, by kernel_rfl, _, rfl, by kernel_rfl⟩, ⟨by kernel_rfl, by kernel_rfl, _, rfl, by kernel_rfl⟩, trivial⟩ (by kernel_rfl) rfl (by kernel_rfl) rfl rfl rfl ?_
  rw [vc69]
  try simp only [splitB_iff, -eq_self]
  simp only [eq_self, true_and, and_true, and_self]
  refine ⟨hl, hR, hL, fun h => ?_, fun h => ?_⟩
  · have h' : chkEds R L ≠ 0 := by simpa using h
    unfold needN
    rw [if_neg h']
  have h' : chkEds R L = 0 := by simpa using h
  have hk := chkEds_zero.1 h'
  have hn := lenL_nn hk
  have hbig := hk.big
  have hrs := rs_at hk.rs
  have hN : begN L L.length = lenL L := rfl
  have hP : plTo L L.length = ls L := rfl
  simp only [hN, hP]
  refine ⟨hl, hk.eds, ⟨0, Nat.zero_le _, rfl, rfl⟩, fun g hg => ⟨fun hlt => ?_, fun hge => ?_⟩⟩
  · have hlt' : (g : Int) < lenL L := of_decide_eq_true hlt
    have hpl := hk.pls' (show (0 : Int) ≤ g by omega) hlt'
    have ht := takes_ok hk (show (0 : Int) ≤ g by omega) hlt'
    have hall : takesN (ls L) (g : Int) ++ [((soundN (ls L) (g : Int)).1, (soundN (ls L) (g : Int)).2.1, (soundN (ls L) (g : Int)).2.2.1, (soundN (ls L) (g : Int)).2.2.2)] = allN (ls L) g := rfl
    have hlen : (allN (ls L) g).length ≤ 3 := by unfold allN; rw [List.length_append]; have := ht.1; simp; omega
    simp only [hall]
    refine ⟨hpl, by omega, hpl, by omega, by simp only [room]; omega, ⟨0, Nat.zero_le _, rfl, rfl⟩, fun j hj => ⟨fun hjl => ?_, fun hjg => ?_⟩⟩
    · have hjl' : j < (allN (ls L) g).length := by have := of_decide_eq_true hjl; omega
      exact ⟨by omega, hjl', by simp only [fits]; omega, j + 1, hjl', by omega, by omega, rfl⟩
    · have hje : j = (allN (ls L) g).length := by
        have h3 := of_decide_eq_false hjg
        have h4 : j ≤ (allN (ls L) g).length := hj
        omega
      subst hje
      refine ⟨by simp only [fits]; omega, g + 1, ?_, by omega, by omega, rfl⟩
      show g + 1 ≤ (lenL L).toNat
      omega
  · have hgl : g = (lenL L).toNat := by
      have h3 := of_decide_eq_false hge
      have h4 : g ≤ (lenL L).toNat := hg
      omega
    subst hgl
    generalize hU : usedTo (ls L) (lenL L).toNat = m
    have hr256 : ∀ i, (R.getD i r0).2.2.length ≤ 256 := fun i => by
      by_cases h : i < R.length
      · have := (hrs.2 _ (getD_mem (d := r0) h)).len
        omega
      · rw [List.getD_eq_getElem?_getD, List.getElem?_eq_none (by omega)]
        exact Nat.zero_le _
    refine ⟨⟨0, Nat.zero_le _, rfl, rfl⟩, fun i hi => ⟨fun hlt => ?_, fun hge => ?_⟩⟩
    · have hlt' : i < R.length := by have := of_decide_eq_true hlt; omega
      have hro := hrs.2 _ (getD_mem (d := r0) hlt')
      have hf := hro.start
      have hr2 := hr256 i
      have hnl := need_len (m := m) hr256 i
      generalize hr : R.getD i r0 = r at *
      have hmp : ∀ n : Int, (U.mapGet (.pair .str (.pair (.int .i64) (.pair (.int .i64) (.int .i64)))) .bool m (r.1, n, 0, 0)).getD false = usedB m r.1 n := fun _ => rfl
      have hcount : (r.2.1 + (r.2.2.length : Int) - r.2.1).toNat = r.2.2.length := by omega
      simp only [hmp, hcount]
      refine ⟨by omega, by simp only [fits]; omega, ⟨0, Nat.zero_le _, by simp, rfl⟩, fun j hj => ⟨fun hjl => ⟨fun hno => ?_, fun hyes => ?_⟩, fun hjg => ?_⟩⟩
      · have hjl' : j < r.2.2.length := by have := of_decide_eq_true hjl; omega
        have hno' : usedB m r.1 (r.2.1 + (j : Int)) = false := by simpa using hno
        refine ⟨by simp only [fits]; omega, j + 1, hjl', by omega, by omega, ?_⟩
        simp only [spTo, hno']
        rfl
      · have hjl' : j < r.2.2.length := by have := of_decide_eq_true hjl; omega
        have hyes' : usedB m r.1 (r.2.1 + (j : Int)) = true := by simpa using hyes
        have hsl := spTo_len (usedB m r.1) r.2.1 j
        have hsucc : spTo (usedB m r.1) r.2.1 (j + 1) = addSp (spTo (usedB m r.1) r.2.1 j) (r.2.1 + (j : Int)) := by simp only [spTo, hyes', if_true]
        generalize spTo (usedB m r.1) r.2.1 j = o at *
        have hpos : ∀ h : decide ((0 : Int) < (o.length : Int)) = true, 0 < o.length := fun h => by have := of_decide_eq_true h; omega
        have hidx : 0 < o.length → ((o.length : Int) - 1).toNat = o.length - 1 := fun h => by omega
        refine ⟨fun h => by have := hpos h; simp only [fits]; omega, fun h => by have := hpos h; omega, fun h => by have := hpos h; omega, fun h => ?_, fun h => ?_⟩
        · cases h0 : decide ((0 : Int) < (o.length : Int)) with
          | false => rw [h0] at h; cases h
          | true =>
            rw [h0] at h
            have h1 := hpos h0
            rw [hidx h1] at h ⊢
            have h2 : (o.getD (o.length - 1) (0, 0)).2 = r.2.1 + (j : Int) := by simpa using h
            refine ⟨by simp only [fits]; omega, by omega, by omega, by simp only [fits]; omega, by omega, by omega, by simp only [fits]; omega, j + 1, hjl', by omega, by omega, ?_⟩
            rw [hsucc]
            unfold addSp
            rw [if_pos ⟨h1, h2⟩]
            rfl
        · refine ⟨by simp only [fits]; omega, by simp only [room]; omega, by simp only [fits]; omega, j + 1, hjl', by omega, by omega, ?_⟩
          rw [hsucc]
          unfold addSp
          rw [if_neg]
          rintro ⟨h1, h2⟩
          have h0 : decide ((0 : Int) < (o.length : Int)) = true := decide_eq_true (by omega)
          rw [h0, hidx h1] at h
          have h2' : (o.getD (o.length - 1) (0, 0)).2 = r.2.1 + (j : Int) := h2
          rw [h2'] at h
          simp at h
      · have hje : j = r.2.2.length := by
          have h3 := of_decide_eq_false hjg
          have h4 : j ≤ r.2.2.length := hj
          omega
        subst hje
        have hsl := spTo_len (usedB m r.1) r.2.1 r.2.2.length
        have hsp : spTo (usedB m r.1) r.2.1 r.2.2.length = reelSp m r := rfl
        rw [hsp] at hsl ⊢
        refine ⟨⟨0, Nat.zero_le _, rfl, by simp⟩, fun q hq => ⟨fun hql => ?_, fun hqg => ?_⟩⟩
        · have hql' : q < (reelSp m r).length := by have := of_decide_eq_true hql; omega
          refine ⟨by omega, hql', by simp only [room, List.length_append, List.length_map, List.length_take]; omega, by simp only [fits]; omega, q + 1, hql', by omega, by omega, ?_⟩
          rw [getD_of hql', List.take_succ_eq_append_getElem hql', List.map_append, List.append_assoc]
          rfl
        · have hqe : ¬ q < (reelSp m r).length := by have := of_decide_eq_false hqg; omega
          refine ⟨by simp only [fits]; omega, i + 1, hlt', by omega, by omega, ?_⟩
          rw [List.take_of_length_le (by omega)]
          simp only [needTo, hr]
    · have hie : i = R.length := by
        have h3 := of_decide_eq_false hge
        have h4 : i ≤ R.length := hi
        omega
      subst hie
      refine ⟨?_, h'.symm⟩
      unfold needN
      rw [if_pos h', hU]
theorem so69_ : SpecOk P1 gl1 69 sp69 := by
  intro vs ps r h hp
  simp only [sp69] at h
  split at h
  · cases h; exact fn69 _ _ (hp _ (.head _)) (hp _ (.tail _ (.head _))) (hp _ (.tail _ (.tail _ (.head _))))
  · cases h
theorem so69 : Sp1 69 sp69 := ⟨so69_, Proofs.Tryz.f69, _, by kernel_rfl, rfl, by kernel_rfl⟩

end Go.Sx

/- What the engine asks, written out (printed by a program). -/
namespace Go.Sx
open U
theorem vc19 (nm : List UInt8) (f : Int) (l : List Int) : exF (env false [(23, sp23), (100, sp100), (101, sp101)] [fb99]) h19 3 19 Proofs.Tryz.f19 [rV nm f l] (.tup [.one (.frs (.int .u8) (stream nm f l)), iV 0]) = (let q0 := (↑(List.length nm) : Int); let q1 := (16777216 : Int); let q9 := (List.length l); let q2 := (↑q9 : Int); let q3 := ((0 : Int) ≤ (0 : Int) ∧ (0 : Int) ≤ (5 : Int) ∧ (5 : Int) ≤ (5 : Int)); let q8 := (List.take (5 : Nat) (tlast l)); let q10 := ((0 : Int) ≤ (24 : Int) ∧ (24 : Nat) ≤ IntKind.bits IntKind.i64); let q11 := ((0 : Int) ≤ (16 : Int) ∧ (16 : Nat) ≤ IntKind.bits IntKind.i64); let q12 := ((0 : Int) ≤ (8 : Int) ∧ (8 : Nat) ≤ IntKind.bits IntKind.i64); List.length l ≤ (1000000 : Nat) ∧ splitB (checkReel nm f l != (0 : Int)) (stream nm f l = [] ∧ checkReel nm f l = (0 : Int) ∧ True) (((0 : Int) ≤ (0 : Int) ∧ (0 : Int) ≤ (4 : Int) ∧ (4 : Int) ≤ (4 : Int)) ∧ ∀ (b : Bool), (b = true → (4 : Nat) = (0 : Nat)) → splitB (b != false) (room (1 : Nat) (1 : Nat) ∧ room ((1 : Nat) + List.length nm) (1 : Nat) ∧ q10 ∧ q11 ∧ q12 ∧ room (List.length ([q0 % (256 : Int)] ++ strNs nm) + (4 : Nat)) (1 : Nat) ∧ (∃ (g : Nat), Nat.le g q9 ∧ (0 : Int) = (↑g : Int) ∧ q2 = q2 ∧ l = l ∧ [q0 % (256 : Int)] ++ strNs nm ++ [f / q1 % (256 : Int), f / (65536 : Int) % (256 : Int), f / (256 : Int) % (256 : Int), f % (256 : Int)] = [q0 % (256 : Int)] ++ strNs nm ++ [f / q1 % (256 : Int), f / (65536 : Int) % (256 : Int), f / (256 : Int) % (256 : Int), f % (256 : Int)] ++ recs l g ∧ [f / q1 % (256 : Int), f / (65536 : Int) % (256 : Int), f / (256 : Int) % (256 : Int), f % (256 : Int)] = [f / q1 % (256 : Int), f / (65536 : Int) % (256 : Int), f / (256 : Int) % (256 : Int), f % (256 : Int)] ∧ [q0 % (256 : Int)] = [q0 % (256 : Int)] ∧ nm = nm ∧ f = f ∧ l = l ∧ True) ∧ ∀ (g : Nat), let q5 := ([q0 % (256 : Int)] ++ strNs nm ++ [f / q1 % (256 : Int), f / (65536 : Int) % (256 : Int), f / (256 : Int) % (256 : Int), f % (256 : Int)] ++ recs l g); let q6 := (tframe (↑g : Int) (List.getD l g (0 : Int))); Nat.le g q9 → splitB (decide ((↑g : Int) < q2)) (((0 : Int) ≤ (↑g : Int) ∧ (↑g : Int) < q2) ∧ (((0 : Int) ≤ (↑g : Int) ∧ (↑g : Int) ≤ (1000000 : Int)) ∧ (0 : Int) ≤ List.getD l g (0 : Int) ∧ List.getD l g (0 : Int) ≤ (1000000 : Int)) ∧ q3 ∧ List.length (List.take (5 : Nat) q6) = (5 : Nat) ∧ room (List.length q5 + List.length (List.take (5 : Nat) q6)) (1 : Nat) ∧ fits IntKind.i64 ((↑g : Int) + (1 : Int)) ∧ ∃ (g' : Nat), Nat.le g' q9 ∧ List.length l - g' < List.length l - g ∧ (↑g : Int) + (1 : Int) = (↑g' : Int) ∧ q2 = q2 ∧ l = l ∧ [q0 % (256 : Int)] ++ strNs nm ++ [f / q1 % (256 : Int), f / (65536 : Int) % (256 : Int), f / (256 : Int) % (256 : Int), f % (256 : Int)] ++ recs l g ++ List.take (5 : Nat) q6 = [q0 % (256 : Int)] ++ strNs nm ++ [f / q1 % (256 : Int), f / (65536 : Int) % (256 : Int), f / (256 : Int) % (256 : Int), f % (256 : Int)] ++ recs l g' ∧ [f / q1 % (256 : Int), f / (65536 : Int) % (256 : Int), f / (256 : Int) % (256 : Int), f % (256 : Int)] = [f / q1 % (256 : Int), f / (65536 : Int) % (256 : Int), f / (256 : Int) % (256 : Int), f % (256 : Int)] ∧ [q0 % (256 : Int)] = [q0 % (256 : Int)] ∧ nm = nm ∧ f = f ∧ l = l ∧ True) ((List.length l ≤ (1000000 : Nat) ∧ ∀ (x : Int), x ∈ l → (0 : Int) ≤ x ∧ x ≤ (65535 : Int)) ∧ q3 ∧ List.length q8 = (5 : Nat) ∧ room (List.length q5 + List.length q8) (1 : Nat) ∧ [q0 % (256 : Int)] ++ strNs nm ++ [f / q1 % (256 : Int), f / (65536 : Int) % (256 : Int), f / (256 : Int) % (256 : Int), f % (256 : Int)] ++ recs l g ++ List.take (5 : Nat) (tlast l) = stream nm f l ∧ (0 : Int) = (0 : Int) ∧ True)) (room (4 : Nat) (1 : Nat) ∧ room (5 : Nat) (1 : Nat) ∧ room (List.length ([(82 : Int), (69 : Int), (69 : Int), (76 : Int)] ++ [q0 % (256 : Int)]) + List.length nm) (1 : Nat) ∧ q10 ∧ q11 ∧ q12 ∧ room (List.length ([(82 : Int), (69 : Int), (69 : Int), (76 : Int)] ++ [q0 % (256 : Int)] ++ strNs nm) + (4 : Nat)) (1 : Nat) ∧ (∃ (g : Nat), Nat.le g q9 ∧ (0 : Int) = (↑g : Int) ∧ q2 = q2 ∧ l = l ∧ [(82 : Int), (69 : Int), (69 : Int), (76 : Int)] ++ [q0 % (256 : Int)] ++ strNs nm ++ [f / q1 % (256 : Int), f / (65536 : Int) % (256 : Int), f / (256 : Int) % (256 : Int), f % (256 : Int)] = [(82 : Int), (69 : Int), (69 : Int), (76 : Int)] ++ [q0 % (256 : Int)] ++ strNs nm ++ [f / q1 % (256 : Int), f / (65536 : Int) % (256 : Int), f / (256 : Int) % (256 : Int), f % (256 : Int)] ++ recs l g ∧ [f / q1 % (256 : Int), f / (65536 : Int) % (256 : Int), f / (256 : Int) % (256 : Int), f % (256 : Int)] = [f / q1 % (256 : Int), f / (65536 : Int) % (256 : Int), f / (256 : Int) % (256 : Int), f % (256 : Int)] ∧ [q0 % (256 : Int)] = [q0 % (256 : Int)] ∧ nm = nm ∧ f = f ∧ l = l ∧ True) ∧ ∀ (g : Nat), let q4 := ([(82 : Int), (69 : Int), (69 : Int), (76 : Int)] ++ [q0 % (256 : Int)] ++ strNs nm ++ [f / q1 % (256 : Int), f / (65536 : Int) % (256 : Int), f / (256 : Int) % (256 : Int), f % (256 : Int)] ++ recs l g); let q7 := (tframe (↑g : Int) (List.getD l g (0 : Int))); Nat.le g q9 → splitB (decide ((↑g : Int) < q2)) (((0 : Int) ≤ (↑g : Int) ∧ (↑g : Int) < q2) ∧ (((0 : Int) ≤ (↑g : Int) ∧ (↑g : Int) ≤ (1000000 : Int)) ∧ (0 : Int) ≤ List.getD l g (0 : Int) ∧ List.getD l g (0 : Int) ≤ (1000000 : Int)) ∧ q3 ∧ List.length (List.take (5 : Nat) q7) = (5 : Nat) ∧ room (List.length q4 + List.length (List.take (5 : Nat) q7)) (1 : Nat) ∧ fits IntKind.i64 ((↑g : Int) + (1 : Int)) ∧ ∃ (g' : Nat), Nat.le g' q9 ∧ List.length l - g' < List.length l - g ∧ (↑g : Int) + (1 : Int) = (↑g' : Int) ∧ q2 = q2 ∧ l = l ∧ [(82 : Int), (69 : Int), (69 : Int), (76 : Int)] ++ [q0 % (256 : Int)] ++ strNs nm ++ [f / q1 % (256 : Int), f / (65536 : Int) % (256 : Int), f / (256 : Int) % (256 : Int), f % (256 : Int)] ++ recs l g ++ List.take (5 : Nat) q7 = [(82 : Int), (69 : Int), (69 : Int), (76 : Int)] ++ [q0 % (256 : Int)] ++ strNs nm ++ [f / q1 % (256 : Int), f / (65536 : Int) % (256 : Int), f / (256 : Int) % (256 : Int), f % (256 : Int)] ++ recs l g' ∧ [f / q1 % (256 : Int), f / (65536 : Int) % (256 : Int), f / (256 : Int) % (256 : Int), f % (256 : Int)] = [f / q1 % (256 : Int), f / (65536 : Int) % (256 : Int), f / (256 : Int) % (256 : Int), f % (256 : Int)] ∧ [q0 % (256 : Int)] = [q0 % (256 : Int)] ∧ nm = nm ∧ f = f ∧ l = l ∧ True) ((List.length l ≤ (1000000 : Nat) ∧ ∀ (x : Int), x ∈ l → (0 : Int) ≤ x ∧ x ≤ (65535 : Int)) ∧ q3 ∧ List.length q8 = (5 : Nat) ∧ room (List.length q4 + List.length q8) (1 : Nat) ∧ [(82 : Int), (69 : Int), (69 : Int), (76 : Int)] ++ [q0 % (256 : Int)] ++ strNs nm ++ [f / q1 % (256 : Int), f / (65536 : Int) % (256 : Int), f / (256 : Int) % (256 : Int), f % (256 : Int)] ++ recs l g ++ List.take (5 : Nat) (tlast l) = stream nm f l ∧ (0 : Int) = (0 : Int) ∧ True)))) := by
  kernel_rfl
end Go.Sx

/- Contracts: Taped. -/
namespace Go.Sx
open U

theorem tframe_len (i c : Int) : (tframe i c).length = 5 := rfl
theorem tlast_len (l : List Int) : (tlast l).length = 5 := rfl
theorem recs_len (l : List Int) : ∀ n, (recs l n).length = 5 * n
  | 0 => rfl
  | n + 1 => by simp only [recs, List.length_append, recs_len l n, tframe_len]; omega
theorem strNs_len (l : List UInt8) : (strNs l).length = l.length := by simp [strNs]
theorem isName_len {nm : List UInt8} (h : isName nm = true) : nm.length ≤ 24 ∧ nm ≠ [] := by
  unfold isName at h
  simp only [Bool.and_eq_true, decide_eq_true_eq] at h
  exact ⟨h.2.2, h.2.1⟩

theorem fn19 (nm : List UInt8) (f : Int) (l : List Int) (h : ReelOk nm f l) : Fn P1 gl1 19 [rV nm f l] (.tup [.one (.frs (.int .u8) (stream nm f l)), iV 0]) true := by
  refine Fn.flat ?_ rfl
  refine fn_of false [(23, sp23), (100, sp100), (101, sp101)] [fb99] h19 3 Proofs.Tryz.f19 ⟨so23, so100, so101, trivial⟩ ⟨⟨by kernel_rfl, by kernel_rfl, _, rfl, by kernel_rfl⟩, trivial⟩ (by kernel_rfl) rfl (by kernel_rfl) rfl rfl rfl ?_
  rw [vc19]
  try simp only [splitB_iff, -eq_self]
  have hlen := h.len
  have hz : checkReel nm f l = 0 := checkReel_zero.2 h
  have hnm := isName_len h.name
  refine ⟨by omega, fun h1 => ?_, fun _ => ⟨by decide, fun b hb => ⟨fun h1 => ?_, fun _ => ?_⟩⟩⟩
  · rw [hz] at h1; cases h1
  · cases b with
    | true => exact absurd (hb rfl) (by decide)
    | false => cases h1
  · have hr : ∀ g, g ≤ l.length → ([(82 : Int), 69, 69, 76] ++ [(nm.length : Int) % 256] ++ strNs nm ++ [f / 16777216 % 256, f / 65536 % 256, f / 256 % 256, f % 256] ++ recs l g).length ≤ 2000 := by
      intro g hg
      simp only [List.length_append, recs_len, strNs_len, List.length_cons, List.length_nil]
      omega
    refine ⟨by simp only [room]; omega, by simp only [room]; omega, ?_, by decide, by decide, by decide, ?_, ⟨0, Nat.zero_le _, rfl, rfl, rfl, by simp [recs], rfl, rfl, rfl, rfl, rfl, trivial⟩, fun g hg => ⟨fun hlt => ?_, fun hge => ?_⟩⟩
    · simp only [room, List.length_append, List.length_cons, List.length_nil]; omega
    · simp only [room, List.length_append, List.length_cons, List.length_nil, strNs_len]; omega
    · have hlt' : g < l.length := by simpa using hlt
      have hx := h.w _ (List.getElem_mem hlt')
      have h5 := hr g hg
      rw [getD_of hlt']
      have e5 : List.take 5 (tframe (g : Int) l[g]) = tframe (g : Int) l[g] := rfl
      rw [e5]
      refine ⟨by omega, by omega, by decide, rfl, ?_, by simp only [fits]; omega, g + 1, hlt', by omega, by simp, rfl, rfl, ?_, rfl, rfl, rfl, rfl, rfl, trivial⟩
      · simp only [room, tframe_len]; omega
      · simp only [recs, getD_of hlt', List.append_assoc]
    · have hge' : ¬ g < l.length := by simpa using hge
      have e : g = l.length := by have : g ≤ l.length := hg; omega
      subst e
      have h5 := hr l.length hg
      have e5 : List.take 5 (tlast l) = tlast l := rfl
      rw [e5]
      refine ⟨⟨by omega, h.w⟩, by decide, rfl, ?_, rfl, rfl, trivial⟩
      simp only [room, tlast_len]; omega
def sp19 : FSpec := ⟨fun vs => match vs with
  | [.agg [.one (.str nm), .one (.int .i64 f), .one (.sl (.int .i64) l)]] => some ([ReelOk nm f l], .tup [.one (.frs (.int .u8) (stream nm f l)), iV 0])
  | _ => none, true⟩
theorem so19_ : SpecOk P1 gl1 19 sp19 := by
  intro vs ps r h hp
  simp only [sp19] at h
  split at h
  · cases h
    exact fn19 _ _ _ (hp _ (List.mem_singleton.2 rfl))
  · cases h
theorem so19 : Sp1 19 sp19 := ⟨so19_, Proofs.Tryz.f19, _, by kernel_rfl, rfl, by kernel_rfl⟩
end Go.Sx

/- Plain functions and hints: Read and Rebuilt. -/
namespace Go.Sx.U
/-- The beginning of a stream: the error, the name, the first number, what is left. -/
def rdBegin (s : List Int) : Int × List UInt8 × Int × List Int :=
  if s.length < 4 then (28, [], 0, []) else
  if s.take 4 = [82, 69, 69, 76] then
    if (s.drop 4).length < 1 then (28, [], 0, []) else
    if ((s.drop 4).drop 1).length < ((s.drop 4).getD 0 0).toNat then (28, [], 0, []) else
    if plain (bytesOf (((s.drop 4).drop 1).take ((s.drop 4).getD 0 0).toNat)) && isName (bytesOf (((s.drop 4).drop 1).take ((s.drop 4).getD 0 0).toNat)) then
      if (((s.drop 4).drop 1).drop ((s.drop 4).getD 0 0).toNat).length < 4 then (28, [], 0, []) else
      (whenE (decide (10000000 < number ((((s.drop 4).drop 1).drop ((s.drop 4).getD 0 0).toNat).take 4))) 1, bytesOf (((s.drop 4).drop 1).take ((s.drop 4).getD 0 0).toNat),
        number ((((s.drop 4).drop 1).drop ((s.drop 4).getD 0 0).toNat).take 4), (((s.drop 4).drop 1).drop ((s.drop 4).getD 0 0).toNat).drop 4)
    else (1, [], 0, [])
  else (1, [], 0, [])
/-- The check in a record. -/
def chk (r : List Int) (j : Nat) : Int := number (((r.drop (5 * j)).drop 1).take 2)
def chks (r : List Int) (i : Nat) : List Int := (List.range i).map (chk r)
/-- The next record, behind some frames: the error, whether it is the last one, the check. -/
def recErr (k : Int) (n : Nat) : Int := first [whenE (!(k == 69) && (k != 70)) 1, whenE (!(k == 69) && ((n : Int) == 256)) 5]
def rdRec (s : List Int) (l : List Int) : Int × Bool × Int :=
  if s.length < 1 then (28, false, 0) else
  if recErr (s.getD 0 0) l.length = 0 then
    if s.length < 5 then (28, false, 0) else
    (whenE (!decide (s.take 5 = if (s.getD 0 0 == 69) = true then tlast l else tframe l.length (number ((s.drop 1).take 2)))) 27, s.getD 0 0 == 69, number ((s.drop 1).take 2))
  else (recErr (s.getD 0 0) l.length, false, 0)
/-- The records: the error, the checks, what is left. -/
def rdAll : Nat → List Int → List Int → Int × List Int × List Int
  | 0, s, l => (28, l, s)
  | n + 1, s, l => if (rdRec s l).1 = 0 then (if (rdRec s l).2.1 then (0, l, s.drop 5) else rdAll n (s.drop 5) (l ++ [(rdRec s l).2.2])) else ((rdRec s l).1, l, s)
def readS (s : List Int) : (List UInt8 × Int × List Int) × Int :=
  if (rdBegin s).1 = 0 then
    if (rdAll (s.length + 1) (rdBegin s).2.2.2 []).1 = 0 then
      if first [whenE (decide (0 < (rdAll (s.length + 1) (rdBegin s).2.2.2 []).2.2.length)) 23, checkReel (rdBegin s).2.1 (rdBegin s).2.2.1 (rdAll (s.length + 1) (rdBegin s).2.2.2 []).2.1] = 0 then
        (((rdBegin s).2.1, (rdBegin s).2.2.1, (rdAll (s.length + 1) (rdBegin s).2.2.2 []).2.1), 0)
      else (([], 0, []), first [whenE (decide (0 < (rdAll (s.length + 1) (rdBegin s).2.2.2 []).2.2.length)) 23, checkReel (rdBegin s).2.1 (rdBegin s).2.2.1 (rdAll (s.length + 1) (rdBegin s).2.2.2 []).2.1])
    else (([], 0, []), (rdAll (s.length + 1) (rdBegin s).2.2.2 []).1)
  else (([], 0, []), (rdBegin s).1)
/-- The checks that are rebuilt. -/
def rbAll (f : Int) : Nat → List Int → List Int → List Int
  | 0, _, l => l
  | n + 1, s, l => if (rdRec s l).1 = 0 ∧ (rdRec s l).2.1 = false ∧ f + (l.length : Int) < 10000000 then rbAll f n (s.drop 5) (l ++ [(rdRec s l).2.2]) else l
def rebuilt (s : List Int) : (List UInt8 × Int × List Int) × Bool × Int :=
  if (rdBegin s).1 = 0 then
    if (rbAll (rdBegin s).2.2.1 (s.length + 1) (rdBegin s).2.2.2 []).length = 0 then (([], 0, []), false, 12)
    else (((rdBegin s).2.1, (rdBegin s).2.2.1, rbAll (rdBegin s).2.2.1 (s.length + 1) (rdBegin s).2.2.2 []), decide ((readS s).2 = 0), 0)
  else (([], 0, []), false, (rdBegin s).1)
end Go.Sx.U
namespace Go.Sx
open U
def boxAt (s : St) (t : Nat) : Option (Nat × List Ch) := match lookT s.tm t with
  | some (.val (.one (.ptr id 0))) => match lookO s.ob id with
    | some (.box cs) => some (id, cs)
    | _ => none
  | _ => none
/-- The loop over the records: the temporaries of the reader, of the reel and of the result; what is kept. -/
def hRecs (tr tl t2 : Nat) (keep : List Nat) (q : List Int → List UInt8 → Int → Nat → Prop) (s : St) : Option LInv := match boxAt s tr, boxAt s tl, boxAt s t2 with
  | some (ir, [.one (.sl (.int .u8) r)]), some (il, [.one (.str nm), .one (.int .i64 f), _]), some (i2, c2) =>
    some ⟨Nat, fun i => ⟨keepT (tr :: tl :: t2 :: keep) s.tm, [(i2, some (.box c2)), (ir, some (.box [.one (.sl (.int .u8) (List.drop (5 * i) r))])), (il, some (.box [.one (.str nm), .one (.int .i64 f), .one (.own s.nx)])), (s.nx, some (.row (.int .i64) (chks r i)))], s.nx + 1, s.lr⟩,
      fun i => 5 * i ≤ List.length r ∧ i ≤ 256 ∧ q r nm f i, fun i => List.length r - 5 * i⟩
  | _, _, _ => none
/-- What holds at a turn of the loop over the records. -/
def rdAt (r : List Int) (_ : List UInt8) (_ : Int) (i : Nat) : Prop := ∀ n, rdAll (n + i) r [] = rdAll n (List.drop (5 * i) r) (chks r i)
def rbAt (r : List Int) (_ : List UInt8) (f : Int) (i : Nat) : Prop := ∀ n, rbAll f (n + i) r [] = rbAll f n (List.drop (5 * i) r) (chks r i)
def h27 : Hints := ⟨fun f k s => match f, k with
  | 27, 5 => hRecs 4 5 2 [] rdAt s
  | _, _ => none, 0⟩
def h29 : Hints := ⟨fun f k s => match f, k with
  | 29, 5 => hRecs 5 6 2 [0] rbAt s
  | _, _ => none, 0⟩
@[reducible] def rfV (nm : List UInt8) (f : Int) (l : List Int) : V := .agg [.one (.str nm), .one (.int .i64 f), .one (.frs (.int .i64) l)]
@[reducible] noncomputable def fb116 : Nat × Func := (116, Proofs.Tryz.f116)
@[reducible] noncomputable def fb117 : Nat × Func := (117, Proofs.Tryz.f117)
@[reducible] noncomputable def fb171 : Nat × Func := (171, Proofs.Tryz.f171)
end Go.Sx

/- What the engine asks, written out (printed by a program). -/
namespace Go.Sx
open U
theorem vc27 (s : List Int) : exFr (env false [(23, sp23), (100, sp100), (101, sp101), (106, sp106), (107, sp107), (108, sp108), (172, sp172), (173, sp173)] [fb116, fb117, fb171]) h27 3 27 Proofs.Tryz.f27 [.one (.sl (.int .u8) s)] (.tup [rV (U.readS s).1.1 (U.readS s).1.2.1 (U.readS s).1.2.2, iV (U.readS s).2]) = (let q8 := (List.drop (4 : Nat) s); let q14 := (List.take (1 : Nat) q8); let q29 := (List.getD q14 (0 : Nat) (0 : Int)); let q0 := (List.drop (Int.toNat q29) (List.drop (1 : Nat) q8)); let q2 := (List.take (Int.toNat q29) (List.drop (1 : Nat) q8)); let q3 := (List.drop (4 : Nat) q0); let q5 := ([] = (readS s).1.1 ∧ (0 : Int) = (readS s).1.2.1 ∧ (readS s).1.2.2 = [] ∧ (28 : Int) = (readS s).2 ∧ True); let q10 := (List.take (4 : Nat) q0); let q13 := (↑(List.length (List.drop (1 : Nat) q8)) : Int); let q17 := ([] = (readS s).1.1 ∧ (0 : Int) = (readS s).1.2.1 ∧ (readS s).1.2.2 = [] ∧ (1 : Int) = (readS s).2 ∧ True); let q18 := (Ty.arr (5 : Nat) (Ty.int IntKind.u8)); let q22 := (↑(List.length q8) : Int); let q23 := (↑(List.length q0) : Int); let q25 := (↑(List.length s) : Int); splitB (decide (q25 < (4 : Int))) q5 (((0 : Int) ≤ (0 : Int) ∧ (0 : Int) ≤ (4 : Int) ∧ (4 : Int) ≤ q25) ∧ ((0 : Int) ≤ (4 : Int) ∧ (4 : Int) ≤ q25 ∧ q25 ≤ q25) ∧ (4 : Nat) ≤ List.length (List.take (4 : Nat) s) ∧ splitB (!eqT (Ty.arr (4 : Nat) (Ty.int IntKind.u8)) (List.take (4 : Nat) (List.take (4 : Nat) s)) [(82 : Int), (69 : Int), (69 : Int), (76 : Int)]) q17 (splitB (decide (q22 < (1 : Int))) q5 (((0 : Int) ≤ (0 : Int) ∧ (0 : Int) ≤ (1 : Int) ∧ (1 : Int) ≤ q22) ∧ ((0 : Int) ≤ (1 : Int) ∧ (1 : Int) ≤ q22 ∧ q22 ≤ q22) ∧ ((0 : Int) ≤ (0 : Int) ∧ (0 : Int) < (↑(List.length q14) : Int)) ∧ fits IntKind.i64 q29 ∧ splitB (decide (q13 < List.getD q14 (0 : Nat) (0 : Int))) q5 (((0 : Int) ≤ (0 : Int) ∧ (0 : Int) ≤ List.getD q14 (0 : Nat) (0 : Int) ∧ List.getD q14 (0 : Nat) (0 : Int) ≤ q13) ∧ ((0 : Int) ≤ List.getD q14 (0 : Nat) (0 : Int) ∧ List.getD q14 (0 : Nat) (0 : Int) ≤ q13 ∧ q13 ≤ q13) ∧ splitB (bif !plain (bytesOf q2) then true else !isName (bytesOf q2)) q17 (splitB (decide (q23 < (4 : Int))) q5 (((0 : Int) ≤ (0 : Int) ∧ (0 : Int) ≤ (4 : Int) ∧ (4 : Int) ≤ q23) ∧ ((0 : Int) ≤ (4 : Int) ∧ (4 : Int) ≤ q23 ∧ q23 ≤ q23) ∧ (List.length q10 ≤ (4 : Nat) ∧ Bytes q10) ∧ splitB (whenE (decide ((10000000 : Int) < number q10)) (1 : Int) != (0 : Int)) ([] = (readS s).1.1 ∧ (0 : Int) = (readS s).1.2.1 ∧ (readS s).1.2.2 = [] ∧ whenE (decide ((10000000 : Int) < number q10)) (1 : Int) = (readS s).2 ∧ True) ((∃ (g : Nat), ((5 : Nat) * g ≤ List.length q3 ∧ g ≤ (256 : Nat) ∧ ∀ (n : Nat), rdAll (n + g) q3 [] = rdAll n (List.drop ((5 : Nat) * g) q3) (chks q3 g)) ∧ nilB = [] ∧ (0 : Int) = (0 : Int) ∧ List.drop (4 : Nat) q0 = List.drop ((5 : Nat) * g) q3 ∧ bytesOf q2 = bytesOf q2 ∧ number q10 = number q10 ∧ chks q3 g = [] ∧ True) ∧ ∀ (g : Nat), let q1 := (List.drop ((5 : Nat) * g) q3); let q12 := (List.drop (1 : Nat) q1); let q27 := (decide ((0 : Int) < (↑(List.length (List.drop (4 : Nat) q12)) : Int))); let q4 := (List.length (chks q3 g) ≤ (1000000 : Nat) ∧ (2 : Nat) ≤ (1000000000 : Nat) ∧ splitB (first [whenE q27 (23 : Int), checkReel (bytesOf q2) (number q10) (chks q3 g)] != (0 : Int)) ([] = (readS s).1.1 ∧ (0 : Int) = (readS s).1.2.1 ∧ (readS s).1.2.2 = [] ∧ first [whenE q27 (23 : Int), checkReel (bytesOf q2) (number q10) (chks q3 g)] = (readS s).2 ∧ True) (bytesOf q2 = (readS s).1.1 ∧ number q10 = (readS s).1.2.1 ∧ chks q3 g = (readS s).1.2.2 ∧ (0 : Int) = (readS s).2 ∧ True)); let q11 := (List.take (1 : Nat) q1); let q6 := ([List.getD q11 (0 : Nat) (0 : Int)] ++ List.take (4 : Nat) q12); let q31 := (List.take (4 : Nat) q12); let q7 := (List.take (2 : Nat) q31); let q16 := (bif !List.getD q11 (0 : Nat) (0 : Int) == (69 : Int) then List.getD q11 (0 : Nat) (0 : Int) != (70 : Int) else false); let q15 := (↑(List.length (chks q3 g)) : Int); let q21 := (bif !List.getD q11 (0 : Nat) (0 : Int) == (69 : Int) then q15 == (256 : Int) else false); let q9 := (first [whenE q16 (1 : Int), whenE q21 (5 : Int)] != (0 : Int)); let q19 := (List.getD q11 (0 : Nat) (0 : Int) == (69 : Int)); let q20 := (↑(List.length q12) : Int); let q24 := (↑(List.length q1) : Int); let q26 := (List.take (5 : Nat) q6); let q28 := (List.length (chks q3 g) + (1 : Nat)); let q30 := ((0 : Int) ≤ (0 : Int) ∧ (0 : Int) < (↑(List.length q11) : Int)); ((5 : Nat) * g ≤ List.length q3 ∧ g ≤ (256 : Nat) ∧ ∀ (n : Nat), rdAll (n + g) q3 [] = rdAll n q1 (chks q3 g)) → splitB (decide (q24 < (1 : Int))) q5 (((0 : Int) ≤ (0 : Int) ∧ (0 : Int) ≤ (1 : Int) ∧ (1 : Int) ≤ q24) ∧ ((0 : Int) ≤ (1 : Int) ∧ (1 : Int) ≤ q24 ∧ q24 ≤ q24) ∧ q30 ∧ ((!List.getD q11 (0 : Nat) (0 : Int) == (69 : Int)) = true → (0 : Int) ≤ (0 : Int) ∧ (0 : Int) < (↑(List.length q11) : Int)) ∧ (2 : Nat) ≤ (1000000000 : Nat) ∧ splitB q9 (splitB q9 ([] = (readS s).1.1 ∧ (0 : Int) = (readS s).1.2.1 ∧ (readS s).1.2.2 = [] ∧ first [whenE q16 (1 : Int), whenE q21 (5 : Int)] = (readS s).2 ∧ True) (room q28 (8 : Nat) ∧ ∃ (g' : Nat), ((5 : Nat) * g' ≤ List.length q3 ∧ g' ≤ (256 : Nat) ∧ ∀ (n : Nat), rdAll (n + g') q3 [] = rdAll n (List.drop ((5 : Nat) * g') q3) (chks q3 g')) ∧ List.length q3 - (5 : Nat) * g' < List.length q3 - (5 : Nat) * g ∧ nilB = [] ∧ (0 : Int) = (0 : Int) ∧ List.drop (1 : Nat) q1 = List.drop ((5 : Nat) * g') q3 ∧ bytesOf q2 = bytesOf q2 ∧ number q10 = number q10 ∧ chks q3 g ++ [(0 : Int)] = chks q3 g' ∧ True)) (splitB (decide (q20 < (4 : Int))) q5 (((0 : Int) ≤ (0 : Int) ∧ (0 : Int) ≤ (4 : Int) ∧ (4 : Int) ≤ q20) ∧ ((0 : Int) ≤ (4 : Int) ∧ (4 : Int) ≤ q20 ∧ q20 ≤ q20) ∧ q30 ∧ room ((1 : Nat) + List.length q31) (1 : Nat) ∧ (5 : Nat) ≤ List.length q6 ∧ List.length q26 = (5 : Nat) ∧ ((0 : Int) ≤ (0 : Int) ∧ (0 : Int) ≤ (2 : Int) ∧ (2 : Int) ≤ (↑(List.length q31) : Int)) ∧ (List.length q7 ≤ (4 : Nat) ∧ Bytes q7) ∧ (((0 : Int) ≤ q15 ∧ q15 ≤ (1000000 : Int)) ∧ (0 : Int) ≤ number q7 ∧ number q7 ≤ (1000000 : Int)) ∧ splitB q19 ((List.length (chks q3 g) ≤ (1000000 : Nat) ∧ ∀ (x : Int), x ∈ chks q3 g → (0 : Int) ≤ x ∧ x ≤ (65535 : Int)) ∧ splitB (whenE (!eqT q18 q26 (tlast (chks q3 g))) (27 : Int) != (0 : Int)) ([] = (readS s).1.1 ∧ (0 : Int) = (readS s).1.2.1 ∧ (readS s).1.2.2 = [] ∧ whenE (!eqT q18 q26 (tlast (chks q3 g))) (27 : Int) = (readS s).2 ∧ True) (splitB q19 q4 (room q28 (8 : Nat) ∧ ∃ (g' : Nat), ((5 : Nat) * g' ≤ List.length q3 ∧ g' ≤ (256 : Nat) ∧ ∀ (n : Nat), rdAll (n + g') q3 [] = rdAll n (List.drop ((5 : Nat) * g') q3) (chks q3 g')) ∧ List.length q3 - (5 : Nat) * g' < List.length q3 - (5 : Nat) * g ∧ nilB = [] ∧ (0 : Int) = (0 : Int) ∧ List.drop (4 : Nat) q12 = List.drop ((5 : Nat) * g') q3 ∧ bytesOf q2 = bytesOf q2 ∧ number q10 = number q10 ∧ chks q3 g ++ [number q7] = chks q3 g' ∧ True))) (splitB (whenE (!eqT q18 q26 (tframe q15 (number q7))) (27 : Int) != (0 : Int)) ([] = (readS s).1.1 ∧ (0 : Int) = (readS s).1.2.1 ∧ (readS s).1.2.2 = [] ∧ whenE (!eqT q18 q26 (tframe q15 (number q7))) (27 : Int) = (readS s).2 ∧ True) (splitB q19 q4 (room q28 (8 : Nat) ∧ ∃ (g' : Nat), ((5 : Nat) * g' ≤ List.length q3 ∧ g' ≤ (256 : Nat) ∧ ∀ (n : Nat), rdAll (n + g') q3 [] = rdAll n (List.drop ((5 : Nat) * g') q3) (chks q3 g')) ∧ List.length q3 - (5 : Nat) * g' < List.length q3 - (5 : Nat) * g ∧ nilB = [] ∧ (0 : Int) = (0 : Int) ∧ List.drop (4 : Nat) q12 = List.drop ((5 : Nat) * g') q3 ∧ bytesOf q2 = bytesOf q2 ∧ number q10 = number q10 ∧ chks q3 g ++ [number q7] = chks q3 g' ∧ True)))))))))))))) := by
  kernel_rfl
end Go.Sx
