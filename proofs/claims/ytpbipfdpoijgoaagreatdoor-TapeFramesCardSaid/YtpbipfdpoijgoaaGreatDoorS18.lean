/- A verified symbolic run of functions, part 18: lemmas, no claim of their own. -/
import Derived.Test.YtpbipfdpoijgoaaGreatDoorS17
/- Contracts. -/
namespace Go.Sx
open U
theorem hasTo_mono {ts : List Tk} {nm : List UInt8} {f : Int} {j : Nat} (h : hasTo ts nm f j = true) : ∀ k, hasTo ts nm f (j + k) = true
  | 0 => h
  | k + 1 => by
    have := hasTo_mono h k
    show (hasTo ts nm f (j + k) || _) = true
    rw [this]; rfl
theorem hasTo_iff (ts : List Tk) (nm : List UInt8) (f : Int) : ∀ j, j ≤ ts.length → (hasTo ts nm f j = true ↔ ∃ i, i < j ∧ (ts.getD i tk0).1 = nm ∧ (ts.getD i tk0).2.1 = f)
  | 0, _ => by simp [hasTo]
  | j + 1, hj => by
    have ih := hasTo_iff ts nm f j (by omega)
    simp only [hasTo, Bool.or_eq_true, Bool.and_eq_true, beq_iff_eq, ih]
    constructor
    · rintro (⟨i, h1, h2⟩ | h)
      · exact ⟨i, by omega, h2⟩
      · exact ⟨j, by omega, h⟩
    · rintro ⟨i, h1, h2⟩
      by_cases e : i = j
      · subst e; exact .inr h2
      · exact .inl ⟨i, by omega, h2⟩
theorem hasT_iff (ts : List Tk) (nm : List UInt8) (f : Int) : hasT ts nm f = true ↔ ∃ x ∈ ts, x.1 = nm ∧ x.2.1 = f := by
  unfold hasT
  rw [hasTo_iff ts nm f _ (Nat.le_refl _)]
  constructor
  · rintro ⟨i, h1, h2⟩
    exact ⟨_, getD_mem h1, h2⟩
  · rintro ⟨x, hx, h2⟩
    obtain ⟨i, hi, rfl⟩ := mem_getD tk0 hx
    exact ⟨i, hi, h2⟩
theorem takesN_len (p : List Pl) (fr : Int) : (takesN p fr).length ≤ 2 := by
  unfold takesN takesE
  split <;> simp
theorem trTo_len (p : List Pl) (nm : List UInt8) (f : Int) : ∀ n, (trTo p nm f n).length ≤ n
  | 0 => Nat.le_refl _
  | n + 1 => by
    have ih := trTo_len p nm f n
    simp only [trTo]
    cases hasT (takesN p n) nm f
    · simp only [cond_false, List.append_nil]; omega
    · simp only [cond_true, List.length_append, List.length_cons, List.length_nil]; omega
theorem trTo_hit {p : List Pl} {nm : List UInt8} {f : Int} {n : Nat} (h : hasT (takesN p n) nm f = true) : trTo p nm f n ++ [(n : Int)] = trTo p nm f (n + 1) := by
  show _ = trTo p nm f n ++ _
  rw [h]; rfl
theorem trTo_miss {p : List Pl} {nm : List UInt8} {f : Int} {n : Nat} (h : hasT (takesN p n) nm f = false) : trTo p nm f n = trTo p nm f (n + 1) := by
  show _ = trTo p nm f n ++ _
  rw [h]; simp
theorem trTo_pos (p : List Pl) (nm : List UInt8) (f : Int) : ∀ n, 0 < (trTo p nm f n).length ↔ ∃ u, u < n ∧ ∃ x ∈ takesN p (u : Int), x.1 = nm ∧ x.2.1 = f
  | 0 => by simp [trTo]
  | n + 1 => by
    have ih := trTo_pos p nm f n
    cases h : hasT (takesN p n) nm f with
    | true =>
      rw [← trTo_hit h]
      simp only [List.length_append, List.length_cons, List.length_nil]
      exact ⟨fun _ => ⟨n, by omega, (hasT_iff _ _ _).1 h⟩, fun _ => by omega⟩
    | false =>
      rw [← trTo_miss h, ih]
      constructor
      · rintro ⟨u, h1, h2⟩; exact ⟨u, by omega, h2⟩
      · rintro ⟨u, h1, h2⟩
        by_cases e : u = n
        · subst e
          rw [(hasT_iff _ _ _).2 h2] at h; cases h
        · exact ⟨u, by omega, h2⟩
theorem fn147 (x t : Tk)  : Fn P1 gl1 147 [tkV x, .one (.ref tkT t)] (.val (bV (x.1 == t.1 && x.2.1 == t.2.1))) true := by
  refine Fn.flat ?_ rfl
  refine fn_of false [] [] h0 0 Proofs.Tryz.f147 trivial trivial (by kernel_rfl) rfl (by kernel_rfl) rfl rfl rfl ?_
  rw [vc147]
  try simp only [splitB_iff, -eq_self]
  refine ⟨?_, trivial⟩
  simp [eqT]
theorem so147_ : SpecOk P1 gl1 147 sp147 := by
  intro vs ps r h _
  simp only [sp147] at h
  split at h
  · cases h; exact fn147 (_, _, _, _) _ 
  · cases h
theorem so147 : Sp1 147 sp147 := ⟨so147_, Proofs.Tryz.f147, _, by kernel_rfl, rfl, by kernel_rfl⟩
theorem fn68 (R : List Rl) (L : List Ed) (t : Tk) (hl : R.length ≤ 1000000000) (hR : ∀ r ∈ R, r.2.2.length ≤ 1000000) (hL : L.length ≤ 1000000000) : Fn P1 gl1 68 [.one (.sl rlT R), .one (.sl edT L), tkV t] (.tup [.one (.frs (.int .i64) (trcN R L t.1 t.2.1)), iV (trcE R L t.1 t.2.1)]) true := by
  refine Fn.flat ?_ rfl
  refine fn_of false [(43, sp43), (120, sp120), (107, sp107), (106, sp106), (112, sp112), (155, sp155n), (147, sp147)] [fb123, fb174, fb146, fb193] h68 5 Proofs.Tryz.f68 ⟨so43, so120, so107, so106, so112, so155n, so147, trivial⟩ ⟨⟨by kernel_rfl, by kernel_rfl, _, rfl, by kernel_rfl⟩, ⟨by kernel_rfl, by kernel_rfl, _, rfl, by kernel_rfl⟩, ⟨by kernel_rfl, by kernel_rfl, _, rfl, by kernel_rfl⟩, ⟨by kernel_rfl, by kernel_rfl, _, rfl, by kernel_rfl⟩, trivial⟩ (by kernel_rfl) rfl (by kernel_rfl) rfl rfl rfl ?_
  rw [vc68]
  try simp only [splitB_iff, -eq_self]
  obtain ⟨nm, f, c, d⟩ := t
  simp only [eq_self, true_and, and_true, and_self]
  refine ⟨hl, hR, hL, fun h => ?_, fun h => ?_⟩
  · have h' : chkEds R L ≠ 0 := by simpa using h
    have e : trcE R L nm f = chkEds R L := by unfold trcE; rw [if_pos h']
    exact ⟨by unfold trcN; rw [e, if_neg h'], e.symm⟩
  · have h' : chkEds R L = 0 := by simpa using h
    have hk := chkEds_zero.1 h'
    have hn := lenL_nn hk
    have hbig := hk.big
    have hN : begN L L.length = lenL L := rfl
    have hP : plTo L L.length = ls L := rfl
    have e : trcE R L nm f = frE R nm f := by unfold trcE; rw [if_neg (by simpa using h')]
    have hr := reel_bd hk.rs nm
    have hms := mapR_some (rs_nodup hk.rs) nm
    have hne : first [whenE (!Option.isSome (U.mapGet .str (.pair .str (.pair (.int .i64) (.sl (.int .i64)))) (mapR R R.length) nm)) 10, whenE (bif decide (f < (Option.getD (U.mapGet .str (.pair .str (.pair (.int .i64) (.sl (.int .i64)))) (mapR R R.length) nm) r0).2.1) then true else decide ((Option.getD (U.mapGet .str (.pair .str (.pair (.int .i64) (.sl (.int .i64)))) (mapR R R.length) nm) r0).2.1 + ((Option.getD (U.mapGet .str (.pair .str (.pair (.int .i64) (.sl (.int .i64)))) (mapR R R.length) nm) r0).2.2.length : Int) ≤ f)) 14] = frE R nm f := by
      unfold frE
      rw [hms]
      by_cases hi : idxN nm R < R.length
      · rw [if_pos hi, if_pos hi]
        simp only [Option.isSome_some, Option.getD_some, Bool.not_true, bcond_l]
        generalize (decide (f < (rlOf R nm).2.1) || decide ((rlOf R nm).2.1 + ((rlOf R nm).2.2.length : Int) ≤ f)) = b
        cases b <;> rfl
      · rw [if_neg hi, if_neg hi]
        rfl
    have hfit : fits .i64 ((Option.getD (U.mapGet .str (.pair .str (.pair (.int .i64) (.sl (.int .i64)))) (mapR R R.length) nm) r0).2.1 + ((Option.getD (U.mapGet .str (.pair .str (.pair (.int .i64) (.sl (.int .i64)))) (mapR R R.length) nm) r0).2.2.length : Int)) := by
      rw [hms]
      by_cases hi : idxN nm R < R.length
      · rw [if_pos hi]
        show fits .i64 ((rlOf R nm).2.1 + ((rlOf R nm).2.2.length : Int))
        have h1 := hr.2.2.1
        unfold endR at h1
        simp only [fits]; omega
      · rw [if_neg hi]
        show fits .i64 ((0 : Int) + ((([] : List Int).length : Nat) : Int))
        simp only [fits, List.length_nil]; omega
    refine ⟨hl, hk.eds, fun _ => hfit, by decide, fun hb => ?_, fun hb => ?_⟩
    · rw [hne] at hb ⊢
      have hb' : frE R nm f ≠ 0 := by simpa using hb
      exact ⟨by unfold trcN; rw [e, if_neg hb'], e.symm⟩
    · rw [hne] at hb
      have hb' : frE R nm f = 0 := by simpa using hb
      simp only [hN, hP]
      refine ⟨⟨0, Nat.zero_le _, rfl, rfl⟩, fun g hg => ⟨fun hlt => ?_, fun hge => ?_⟩⟩
      · have hlt' : (g : Int) < lenL L := of_decide_eq_true hlt
        have hgn : g + 1 ≤ (lenL L).toNat := by omega
        have hl2 := trTo_len (ls L) nm f g
        refine ⟨hk.pls' (by omega) hlt', ⟨by omega, hk.frame hlt'⟩, ⟨0, ⟨Nat.zero_le _, rfl⟩, rfl⟩, fun j hj => ⟨fun hjl => ?_, fun hjg => ?_⟩⟩
        · have hjl' : j < (takesN (ls L) (g : Int)).length := by simpa using hjl
          have h2 := takesN_len (ls L) (g : Int)
          refine ⟨⟨by omega, by omega⟩, hjl', fun hm => ?_, fun hm => ?_⟩
          · have hh : hasTo (takesN (ls L) (g : Int)) nm f (j + 1) = true := by
              show (_ || _) = true
              rw [hm, Bool.or_true]
            have hT : hasT (takesN (ls L) (g : Int)) nm f = true := by
              have := hasTo_mono hh ((takesN (ls L) (g : Int)).length - (j + 1))
              rw [show j + 1 + ((takesN (ls L) (g : Int)).length - (j + 1)) = (takesN (ls L) (g : Int)).length by omega] at this
              exact this
            exact ⟨by simp only [room]; omega, by simp only [fits]; omega, g + 1, hgn, by omega, by omega, trTo_hit hT⟩
          · refine ⟨by simp only [fits]; omega, j + 1, ⟨hjl', ?_⟩, by omega, by omega⟩
            show (_ || _) = false
            rw [hj.2, hm]; rfl
        · have hjg' : j = (takesN (ls L) (g : Int)).length := by have : ¬ j < (takesN (ls L) (g : Int)).length := by simpa using hjg
                                                                 omega
          have hT : hasT (takesN (ls L) (g : Int)) nm f = false := by unfold hasT; rw [← hjg']; exact hj.2
          exact ⟨by simp only [fits]; omega, g + 1, hgn, by omega, by omega, trTo_miss hT⟩
      · have hge' : ¬ (g : Int) < lenL L := of_decide_eq_false hge
        have : g = (lenL L).toNat := by have : g ≤ (lenL L).toNat := hg
                                        omega
        subst this
        rw [e, hb']
        exact ⟨by unfold trcN; rw [e, if_pos hb'], rfl⟩
theorem so68_ : SpecOk P1 gl1 68 sp68 := by
  intro vs ps r h hp
  simp only [sp68] at h
  split at h
  · cases h; exact fn68 _ _ (_, _, _, _) (hp _ (.head _)) (hp _ (.tail _ (.head _))) (hp _ (.tail _ (.tail _ (.head _))))
  · cases h
theorem so68 : Sp1 68 sp68 := ⟨so68_, Proofs.Tryz.f68, _, by kernel_rfl, rfl, by kernel_rfl⟩
theorem fi_is {p : Rl → Bool} {R : List Rl} {g : Nat} (hg : g < R.length) (h1 : p (R.getD g r0) = true) (h2 : ∀ j, j < g → p (R.getD j r0) = false) : R.findIdx p = g := by
  rw [getD_of hg] at h1
  have hle : R.findIdx p ≤ g := by
    apply Nat.le_of_not_lt
    intro hlt
    have := List.not_of_lt_findIdx hlt
    rw [h1] at this
    cases this
  rcases Nat.lt_or_ge (R.findIdx p) g with hlt | hge
  · have h3 := h2 _ hlt
    have hw : R.findIdx p < R.length := by omega
    rw [getD_of hw] at h3
    have h4 := List.findIdx_getElem (w := hw)
    rw [h3] at h4; cases h4
  · omega
theorem fn75 (t : Tk) (R : List Rl) (hl : R.length ≤ 1000000) (hR : ∀ r ∈ R, (0 ≤ r.2.1 ∧ r.2.1 ≤ 100000000) ∧ r.2.2.length ≤ 1000000) (hf : -100000000 ≤ t.2.1 ∧ t.2.1 ≤ 100000000) : Fn P1 gl1 75 [tkV t, .one (.ref (.sl rlT) R)] (.tup [iV (ckN R t.1 t.2.1).1, bV (ckN R t.1 t.2.1).2]) true := by
  refine Fn.flat ?_ rfl
  refine fn_of false [] [] h75 0 Proofs.Tryz.f75 trivial trivial (by kernel_rfl) rfl (by kernel_rfl) rfl rfl rfl ?_
  rw [vc75]
  try simp only [splitB_iff, -eq_self]
  obtain ⟨nm, f, c, d⟩ := t
  simp only [eq_self, and_true, and_self]
  dsimp only at hf ⊢
  have hc : ∀ r : Rl, (bif bif r.1 == nm then decide (r.2.1 ≤ f) else false then decide (f < r.2.1 + (r.2.2.length : Int)) else false) = ckH nm f r := fun r => by
    unfold ckH
    rw [bcond_r, bcond_r, Bool.and_assoc, show (r.1 == nm) = decide (r.1 = nm) by rw [Bool.eq_iff_iff]; simp]
  refine ⟨⟨0, ⟨Nat.zero_le _, fun j hj => absurd hj (Nat.not_lt_zero _)⟩, rfl⟩, fun g hg => ⟨fun hlt => ?_, fun hge => ?_⟩⟩
  · have hlt' : g < R.length := by have := of_decide_eq_true hlt; omega
    have h1 := hR _ (getD_mem (d := r0) hlt')
    rw [hc]
    refine ⟨by omega, fun _ => by simp only [fits]; omega, fun hm => ?_, fun hm => ?_⟩
    · have hi := fi_is hlt' hm hg.2
      have hm' := hm
      unfold ckH at hm'
      simp only [Bool.and_eq_true, decide_eq_true_eq] at hm'
      have e : ckN R nm f = ((R.getD g r0).2.2.getD (f - (R.getD g r0).2.1).toNat 0, true) := by
        unfold ckN; rw [hi, if_pos hlt']
      rw [e]
      exact ⟨by simp only [fits]; omega, by omega, rfl, rfl⟩
    · refine ⟨by simp only [fits]; omega, g + 1, ⟨hlt', fun j hj => ?_⟩, by omega, by omega⟩
      by_cases ej : j = g
      · subst ej; exact hm
      · exact hg.2 j (by omega)
  · have hge' : g = R.length := by have := of_decide_eq_false hge; have := hg.1; omega
    have e : ckN R nm f = (0, false) := by
      unfold ckN
      rw [if_neg]
      intro h
      have h2 := List.findIdx_getElem (w := h)
      have h3 := hg.2 (R.findIdx (ckH nm f)) (by omega)
      rw [getD_of h] at h3
      rw [h3] at h2
      cases h2
    rw [e]
    exact ⟨rfl, rfl⟩
theorem so75_ : SpecOk P1 gl1 75 sp75 := by
  intro vs ps r h hp
  simp only [sp75] at h
  split at h
  · cases h; exact fn75 (_, _, _, _) _ (hp _ (.head _)) (hp _ (.tail _ (.head _))) (hp _ (.tail _ (.tail _ (.head _))))
  · cases h
theorem so75 : Sp1 75 sp75 := ⟨so75_, Proofs.Tryz.f75, _, by kernel_rfl, rfl, by kernel_rfl⟩
theorem fn151 (n d : Int) (hn : 0 < n) (hd : 0 < d) (hf : n ≤ 1000000 ∧ d ≤ 1000000) : Fn P1 gl1 151 [iV n, iV d] (.val (iV (Nat.gcd n.toNat d.toNat : Int))) true := by
  refine Fn.flat ?_ rfl
  refine fn_of false [] [] h151 0 Proofs.Tryz.f151 trivial trivial (by kernel_rfl) rfl (by kernel_rfl) rfl rfl rfl ?_
  rw [vc151]
  try simp only [splitB_iff, -eq_self]
  refine ⟨⟨(n.toNat, d.toNat), ⟨by dsimp only; omega, rfl⟩, by dsimp only; omega, by dsimp only; omega, trivial⟩, fun g hg => ⟨fun h => ?_, fun h => ?_⟩⟩
  · have h' : g.2 ≠ 0 := by simpa using h
    refine ⟨⟨by omega, by omega⟩, (g.2, g.1 % g.2), ⟨by dsimp only; omega, ?_⟩, by dsimp only; exact Nat.mod_lt _ (by omega), rfl, by dsimp only; omega, trivial⟩
    dsimp only
    rw [Nat.gcd_comm, ← Nat.gcd_rec, Nat.gcd_comm]
    exact hg.2
  · have h' : g.2 = 0 := by simpa using h
    have hg2 := hg.2
    rw [h', Nat.gcd_zero_right] at hg2
    exact ⟨by rw [hg2], trivial⟩
theorem so151_ : SpecOk P1 gl1 151 sp151 := by
  intro vs ps r h hp
  simp only [sp151] at h
  split at h
  · cases h; exact fn151 _ _ (hp _ (.head _)) (hp _ (.tail _ (.head _))) (hp _ (.tail _ (.tail _ (.head _))))
  · cases h
theorem so151 : Sp1 151 sp151 := ⟨so151_, Proofs.Tryz.f151, _, by kernel_rfl, rfl, by kernel_rfl⟩
theorem fn76 (n d : Int) (hn : 0 < n) (hd : 0 < d) (hf : n ≤ 1000000 ∧ d ≤ 1000000) : Fn P1 gl1 76 [.agg [.one (.int .i64 n), .one (.int .i64 d)]] (.val (iV (whenE ((Nat.gcd n.toNat d.toNat : Int) != 1) 1))) true := by
  refine Fn.flat ?_ rfl
  refine fn_of false [(87, sp87), (61, sp61), (151, sp151), (70, sp70)] [] h0 0 Proofs.Tryz.f76 ⟨so87, so61, so151, so70, trivial⟩ trivial (by kernel_rfl) rfl (by kernel_rfl) rfl rfl rfl ?_
  rw [vc76]
  try simp only [splitB_iff, -eq_self]
  have e : first [within n (-999999999) 999999999, within d 1 999999999] = 0 := by
    rw [within_zero.2 (by omega), within_zero.2 (by omega)]; rfl
  rw [e]
  exact ⟨by decide, fun h => (by cases h), fun _ => ⟨hn, hd, hf, rfl, trivial⟩⟩
theorem so76_ : SpecOk P1 gl1 76 sp76 := by
  intro vs ps r h hp
  simp only [sp76] at h
  split at h
  · cases h; exact fn76 _ _ (hp _ (.head _)) (hp _ (.tail _ (.head _))) (hp _ (.tail _ (.tail _ (.head _))))
  · cases h
theorem so76 : Sp1 76 sp76 := ⟨so76_, Proofs.Tryz.f76, _, by kernel_rfl, rfl, by kernel_rfl⟩
theorem fn77 (a b c d : Int) (ha : 0 ≤ a ∧ a ≤ 1000000) (hb : 0 ≤ b ∧ b ≤ 1000000) (hc : 0 ≤ c ∧ c ≤ 1000000) (hd : 0 ≤ d ∧ d ≤ 1000000) : Fn P1 gl1 77 [.agg [.one (.int .i64 a), .one (.int .i64 b)], .agg [.one (.int .i64 c), .one (.int .i64 d)]] (.val (iV (cmpI (a * d) (c * b)))) true := by
  refine Fn.flat ?_ rfl
  refine fn_of false [(70, sp70)] [] h0 0 Proofs.Tryz.f77 ⟨so70, trivial⟩ trivial (by kernel_rfl) rfl (by kernel_rfl) rfl rfl rfl ?_
  rw [vc77]
  try simp only [splitB_iff, -eq_self]
  have h1 : a * d ≤ 1000000 * 1000000 := Int.mul_le_mul ha.2 hd.2 hd.1 (by decide)
  have h2 : 0 ≤ a * d := Int.mul_nonneg ha.1 hd.1
  have h3 : c * b ≤ 1000000 * 1000000 := Int.mul_le_mul hc.2 hb.2 hb.1 (by decide)
  have h4 : 0 ≤ c * b := Int.mul_nonneg hc.1 hb.1
  generalize a * d = x at *
  generalize c * b = y at *
  have hw : ∀ q : Bool, whenE q 1 = 0 ∨ whenE q 1 = 1 := fun q => by cases q; exact .inl rfl; exact .inr rfl
  refine ⟨by simp only [fits]; omega, by simp only [fits]; omega, ?_, rfl, trivial⟩
  rcases hw (decide (y < x)) with e1 | e1 <;> rcases hw (decide (x < y)) with e2 | e2 <;> rw [e1, e2] <;> simp only [fits] <;> decide
theorem so77_ : SpecOk P1 gl1 77 sp77 := by
  intro vs ps r h hp
  simp only [sp77] at h
  split at h
  · cases h; exact fn77 _ _ _ _ (hp _ (.head _)) (hp _ (.tail _ (.head _))) (hp _ (.tail _ (.tail _ (.head _)))) (hp _ (.tail _ (.tail _ (.tail _ (.head _)))))
  · cases h
theorem so77 : Sp1 77 sp77 := ⟨so77_, Proofs.Tryz.f77, _, by kernel_rfl, rfl, by kernel_rfl⟩
end Go.Sx

/- Plain functions and hints. -/
namespace Go.Sx.U
def ownT (p : List Pl) (t : Int) : Tk := (takesN p t).getD ((takesN p t).length - 1) tk0
def useF (m : Mu) (p : List Pl) (t : Int) : Mu := if (takesN p t).length = 2 then useTk (useTk m (ownT p t)) ((takesN p t).getD 0 tk0) else useTk m (ownT p t)
def frMu (p : List Pl) : Nat → Mu
  | 0 => []
  | t + 1 => useF (frMu p t) p t
def snMu (p : List Pl) (m : Mu) : Nat → Mu
  | 0 => m
  | t + 1 => useTk (snMu p m t) (soundN p t)
def lastP (p : List Pl) (a : Int) : Nat → Int × Int
  | 0 => (0, 1)
  | k + 1 => (ownT p (a + (k : Int))).2.2
def cntTo (N : List Nd) : Nat → Int
  | 0 => 0
  | i + 1 => cntTo N i + ((N.getD i nd0).2.2 - (N.getD i nd0).2.1)
end Go.Sx.U
namespace Go.Sx
open U
def ndBox (s : St) (t : Nat) : Option (Int × Int) := match ptrId s t with
  | some b => match lookO s.ob b with
    | some (.box [.one (.str _), .one (.int .i64 f), .one (.int .i64 g)]) => some (f, g)
    | _ => none
  | none => none
def h10 : Hints := ⟨fun f k s => match f, k with
  | 10, 14 => match listAs s 1 edT, ownM s 17 with
    | some L, some j => some ⟨Nat, fun i => ⟨[tI 139 i, tI 18 (begN L i)] ++ keepT [1, 2, 5, 6, 8, 10, 12, 14, 16, 17, 137, 138] s.tm, (j, some (.map true false muT .bool (frMu (ls L) (begN L i).toNat))) :: lessI s.ob [j], s.nx, s.lr⟩, fun i => i ≤ List.length L, fun i => List.length L - i⟩
    | _, _ => none
  | 10, 20 => match listAs s 1 edT, ownM s 17, ptrId s 21, intOfT s 18, intOfT s 155 with
    | some L, some j, some b, some a, some n => some ⟨Nat, fun k => ⟨[tI 156 k] ++ keepT [1, 2, 5, 6, 8, 10, 12, 14, 16, 17, 18, 19, 20, 21, 137, 138, 139, 155] s.tm, (j, some (.map true false muT .bool (frMu (ls L) (a + (k : Int)).toNat))) :: (b, some (.box [.one (.int .i64 (lastP (ls L) a k).1), .one (.int .i64 (lastP (ls L) a k).2)])) :: lessI s.ob [j, b], s.nx, s.lr⟩, fun k => k ≤ n.toNat, fun k => n.toNat - k⟩
    | _, _, _, _, _ => none
  | 10, 51 => match listAs s 374 rlT with
    | some R => some ⟨Nat, fun i => s.at [1, 2, 6, 8, 12, 14, 16, 17, 374, 375] [tI 376 i], fun i => i ≤ List.length R, fun i => List.length R - i⟩
    | _ => none
  | 10, 54 => match rlAt s 33 with
    | some (_, _, l) => some ⟨Nat, fun k => s.at [1, 2, 6, 8, 12, 14, 16, 17, 33, 374, 375, 376, 382] [tI 383 k], fun k => k ≤ List.length l, fun k => List.length l - k⟩
    | _ => none
  | 10, 61 => match listAs s 413 (.int .i64) with
    | some l => some ⟨Nat, fun i => s.at [1, 2, 6, 8, 12, 14, 16, 17, 33, 35, 374, 375, 376, 382, 383, 413, 414] [tI 415 i], fun i => i ≤ List.length l, fun i => List.length l - i⟩
    | _ => none
  | 10, 69 => match listAs s 1 edT, listAs s 459 tkT, ownM s 17 with
    | some L, some l, some j => match muOf s.ob j with
      | some m => some ⟨Nat, fun i => ⟨[tI 461 i] ++ keepT [1, 2, 14, 16, 17, 459, 460] s.tm, (j, some (.map true false muT .bool (snMu (ls L) m i))) :: lessI s.ob [j], s.nx, s.lr⟩, fun i => i ≤ List.length l, fun i => List.length l - i⟩
      | _ => none
    | _, _, _ => none
  | 10, 78 => match listAs s 486 ndT with
    | some N => some ⟨Nat, fun i => s.at [17, 486, 487] [tI 488 i, tI 44 (cntTo N i)], fun i => i ≤ List.length N, fun i => List.length N - i⟩
    | _ => none
  | 10, 83 => match ndBox s 46, intOfT s 44 with
    | some (a, b), some c => some ⟨Nat, fun k => s.at [17, 46, 486, 487, 488] [tI 47 (a + (k : Int)), tI 44 (c + (k : Int))], fun k => k ≤ (b - a).toNat, fun k => (b - a).toNat - k⟩
    | _, _ => none
  | _, _ => none, 0⟩
end Go.Sx

/- What the engine asks, written out (printed by a program). -/
namespace Go.Sx
open U
theorem vc10 (R : List Rl) (L : List Ed) : exF (env false [(17, sp17), (38, sp38), (18, sp18), (25, sp25), (34, sp34.frz), (33, sp33.frz), (35, sp35.frz), (37, sp37.frz), (36, sp36.frz), (69, sp69.frz), (75, sp75), (76, sp76), (77, sp77), (68, sp68.frz)] []) h10 0 10 Proofs.Tryz.f10 [.one (.sl rlT R), .one (.sl edT L)] (.val (bV true)) = (let q40 := (Ty.int IntKind.i64); let q12 := (Ty.pair Ty.str (Ty.pair q40 (Ty.pair q40 q40))); let q14 := (1000000 : Nat); let q15 := (↑(List.length L) : Int); let q50 := (List.length (needN R L)); let q16 := (↑q50 : Int); let q17 := (↑(List.length R) : Int); let q18 := (false = true ∧ True); let q20 := (List.length (soundsN R L)); let q23 := (1000000000 : Nat); let q33 := (↑(List.length (playN R L)) : Int); let q41 := (↑(List.length (confN R L)) : Int); let q42 := (1000000 : Int); let q47 := (100000000 : Int); List.length R ≤ (9223372036854775807 : Nat) ∧ List.length L ≤ (9223372036854775807 : Nat) ∧ ((!shortB R L) = false → List.length R ≤ q23) ∧ ((!shortB R L) = false → ∀ (r : Rl), r ∈ R → List.length r.2.2 ≤ q14 ∧ List.length r.1 ≤ q23) ∧ ((!shortB R L) = false → List.length L ≤ q23) ∧ ((!shortB R L) = false → ∀ (x : Ed), x ∈ L → fits IntKind.i64 x.2.2.1) ∧ splitB (bif !shortB R L then true else chkEds R L != (0 : Int)) (true = true ∧ True) (List.length R ≤ q14 ∧ (∀ (r : Rl), r ∈ R → List.length r.2.2 ≤ q14) ∧ List.length L ≤ q14 ∧ List.length R ≤ q23 ∧ (∀ (r : Rl), r ∈ R → List.length r.2.2 ≤ q14) ∧ List.length L ≤ q23 ∧ List.length R ≤ q14 ∧ (∀ (r : Rl), r ∈ R → List.length r.2.2 ≤ q14) ∧ List.length L ≤ q14 ∧ List.length R ≤ q23 ∧ (∀ (r : Rl), r ∈ R → List.length r.2.2 ≤ q14) ∧ List.length L ≤ q23 ∧ List.length R ≤ q14 ∧ (∀ (r : Rl), r ∈ R → List.length r.2.2 ≤ q14) ∧ List.length L ≤ q14 ∧ List.length R ≤ q23 ∧ (∀ (r : Rl), r ∈ R → List.length r.2.2 ≤ q14) ∧ List.length L ≤ q23 ∧ List.length R ≤ q14 ∧ (∀ (r : Rl), r ∈ R → List.length r.2.2 ≤ q14) ∧ List.length L ≤ q14 ∧ List.length R ≤ q23 ∧ (∀ (r : Rl), r ∈ R → List.length r.2.2 ≤ q14) ∧ List.length L ≤ q23 ∧ List.length R ≤ q14 ∧ (∀ (r : Rl), r ∈ R → List.length r.2.2 ≤ q14) ∧ List.length L ≤ q14 ∧ List.length R ≤ q23 ∧ (∀ (r : Rl), r ∈ R → List.length r.2.2 ≤ q14) ∧ List.length L ≤ q23 ∧ fits IntKind.i64 (chkEds R L + chkEds R L) ∧ fits IntKind.i64 (chkEds R L + chkEds R L + chkEds R L) ∧ fits IntKind.i64 (chkEds R L + chkEds R L + chkEds R L + chkEds R L) ∧ fits IntKind.i64 (chkEds R L + chkEds R L + chkEds R L + chkEds R L + chkEds R L) ∧ splitB (bif bif bif bif chkEds R L + chkEds R L + chkEds R L + chkEds R L + chkEds R L != (0 : Int) then true else (↑(List.length (startsN R L)) : Int) != q15 then true else q41 != lenN R L then true else q33 != lenN R L then true else (↑q20 : Int) != lenN R L) q18 ((∃ (g : Nat), Nat.le g (List.length L) ∧ (0 : Int) = (↑g : Int) ∧ (0 : Int) = begN L g ∧ q15 = q15 ∧ L = L ∧ needN R L = needN R L ∧ soundsN R L = soundsN R L ∧ playN R L = playN R L ∧ confN R L = confN R L ∧ lenN R L = lenN R L ∧ startsN R L = startsN R L ∧ L = L ∧ [] = frMu (ls L) (Int.toNat (begN L g)) ∧ R = R ∧ True) ∧ ∀ (g : Nat), let q5 := (List.getD L g e0); let q34 := ((↑g : Int) - (1 : Int)); let q8 := (List.getD L (Int.toNat (max (0 : Int) q34)) e0); let q11 := (Int.toNat (begN L g)); let q25 := (frMu (ls L) q11); let q27 := (q5.2.2.1 - q5.2.1); Nat.le g (List.length L) → splitB (decide ((↑g : Int) < q15)) (((0 : Int) ≤ (↑g : Int) ∧ (↑g : Int) < q15) ∧ ((0 : Int) ≤ (↑g : Int) ∧ (↑g : Int) < (↑(List.length (startsN R L)) : Int)) ∧ splitB (List.getD (startsN R L) g (0 : Int) != begN L g) q18 (fits IntKind.i64 q27 ∧ (∃ (g_1 : Nat), Nat.le g_1 (Int.toNat q27) ∧ (0 : Int) = (↑g_1 : Int) ∧ q5.2.2.1 - q5.2.1 = q5.2.2.1 - q5.2.1 ∧ (↑g : Int) = (↑g : Int) ∧ (↑g : Int) = (↑g : Int) ∧ begN L g = begN L g ∧ q15 = q15 ∧ L = L ∧ needN R L = needN R L ∧ soundsN R L = soundsN R L ∧ playN R L = playN R L ∧ confN R L = confN R L ∧ lenN R L = lenN R L ∧ startsN R L = startsN R L ∧ L = L ∧ frMu (ls L) q11 = frMu (ls L) (Int.toNat (begN L g + (↑g_1 : Int))) ∧ (0 : Int) = (lastP (ls L) (begN L g) g_1).1 ∧ (1 : Int) = (lastP (ls L) (begN L g) g_1).2 ∧ q5.1 = q5.1 ∧ q5.2.1 = q5.2.1 ∧ q5.2.2.1 = q5.2.2.1 ∧ q5.2.2.2.1 = q5.2.2.2.1 ∧ q5.2.2.2.2 = q5.2.2.2.2 ∧ R = R ∧ True) ∧ ∀ (g_1 : Nat), let q38 := (begN L g + (↑g_1 : Int)); let q13 := (Int.toNat q38); let q0 := (List.getD (confN R L) q13 []); let q24 := (↑(List.length q0) : Int); let q1 := (List.getD q0 (Int.toNat (q24 - (1 : Int))) tk0); let q3 := (List.getD q0 (0 : Nat) tk0); let q29 := (ckN R q3.1 q3.2.1); let q46 := ((↑(Nat.gcd (Int.toNat q3.2.2.1) (Int.toNat q3.2.2.2)) : Int) != (1 : Int)); let q4 := (bif bif bif bif !q29.2 then true else q3.1 != q8.1 then true else q3.2.1 != q8.2.2.1 + (↑g_1 : Int) then true else whenE q46 (1 : Int) != (0 : Int) then true else decide (q3.2.2.1 < (1 : Int))); let q45 := ((↑(Nat.gcd (Int.toNat q1.2.2.1) (Int.toNat q1.2.2.2)) : Int) != (1 : Int)); let q10 := (bif bif q1.1 != q5.1 then true else q1.2.1 != q5.2.1 + (↑g_1 : Int) then true else whenE q45 (1 : Int) != (0 : Int)); let q19 := (bif bif !q29.2 then true else q3.1 != q8.1 then true else q3.2.1 != q8.2.2.1 + (↑g_1 : Int)); let q51 := (ckN R q1.1 q1.2.1); let q26 := (List.getD (playN R L) q13 (0 : Int) < min q51.1 q29.1); let q31 := (lastP (ls L) (begN L g) g_1); let q32 := (bif q1.1 != q5.1 then true else q1.2.1 != q5.2.1 + (↑g_1 : Int)); let q35 := (List.getD (playN R L) q13 (0 : Int) < q51.1); let q43 := (bif !q29.2 then true else q3.1 != q8.1); let q48 := ((0 : Int) ≤ begN L g + (↑g_1 : Int) ∧ begN L g + (↑g_1 : Int) < q33); Nat.le g_1 (Int.toNat q27) → splitB (decide ((↑g_1 : Int) < q5.2.2.1 - q5.2.1)) (fits IntKind.i64 q38 ∧ ((0 : Int) ≤ begN L g + (↑g_1 : Int) ∧ begN L g + (↑g_1 : Int) < q41) ∧ splitB (bif bif q24 != (1 : Int) then bif bif q24 != (2 : Int) then true else (↑g : Int) == (0 : Int) then true else decide (q5.2.2.2.1 ≤ (↑g_1 : Int)) else false then true else bif q24 == (1 : Int) then decide ((↑g_1 : Int) < q5.2.2.2.1) else false) q18 (fits IntKind.i64 (q24 - (1 : Int)) ∧ ((0 : Int) ≤ q24 - (1 : Int) ∧ q24 - (1 : Int) < q24) ∧ ((q1.1 != q5.1) = false → fits IntKind.i64 (q5.2.1 + (↑g_1 : Int))) ∧ (q32 = false → (0 : Int) < q1.2.2.1) ∧ (q32 = false → (0 : Int) < q1.2.2.2) ∧ (q32 = false → q1.2.2.1 ≤ q42 ∧ q1.2.2.2 ≤ q42) ∧ (q10 = false → (0 : Int) ≤ q1.2.2.1 ∧ q1.2.2.1 ≤ q42) ∧ (q10 = false → (0 : Int) ≤ q1.2.2.2 ∧ q1.2.2.2 ≤ q42) ∧ (q10 = false → (0 : Int) ≤ q31.1 ∧ q31.1 ≤ q42) ∧ (q10 = false → (0 : Int) ≤ q31.2 ∧ q31.2 ≤ q42) ∧ splitB (bif bif bif q1.1 != q5.1 then true else q1.2.1 != q5.2.1 + (↑g_1 : Int) then true else whenE q45 (1 : Int) != (0 : Int) then true else bif decide (cmpI (q1.2.2.1 * q31.2) (q31.1 * q1.2.2.2) ≤ (0 : Int)) then decide ((↑g_1 : Int) < q5.2.2.2.1) else false) q18 (List.length R ≤ q14 ∧ (∀ (r : Rl), r ∈ R → ((0 : Int) ≤ r.2.1 ∧ r.2.1 ≤ q47) ∧ List.length r.2.2 ≤ q14) ∧ ((-100000000 : Int) ≤ q1.2.1 ∧ q1.2.1 ≤ q47) ∧ splitB (!q51.2) q18 (splitB (q24 == (2 : Int)) (((0 : Int) ≤ (0 : Int) ∧ (0 : Int) < q24) ∧ List.length R ≤ q14 ∧ (∀ (r : Rl), r ∈ R → ((0 : Int) ≤ r.2.1 ∧ r.2.1 ≤ q47) ∧ List.length r.2.2 ≤ q14) ∧ ((-100000000 : Int) ≤ q3.2.1 ∧ q3.2.1 ≤ q47) ∧ ((!q29.2) = false → fits IntKind.i64 q34) ∧ ((!q29.2) = false → (0 : Int) ≤ max (0 : Int) q34 ∧ max (0 : Int) q34 < q15) ∧ (q43 = false → fits IntKind.i64 q34) ∧ (q43 = false → (0 : Int) ≤ max (0 : Int) q34 ∧ max (0 : Int) q34 < q15) ∧ (q43 = false → fits IntKind.i64 (q8.2.2.1 + (↑g_1 : Int))) ∧ (q19 = false → (0 : Int) < q3.2.2.1) ∧ (q19 = false → (0 : Int) < q3.2.2.2) ∧ (q19 = false → q3.2.2.1 ≤ q42 ∧ q3.2.2.2 ≤ q42) ∧ (q4 = false → fits IntKind.i64 (q3.2.2.1 * q1.2.2.2)) ∧ (q4 = false → fits IntKind.i64 (q1.2.2.1 * q3.2.2.2)) ∧ (q4 = false → fits IntKind.i64 (q3.2.2.1 * q1.2.2.2 + q1.2.2.1 * q3.2.2.2)) ∧ (q4 = false → fits IntKind.i64 (q1.2.2.2 * q3.2.2.2)) ∧ splitB (bif bif bif bif bif !q29.2 then true else q3.1 != q8.1 then true else q3.2.1 != q8.2.2.1 + (↑g_1 : Int) then true else whenE q46 (1 : Int) != (0 : Int) then true else decide (q3.2.2.1 < (1 : Int)) then true else q3.2.2.1 * q1.2.2.2 + q1.2.2.1 * q3.2.2.2 != q1.2.2.2 * q3.2.2.2) q18 (fits IntKind.i64 q38 ∧ q48 ∧ (decide q26 = false → fits IntKind.i64 q38) ∧ (decide q26 = false → (0 : Int) ≤ begN L g + (↑g_1 : Int) ∧ begN L g + (↑g_1 : Int) < q33) ∧ splitB (bif decide q26 then true else decide (max q51.1 q29.1 < List.getD (playN R L) q13 (0 : Int))) q18 (fits IntKind.i64 ((↑g_1 : Int) + (1 : Int)) ∧ ∃ (g' : Nat), Nat.le g' (Int.toNat q27) ∧ Int.toNat q27 - g' < Int.toNat q27 - g_1 ∧ (↑g_1 : Int) + (1 : Int) = (↑g' : Int) ∧ q5.2.2.1 - q5.2.1 = q5.2.2.1 - q5.2.1 ∧ (↑g : Int) = (↑g : Int) ∧ (↑g : Int) = (↑g : Int) ∧ begN L g = begN L g ∧ q15 = q15 ∧ L = L ∧ needN R L = needN R L ∧ soundsN R L = soundsN R L ∧ playN R L = playN R L ∧ confN R L = confN R L ∧ lenN R L = lenN R L ∧ startsN R L = startsN R L ∧ L = L ∧ mapPut q12 Ty.bool (mapPut q12 Ty.bool (frMu (ls L) q13) (q1.1, q1.2.1, (0 : Int), (0 : Int)) true) (q3.1, q3.2.1, (0 : Int), (0 : Int)) true = frMu (ls L) (Int.toNat (begN L g + (↑g' : Int))) ∧ q1.2.2.1 = (lastP (ls L) (begN L g) g').1 ∧ q1.2.2.2 = (lastP (ls L) (begN L g) g').2 ∧ q5.1 = q5.1 ∧ q5.2.1 = q5.2.1 ∧ q5.2.2.1 = q5.2.2.1 ∧ q5.2.2.2.1 = q5.2.2.2.1 ∧ q5.2.2.2.2 = q5.2.2.2.2 ∧ R = R ∧ True))) (splitB (!eqT (Ty.pair q40 q40) (q1.2.2.1, q1.2.2.2) ((1 : Int), (1 : Int))) q18 (fits IntKind.i64 q38 ∧ q48 ∧ (decide q35 = false → fits IntKind.i64 q38) ∧ (decide q35 = false → (0 : Int) ≤ begN L g + (↑g_1 : Int) ∧ begN L g + (↑g_1 : Int) < q33) ∧ splitB (bif decide q35 then true else decide (q51.1 < List.getD (playN R L) q13 (0 : Int))) q18 (fits IntKind.i64 ((↑g_1 : Int) + (1 : Int)) ∧ ∃ (g' : Nat), Nat.le g' (Int.toNat q27) ∧ Int.toNat q27 - g' < Int.toNat q27 - g_1 ∧ (↑g_1 : Int) + (1 : Int) = (↑g' : Int) ∧ q5.2.2.1 - q5.2.1 = q5.2.2.1 - q5.2.1 ∧ (↑g : Int) = (↑g : Int) ∧ (↑g : Int) = (↑g : Int) ∧ begN L g = begN L g ∧ q15 = q15 ∧ L = L ∧ needN R L = needN R L ∧ soundsN R L = soundsN R L ∧ playN R L = playN R L ∧ confN R L = confN R L ∧ lenN R L = lenN R L ∧ startsN R L = startsN R L ∧ L = L ∧ mapPut q12 Ty.bool (frMu (ls L) q13) (q1.1, q1.2.1, (0 : Int), (0 : Int)) true = frMu (ls L) (Int.toNat (begN L g + (↑g' : Int))) ∧ q1.2.2.1 = (lastP (ls L) (begN L g) g').1 ∧ q1.2.2.2 = (lastP (ls L) (begN L g) g').2 ∧ q5.1 = q5.1 ∧ q5.2.1 = q5.2.1 ∧ q5.2.2.1 = q5.2.2.1 ∧ q5.2.2.2.1 = q5.2.2.2.1 ∧ q5.2.2.2.2 = q5.2.2.2.2 ∧ R = R ∧ True))))))) (fits IntKind.i64 q27 ∧ fits IntKind.i64 (begN L g + q27) ∧ fits IntKind.i64 ((↑g : Int) + (1 : Int)) ∧ ∃ (g' : Nat), Nat.le g' (List.length L) ∧ List.length L - g' < List.length L - g ∧ (↑g : Int) + (1 : Int) = (↑g' : Int) ∧ begN L g + q27 = begN L g' ∧ q15 = q15 ∧ L = L ∧ needN R L = needN R L ∧ soundsN R L = soundsN R L ∧ playN R L = playN R L ∧ confN R L = confN R L ∧ lenN R L = lenN R L ∧ startsN R L = startsN R L ∧ L = L ∧ frMu (ls L) q13 = frMu (ls L) (Int.toNat (begN L g')) ∧ R = R ∧ True))) (splitB (begN L g != lenN R L) q18 ((∃ (g_1 : Nat), Nat.le g_1 (List.length R) ∧ (0 : Int) = (↑g_1 : Int) ∧ q17 = q17 ∧ R = R ∧ needN R L = needN R L ∧ soundsN R L = soundsN R L ∧ confN R L = confN R L ∧ lenN R L = lenN R L ∧ L = L ∧ frMu (ls L) q11 = frMu (ls L) q11 ∧ R = R ∧ True) ∧ ∀ (g_1 : Nat), let q7 := (List.getD R g_1 r0); let q52 := (List.length q7.2.2); let q22 := (↑q52 : Int); Nat.le g_1 (List.length R) → splitB (decide ((↑g_1 : Int) < q17)) (((0 : Int) ≤ (↑g_1 : Int) ∧ (↑g_1 : Int) < q17) ∧ (∃ (g_2 : Nat), Nat.le g_2 q52 ∧ (0 : Int) = (↑g_2 : Int) ∧ q22 = q22 ∧ (↑g_1 : Int) = (↑g_1 : Int) ∧ q17 = q17 ∧ R = R ∧ needN R L = needN R L ∧ soundsN R L = soundsN R L ∧ confN R L = confN R L ∧ lenN R L = lenN R L ∧ L = L ∧ q7.1 = q7.1 ∧ q7.2.1 = q7.2.1 ∧ q7.2.2 = q7.2.2 ∧ frMu (ls L) q11 = frMu (ls L) q11 ∧ R = R ∧ True) ∧ ∀ (g_2 : Nat), let q36 := (q7.2.1 + (↑g_2 : Int)); let q2 := (trcN R L q7.1 q36); let q30 := (↑(List.length q2) : Int); Nat.le g_2 q52 → splitB (decide ((↑g_2 : Int) < q22)) (fits IntKind.i64 q36 ∧ List.length R ≤ q14 ∧ (∀ (r : Rl), r ∈ R → List.length r.2.2 ≤ q14) ∧ List.length L ≤ q14 ∧ List.length R ≤ q23 ∧ (∀ (r : Rl), r ∈ R → List.length r.2.2 ≤ q14) ∧ List.length L ≤ q23 ∧ splitB (bif trcE R L q7.1 q36 != (0 : Int) then true else decide ((0 : Int) < q30) != Option.getD (mapGet q12 Ty.bool q25 (q7.1, q7.2.1 + (↑g_2 : Int), (0 : Int), (0 : Int))) false) q18 ((∃ (g_3 : Nat), Nat.le g_3 (List.length q2) ∧ (0 : Int) = (↑g_3 : Int) ∧ q30 = q30 ∧ trcN R L q7.1 q36 = trcN R L q7.1 q36 ∧ (↑g_2 : Int) = (↑g_2 : Int) ∧ q22 = q22 ∧ (↑g_1 : Int) = (↑g_1 : Int) ∧ q17 = q17 ∧ R = R ∧ needN R L = needN R L ∧ soundsN R L = soundsN R L ∧ confN R L = confN R L ∧ lenN R L = lenN R L ∧ L = L ∧ q7.1 = q7.1 ∧ q7.2.1 + (↑g_2 : Int) = q7.2.1 + (↑g_2 : Int) ∧ (0 : Int) = (0 : Int) ∧ (0 : Int) = (0 : Int) ∧ q7.1 = q7.1 ∧ q7.2.1 = q7.2.1 ∧ q7.2.2 = q7.2.2 ∧ frMu (ls L) q11 = frMu (ls L) q11 ∧ R = R ∧ True) ∧ ∀ (g_3 : Nat), let q9 := (List.getD (confN R L) (Int.toNat (List.getD q2 g_3 (0 : Int))) []); let q44 := (List.getD q9 (0 : Nat) tk0); let q28 := ((q44.1 != q7.1) = true → (0 : Int) ≤ List.getD q2 g_3 (0 : Int) ∧ List.getD q2 g_3 (0 : Int) < q41); let q37 := (bif decide (List.getD q2 g_3 (0 : Int) < (0 : Int)) then true else decide (lenN R L ≤ List.getD q2 g_3 (0 : Int))); let q39 := (↑(List.length q9) : Int); Nat.le g_3 (List.length q2) → splitB (decide ((↑g_3 : Int) < q30)) (((0 : Int) ≤ (↑g_3 : Int) ∧ (↑g_3 : Int) < q30) ∧ (q37 = false → (0 : Int) ≤ List.getD q2 g_3 (0 : Int) ∧ List.getD q2 g_3 (0 : Int) < q41) ∧ (q37 = false → (0 : Int) ≤ (0 : Int) ∧ (0 : Int) < q39) ∧ q28 ∧ q28 ∧ ((q44.1 != q7.1) = true → fits IntKind.i64 (q39 - (1 : Int))) ∧ ((q44.1 != q7.1) = true → (0 : Int) ≤ q39 - (1 : Int) ∧ q39 - (1 : Int) < q39) ∧ splitB (bif bif decide (List.getD q2 g_3 (0 : Int) < (0 : Int)) then true else decide (lenN R L ≤ List.getD q2 g_3 (0 : Int)) then true else bif q44.1 != q7.1 then (List.getD q9 (Int.toNat (q39 - (1 : Int))) tk0).1 != q7.1 else false) q18 (fits IntKind.i64 ((↑g_3 : Int) + (1 : Int)) ∧ ∃ (g' : Nat), Nat.le g' (List.length q2) ∧ List.length q2 - g' < List.length q2 - g_3 ∧ (↑g_3 : Int) + (1 : Int) = (↑g' : Int) ∧ q30 = q30 ∧ trcN R L q7.1 q36 = trcN R L q7.1 q36 ∧ (↑g_2 : Int) = (↑g_2 : Int) ∧ q22 = q22 ∧ (↑g_1 : Int) = (↑g_1 : Int) ∧ q17 = q17 ∧ R = R ∧ needN R L = needN R L ∧ soundsN R L = soundsN R L ∧ confN R L = confN R L ∧ lenN R L = lenN R L ∧ L = L ∧ q7.1 = q7.1 ∧ q7.2.1 + (↑g_2 : Int) = q7.2.1 + (↑g_2 : Int) ∧ (0 : Int) = (0 : Int) ∧ (0 : Int) = (0 : Int) ∧ q7.1 = q7.1 ∧ q7.2.1 = q7.2.1 ∧ q7.2.2 = q7.2.2 ∧ frMu (ls L) q11 = frMu (ls L) q11 ∧ R = R ∧ True)) (fits IntKind.i64 ((↑g_2 : Int) + (1 : Int)) ∧ ∃ (g' : Nat), Nat.le g' q52 ∧ List.length q7.2.2 - g' < List.length q7.2.2 - g_2 ∧ (↑g_2 : Int) + (1 : Int) = (↑g' : Int) ∧ q22 = q22 ∧ (↑g_1 : Int) = (↑g_1 : Int) ∧ q17 = q17 ∧ R = R ∧ needN R L = needN R L ∧ soundsN R L = soundsN R L ∧ confN R L = confN R L ∧ lenN R L = lenN R L ∧ L = L ∧ q7.1 = q7.1 ∧ q7.2.1 = q7.2.1 ∧ q7.2.2 = q7.2.2 ∧ frMu (ls L) q11 = frMu (ls L) q11 ∧ R = R ∧ True))) (fits IntKind.i64 ((↑g_1 : Int) + (1 : Int)) ∧ ∃ (g' : Nat), Nat.le g' (List.length R) ∧ List.length R - g' < List.length R - g_1 ∧ (↑g_1 : Int) + (1 : Int) = (↑g' : Int) ∧ q17 = q17 ∧ R = R ∧ needN R L = needN R L ∧ soundsN R L = soundsN R L ∧ confN R L = confN R L ∧ lenN R L = lenN R L ∧ L = L ∧ frMu (ls L) q11 = frMu (ls L) q11 ∧ R = R ∧ True)) ((∃ (g_2 : Nat), Nat.le g_2 q20 ∧ (0 : Int) = (↑g_2 : Int) ∧ (↑q20 : Int) = (↑q20 : Int) ∧ soundsN R L = soundsN R L ∧ needN R L = needN R L ∧ L = L ∧ frMu (ls L) q11 = snMu (ls L) q25 g_2 ∧ R = R ∧ True) ∧ ∀ (g_2 : Nat), let q21 := (List.getD (soundsN R L) g_2 tk0); Nat.le g_2 q20 → splitB (decide ((↑g_2 : Int) < (↑q20 : Int))) (((0 : Int) ≤ (↑g_2 : Int) ∧ (↑g_2 : Int) < (↑q20 : Int)) ∧ List.length R ≤ q14 ∧ (∀ (r : Rl), r ∈ R → ((0 : Int) ≤ r.2.1 ∧ r.2.1 ≤ q47) ∧ List.length r.2.2 ≤ q14) ∧ ((-100000000 : Int) ≤ q21.2.1 ∧ q21.2.1 ≤ q47) ∧ splitB (bif !(ckN R q21.1 q21.2.1).2 then true else !eqT (Ty.pair q40 q40) (q21.2.2.1, q21.2.2.2) ((1 : Int), (1 : Int))) q18 (fits IntKind.i64 ((↑g_2 : Int) + (1 : Int)) ∧ ∃ (g' : Nat), Nat.le g' q20 ∧ List.length (soundsN R L) - g' < List.length (soundsN R L) - g_2 ∧ (↑g_2 : Int) + (1 : Int) = (↑g' : Int) ∧ (↑q20 : Int) = (↑q20 : Int) ∧ soundsN R L = soundsN R L ∧ needN R L = needN R L ∧ L = L ∧ mapPut q12 Ty.bool (snMu (ls L) q25 g_2) (q21.1, q21.2.1, (0 : Int), (0 : Int)) true = snMu (ls L) q25 g' ∧ R = R ∧ True)) ((∃ (g_3 : Nat), Nat.le g_3 q50 ∧ (0 : Int) = (↑g_3 : Int) ∧ (0 : Int) = cntTo (needN R L) g_3 ∧ q16 = q16 ∧ needN R L = needN R L ∧ snMu (ls L) q25 g_2 = snMu (ls L) q25 g_2 ∧ R = R ∧ True) ∧ ∀ (g_3 : Nat), let q6 := (List.getD (needN R L) g_3 nd0); let q49 := (q6.2.2 - q6.2.1); Nat.le g_3 q50 → splitB (decide ((↑g_3 : Int) < q16)) (((0 : Int) ≤ (↑g_3 : Int) ∧ (↑g_3 : Int) < q16) ∧ ((bif decide (q6.2.1 < (0 : Int)) then true else decide (q6.2.2 ≤ q6.2.1)) = false → fits IntKind.i64 q49) ∧ splitB (bif bif decide (q6.2.1 < (0 : Int)) then true else decide (q6.2.2 ≤ q6.2.1) then true else decide ((256 : Int) < q6.2.2 - q6.2.1)) q18 ((∃ (g_4 : Nat), Nat.le g_4 (Int.toNat q49) ∧ q6.2.1 = q6.2.1 + (↑g_4 : Int) ∧ cntTo (needN R L) g_3 = cntTo (needN R L) g_3 + (↑g_4 : Int) ∧ (↑g_3 : Int) = (↑g_3 : Int) ∧ q16 = q16 ∧ needN R L = needN R L ∧ q6.1 = q6.1 ∧ q6.2.1 = q6.2.1 ∧ q6.2.2 = q6.2.2 ∧ snMu (ls L) q25 g_2 = snMu (ls L) q25 g_2 ∧ R = R ∧ True) ∧ ∀ (g_4 : Nat), Nat.le g_4 (Int.toNat q49) → splitB (decide (q6.2.1 + (↑g_4 : Int) < q6.2.2)) (splitB (!Option.getD (mapGet q12 Ty.bool (snMu (ls L) q25 g_2) (q6.1, q6.2.1 + (↑g_4 : Int), (0 : Int), (0 : Int))) false) q18 (fits IntKind.i64 (cntTo (needN R L) g_3 + (↑g_4 : Int) + (1 : Int)) ∧ fits IntKind.i64 (q6.2.1 + (↑g_4 : Int) + (1 : Int)) ∧ ∃ (g' : Nat), Nat.le g' (Int.toNat q49) ∧ Int.toNat q49 - g' < Int.toNat q49 - g_4 ∧ q6.2.1 + (↑g_4 : Int) + (1 : Int) = q6.2.1 + (↑g' : Int) ∧ cntTo (needN R L) g_3 + (↑g_4 : Int) + (1 : Int) = cntTo (needN R L) g_3 + (↑g' : Int) ∧ (↑g_3 : Int) = (↑g_3 : Int) ∧ q16 = q16 ∧ needN R L = needN R L ∧ q6.1 = q6.1 ∧ q6.2.1 = q6.2.1 ∧ q6.2.2 = q6.2.2 ∧ snMu (ls L) q25 g_2 = snMu (ls L) q25 g_2 ∧ R = R ∧ True)) (fits IntKind.i64 ((↑g_3 : Int) + (1 : Int)) ∧ ∃ (g' : Nat), Nat.le g' q50 ∧ List.length (needN R L) - g' < List.length (needN R L) - g_3 ∧ (↑g_3 : Int) + (1 : Int) = (↑g' : Int) ∧ cntTo (needN R L) g_3 + (↑g_4 : Int) = cntTo (needN R L) g' ∧ q16 = q16 ∧ needN R L = needN R L ∧ snMu (ls L) q25 g_2 = snMu (ls L) q25 g_2 ∧ R = R ∧ True))) ((bif cntTo (needN R L) g_3 == (↑(List.length (snMu (ls L) q25 g_2)) : Int) then true else false) = true ∧ True)))))))) := by
  kernel_rfl
end Go.Sx

/- Plain laws: the frames of a list, their parts and checks. -/
namespace Go.Sx
open U
theorem lastTo_is' {g : Pl → Int} {p : List Pl} {fr : Int} {k : Nat} : ∀ n, k < n → g (p.getD k pl0) ≤ fr → (∀ j, k < j → j < n → fr < g (p.getD j pl0)) → lastTo g p fr n = k
  | 0, h, _, _ => absurd h (Nat.not_lt_zero _)
  | n + 1, h, h1, h2 => by
    simp only [lastTo]
    by_cases e : k = n
    · subst e; rw [if_pos h1]
    · have := h2 n (by omega) (by omega)
      rw [if_neg (by omega)]
      exact lastTo_is' n (by omega) h1 fun j hj hn => h2 j hj (by omega)
theorem frame_at {R : List Rl} {L : List Ed} (hk : ListOk R L) {i k : Nat} (hi : i < L.length) (h : (k : Int) < (L.getD i e0).2.2.1 - (L.getD i e0).2.1) :
    takesN (ls L) (begN L i + (k : Int)) = takesE (L.getD i e0) (L.getD (i - 1) e0) (k : Int) ∧ begN L i + (k : Int) < lenL L ∧ 0 ≤ begN L i := by
  have e1 : begN L (i + 1) = begN L i + ((L.getD i e0).2.2.1 - (L.getD i e0).2.1) := rfl
  have b0 := (begN_bd hk.eds i (by omega)).1
  have b1 := begN_mono hk.eds (show i + 1 ≤ L.length by omega) (Nat.le_refl _)
  have b2 : begN L L.length = lenL L := rfl
  have e : lastTo begP (ls L) (begN L i + (k : Int)) (ls L).length = i := by
    refine lastTo_is' _ (by rw [ls_len]; exact hi) (by rw [ls_get L hi]; show begN L i ≤ _; omega) fun j hj hn => ?_
    rw [ls_len] at hn
    rw [ls_get L hn]
    have := begN_mono hk.eds (show i + 1 ≤ j by omega) (by omega)
    show _ < begN L j
    omega
  refine ⟨?_, by omega, by omega⟩
  unfold takesN
  rw [e, ls_get L hi, ls_get L (show i - 1 < L.length by omega)]
  dsimp only
  rw [show begN L i + (k : Int) - begN L i = (k : Int) by omega]
theorem ck_of {R : List Rl} (hd : NoDup R) {x : Tk} (h : TkOk R x) : ckN R x.1 x.2.1 = ((rlOf R x.1).2.2.getD (x.2.1 - (rlOf R x.1).2.1).toNat 0, true) := by
  have hi : R.findIdx (ckH x.1 x.2.1) = idxN x.1 R := by
    refine fi_is h.idx ?_ fun j hj => ?_
    · have h1 := idxN_name h.idx
      have h2 := h.lo
      have h3 := h.hi
      unfold endR at h3
      show ckH x.1 x.2.1 (rlOf R x.1) = true
      unfold ckH
      simp only [Bool.and_eq_true, decide_eq_true_eq]
      exact ⟨h1, h2, h3⟩
    · unfold ckH
      have : (R.getD j r0).1 ≠ x.1 := fun e => hd j (idxN x.1 R) hj h.idx (e.trans (idxN_name h.idx).symm)
      rw [decide_eq_false this]; rfl
  unfold ckN
  rw [hi, if_pos h.idx]
  rfl
theorem low_fac {n d : Int} (hn : 0 < n) (hd : 0 < d) : ∃ g : Int, 0 < g ∧ n = g * (lowN n d).1 ∧ d = g * (lowN n d).2 ∧ Nat.gcd (lowN n d).1.toNat (lowN n d).2.toNat = 1 ∧ 0 < (lowN n d).1 ∧ 0 < (lowN n d).2 := by
  obtain ⟨N, rfl⟩ : ∃ N : Nat, n = N := ⟨n.toNat, by omega⟩
  obtain ⟨D, rfl⟩ : ∃ D : Nat, d = D := ⟨d.toNat, by omega⟩
  have hN : 0 < N := by omega
  have hD : 0 < D := by omega
  have hg : 0 < Nat.gcd N D := Nat.gcd_pos_of_pos_left _ hN
  have d1 := Nat.gcd_dvd_left N D
  have d2 := Nat.gcd_dvd_right N D
  have e1 : (lowN (N : Int) (D : Int)).1 = ((N / Nat.gcd N D : Nat) : Int) := by
    show (N : Int) / (Nat.gcd (N : Int).toNat (D : Int).toNat : Int) = _
    rw [Int.toNat_natCast, Int.toNat_natCast]; norm_cast
  have e2 : (lowN (N : Int) (D : Int)).2 = ((D / Nat.gcd N D : Nat) : Int) := by
    show (D : Int) / (Nat.gcd (N : Int).toNat (D : Int).toNat : Int) = _
    rw [Int.toNat_natCast, Int.toNat_natCast]; norm_cast
  rw [e1, e2, Int.toNat_natCast, Int.toNat_natCast]
  have m1 := Nat.mul_div_cancel' d1
  have m2 := Nat.mul_div_cancel' d2
  refine ⟨(Nat.gcd N D : Int), by omega, by rw [← Int.natCast_mul, m1], by rw [← Int.natCast_mul, m2], ?_, ?_, ?_⟩
  · rw [Nat.gcd_div d1 d2, Nat.div_self hg]
  · have := Nat.div_pos (Nat.le_of_dvd hN d1) hg; omega
  · have := Nat.div_pos (Nat.le_of_dvd hD d2) hg; omega
theorem low_sum {F k : Int} (h0 : 0 ≤ k) (h1 : k < F) : (lowN (F - k) (F + 1)).1 * (lowN (k + 1) (F + 1)).2 + (lowN (k + 1) (F + 1)).1 * (lowN (F - k) (F + 1)).2 = (lowN (k + 1) (F + 1)).2 * (lowN (F - k) (F + 1)).2 := by
  obtain ⟨g, g0, g1, g2, _, _, _⟩ := low_fac (n := F - k) (d := F + 1) (by omega) (by omega)
  obtain ⟨q, q0, q1, q2, _, _, _⟩ := low_fac (n := k + 1) (d := F + 1) (by omega) (by omega)
  generalize (lowN (F - k) (F + 1)).1 = a1 at *
  generalize (lowN (F - k) (F + 1)).2 = a2 at *
  generalize (lowN (k + 1) (F + 1)).1 = b1 at *
  generalize (lowN (k + 1) (F + 1)).2 = b2 at *
  have hp : 0 < g * q := Int.mul_pos g0 q0
  refine Int.eq_of_mul_eq_mul_left (show g * q ≠ 0 by omega) ?_
  have e1 : g * q * (a1 * b2 + b1 * a2) = (g * a1) * (q * b2) + (q * b1) * (g * a2) := by
    simp only [Int.mul_add, Int.mul_left_comm, Int.mul_comm]
  have e2 : g * q * (b2 * a2) = (q * b2) * (g * a2) := by
    simp only [Int.mul_left_comm, Int.mul_comm]
  rw [e1, e2, ← g1, ← g2, ← q1, ← q2, ← Int.add_mul]
  congr 1
  omega
theorem low_lt {a b d : Int} (ha : 0 < a) (hab : a < b) (hd : 0 < d) : (lowN a d).1 * (lowN b d).2 < (lowN b d).1 * (lowN a d).2 := by
  obtain ⟨g, g0, g1, g2, _, _, _⟩ := low_fac (n := a) (d := d) ha hd
  obtain ⟨q, q0, q1, q2, _, _, _⟩ := low_fac (n := b) (d := d) (by omega) hd
  generalize (lowN a d).1 = a1 at *
  generalize (lowN a d).2 = a2 at *
  generalize (lowN b d).1 = b1 at *
  generalize (lowN b d).2 = b2 at *
  have hp : 0 < g * q := Int.mul_pos g0 q0
  refine Int.lt_of_mul_lt_mul_left (a := g * q) ?_ (by omega)
  have e1 : g * q * (a1 * b2) = (g * a1) * (q * b2) := by simp only [Int.mul_left_comm, Int.mul_comm]
  have e2 : g * q * (b1 * a2) = (q * b1) * (g * a2) := by simp only [Int.mul_left_comm, Int.mul_comm]
  rw [e1, e2, ← g1, ← g2, ← q1, ← q2]
  exact Int.mul_lt_mul_of_pos_right hab hd
theorem mid_bd {N D lo hi : Int} (hD : 0 < D) (h1 : lo * D ≤ N) (h2 : N ≤ hi * D) : lo ≤ (2 * N + D) / (2 * D) ∧ (2 * N + D) / (2 * D) ≤ hi := by
  have e1 : lo * (2 * D) = 2 * (lo * D) := by simp only [Int.mul_left_comm]
  have e2 : (hi + 1) * (2 * D) = 2 * (hi * D) + 2 * D := by rw [Int.add_mul]; simp only [Int.mul_left_comm, Int.one_mul]
  constructor
  · refine Int.le_ediv_of_mul_le (by omega) ?_
    rw [e1]; omega
  · have := Int.ediv_lt_of_lt_mul (a := 2 * N + D) (b := hi + 1) (c := 2 * D) (by omega) (by rw [e2]; omega)
    omega
theorem mix_one {R : List Rl} (hd : NoDup R) (nm : List UInt8) (f : Int) : mixN (mapR R R.length) [(nm, f, 1, 1)] = (rlOf R nm).2.2.getD (f - (rlOf R nm).2.1).toNat 0 := by
  have e : mixN (mapR R R.length) [(nm, f, 1, 1)] = (2 * (0 * 1 + (rlM (mapR R R.length) nm).2.2.getD (f - (rlM (mapR R R.length) nm).2.1).toNat 0 * 1 * 1) + 1 * 1) / (2 * (1 * 1)) := rfl
  rw [e, rlM_eq hd]
  generalize (rlOf R nm).2.2.getD (f - (rlOf R nm).2.1).toNat 0 = c
  omega
theorem mix_two {R : List Rl} (hd : NoDup R) (x y : Tk) (hx : 0 ≤ x.2.2.1) (hxd : 0 < x.2.2.2) (hy : 0 ≤ y.2.2.1) (hyd : 0 < y.2.2.2) (hs : x.2.2.1 * y.2.2.2 + y.2.2.1 * x.2.2.2 = y.2.2.2 * x.2.2.2) (lo hi : Int)
    (h1 : lo ≤ (rlOf R x.1).2.2.getD (x.2.1 - (rlOf R x.1).2.1).toNat 0 ∧ (rlOf R x.1).2.2.getD (x.2.1 - (rlOf R x.1).2.1).toNat 0 ≤ hi) (h2 : lo ≤ (rlOf R y.1).2.2.getD (y.2.1 - (rlOf R y.1).2.1).toNat 0 ∧ (rlOf R y.1).2.2.getD (y.2.1 - (rlOf R y.1).2.1).toNat 0 ≤ hi) :
    lo ≤ mixN (mapR R R.length) [x, y] ∧ mixN (mapR R R.length) [x, y] ≤ hi := by
  have e : mixN (mapR R R.length) [x, y] = (2 * ((0 * x.2.2.2 + (rlM (mapR R R.length) x.1).2.2.getD (x.2.1 - (rlM (mapR R R.length) x.1).2.1).toNat 0 * x.2.2.1 * 1) * y.2.2.2 + (rlM (mapR R R.length) y.1).2.2.getD (y.2.1 - (rlM (mapR R R.length) y.1).2.1).toNat 0 * y.2.2.1 * (1 * x.2.2.2)) + 1 * x.2.2.2 * y.2.2.2) / (2 * (1 * x.2.2.2 * y.2.2.2)) := rfl
  rw [e, rlM_eq hd, rlM_eq hd]
  generalize (rlOf R x.1).2.2.getD (x.2.1 - (rlOf R x.1).2.1).toNat 0 = c at *
  generalize (rlOf R y.1).2.2.getD (y.2.1 - (rlOf R y.1).2.1).toNat 0 = d at *
  generalize x.2.2.1 = a1 at *
  generalize x.2.2.2 = a2 at *
  generalize y.2.2.1 = b1 at *
  generalize y.2.2.2 = b2 at *
  have hA : 0 ≤ a1 * b2 := Int.mul_nonneg hx (by omega)
  have hB : 0 ≤ b1 * a2 := Int.mul_nonneg hy (by omega)
  have hD : 0 < a2 * b2 := Int.mul_pos hxd hyd
  have eD : a2 * b2 = a1 * b2 + b1 * a2 := by rw [hs, Int.mul_comm]
  have eN : (0 * a2 + c * a1 * 1) * b2 + d * b1 * (1 * a2) = c * (a1 * b2) + d * (b1 * a2) := by
    simp only [Int.zero_mul, Int.zero_add, Int.mul_one, Int.one_mul, Int.mul_assoc]
  rw [eN, Int.one_mul]
  have l1 := Int.mul_le_mul_of_nonneg_right h1.1 hA
  have l2 := Int.mul_le_mul_of_nonneg_right h2.1 hB
  have l3 := Int.mul_le_mul_of_nonneg_right h1.2 hA
  have l4 := Int.mul_le_mul_of_nonneg_right h2.2 hB
  refine mid_bd hD ?_ ?_
  · rw [eD, Int.mul_add]; omega
  · rw [eD, Int.mul_add]; omega
theorem own_mem {p : List Pl} {t : Int} (h : 1 ≤ (takesN p t).length) : ownT p t ∈ takesN p t := getD_mem (by omega)
theorem mem_two {ts : List Tk} (h1 : 1 ≤ ts.length) (h2 : ts.length ≤ 2) (x : Tk) : x ∈ ts ↔ x = ts.getD (ts.length - 1) tk0 ∨ (ts.length = 2 ∧ x = ts.getD 0 tk0) := by
  match ts, h1, h2 with
  | [a], _, _ => simp
  | [a, b], _, _ =>
    simp only [List.mem_cons, List.not_mem_nil, or_false, List.length_cons, List.length_nil]
    constructor
    · rintro (h | h)
      · exact .inr ⟨trivial, h⟩
      · exact .inl h
    · rintro (h | ⟨_, h⟩)
      · exact .inr h
      · exact .inl h
theorem used_fr {p : List Pl} (nm : List UInt8) (f : Int) : ∀ n : Nat, (∀ u : Nat, u < n → 1 ≤ (takesN p (u : Int)).length ∧ (takesN p (u : Int)).length ≤ 2) → (usedB (frMu p n) nm f = true ↔ ∃ u, u < n ∧ ∃ x ∈ takesN p (u : Int), x.1 = nm ∧ x.2.1 = f)
  | 0, _ => by simp [frMu, usedB, U.mapGet]
  | n + 1, h => by
    have ih := used_fr nm f n fun u hu => h u (by omega)
    obtain ⟨h1, h2⟩ := h n (by omega)
    have hm := mem_two h1 h2
    have key : usedB (frMu p (n + 1)) nm f = true ↔ (∃ x ∈ takesN p (n : Int), x.1 = nm ∧ x.2.1 = f) ∨ usedB (frMu p n) nm f = true := by
      show usedB (useF (frMu p n) p (n : Int)) nm f = true ↔ _
      unfold useF
      constructor
      · intro hu
        split at hu
        · rename_i h3
          rw [used_put, used_put, Bool.or_eq_true, Bool.or_eq_true, decide_eq_true_eq, decide_eq_true_eq] at hu
          rcases hu with hu | hu | hu
          · exact .inl ⟨_, (hm _).2 (.inr ⟨h3, rfl⟩), hu⟩
          · exact .inl ⟨_, (hm _).2 (.inl rfl), hu⟩
          · exact .inr hu
        · rw [used_put, Bool.or_eq_true, decide_eq_true_eq] at hu
          rcases hu with hu | hu
          · exact .inl ⟨_, (hm _).2 (.inl rfl), hu⟩
          · exact .inr hu
      · intro hu
        split
        · rename_i h3
          rw [used_put, used_put, Bool.or_eq_true, Bool.or_eq_true, decide_eq_true_eq, decide_eq_true_eq]
          rcases hu with ⟨x, hx, hu⟩ | hu
          · rcases (hm x).1 hx with e | ⟨_, e⟩
            · exact .inr (.inl (by rw [← show x = ownT p (n : Int) from e]; exact hu))
            · exact .inl (by rw [← e]; exact hu)
          · exact .inr (.inr hu)
        · rename_i h3
          rw [used_put, Bool.or_eq_true, decide_eq_true_eq]
          rcases hu with ⟨x, hx, hu⟩ | hu
          · rcases (hm x).1 hx with e | ⟨e, _⟩
            · exact .inl (by rw [← show x = ownT p (n : Int) from e]; exact hu)
            · exact absurd e h3
          · exact .inr hu
    rw [key, ih]
    constructor
    · rintro (g | ⟨u, hu, g⟩)
      · exact ⟨n, by omega, g⟩
      · exact ⟨u, by omega, g⟩
    · rintro ⟨u, hu, g⟩
      by_cases e : u = n
      · subst e; exact .inl g
      · exact .inr ⟨u, by omega, g⟩
theorem used_sn {p : List Pl} {m : Mu} (nm : List UInt8) (f : Int) : ∀ n : Nat, (usedB (snMu p m n) nm f = true ↔ usedB m nm f = true ∨ ∃ u : Nat, u < n ∧ (soundN p (u : Int)).1 = nm ∧ (soundN p (u : Int)).2.1 = f)
  | 0 => by simp [snMu]
  | n + 1 => by
    have ih := used_sn (p := p) (m := m) nm f n
    show usedB (useTk (snMu p m n) (soundN p (n : Int))) nm f = true ↔ _
    rw [used_put, Bool.or_eq_true, decide_eq_true_eq, ih]
    constructor
    · rintro (h | h | ⟨u, hu, h⟩)
      · exact .inr ⟨n, by omega, h⟩
      · exact .inl h
      · exact .inr ⟨u, by omega, h⟩
    · rintro (h | ⟨u, hu, h⟩)
      · exact .inr (.inl h)
      · by_cases e : u = n
        · subst e; exact .inl h
        · exact .inr (.inr ⟨u, by omega, h⟩)
theorem used_same {R : List Rl} {L : List Ed} (hk : ListOk R L) (nm : List UInt8) (f : Int) : usedB (snMu (ls L) (frMu (ls L) (lenL L).toNat) (lenL L).toNat) nm f = usedB (usedTo (ls L) (lenL L).toNat) nm f := by
  have hl : ∀ u : Nat, u < (lenL L).toNat → 1 ≤ (takesN (ls L) (u : Int)).length ∧ (takesN (ls L) (u : Int)).length ≤ 2 := fun u hu => (takes_ok hk (by omega) (by omega)).1
  rw [Bool.eq_iff_iff, used_sn, used_fr _ _ _ hl, used_at]
  constructor
  · rintro (⟨u, hu, x, hx, h⟩ | ⟨u, hu, h⟩)
    · exact ⟨u, hu, x, List.mem_append_left _ hx, h⟩
    · exact ⟨u, hu, _, List.mem_append_right _ (List.mem_singleton.2 rfl), h⟩
  · rintro ⟨u, hu, x, hx, h⟩
    rcases List.mem_append.1 hx with hx | hx
    · exact .inl ⟨u, hu, x, hx, h⟩
    · rw [List.mem_singleton] at hx
      subst hx
      exact .inr ⟨u, hu, h⟩
theorem used_ok {R : List Rl} {L : List Ed} (hk : ListOk R L) {nm : List UInt8} {f : Int} (h : usedB (usedTo (ls L) (lenL L).toNat) nm f = true) : idxN nm R < R.length ∧ (rlOf R nm).2.1 ≤ f ∧ f < endR (rlOf R nm) := by
  obtain ⟨u, hu, x, hx, h1, h2⟩ := (used_at _ _ _ _).1 h
  have ok : TkOk R x := by
    rcases List.mem_append.1 hx with hx | hx
    · exact (takes_ok hk (by omega) (by omega)).2 x hx
    · rw [List.mem_singleton] at hx
      subst hx
      exact sound_ok hk (by omega) (by omega)
  rw [← h1, ← h2]
  exact ⟨ok.idx, ok.lo, ok.hi⟩
theorem trTo_mem (p : List Pl) (nm : List UInt8) (f : Int) : ∀ n, ∀ v ∈ trTo p nm f n, 0 ≤ v ∧ v < (n : Int) ∧ hasT (takesN p v) nm f = true
  | 0, v, h => by cases h
  | n + 1, v, h => by
    simp only [trTo, List.mem_append] at h
    rcases h with h | h
    · have := trTo_mem p nm f n v h; exact ⟨this.1, by omega, this.2.2⟩
    · cases hh : hasT (takesN p (n : Int)) nm f with
      | false => rw [hh] at h; cases h
      | true =>
        rw [hh] at h
        simp only [cond_true, List.mem_singleton] at h
        subst h
        exact ⟨by omega, by omega, hh⟩
theorem last_split {o : List (Int × Int)} (h : 0 < o.length) : ∃ q x, o = q ++ [x] ∧ o.getD (o.length - 1) sp0 = x := by
  refine ⟨o.dropLast, o.getLast (List.ne_nil_of_length_pos h), (List.dropLast_concat_getLast _).symm, ?_⟩
  rw [getD_of (by omega), List.getLast_eq_getElem]
theorem addSp_app (q : List (Int × Int)) (x : Int × Int) (n : Int) : addSp (q ++ [x]) n = if x.2 = n then q ++ [(x.1, n + 1)] else q ++ [x] ++ [(n, n + 1)] := by
  have e : (q ++ [x]).getD ((q ++ [x]).length - 1) sp0 = x := by
    rw [List.length_append, List.getD_eq_getElem?_getD, List.getElem?_append_right (by simp)]
    simp
  unfold addSp
  rw [e]
  by_cases h : x.2 = n
  · rw [if_pos ⟨by simp, h⟩, if_pos h, h, List.length_append, List.set_append_right _ _ (by simp)]
    simp
  · rw [if_neg (fun q => h q.2), if_neg h]
def sumI (l : List (Int × Int)) : Int := (l.map fun s => s.2 - s.1).sum
theorem sumI_app (a b : List (Int × Int)) : sumI (a ++ b) = sumI a + sumI b := by simp [sumI]
theorem sp_good (is : Int → Bool) (a : Int) : ∀ i : Nat, (∀ s ∈ spTo is a i, a ≤ s.1 ∧ s.1 < s.2 ∧ s.2 ≤ a + (i : Int) ∧ ∀ v, s.1 ≤ v → v < s.2 → is v = true) ∧ sumI (spTo is a i) = (((List.range i).filter fun j : Nat => is (a + (j : Int))).length : Int)
  | 0 => ⟨fun s h => (by cases h), rfl⟩
  | i + 1 => by
    obtain ⟨h1, h2⟩ := sp_good is a i
    rw [List.range_succ, List.filter_append, List.length_append]
    cases hi : is (a + (i : Int)) with
    | false =>
      have e : spTo is a (i + 1) = spTo is a i := by simp only [spTo]; rw [if_neg (by rw [hi]; decide)]
      rw [e]
      refine ⟨fun s hs => ?_, by simp [hi, h2]⟩
      obtain ⟨g1, g2, g3, g4⟩ := h1 s hs
      exact ⟨g1, g2, by omega, g4⟩
    | true =>
      have e : spTo is a (i + 1) = addSp (spTo is a i) (a + (i : Int)) := by simp only [spTo]; rw [if_pos hi]
      rw [e]
      have hf : (List.filter (fun j : Nat => is (a + (j : Int))) [i]).length = 1 := by simp [hi]
      rw [hf]
      have new : ∀ s : Int × Int, s = (a + (i : Int), a + (i : Int) + 1) → a ≤ s.1 ∧ s.1 < s.2 ∧ s.2 ≤ a + ((i + 1 : Nat) : Int) ∧ ∀ v, s.1 ≤ v → v < s.2 → is v = true := by
        rintro s rfl
        refine ⟨by dsimp only; omega, by dsimp only; omega, by dsimp only; omega, fun v v1 v2 => ?_⟩
        dsimp only at v1 v2
        rw [show v = a + (i : Int) by omega]; exact hi
      have old : ∀ s ∈ spTo is a i, a ≤ s.1 ∧ s.1 < s.2 ∧ s.2 ≤ a + ((i + 1 : Nat) : Int) ∧ ∀ v, s.1 ≤ v → v < s.2 → is v = true := fun s hs => by
        obtain ⟨g1, g2, g3, g4⟩ := h1 s hs
        exact ⟨g1, g2, by omega, g4⟩
      rcases Nat.eq_zero_or_pos (spTo is a i).length with h0 | h0
      · have en : spTo is a i = [] := List.length_eq_zero_iff.1 h0
        rw [en] at h2 ⊢
        have ea : addSp [] (a + (i : Int)) = [(a + (i : Int), a + (i : Int) + 1)] := rfl
        rw [ea]
        refine ⟨fun s hs => new s (List.mem_singleton.1 hs), ?_⟩
        have : sumI [] = 0 := rfl
        rw [this] at h2
        simp only [sumI, List.map_cons, List.map_nil, List.sum_cons, List.sum_nil]
        omega
      · obtain ⟨q, x, eo, _⟩ := last_split h0
        rw [eo] at h2 old ⊢
        rw [addSp_app]
        split
        · rename_i hx
          refine ⟨fun s hs => ?_, ?_⟩
          · rcases List.mem_append.1 hs with hs | hs
            · exact old s (List.mem_append_left _ hs)
            · rw [List.mem_singleton] at hs
              subst hs
              obtain ⟨g1, g2, g3, g4⟩ := old x (List.mem_append_right _ (List.mem_singleton.2 rfl))
              refine ⟨g1, by dsimp only; omega, by dsimp only; omega, fun v v1 v2 => ?_⟩
              dsimp only at v1 v2
              by_cases hv : v < x.2
              · exact g4 v v1 hv
              · rw [show v = a + (i : Int) by omega]; exact hi
          · rw [sumI_app] at h2 ⊢
            simp only [sumI, List.map_cons, List.map_nil, List.sum_cons, List.sum_nil] at h2 ⊢
            omega
        · refine ⟨fun s hs => ?_, ?_⟩
          · rcases List.mem_append.1 hs with hs | hs
            · exact old s hs
            · exact new s (List.mem_singleton.1 hs)
          · rw [sumI_app, h2]
            simp only [sumI, List.map_cons, List.map_nil, List.sum_cons, List.sum_nil]
            omega
theorem need_of {m : Mu} {R : List Rl} : ∀ i, i ≤ R.length → ∀ x ∈ needTo m R i, ∃ r ∈ R, x.1 = r.1 ∧ x.2 ∈ reelSp m r
  | 0, _, x, h => by cases h
  | i + 1, hi, x, h => by
    simp only [needTo, List.mem_append, List.mem_map] at h
    rcases h with h | ⟨s, hs, rfl⟩
    · exact need_of i (by omega) x h
    · exact ⟨_, getD_mem (show i < R.length by omega), rfl, hs⟩
theorem cnt_take (N : List Nd) : ∀ i, i ≤ N.length → cntTo N i = sumI ((N.take i).map fun x => x.2)
  | 0, _ => by simp [cntTo, sumI]
  | i + 1, h => by
    rw [show cntTo N (i + 1) = cntTo N i + ((N.getD i nd0).2.2 - (N.getD i nd0).2.1) from rfl, cnt_take N i (by omega), List.take_succ_eq_append_getElem (show i < N.length by omega), List.map_append, sumI_app, getD_of (show i < N.length by omega)]
    simp [sumI]
def enR (m : Mu) (r : Rl) (k : Nat) : List Tk := ((List.range k).filter fun j : Nat => usedB m r.1 (r.2.1 + (j : Int))).map fun j : Nat => (r.1, r.2.1 + (j : Int), 0, 0)
def enT (m : Mu) (R : List Rl) : Nat → List Tk
  | 0 => []
  | i + 1 => enT m R i ++ enR m (R.getD i r0) (R.getD i r0).2.2.length
theorem need_sum (m : Mu) (R : List Rl) : ∀ i, sumI ((needTo m R i).map fun x => x.2) = ((enT m R i).length : Int)
  | 0 => rfl
  | i + 1 => by
    have h := (sp_good (usedB m (R.getD i r0).1) (R.getD i r0).2.1 (R.getD i r0).2.2.length).2
    have e : ((reelSp m (R.getD i r0)).map fun s => (((R.getD i r0).1, s.1, s.2) : Nd)).map (fun x => x.2) = reelSp m (R.getD i r0) := by
      rw [List.map_map]
      exact (List.map_congr_left (fun s _ => rfl)).trans (List.map_id _)
    simp only [needTo, List.map_append, sumI_app, need_sum m R i, enT, List.length_append]
    rw [e]
    show _ + sumI (spTo _ _ _) = _
    rw [h]
    simp [enR]
theorem enR_mem {m : Mu} {r : Rl} {k : Nat} {x : Tk} : x ∈ enR m r k ↔ x.1 = r.1 ∧ x.2.2 = (0, 0) ∧ r.2.1 ≤ x.2.1 ∧ x.2.1 < r.2.1 + (k : Int) ∧ usedB m r.1 x.2.1 = true := by
  unfold enR
  simp only [List.mem_map, List.mem_filter, List.mem_range]
  constructor
  · rintro ⟨j, ⟨h1, h2⟩, rfl⟩
    exact ⟨rfl, rfl, by dsimp only; omega, by dsimp only; omega, h2⟩
  · rintro ⟨h1, h2, h3, h4, h5⟩
    refine ⟨(x.2.1 - r.2.1).toNat, ⟨by omega, ?_⟩, ?_⟩
    · rw [show r.2.1 + ((x.2.1 - r.2.1).toNat : Int) = x.2.1 by omega]; exact h5
    · rw [show r.2.1 + ((x.2.1 - r.2.1).toNat : Int) = x.2.1 by omega, ← h1]
      exact Prod.ext rfl (Prod.ext rfl h2.symm)
theorem enT_mem {m : Mu} {R : List Rl} {x : Tk} : ∀ i, (x ∈ enT m R i ↔ ∃ j, j < i ∧ x ∈ enR m (R.getD j r0) (R.getD j r0).2.2.length)
  | 0 => by simp [enT]
  | i + 1 => by
    rw [enT, List.mem_append, enT_mem i]
    constructor
    · rintro (⟨j, h1, h2⟩ | h)
      · exact ⟨j, by omega, h2⟩
      · exact ⟨i, by omega, h⟩
    · rintro ⟨j, h1, h2⟩
      by_cases e : j = i
      · subst e; exact .inr h2
      · exact .inl ⟨j, by omega, h2⟩
theorem enR_nodup (m : Mu) (r : Rl) (k : Nat) : (enR m r k).Nodup := by
  unfold enR
  rw [List.nodup_iff_pairwise_ne, List.pairwise_map]
  refine (List.Pairwise.filter _ (List.nodup_iff_pairwise_ne.1 List.nodup_range)).imp fun {a b} h e => h ?_
  have := congrArg (fun x : Tk => x.2.1) e
  dsimp only at this
  omega
theorem enT_nodup {m : Mu} {R : List Rl} (hd : NoDup R) : ∀ i, i ≤ R.length → (enT m R i).Nodup
  | 0, _ => List.nodup_nil
  | i + 1, h => by
    rw [enT, List.nodup_append]
    refine ⟨enT_nodup hd i (by omega), enR_nodup _ _ _, fun x hx y hy e => ?_⟩
    subst e
    obtain ⟨j, hj, hx⟩ := (enT_mem i).1 hx
    have h1 := (enR_mem.1 hx).1
    have h2 := (enR_mem.1 hy).1
    exact hd j i hj (by omega) (h1.symm.trans h2)
theorem keys_put (l : Mu) (x : Tk) (y : Bool) : ((U.mapPut (.pair .str (.pair (.int .i64) (.pair (.int .i64) (.int .i64)))) .bool l x y).map (·.1) : List Tk) = if x ∈ (l.map (·.1) : List Tk) then (l.map (·.1) : List Tk) else (l.map (·.1) : List Tk) ++ [x] := by
  induction l with
  | nil => simp [U.mapPut]
  | cons p r ih =>
    simp only [U.mapPut]
    by_cases h : x = p.1
    · rw [if_pos ((eq_key _ _).2 h), if_pos (by simp [h])]
      rfl
    · rw [if_neg (fun e => h ((eq_key _ _).1 e)), List.map_cons, ih]
      by_cases hr : x ∈ (r.map (·.1) : List Tk)
      · rw [if_pos hr, List.map_cons, if_pos (List.mem_cons_of_mem _ hr)]
      · rw [if_neg hr, List.map_cons, if_neg (fun e => (by rcases List.mem_cons.1 e with e | e; exact h e; exact hr e)), List.cons_append]
def MuOk (m : Mu) : Prop := (m.map (·.1) : List Tk).Nodup ∧ ∀ x ∈ m, x.1.2.2 = (0, 0) ∧ x.2 = true
theorem ok_use {m : Mu} (h : MuOk m) (x : Tk) : MuOk (useTk m x) := by
  unfold useTk
  constructor
  · rw [keys_put]
    split
    · exact h.1
    · rename_i hx
      rw [List.nodup_append]
      exact ⟨h.1, by simp, fun a ha b hb e => hx (by rw [List.mem_singleton] at hb; rw [← hb, ← e]; exact ha)⟩
  · have key : ∀ l : Mu, (∀ x ∈ l, x.1.2.2 = (0, 0) ∧ x.2 = true) → ∀ z ∈ U.mapPut (.pair .str (.pair (.int .i64) (.pair (.int .i64) (.int .i64)))) .bool l (x.1, x.2.1, 0, 0) true, z.1.2.2 = (0, 0) ∧ z.2 = true := by
      intro l
      induction l with
      | nil =>
        intro _ z hz
        simp only [U.mapPut, List.mem_singleton] at hz
        subst hz
        exact ⟨rfl, rfl⟩
      | cons p r ih =>
        intro hl z hz
        simp only [U.mapPut] at hz
        split at hz
        · rcases List.mem_cons.1 hz with rfl | hz
          · exact ⟨(hl p (List.mem_cons_self)).1, rfl⟩
          · exact hl z (List.mem_cons_of_mem _ hz)
        · rcases List.mem_cons.1 hz with rfl | hz
          · exact hl _ List.mem_cons_self
          · exact ih (fun x hx => hl x (List.mem_cons_of_mem _ hx)) z hz
    exact key m h.2
theorem ok_fr (p : List Pl) : ∀ n, MuOk (frMu p n)
  | 0 => ⟨List.nodup_nil, fun x h => by cases h⟩
  | n + 1 => by
    show MuOk (useF (frMu p n) p (n : Int))
    unfold useF
    split
    · exact ok_use (ok_use (ok_fr p n) _) _
    · exact ok_use (ok_fr p n) _
theorem ok_sn (p : List Pl) {m : Mu} (h : MuOk m) : ∀ n, MuOk (snMu p m n)
  | 0 => h
  | n + 1 => ok_use (ok_sn p h n) _
theorem used_key {m : Mu} (h : ∀ x ∈ m, x.1.2.2 = (0, 0) ∧ x.2 = true) (x : Tk) : x ∈ (m.map (·.1) : List Tk) ↔ x.2.2 = (0, 0) ∧ usedB m x.1 x.2.1 = true := by
  unfold usedB
  induction m with
  | nil => simp [U.mapGet]
  | cons p r ih =>
    have ih := ih fun x hx => h x (List.mem_cons_of_mem _ hx)
    have hp := h p List.mem_cons_self
    rw [List.map_cons, List.mem_cons, ih]
    simp only [U.mapGet]
    by_cases e : ((x.1, x.2.1, 0, 0) : Tk) = p.1
    · rw [if_pos ((eq_key _ _).2 e)]
      constructor
      · rintro (h1 | ⟨h1, _⟩)
        · exact ⟨by rw [h1]; exact hp.1, by simpa using hp.2⟩
        · exact ⟨h1, by simpa using hp.2⟩
      · rintro ⟨h1, _⟩
        exact .inl (by rw [← e]; exact Prod.ext rfl (Prod.ext rfl h1))
    · rw [if_neg (fun q => e ((eq_key _ _).1 q))]
      constructor
      · rintro (h1 | h1)
        · exact absurd (by rw [h1]; exact Prod.ext rfl (Prod.ext rfl hp.1.symm)) e
        · exact h1
      · exact fun h1 => .inr h1
theorem nodup_le : ∀ (a b : List Tk), a.Nodup → (∀ x ∈ a, x ∈ b) → a.length ≤ b.length
  | [], _, _, _ => Nat.zero_le _
  | x :: a, b, hn, h => by
    obtain ⟨h1, h2⟩ := List.nodup_cons.1 hn
    have hx := h x List.mem_cons_self
    have ih := nodup_le a (b.erase x) h2 fun y hy => (List.mem_erase_of_ne (fun e => h1 (by rw [← e]; exact hy))).2 (h y (List.mem_cons_of_mem _ hy))
    rw [List.length_erase_of_mem hx] at ih
    have := List.length_pos_of_mem hx
    rw [List.length_cons]
    omega
theorem count_all {R : List Rl} {L : List Ed} (hk : ListOk R L) : cntTo (needN R L) (needN R L).length = ((snMu (ls L) (frMu (ls L) (lenL L).toNat) (lenL L).toNat).length : Int) := by
  have hd := rs_nodup hk.rs
  have hN : needN R L = needTo (usedTo (ls L) (lenL L).toNat) R R.length := by unfold needN; rw [if_pos (chkEds_zero.2 hk)]
  rw [cnt_take _ _ (Nat.le_refl _), List.take_length, hN, need_sum]
  have ok := ok_sn (ls L) (ok_fr (ls L) (lenL L).toNat) (lenL L).toNat
  have hs := used_same hk
  generalize snMu (ls L) (frMu (ls L) (lenL L).toNat) (lenL L).toNat = M at *
  have hm : ∀ x : Tk, x ∈ enT (usedTo (ls L) (lenL L).toNat) R R.length ↔ x ∈ (M.map (·.1) : List Tk) := by
    intro x
    rw [used_key ok.2, enT_mem, hs]
    constructor
    · rintro ⟨j, hj, hx⟩
      obtain ⟨h1, h2, h3, h4, h5⟩ := enR_mem.1 hx
      exact ⟨h2, by rw [h1]; exact h5⟩
    · rintro ⟨h1, h2⟩
      obtain ⟨g1, g2, g3⟩ := used_ok hk h2
      refine ⟨idxN x.1 R, g1, enR_mem.2 ⟨(idxN_name g1).symm, h1, g2, g3, ?_⟩⟩
      rw [show (R.getD (idxN x.1 R) r0).1 = x.1 from idxN_name g1]
      exact h2
  have l1 := nodup_le _ _ (enT_nodup hd R.length (Nat.le_refl _)) fun x hx => (hm x).1 hx
  have l2 := nodup_le _ _ ok.1 fun x hx => (hm x).2 hx
  rw [List.length_map] at l1 l2
  omega
end Go.Sx
