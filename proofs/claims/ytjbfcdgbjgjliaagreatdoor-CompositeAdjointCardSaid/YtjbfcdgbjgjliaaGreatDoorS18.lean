/- A verified symbolic run of functions, part 18: lemmas, no claim of their own. -/
import Derived.Test.YtjbfcdgbjgjliaaGreatDoorS17
/- Contracts. -/
namespace Go.Sx
open U
theorem so195 : Sp1 195 sp195 := by
  refine ⟨fun vs ps r h hp => ?_, Proofs.Tryz.f195, _, by kernel_rfl, rfl, by kernel_rfl⟩
  simp only [sp195] at h
  split at h
  · cases h; exact grow1 _ (hp _ (by simp)) (hp _ (by simp))
  · cases h
theorem flat_succ {l : List (List Int)} {g : Nat} (h : g < l.length) : flatTo l (g + 1) = flatTo l g ++ l.getD g [] := by
  unfold flatTo
  rw [List.take_succ_eq_append_getElem h, List.flatten_append, getD_of h]
  simp
theorem flat_len (l : List (List Int)) (i : Nat) : (flatTo l i).length ≤ l.flatten.length := by
  have h : l.flatten = flatTo l i ++ (l.drop i).flatten := by
    unfold flatTo
    rw [← List.flatten_append, List.take_append_drop]
  rw [h, List.length_append]
  omega
theorem fn158 (l : List (List Int)) (hl : l.length ≤ 1000) (hf : l.flatten.length ≤ 1000000) : Fn P1 gl1 158 [.one (.sl (.sl (.int .i64)) l)] (.val (.one (.frs (.int .i64) l.flatten))) true := by
  refine Fn.flat ?_ rfl
  refine fn_of false [(195, sp195)] [] h158 0 Proofs.Tryz.f158 ⟨so195, trivial⟩ trivial (by kernel_rfl) rfl (by kernel_rfl) rfl rfl rfl ?_
  rw [vc158]
  try simp only [splitB_iff, -eq_self]
  have hle : ∀ i, (flatTo l i).length ≤ 1000000 := fun i => Nat.le_trans (flat_len l i) hf
  simp only [eq_self, true_and, and_true, and_self]
  refine ⟨⟨0, Nat.zero_le _, rfl, by simp [flatTo]⟩, fun g hg => ⟨fun hlt => ?_, fun hge => ?_⟩⟩
  · have hlt' : g < l.length := by have := of_decide_eq_true hlt; omega
    have h1 := hle (g + 1)
    have h2 := flat_succ hlt'
    have h3 : (flatTo l (g + 1)).length = (flatTo l g).length + (l.getD g []).length := by rw [h2, List.length_append]
    exact ⟨by omega, by simp only [fits]; omega, by simp only [fits]; omega, g + 1, hlt', by omega, by omega, by rw [h3]; omega⟩
  · have := hle g
    refine ⟨by omega, by omega, ⟨0, Nat.zero_le _, rfl, by simp [flatTo]⟩, fun j hj => ⟨fun hjl => ?_, fun hjg => ?_⟩⟩
    · have hlt' : j < l.length := by have := of_decide_eq_true hjl; omega
      have h1 := hle (j + 1)
      have h2 := flat_succ hlt'
      have h3 : (flatTo l (j + 1)).length = (flatTo l j).length + (l.getD j []).length := by rw [h2, List.length_append]
      exact ⟨by omega, by simp only [room]; omega, by simp only [fits]; omega, j + 1, hlt', by omega, by omega, h2.symm⟩
    · have hj' : j = l.length := by have := of_decide_eq_false hjg; have : j ≤ l.length := hj; omega
      rw [hj']
      unfold flatTo
      rw [List.take_length]
theorem so158_ : SpecOk P1 gl1 158 sp158 := by
  intro vs ps r h hp
  simp only [sp158] at h
  split at h
  · cases h; exact fn158 _ (hp _ (.head _)) (hp _ (.tail _ (.head _)))
  · cases h
theorem so158 : Sp1 158 sp158 := ⟨so158_, Proofs.Tryz.f158, _, by kernel_rfl, rfl, by kernel_rfl⟩
theorem fn1470 (t : List Int) (w : Int) (hw : w = 1 ∨ w = -1) : Fn P1 gl1 147 [fldV [], .one (.sl (.int .i64) t), iV w] (.tup [.one (.sl lnT (cmbN [] t w)), iV (cmbE [] t w)]) false := by
  refine fn_of false [(38, sp38), (79, sp79), (95, sp95), (123, sp123), (158, sp158), (138, sp138)] [fb178, fb180] (h147 0 fun _ => []) 3 Proofs.Tryz.f147 ⟨so38, so79, so95, so123, so158, so138, trivial⟩ ⟨⟨by kernel_rfl, by kernel_rfl, _, rfl, by kernel_rfl⟩, ⟨by kernel_rfl, by kernel_rfl, _, rfl, by kernel_rfl⟩, trivial⟩ (by kernel_rfl) rfl (by kernel_rfl) rfl rfl rfl ?_
  rw [vc1470]
  try simp only [splitB_iff, -eq_self]
  simp only [eq_self, true_and, and_true, and_self]
  refine ⟨by decide, fun h => cmb_bad (bneZ.1 h), fun h => ?_⟩
  have h : cmbB [] t = 0 := bneF.1 h
  have hz := first_zero.1 h
  have hx : cmbX [] t w = 0 := rfl
  obtain ⟨c1, c2⟩ := cmb_ok h hx
  rw [c1, c2]
  exact ⟨hz _ (.head _), by decide, by simp only [room]; omega, by decide, by decide, ⟨by decide, by decide, by simp only [fits]; decide⟩, ⟨0, rfl, rfl⟩, fun g hg => ⟨rfl, rfl⟩⟩
theorem fn1471 (l0 : List Nat) (t : List Int) (w : Int) (hw : w = 1 ∨ w = -1) : Fn P1 gl1 147 [fldV [l0], .one (.sl (.int .i64) t), iV w] (.tup [.one (.sl lnT (cmbN [l0] t w)), iV (cmbE [l0] t w)]) false := by
  refine fn_of false [(38, sp38), (79, sp79), (95, sp95), (123, sp123), (158, sp158), (138, sp138)] [fb178, fb180] (h147 1 fun g => [g 0]) 3 Proofs.Tryz.f147 ⟨so38, so79, so95, so123, so158, so138, trivial⟩ ⟨⟨by kernel_rfl, by kernel_rfl, _, rfl, by kernel_rfl⟩, ⟨by kernel_rfl, by kernel_rfl, _, rfl, by kernel_rfl⟩, trivial⟩ (by kernel_rfl) rfl (by kernel_rfl) rfl rfl rfl ?_
  rw [vc1471]
  try simp only [splitB_iff, -eq_self]
  simp only [eq_self, true_and, and_true, and_self, List.length_map, col_map]
  refine ⟨by decide, fun h => ?_, fun h => ?_⟩
  · exact cmb_bad (bneZ.1 h)
  · have h : cmbB [l0] t = 0 := bneF.1 h
    have H := cmbB_zero.1 h
    have hW := H.wid_le
    have w0 : l0.length = widN [l0] := H.wid 0 (show 0 < 1 by decide)
    have hfl := flat_wid H
    have hfl : (List.flatten (List.map sixs [l0])).length = 1 * widN [l0] := hfl
    have hq : ((List.flatten (List.map sixs [l0])).length : Int) / max 1 1 = (widN [l0] : Int) := by
      rw [hfl, show max 1 1 = (1 : Int) by decide]; omega
    have hz := first_zero.1 h
    simp only [hq]
    refine ⟨hz _ (.head _), by decide, by simp only [room]; omega, ⟨0, by decide⟩, fun _ _ => ⟨by decide, by omega, by simp only [room]; omega, by decide, by simp only [fits]; omega, (show 1 ≤ 1000 by decide), by omega, ⟨by omega, by decide, by simp only [fits]; omega⟩, ⟨0, ⟨Nat.zero_le _, fun a ha => absurd ha (Nat.not_lt_zero a)⟩, rfl, (fillTo_zero _ _ _).symm⟩, fun g hg => ⟨fun hlt => ?_, fun hge => ?_⟩⟩⟩
    · have hlt : g < widN [l0] := by simpa using hlt
      refine ⟨⟨0, Nat.zero_le _, rfl, rfl⟩, fun i hi => ⟨fun hlt2 => ⟨⟨0, Nat.zero_le _, rfl, rfl⟩, fun j hj => ⟨fun hlt3 => ?_, fun hge3 => ?_⟩⟩, fun hge2 => ?_⟩⟩
      · have hlt2 : i < List.length [l0] := by have := of_decide_eq_true hlt2; omega
        have hlt3 : j < t.length := by simpa using hlt3
        obtain ⟨a1, a2, a3, a4⟩ := cmb_step hw H rfl hlt2 hlt3 (show g < widN [l0] from hlt)
        have h8 := H.t1
        refine ⟨⟨by omega, by omega⟩, a1, a2, fun c => ?_, fun c => ⟨by simp only [fits]; omega, j + 1, hlt3, by omega, by simp, a4 (of_and0 c)⟩⟩
        obtain ⟨b1, b2, b3, b4⟩ := a3 (of_and1 c)
        exact ⟨of_and1 c, ⟨by omega, b1⟩, b2, b3, by simp only [fits]; omega, j + 1, hlt3, by omega, by simp, b4⟩
      · have hlt2 : i < List.length [l0] := by have := of_decide_eq_true hlt2; omega
        have hj : j ≤ t.length := hj
        have hge3 : ¬ j < t.length := by simpa using hge3
        have ej : j = t.length := by omega
        subst ej
        have h32 : List.length [l0] ≤ 32 := (show 1 ≤ 32 by decide)
        exact ⟨by simp only [room, tab_len]; omega, by simp only [fits]; omega, i + 1, hlt2, by omega, by simp, (tab_succ _ _).symm⟩
      · have hi : i ≤ List.length [l0] := hi
        have hge2 : ¬ (i : Int) < (List.length [l0] : Int) := of_decide_eq_false hge2
        have ei : i = List.length [l0] := by omega
        subst ei
        have e := col_flt [l0] t w g
        rw [show (tab (List.length [l0]) fun i => swTo (List.length [l0]) (lat (colN [l0] g)) t w i (List.length t)) = fltI (colN [l0] g) t w from e.symm]
        refine ⟨by rw [e, tab_len]; exact (show 1 ≤ 1000000 by decide), fun k => ?_, fun k => ?_⟩
        · have k : ¬ lgE (fltI (colN [l0] g) t w) = 0 := bneZ.1 k
          have kb : ¬ Bd 16384 (fltI (colN [l0] g) t w) := fun b => k (lgE_of b)
          obtain ⟨c1, c2⟩ := cmb_four h (cmbX_col hlt kb)
          rw [lgE_not kb, c2]
          exact ⟨c1, rfl⟩
        · have k : lgE (fltI (colN [l0] g) t w) = 0 := bneF.1 k
          have kb := lgE_zero.1 k
          have hs : smpsN (fltI (colN [l0] g) t w) = [smp (cmbV [l0] t w 0 g)] := by rw [smpsN_of kb, e, tab_map]; rfl
          rw [hs]
          refine ⟨⟨fun i => smp (cmbV [l0] t w i g), rfl, rfl⟩, fun z hz => ?_⟩
          simp only [List.cons.injEq, and_true] at hz
          have z0 := hz
          simp only [fillTo_len, z0]
          exact ⟨by decide, by decide, by decide, by omega, by omega, by simp only [fits]; omega, by simp only [fits]; omega, g + 1, ⟨hlt, fun a ha => by
            rcases Nat.lt_succ_iff_lt_or_eq.1 ha with ha | rfl
            · exact hg.2 a ha
            · exact kb⟩, by omega, by simp, fillTo_set _ _ _ _⟩
    · have hge : ¬ (g : Int) < (widN [l0] : Int) := of_decide_eq_false hge
      have eg : g = widN [l0] := by omega
      have hx : cmbX [l0] t w = 0 := cmbX_cols fun a ha => hg.2 a (by omega)
      obtain ⟨c1, c2⟩ := cmb_ok h hx
      rw [c1, c2]
      refine ⟨?_, rfl⟩
      have fa : ∀ n, n = widN [l0] → ∀ f : Nat → Nat, fillTo 0 n f g = tab (widN [l0]) f := fun n hn f => by rw [hn, fillTo_all _ _ _ _ (by omega)]
      rw [fa _ w0]
      rfl
theorem fn1472 (l0 l1 : List Nat) (t : List Int) (w : Int) (hw : w = 1 ∨ w = -1) : Fn P1 gl1 147 [fldV [l0, l1], .one (.sl (.int .i64) t), iV w] (.tup [.one (.sl lnT (cmbN [l0, l1] t w)), iV (cmbE [l0, l1] t w)]) false := by
  refine fn_of false [(38, sp38), (79, sp79), (95, sp95), (123, sp123), (158, sp158), (138, sp138)] [fb178, fb180] (h147 2 fun g => [g 0, g 1]) 3 Proofs.Tryz.f147 ⟨so38, so79, so95, so123, so158, so138, trivial⟩ ⟨⟨by kernel_rfl, by kernel_rfl, _, rfl, by kernel_rfl⟩, ⟨by kernel_rfl, by kernel_rfl, _, rfl, by kernel_rfl⟩, trivial⟩ (by kernel_rfl) rfl (by kernel_rfl) rfl rfl rfl ?_
  rw [vc1472]
  try simp only [splitB_iff, -eq_self]
  simp only [eq_self, true_and, and_true, and_self, List.length_map, col_map]
  refine ⟨by decide, fun h => ?_, fun h => ?_⟩
  · exact cmb_bad (bneZ.1 h)
  · have h : cmbB [l0, l1] t = 0 := bneF.1 h
    have H := cmbB_zero.1 h
    have hW := H.wid_le
    have w0 : l0.length = widN [l0, l1] := H.wid 0 (show 0 < 2 by decide)
    have w1 : l1.length = widN [l0, l1] := H.wid 1 (show 1 < 2 by decide)
    have hfl := flat_wid H
    have hfl : (List.flatten (List.map sixs [l0, l1])).length = 2 * widN [l0, l1] := hfl
    have hq : ((List.flatten (List.map sixs [l0, l1])).length : Int) / max 1 2 = (widN [l0, l1] : Int) := by
      rw [hfl, show max 1 2 = (2 : Int) by decide]; omega
    have hz := first_zero.1 h
    simp only [hq]
    refine ⟨hz _ (.head _), by decide, by simp only [room]; omega, ⟨0, by decide⟩, fun _ _ => ⟨by decide, by omega, by simp only [room]; omega, by decide, by simp only [fits]; omega, by decide, by omega, by simp only [room]; omega, by decide, by simp only [fits]; omega, (show 2 ≤ 1000 by decide), by omega, ⟨by omega, by decide, by simp only [fits]; omega⟩, ⟨0, ⟨Nat.zero_le _, fun a ha => absurd ha (Nat.not_lt_zero a)⟩, rfl, (fillTo_zero _ _ _).symm, (fillTo_zero _ _ _).symm⟩, fun g hg => ⟨fun hlt => ?_, fun hge => ?_⟩⟩⟩
    · have hlt : g < widN [l0, l1] := by simpa using hlt
      refine ⟨⟨0, Nat.zero_le _, rfl, rfl⟩, fun i hi => ⟨fun hlt2 => ⟨⟨0, Nat.zero_le _, rfl, rfl⟩, fun j hj => ⟨fun hlt3 => ?_, fun hge3 => ?_⟩⟩, fun hge2 => ?_⟩⟩
      · have hlt2 : i < List.length [l0, l1] := by have := of_decide_eq_true hlt2; omega
        have hlt3 : j < t.length := by simpa using hlt3
        obtain ⟨a1, a2, a3, a4⟩ := cmb_step hw H rfl hlt2 hlt3 (show g < widN [l0, l1] from hlt)
        have h8 := H.t1
        refine ⟨⟨by omega, by omega⟩, a1, a2, fun c => ?_, fun c => ⟨by simp only [fits]; omega, j + 1, hlt3, by omega, by simp, a4 (of_and0 c)⟩⟩
        obtain ⟨b1, b2, b3, b4⟩ := a3 (of_and1 c)
        exact ⟨of_and1 c, ⟨by omega, b1⟩, b2, b3, by simp only [fits]; omega, j + 1, hlt3, by omega, by simp, b4⟩
      · have hlt2 : i < List.length [l0, l1] := by have := of_decide_eq_true hlt2; omega
        have hj : j ≤ t.length := hj
        have hge3 : ¬ j < t.length := by simpa using hge3
        have ej : j = t.length := by omega
        subst ej
        have h32 : List.length [l0, l1] ≤ 32 := (show 2 ≤ 32 by decide)
        exact ⟨by simp only [room, tab_len]; omega, by simp only [fits]; omega, i + 1, hlt2, by omega, by simp, (tab_succ _ _).symm⟩
      · have hi : i ≤ List.length [l0, l1] := hi
        have hge2 : ¬ (i : Int) < (List.length [l0, l1] : Int) := of_decide_eq_false hge2
        have ei : i = List.length [l0, l1] := by omega
        subst ei
        have e := col_flt [l0, l1] t w g
        rw [show (tab (List.length [l0, l1]) fun i => swTo (List.length [l0, l1]) (lat (colN [l0, l1] g)) t w i (List.length t)) = fltI (colN [l0, l1] g) t w from e.symm]
        refine ⟨by rw [e, tab_len]; exact (show 2 ≤ 1000000 by decide), fun k => ?_, fun k => ?_⟩
        · have k : ¬ lgE (fltI (colN [l0, l1] g) t w) = 0 := bneZ.1 k
          have kb : ¬ Bd 16384 (fltI (colN [l0, l1] g) t w) := fun b => k (lgE_of b)
          obtain ⟨c1, c2⟩ := cmb_four h (cmbX_col hlt kb)
          rw [lgE_not kb, c2]
          exact ⟨c1, rfl⟩
        · have k : lgE (fltI (colN [l0, l1] g) t w) = 0 := bneF.1 k
          have kb := lgE_zero.1 k
          have hs : smpsN (fltI (colN [l0, l1] g) t w) = [smp (cmbV [l0, l1] t w 0 g), smp (cmbV [l0, l1] t w 1 g)] := by rw [smpsN_of kb, e, tab_map]; rfl
          rw [hs]
          refine ⟨⟨fun i => smp (cmbV [l0, l1] t w i g), rfl, rfl⟩, fun z hz => ?_⟩
          simp only [List.cons.injEq, and_true] at hz
          obtain ⟨z0, z1⟩ := hz
          simp only [fillTo_len, z0, z1]
          exact ⟨by decide, by decide, by decide, by omega, by omega, by simp only [fits]; omega, by decide, by decide, by decide, by omega, by omega, by simp only [fits]; omega, by simp only [fits]; omega, g + 1, ⟨hlt, fun a ha => by
            rcases Nat.lt_succ_iff_lt_or_eq.1 ha with ha | rfl
            · exact hg.2 a ha
            · exact kb⟩, by omega, by simp, fillTo_set _ _ _ _, fillTo_set _ _ _ _⟩
    · have hge : ¬ (g : Int) < (widN [l0, l1] : Int) := of_decide_eq_false hge
      have eg : g = widN [l0, l1] := by omega
      have hx : cmbX [l0, l1] t w = 0 := cmbX_cols fun a ha => hg.2 a (by omega)
      obtain ⟨c1, c2⟩ := cmb_ok h hx
      rw [c1, c2]
      refine ⟨?_, rfl⟩
      have fa : ∀ n, n = widN [l0, l1] → ∀ f : Nat → Nat, fillTo 0 n f g = tab (widN [l0, l1]) f := fun n hn f => by rw [hn, fillTo_all _ _ _ _ (by omega)]
      rw [fa _ w0, fa _ w1]
      rfl
theorem fn1473 (l0 l1 l2 : List Nat) (t : List Int) (w : Int) (hw : w = 1 ∨ w = -1) : Fn P1 gl1 147 [fldV [l0, l1, l2], .one (.sl (.int .i64) t), iV w] (.tup [.one (.sl lnT (cmbN [l0, l1, l2] t w)), iV (cmbE [l0, l1, l2] t w)]) false := by
  refine fn_of false [(38, sp38), (79, sp79), (95, sp95), (123, sp123), (158, sp158), (138, sp138)] [fb178, fb180] (h147 3 fun g => [g 0, g 1, g 2]) 3 Proofs.Tryz.f147 ⟨so38, so79, so95, so123, so158, so138, trivial⟩ ⟨⟨by kernel_rfl, by kernel_rfl, _, rfl, by kernel_rfl⟩, ⟨by kernel_rfl, by kernel_rfl, _, rfl, by kernel_rfl⟩, trivial⟩ (by kernel_rfl) rfl (by kernel_rfl) rfl rfl rfl ?_
  rw [vc1473]
  try simp only [splitB_iff, -eq_self]
  simp only [eq_self, true_and, and_true, and_self, List.length_map, col_map]
  refine ⟨by decide, fun h => ?_, fun h => ?_⟩
  · exact cmb_bad (bneZ.1 h)
  · have h : cmbB [l0, l1, l2] t = 0 := bneF.1 h
    have H := cmbB_zero.1 h
    have hW := H.wid_le
    have w0 : l0.length = widN [l0, l1, l2] := H.wid 0 (show 0 < 3 by decide)
    have w1 : l1.length = widN [l0, l1, l2] := H.wid 1 (show 1 < 3 by decide)
    have w2 : l2.length = widN [l0, l1, l2] := H.wid 2 (show 2 < 3 by decide)
    have hfl := flat_wid H
    have hfl : (List.flatten (List.map sixs [l0, l1, l2])).length = 3 * widN [l0, l1, l2] := hfl
    have hq : ((List.flatten (List.map sixs [l0, l1, l2])).length : Int) / max 1 3 = (widN [l0, l1, l2] : Int) := by
      rw [hfl, show max 1 3 = (3 : Int) by decide]; omega
    have hz := first_zero.1 h
    simp only [hq]
    refine ⟨hz _ (.head _), by decide, by simp only [room]; omega, ⟨0, by decide⟩, fun _ _ => ⟨by decide, by omega, by simp only [room]; omega, by decide, by simp only [fits]; omega, by decide, by omega, by simp only [room]; omega, by decide, by simp only [fits]; omega, by decide, by omega, by simp only [room]; omega, by decide, by simp only [fits]; omega, (show 3 ≤ 1000 by decide), by omega, ⟨by omega, by decide, by simp only [fits]; omega⟩, ⟨0, ⟨Nat.zero_le _, fun a ha => absurd ha (Nat.not_lt_zero a)⟩, rfl, (fillTo_zero _ _ _).symm, (fillTo_zero _ _ _).symm, (fillTo_zero _ _ _).symm⟩, fun g hg => ⟨fun hlt => ?_, fun hge => ?_⟩⟩⟩
    · have hlt : g < widN [l0, l1, l2] := by simpa using hlt
      refine ⟨⟨0, Nat.zero_le _, rfl, rfl⟩, fun i hi => ⟨fun hlt2 => ⟨⟨0, Nat.zero_le _, rfl, rfl⟩, fun j hj => ⟨fun hlt3 => ?_, fun hge3 => ?_⟩⟩, fun hge2 => ?_⟩⟩
      · have hlt2 : i < List.length [l0, l1, l2] := by have := of_decide_eq_true hlt2; omega
        have hlt3 : j < t.length := by simpa using hlt3
        obtain ⟨a1, a2, a3, a4⟩ := cmb_step hw H rfl hlt2 hlt3 (show g < widN [l0, l1, l2] from hlt)
        have h8 := H.t1
        refine ⟨⟨by omega, by omega⟩, a1, a2, fun c => ?_, fun c => ⟨by simp only [fits]; omega, j + 1, hlt3, by omega, by simp, a4 (of_and0 c)⟩⟩
        obtain ⟨b1, b2, b3, b4⟩ := a3 (of_and1 c)
        exact ⟨of_and1 c, ⟨by omega, b1⟩, b2, b3, by simp only [fits]; omega, j + 1, hlt3, by omega, by simp, b4⟩
      · have hlt2 : i < List.length [l0, l1, l2] := by have := of_decide_eq_true hlt2; omega
        have hj : j ≤ t.length := hj
        have hge3 : ¬ j < t.length := by simpa using hge3
        have ej : j = t.length := by omega
        subst ej
        have h32 : List.length [l0, l1, l2] ≤ 32 := (show 3 ≤ 32 by decide)
        exact ⟨by simp only [room, tab_len]; omega, by simp only [fits]; omega, i + 1, hlt2, by omega, by simp, (tab_succ _ _).symm⟩
      · have hi : i ≤ List.length [l0, l1, l2] := hi
        have hge2 : ¬ (i : Int) < (List.length [l0, l1, l2] : Int) := of_decide_eq_false hge2
        have ei : i = List.length [l0, l1, l2] := by omega
        subst ei
        have e := col_flt [l0, l1, l2] t w g
        rw [show (tab (List.length [l0, l1, l2]) fun i => swTo (List.length [l0, l1, l2]) (lat (colN [l0, l1, l2] g)) t w i (List.length t)) = fltI (colN [l0, l1, l2] g) t w from e.symm]
        refine ⟨by rw [e, tab_len]; exact (show 3 ≤ 1000000 by decide), fun k => ?_, fun k => ?_⟩
        · have k : ¬ lgE (fltI (colN [l0, l1, l2] g) t w) = 0 := bneZ.1 k
          have kb : ¬ Bd 16384 (fltI (colN [l0, l1, l2] g) t w) := fun b => k (lgE_of b)
          obtain ⟨c1, c2⟩ := cmb_four h (cmbX_col hlt kb)
          rw [lgE_not kb, c2]
          exact ⟨c1, rfl⟩
        · have k : lgE (fltI (colN [l0, l1, l2] g) t w) = 0 := bneF.1 k
          have kb := lgE_zero.1 k
          have hs : smpsN (fltI (colN [l0, l1, l2] g) t w) = [smp (cmbV [l0, l1, l2] t w 0 g), smp (cmbV [l0, l1, l2] t w 1 g), smp (cmbV [l0, l1, l2] t w 2 g)] := by rw [smpsN_of kb, e, tab_map]; rfl
          rw [hs]
          refine ⟨⟨fun i => smp (cmbV [l0, l1, l2] t w i g), rfl, rfl⟩, fun z hz => ?_⟩
          simp only [List.cons.injEq, and_true] at hz
          obtain ⟨z0, z1, z2⟩ := hz
          simp only [fillTo_len, z0, z1, z2]
          exact ⟨by decide, by decide, by decide, by omega, by omega, by simp only [fits]; omega, by decide, by decide, by decide, by omega, by omega, by simp only [fits]; omega, by decide, by decide, by decide, by omega, by omega, by simp only [fits]; omega, by simp only [fits]; omega, g + 1, ⟨hlt, fun a ha => by
            rcases Nat.lt_succ_iff_lt_or_eq.1 ha with ha | rfl
            · exact hg.2 a ha
            · exact kb⟩, by omega, by simp, fillTo_set _ _ _ _, fillTo_set _ _ _ _, fillTo_set _ _ _ _⟩
    · have hge : ¬ (g : Int) < (widN [l0, l1, l2] : Int) := of_decide_eq_false hge
      have eg : g = widN [l0, l1, l2] := by omega
      have hx : cmbX [l0, l1, l2] t w = 0 := cmbX_cols fun a ha => hg.2 a (by omega)
      obtain ⟨c1, c2⟩ := cmb_ok h hx
      rw [c1, c2]
      refine ⟨?_, rfl⟩
      have fa : ∀ n, n = widN [l0, l1, l2] → ∀ f : Nat → Nat, fillTo 0 n f g = tab (widN [l0, l1, l2]) f := fun n hn f => by rw [hn, fillTo_all _ _ _ _ (by omega)]
      rw [fa _ w0, fa _ w1, fa _ w2]
      rfl
theorem fn1474 (l0 l1 l2 l3 : List Nat) (t : List Int) (w : Int) (hw : w = 1 ∨ w = -1) : Fn P1 gl1 147 [fldV [l0, l1, l2, l3], .one (.sl (.int .i64) t), iV w] (.tup [.one (.sl lnT (cmbN [l0, l1, l2, l3] t w)), iV (cmbE [l0, l1, l2, l3] t w)]) false := by
  refine fn_of false [(38, sp38), (79, sp79), (95, sp95), (123, sp123), (158, sp158), (138, sp138)] [fb178, fb180] (h147 4 fun g => [g 0, g 1, g 2, g 3]) 3 Proofs.Tryz.f147 ⟨so38, so79, so95, so123, so158, so138, trivial⟩ ⟨⟨by kernel_rfl, by kernel_rfl, _, rfl, by kernel_rfl⟩, ⟨by kernel_rfl, by kernel_rfl, _, rfl, by kernel_rfl⟩, trivial⟩ (by kernel_rfl) rfl (by kernel_rfl) rfl rfl rfl ?_
  rw [vc1474]
  try simp only [splitB_iff, -eq_self]
  simp only [eq_self, true_and, and_true, and_self, List.length_map, col_map]
  refine ⟨by decide, fun h => ?_, fun h => ?_⟩
  · exact cmb_bad (bneZ.1 h)
  · have h : cmbB [l0, l1, l2, l3] t = 0 := bneF.1 h
    have H := cmbB_zero.1 h
    have hW := H.wid_le
    have w0 : l0.length = widN [l0, l1, l2, l3] := H.wid 0 (show 0 < 4 by decide)
    have w1 : l1.length = widN [l0, l1, l2, l3] := H.wid 1 (show 1 < 4 by decide)
    have w2 : l2.length = widN [l0, l1, l2, l3] := H.wid 2 (show 2 < 4 by decide)
    have w3 : l3.length = widN [l0, l1, l2, l3] := H.wid 3 (show 3 < 4 by decide)
    have hfl := flat_wid H
    have hfl : (List.flatten (List.map sixs [l0, l1, l2, l3])).length = 4 * widN [l0, l1, l2, l3] := hfl
    have hq : ((List.flatten (List.map sixs [l0, l1, l2, l3])).length : Int) / max 1 4 = (widN [l0, l1, l2, l3] : Int) := by
      rw [hfl, show max 1 4 = (4 : Int) by decide]; omega
    have hz := first_zero.1 h
    simp only [hq]
    refine ⟨hz _ (.head _), by decide, by simp only [room]; omega, ⟨0, by decide⟩, fun _ _ => ⟨by decide, by omega, by simp only [room]; omega, by decide, by simp only [fits]; omega, by decide, by omega, by simp only [room]; omega, by decide, by simp only [fits]; omega, by decide, by omega, by simp only [room]; omega, by decide, by simp only [fits]; omega, by decide, by omega, by simp only [room]; omega, by decide, by simp only [fits]; omega, (show 4 ≤ 1000 by decide), by omega, ⟨by omega, by decide, by simp only [fits]; omega⟩, ⟨0, ⟨Nat.zero_le _, fun a ha => absurd ha (Nat.not_lt_zero a)⟩, rfl, (fillTo_zero _ _ _).symm, (fillTo_zero _ _ _).symm, (fillTo_zero _ _ _).symm, (fillTo_zero _ _ _).symm⟩, fun g hg => ⟨fun hlt => ?_, fun hge => ?_⟩⟩⟩
    · have hlt : g < widN [l0, l1, l2, l3] := by simpa using hlt
      refine ⟨⟨0, Nat.zero_le _, rfl, rfl⟩, fun i hi => ⟨fun hlt2 => ⟨⟨0, Nat.zero_le _, rfl, rfl⟩, fun j hj => ⟨fun hlt3 => ?_, fun hge3 => ?_⟩⟩, fun hge2 => ?_⟩⟩
      · have hlt2 : i < List.length [l0, l1, l2, l3] := by have := of_decide_eq_true hlt2; omega
        have hlt3 : j < t.length := by simpa using hlt3
        obtain ⟨a1, a2, a3, a4⟩ := cmb_step hw H rfl hlt2 hlt3 (show g < widN [l0, l1, l2, l3] from hlt)
        have h8 := H.t1
        refine ⟨⟨by omega, by omega⟩, a1, a2, fun c => ?_, fun c => ⟨by simp only [fits]; omega, j + 1, hlt3, by omega, by simp, a4 (of_and0 c)⟩⟩
        obtain ⟨b1, b2, b3, b4⟩ := a3 (of_and1 c)
        exact ⟨of_and1 c, ⟨by omega, b1⟩, b2, b3, by simp only [fits]; omega, j + 1, hlt3, by omega, by simp, b4⟩
      · have hlt2 : i < List.length [l0, l1, l2, l3] := by have := of_decide_eq_true hlt2; omega
        have hj : j ≤ t.length := hj
        have hge3 : ¬ j < t.length := by simpa using hge3
        have ej : j = t.length := by omega
        subst ej
        have h32 : List.length [l0, l1, l2, l3] ≤ 32 := (show 4 ≤ 32 by decide)
        exact ⟨by simp only [room, tab_len]; omega, by simp only [fits]; omega, i + 1, hlt2, by omega, by simp, (tab_succ _ _).symm⟩
      · have hi : i ≤ List.length [l0, l1, l2, l3] := hi
        have hge2 : ¬ (i : Int) < (List.length [l0, l1, l2, l3] : Int) := of_decide_eq_false hge2
        have ei : i = List.length [l0, l1, l2, l3] := by omega
        subst ei
        have e := col_flt [l0, l1, l2, l3] t w g
        rw [show (tab (List.length [l0, l1, l2, l3]) fun i => swTo (List.length [l0, l1, l2, l3]) (lat (colN [l0, l1, l2, l3] g)) t w i (List.length t)) = fltI (colN [l0, l1, l2, l3] g) t w from e.symm]
        refine ⟨by rw [e, tab_len]; exact (show 4 ≤ 1000000 by decide), fun k => ?_, fun k => ?_⟩
        · have k : ¬ lgE (fltI (colN [l0, l1, l2, l3] g) t w) = 0 := bneZ.1 k
          have kb : ¬ Bd 16384 (fltI (colN [l0, l1, l2, l3] g) t w) := fun b => k (lgE_of b)
          obtain ⟨c1, c2⟩ := cmb_four h (cmbX_col hlt kb)
          rw [lgE_not kb, c2]
          exact ⟨c1, rfl⟩
        · have k : lgE (fltI (colN [l0, l1, l2, l3] g) t w) = 0 := bneF.1 k
          have kb := lgE_zero.1 k
          have hs : smpsN (fltI (colN [l0, l1, l2, l3] g) t w) = [smp (cmbV [l0, l1, l2, l3] t w 0 g), smp (cmbV [l0, l1, l2, l3] t w 1 g), smp (cmbV [l0, l1, l2, l3] t w 2 g), smp (cmbV [l0, l1, l2, l3] t w 3 g)] := by rw [smpsN_of kb, e, tab_map]; rfl
          rw [hs]
          refine ⟨⟨fun i => smp (cmbV [l0, l1, l2, l3] t w i g), rfl, rfl⟩, fun z hz => ?_⟩
          simp only [List.cons.injEq, and_true] at hz
          obtain ⟨z0, z1, z2, z3⟩ := hz
          simp only [fillTo_len, z0, z1, z2, z3]
          exact ⟨by decide, by decide, by decide, by omega, by omega, by simp only [fits]; omega, by decide, by decide, by decide, by omega, by omega, by simp only [fits]; omega, by decide, by decide, by decide, by omega, by omega, by simp only [fits]; omega, by decide, by decide, by decide, by omega, by omega, by simp only [fits]; omega, by simp only [fits]; omega, g + 1, ⟨hlt, fun a ha => by
            rcases Nat.lt_succ_iff_lt_or_eq.1 ha with ha | rfl
            · exact hg.2 a ha
            · exact kb⟩, by omega, by simp, fillTo_set _ _ _ _, fillTo_set _ _ _ _, fillTo_set _ _ _ _, fillTo_set _ _ _ _⟩
    · have hge : ¬ (g : Int) < (widN [l0, l1, l2, l3] : Int) := of_decide_eq_false hge
      have eg : g = widN [l0, l1, l2, l3] := by omega
      have hx : cmbX [l0, l1, l2, l3] t w = 0 := cmbX_cols fun a ha => hg.2 a (by omega)
      obtain ⟨c1, c2⟩ := cmb_ok h hx
      rw [c1, c2]
      refine ⟨?_, rfl⟩
      have fa : ∀ n, n = widN [l0, l1, l2, l3] → ∀ f : Nat → Nat, fillTo 0 n f g = tab (widN [l0, l1, l2, l3]) f := fun n hn f => by rw [hn, fillTo_all _ _ _ _ (by omega)]
      rw [fa _ w0, fa _ w1, fa _ w2, fa _ w3]
      rfl
theorem fn1475 (l0 l1 l2 l3 l4 : List Nat) (t : List Int) (w : Int) (hw : w = 1 ∨ w = -1) : Fn P1 gl1 147 [fldV [l0, l1, l2, l3, l4], .one (.sl (.int .i64) t), iV w] (.tup [.one (.sl lnT (cmbN [l0, l1, l2, l3, l4] t w)), iV (cmbE [l0, l1, l2, l3, l4] t w)]) false := by
  refine fn_of false [(38, sp38), (79, sp79), (95, sp95), (123, sp123), (158, sp158), (138, sp138)] [fb178, fb180] (h147 5 fun g => [g 0, g 1, g 2, g 3, g 4]) 3 Proofs.Tryz.f147 ⟨so38, so79, so95, so123, so158, so138, trivial⟩ ⟨⟨by kernel_rfl, by kernel_rfl, _, rfl, by kernel_rfl⟩, ⟨by kernel_rfl, by kernel_rfl, _, rfl, by kernel_rfl⟩, trivial⟩ (by kernel_rfl) rfl (by kernel_rfl) rfl rfl rfl ?_
  rw [vc1475]
  try simp only [splitB_iff, -eq_self]
  simp only [eq_self, true_and, and_true, and_self, List.length_map, col_map]
  refine ⟨by decide, fun h => ?_, fun h => ?_⟩
  · exact cmb_bad (bneZ.1 h)
  · have h : cmbB [l0, l1, l2, l3, l4] t = 0 := bneF.1 h
    have H := cmbB_zero.1 h
    have hW := H.wid_le
    have w0 : l0.length = widN [l0, l1, l2, l3, l4] := H.wid 0 (show 0 < 5 by decide)
    have w1 : l1.length = widN [l0, l1, l2, l3, l4] := H.wid 1 (show 1 < 5 by decide)
    have w2 : l2.length = widN [l0, l1, l2, l3, l4] := H.wid 2 (show 2 < 5 by decide)
    have w3 : l3.length = widN [l0, l1, l2, l3, l4] := H.wid 3 (show 3 < 5 by decide)
    have w4 : l4.length = widN [l0, l1, l2, l3, l4] := H.wid 4 (show 4 < 5 by decide)
    have hfl := flat_wid H
    have hfl : (List.flatten (List.map sixs [l0, l1, l2, l3, l4])).length = 5 * widN [l0, l1, l2, l3, l4] := hfl
    have hq : ((List.flatten (List.map sixs [l0, l1, l2, l3, l4])).length : Int) / max 1 5 = (widN [l0, l1, l2, l3, l4] : Int) := by
      rw [hfl, show max 1 5 = (5 : Int) by decide]; omega
    have hz := first_zero.1 h
    simp only [hq]
    refine ⟨hz _ (.head _), by decide, by simp only [room]; omega, ⟨0, by decide⟩, fun _ _ => ⟨by decide, by omega, by simp only [room]; omega, by decide, by simp only [fits]; omega, by decide, by omega, by simp only [room]; omega, by decide, by simp only [fits]; omega, by decide, by omega, by simp only [room]; omega, by decide, by simp only [fits]; omega, by decide, by omega, by simp only [room]; omega, by decide, by simp only [fits]; omega, by decide, by omega, by simp only [room]; omega, by decide, by simp only [fits]; omega, (show 5 ≤ 1000 by decide), by omega, ⟨by omega, by decide, by simp only [fits]; omega⟩, ⟨0, ⟨Nat.zero_le _, fun a ha => absurd ha (Nat.not_lt_zero a)⟩, rfl, (fillTo_zero _ _ _).symm, (fillTo_zero _ _ _).symm, (fillTo_zero _ _ _).symm, (fillTo_zero _ _ _).symm, (fillTo_zero _ _ _).symm⟩, fun g hg => ⟨fun hlt => ?_, fun hge => ?_⟩⟩⟩
    · have hlt : g < widN [l0, l1, l2, l3, l4] := by simpa using hlt
      refine ⟨⟨0, Nat.zero_le _, rfl, rfl⟩, fun i hi => ⟨fun hlt2 => ⟨⟨0, Nat.zero_le _, rfl, rfl⟩, fun j hj => ⟨fun hlt3 => ?_, fun hge3 => ?_⟩⟩, fun hge2 => ?_⟩⟩
      · have hlt2 : i < List.length [l0, l1, l2, l3, l4] := by have := of_decide_eq_true hlt2; omega
        have hlt3 : j < t.length := by simpa using hlt3
        obtain ⟨a1, a2, a3, a4⟩ := cmb_step hw H rfl hlt2 hlt3 (show g < widN [l0, l1, l2, l3, l4] from hlt)
        have h8 := H.t1
        refine ⟨⟨by omega, by omega⟩, a1, a2, fun c => ?_, fun c => ⟨by simp only [fits]; omega, j + 1, hlt3, by omega, by simp, a4 (of_and0 c)⟩⟩
        obtain ⟨b1, b2, b3, b4⟩ := a3 (of_and1 c)
        exact ⟨of_and1 c, ⟨by omega, b1⟩, b2, b3, by simp only [fits]; omega, j + 1, hlt3, by omega, by simp, b4⟩
      · have hlt2 : i < List.length [l0, l1, l2, l3, l4] := by have := of_decide_eq_true hlt2; omega
        have hj : j ≤ t.length := hj
        have hge3 : ¬ j < t.length := by simpa using hge3
        have ej : j = t.length := by omega
        subst ej
        have h32 : List.length [l0, l1, l2, l3, l4] ≤ 32 := (show 5 ≤ 32 by decide)
        exact ⟨by simp only [room, tab_len]; omega, by simp only [fits]; omega, i + 1, hlt2, by omega, by simp, (tab_succ _ _).symm⟩
      · have hi : i ≤ List.length [l0, l1, l2, l3, l4] := hi
        have hge2 : ¬ (i : Int) < (List.length [l0, l1, l2, l3, l4] : Int) := of_decide_eq_false hge2
        have ei : i = List.length [l0, l1, l2, l3, l4] := by omega
        subst ei
        have e := col_flt [l0, l1, l2, l3, l4] t w g
        rw [show (tab (List.length [l0, l1, l2, l3, l4]) fun i => swTo (List.length [l0, l1, l2, l3, l4]) (lat (colN [l0, l1, l2, l3, l4] g)) t w i (List.length t)) = fltI (colN [l0, l1, l2, l3, l4] g) t w from e.symm]
        refine ⟨by rw [e, tab_len]; exact (show 5 ≤ 1000000 by decide), fun k => ?_, fun k => ?_⟩
        · have k : ¬ lgE (fltI (colN [l0, l1, l2, l3, l4] g) t w) = 0 := bneZ.1 k
          have kb : ¬ Bd 16384 (fltI (colN [l0, l1, l2, l3, l4] g) t w) := fun b => k (lgE_of b)
          obtain ⟨c1, c2⟩ := cmb_four h (cmbX_col hlt kb)
          rw [lgE_not kb, c2]
          exact ⟨c1, rfl⟩
        · have k : lgE (fltI (colN [l0, l1, l2, l3, l4] g) t w) = 0 := bneF.1 k
          have kb := lgE_zero.1 k
          have hs : smpsN (fltI (colN [l0, l1, l2, l3, l4] g) t w) = [smp (cmbV [l0, l1, l2, l3, l4] t w 0 g), smp (cmbV [l0, l1, l2, l3, l4] t w 1 g), smp (cmbV [l0, l1, l2, l3, l4] t w 2 g), smp (cmbV [l0, l1, l2, l3, l4] t w 3 g), smp (cmbV [l0, l1, l2, l3, l4] t w 4 g)] := by rw [smpsN_of kb, e, tab_map]; rfl
          rw [hs]
          refine ⟨⟨fun i => smp (cmbV [l0, l1, l2, l3, l4] t w i g), rfl, rfl⟩, fun z hz => ?_⟩
          simp only [List.cons.injEq, and_true] at hz
          obtain ⟨z0, z1, z2, z3, z4⟩ := hz
          simp only [fillTo_len, z0, z1, z2, z3, z4]
          exact ⟨by decide, by decide, by decide, by omega, by omega, by simp only [fits]; omega, by decide, by decide, by decide, by omega, by omega, by simp only [fits]; omega, by decide, by decide, by decide, by omega, by omega, by simp only [fits]; omega, by decide, by decide, by decide, by omega, by omega, by simp only [fits]; omega, by decide, by decide, by decide, by omega, by omega, by simp only [fits]; omega, by simp only [fits]; omega, g + 1, ⟨hlt, fun a ha => by
            rcases Nat.lt_succ_iff_lt_or_eq.1 ha with ha | rfl
            · exact hg.2 a ha
            · exact kb⟩, by omega, by simp, fillTo_set _ _ _ _, fillTo_set _ _ _ _, fillTo_set _ _ _ _, fillTo_set _ _ _ _, fillTo_set _ _ _ _⟩
    · have hge : ¬ (g : Int) < (widN [l0, l1, l2, l3, l4] : Int) := of_decide_eq_false hge
      have eg : g = widN [l0, l1, l2, l3, l4] := by omega
      have hx : cmbX [l0, l1, l2, l3, l4] t w = 0 := cmbX_cols fun a ha => hg.2 a (by omega)
      obtain ⟨c1, c2⟩ := cmb_ok h hx
      rw [c1, c2]
      refine ⟨?_, rfl⟩
      have fa : ∀ n, n = widN [l0, l1, l2, l3, l4] → ∀ f : Nat → Nat, fillTo 0 n f g = tab (widN [l0, l1, l2, l3, l4]) f := fun n hn f => by rw [hn, fillTo_all _ _ _ _ (by omega)]
      rw [fa _ w0, fa _ w1, fa _ w2, fa _ w3, fa _ w4]
      rfl
theorem fn1476 (f : Fld) (t : List Int) (w : Int) (hw : w = 1 ∨ w = -1) (hx : ¬ cmbB f t = 0) : Fn P1 gl1 147 [fldV f, .one (.sl (.int .i64) t), iV w] (.tup [.one (.sl lnT (cmbN f t w)), iV (cmbE f t w)]) false := by
  refine fn_of false [(38, sp38), (79, sp79), (95, sp95), (123, sp123), (158, sp158), (138, sp138)] [] h0 0 Proofs.Tryz.f147 ⟨so38, so79, so95, so123, so158, so138, trivial⟩ trivial (by kernel_rfl) rfl (by kernel_rfl) rfl rfl rfl ?_
  rw [vc1476]
  try simp only [splitB_iff, -eq_self]
  simp only [eq_self, true_and, and_true, and_self]
  exact ⟨by decide, fun h => cmb_bad (bneZ.1 h), fun h => absurd (bneF.1 h) hx⟩
theorem so147_ : SpecOk P1 gl1 147 sp147 := by
  intro vs ps r h hp
  simp only [sp147] at h
  split at h
  · rename_i f t w
    cases h
    have hw : w = 1 ∨ w = -1 := hp _ (.head _)
    have hl : List.length f ≤ 5 ∨ ¬ cmbB f t = 0 := hp _ (.tail _ (.head _))
    rcases hl with hl | hl
    rotate_left
    · exact fn1476 f t w hw hl
    match f, hl with
    | [], _ => exact fn1470 t w hw
    | [a], _ => exact fn1471 a t w hw
    | [a, b], _ => exact fn1472 a b t w hw
    | [a, b, c], _ => exact fn1473 a b c t w hw
    | [a, b, c, d], _ => exact fn1474 a b c d t w hw
    | [a, b, c, d, e], _ => exact fn1475 a b c d e t w hw
    | _ :: _ :: _ :: _ :: _ :: _ :: _, hl => simp only [List.length_cons] at hl; omega
  · cases h
theorem so147 : Sp1 147 sp147 := ⟨so147_, Proofs.Tryz.f147, _, by kernel_rfl, rfl, by kernel_rfl⟩
theorem fn80 (f : Fld) (t : List Int) (hl : f.length ≤ 5 ∨ ¬ cmbB f t = 0) : Fn P1 gl1 80 [fldV f, .one (.sl (.int .i64) t)] (.tup [fldV (cmbN f t 1), iV (cmbE f t 1)]) false := by
  refine fn_of false [(147, sp147)] [] h0 0 Proofs.Tryz.f80 ⟨so147, trivial⟩ trivial (by kernel_rfl) rfl (by kernel_rfl) rfl rfl rfl ?_
  rw [vc80]
  try simp only [splitB_iff, -eq_self]
  exact ⟨.inl rfl, hl, rfl, rfl, trivial⟩
theorem so80_ : SpecOk P1 gl1 80 sp80 := by
  intro vs ps r h hp
  simp only [sp80] at h
  split at h
  · cases h; exact fn80 _ _ (hp _ (.head _))
  · cases h
theorem so80 : Sp1 80 sp80 := ⟨so80_, Proofs.Tryz.f80, _, by kernel_rfl, rfl, by kernel_rfl⟩
theorem fn81 (f : Fld) (t : List Int) (hl : f.length ≤ 5 ∨ ¬ cmbB f t = 0) : Fn P1 gl1 81 [fldV f, .one (.sl (.int .i64) t)] (.tup [fldV (cmbN f t (-1)), iV (cmbE f t (-1))]) false := by
  refine fn_of false [(147, sp147)] [] h0 0 Proofs.Tryz.f81 ⟨so147, trivial⟩ trivial (by kernel_rfl) rfl (by kernel_rfl) rfl rfl rfl ?_
  rw [vc81]
  try simp only [splitB_iff, -eq_self]
  exact ⟨.inr rfl, hl, rfl, rfl, trivial⟩
theorem so81_ : SpecOk P1 gl1 81 sp81 := by
  intro vs ps r h hp
  simp only [sp81] at h
  split at h
  · cases h; exact fn81 _ _ (hp _ (.head _))
  · cases h
theorem so81 : Sp1 81 sp81 := ⟨so81_, Proofs.Tryz.f81, _, by kernel_rfl, rfl, by kernel_rfl⟩
end Go.Sx

/- Plain functions of the law Fields. -/
namespace Go.Sx.U
theorem panN_len {s : List Nat} : (panN s).length = if chkSig s = 0 then s.length / 4 else 0 := by
  unfold panN
  split
  · rw [tab_len]
  · rfl
end Go.Sx.U

/- Plain functions of composite: filters and their adjoints, panels of signals that repeat their cycles. -/
namespace Go.Sx.U
def sm : Nat → (Nat → Int) → Int
  | 0, _ => 0
  | n + 1, f => sm n f + f n
theorem sm_ext : ∀ {n : Nat} {f g : Nat → Int}, (∀ i, i < n → f i = g i) → sm n f = sm n g
  | 0, _, _, _ => rfl
  | n + 1, f, g, h => by rw [sm, sm, sm_ext fun i hi => h i (by omega), h n (by omega)]
theorem sm_zero : ∀ {n : Nat} {f : Nat → Int}, (∀ i, i < n → f i = 0) → sm n f = 0
  | 0, _, _ => rfl
  | n + 1, f, h => by rw [sm, sm_zero fun i hi => h i (by omega), h n (by omega)]; rfl
theorem sm_add (n : Nat) (f g : Nat → Int) : sm n (fun i => f i + g i) = sm n f + sm n g := by
  induction n with
  | zero => rfl
  | succ n ih => rw [sm, sm, sm, ih]; omega
theorem sm_mul (n : Nat) (f : Nat → Int) (c : Int) : sm n (fun i => f i * c) = sm n f * c := by
  induction n with
  | zero => simp [sm]
  | succ n ih => rw [sm, sm, ih, Int.add_mul]
theorem sm_mulL (n : Nat) (f : Nat → Int) (c : Int) : sm n (fun i => c * f i) = c * sm n f := by
  induction n with
  | zero => simp [sm]
  | succ n ih => rw [sm, sm, ih, Int.mul_add]
theorem sm_comm (n m : Nat) (f : Nat → Nat → Int) : sm n (fun i => sm m (fun j => f i j)) = sm m (fun j => sm n (fun i => f i j)) := by
  induction n with
  | zero => exact (sm_zero fun _ _ => rfl).symm
  | succ n ih =>
    rw [sm, ih, ← sm_add]
    rfl
theorem sm_point {n k : Nat} (h : k < n) (f : Nat → Int) : sm n (fun i => if i = k then f i else 0) = f k := by
  induction n with
  | zero => omega
  | succ n ih =>
    rw [sm]
    by_cases e : k = n
    · subst e
      rw [sm_zero fun i hi => by rw [if_neg (by omega)], if_pos rfl]; omega
    · rw [ih (by omega), if_neg (by omega)]; omega
theorem sm_shift (j : Nat) (F : Nat → Nat → Int) : ∀ N : Nat, sm N (fun i => if j ≤ i then F (i - j) i else 0) = sm N (fun i => if i + j < N then F i (i + j) else 0)
  | 0 => rfl
  | N + 1 => by
    rw [sm, sm_shift j F N]
    have e : sm (N + 1) (fun i => if i + j < N + 1 then F i (i + j) else 0) = sm (N + 1) (fun i => (if i + j < N then F i (i + j) else 0) + (if i + j = N then F i (i + j) else 0)) := by
      refine sm_ext fun i _ => ?_
      by_cases h1 : i + j < N
      · rw [if_pos (by omega), if_pos h1, if_neg (by omega)]; omega
      · by_cases h2 : i + j = N
        · rw [if_pos (by omega), if_neg h1, if_pos h2]; omega
        · rw [if_neg (by omega), if_neg h1, if_neg h2]; rfl
    rw [e, sm_add, sm, if_neg (show ¬ N + j < N by omega)]
    by_cases h : j ≤ N
    · rw [if_pos h]
      have e2 : sm (N + 1) (fun i => if i + j = N then F i (i + j) else 0) = sm (N + 1) (fun i => if i = N - j then F i (i + j) else 0) := by
        refine sm_ext fun i _ => ?_
        by_cases h3 : i + j = N
        · rw [if_pos h3, if_pos (by omega)]
        · rw [if_neg h3, if_neg (by omega)]
      rw [e2, sm_point (by omega), Nat.sub_add_cancel h]; omega
    · rw [if_neg h, sm_zero (n := N + 1) (f := fun i => if i + j = N then F i (i + j) else 0) fun i _ => by rw [if_neg (by omega)]]; omega
theorem swTo_sm (N : Nat) (L : Int → Int) (t : List Int) (w : Int) (i : Nat) : ∀ j : Nat, swTo N L t w i j = sm j (fun q => if 0 ≤ (i : Int) - w * q ∧ (i : Int) - w * q < N then List.getD t q 0 * L ((i : Int) - w * q) else 0)
  | 0 => rfl
  | j + 1 => by
    rw [swTo, sm, swTo_sm N L t w i j]
    split <;> omega
theorem adjoint (x y t : List Int) (N T : Nat) : sm N (fun i => swTo N (lat x) t 1 i T * List.getD y i 0) = sm N (fun i => List.getD x i 0 * swTo N (lat y) t (-1) i T) := by
  have e1 : sm N (fun i => swTo N (lat x) t 1 i T * List.getD y i 0) = sm T (fun j => sm N (fun i => if j ≤ i then List.getD t j 0 * List.getD x (i - j) 0 * List.getD y i 0 else 0)) := by
    rw [← sm_comm]
    refine sm_ext fun i hi => ?_
    rw [swTo_sm, ← sm_mul]
    refine sm_ext fun j _ => ?_
    by_cases h : j ≤ i
    · rw [if_pos (by omega), if_pos h]
      unfold lat
      rw [show ((i : Int) - 1 * j).toNat = i - j by omega]
    · rw [if_neg (by omega), if_neg h, Int.zero_mul]
  have e2 : sm N (fun i => List.getD x i 0 * swTo N (lat y) t (-1) i T) = sm T (fun j => sm N (fun i => if i + j < N then List.getD t j 0 * List.getD x i 0 * List.getD y (i + j) 0 else 0)) := by
    rw [← sm_comm]
    refine sm_ext fun i hi => ?_
    rw [swTo_sm, ← sm_mulL]
    refine sm_ext fun j _ => ?_
    by_cases h : i + j < N
    · rw [if_pos (by omega), if_pos h]
      unfold lat
      rw [show ((i : Int) - -1 * j).toNat = i + j by omega, ← Int.mul_assoc, Int.mul_comm (List.getD x i 0)]
    · rw [if_neg (by omega), if_neg h, Int.mul_zero]
  rw [e1, e2]
  exact sm_ext fun j _ => sm_shift j (fun p q => List.getD t j 0 * List.getD x p 0 * List.getD y q 0) N
theorem adjoint2 (f g : Fld) (t : List Int) (W : Nat) (hl : f.length = g.length) :
    sm f.length (fun i => sm W (fun a => cmbV f t 1 i a * List.getD (sixs (List.getD g i [])) a 0)) = sm f.length (fun i => sm W (fun a => List.getD (sixs (List.getD f i [])) a 0 * cmbV g t (-1) i a)) := by
  rw [sm_comm, sm_comm f.length W (fun i a => List.getD (sixs (List.getD f i [])) a 0 * cmbV g t (-1) i a)]
  refine sm_ext fun a _ => ?_
  have := adjoint (colN f a) (colN g a) t f.length t.length
  simp only [colN_get] at this
  unfold cmbV
  rw [← hl]
  exact this
def gm (a b : Int × Int) : Int × Int := (a.1 * b.1 - a.2 * b.2, a.1 * b.2 + a.2 * b.1)
def cyV (x t : List Int) (r : Nat) (T : Nat) : Int := sm T fun j => List.getD t j 0 * List.getD x ((r + 3 * j) % 4) 0
def cyL (x t : List Int) (T : Nat) : List Int := tab 4 fun r => cyV x t r T
theorem cy_val {x t : List Int} {T n : Nat} (hx : x.length = 4) (hT : T ≤ 8) (h : 8 ≤ n ∧ n < 16) : swTo 16 (lat (x ++ x ++ x ++ x)) t 1 n T = cyV x t (n % 4) T := by
  rw [swTo_sm]
  unfold cyV
  refine sm_ext fun j hj => ?_
  rw [if_pos (by omega)]
  unfold lat
  rw [show ((n : Int) - 1 * j).toNat = n - j by omega]
  have key : ∀ m : Nat, m < 16 → List.getD (x ++ x ++ x ++ x) m 0 = List.getD x (m % 4) 0 := by
    intro m hm
    match x, hx with
    | [p, q, r, s], _ =>
      have : m = 0 ∨ m = 1 ∨ m = 2 ∨ m = 3 ∨ m = 4 ∨ m = 5 ∨ m = 6 ∨ m = 7 ∨ m = 8 ∨ m = 9 ∨ m = 10 ∨ m = 11 ∨ m = 12 ∨ m = 13 ∨ m = 14 ∨ m = 15 := by omega
      rcases this with rfl | rfl | rfl | rfl | rfl | rfl | rfl | rfl | rfl | rfl | rfl | rfl | rfl | rfl | rfl | rfl <;> rfl
  rw [key _ (by omega), show (n - j) % 4 = (n % 4 + 3 * j) % 4 by omega]
theorem qu_four (l : List Int) (h : l.length = 4) (k : Nat) : qu l k = (List.getD l 0 0 * (pw (k * 0)).1 + List.getD l 1 0 * (pw (k * 1)).1 + List.getD l 2 0 * (pw (k * 2)).1 + List.getD l 3 0 * (pw (k * 3)).1,
    List.getD l 0 0 * (pw (k * 0)).2 + List.getD l 1 0 * (pw (k * 1)).2 + List.getD l 2 0 * (pw (k * 2)).2 + List.getD l 3 0 * (pw (k * 3)).2) := by
  unfold qu
  rw [h]
  simp only [quTo, Int.zero_add]
theorem pw_mod (n : Nat) : pw n = pw (n % 4) := by unfold pw; rw [Nat.mod_mod]
theorem cy_qu {x t : List Int} (hx : x.length = 4) {k : Nat} (hk : k < 4) : ∀ T : Nat, qu (cyL x t T) k = gm (qu x k) (quTo t k T)
  | 0 => by
    rw [qu_four _ (by unfold cyL; rw [tab_len])]
    unfold cyL cyV
    simp only [tab_get (show 0 < 4 by decide), tab_get (show 1 < 4 by decide), tab_get (show 2 < 4 by decide), tab_get (show 3 < 4 by decide), sm, quTo, gm]
    simp
  | T + 1 => by
    have ih := cy_qu (t := t) hx hk T
    rw [qu_four _ (by unfold cyL; rw [tab_len]), qu_four x hx] at ih ⊢
    unfold cyL cyV at ih ⊢
    simp only [tab_get (show 0 < 4 by decide), tab_get (show 1 < 4 by decide), tab_get (show 2 < 4 by decide), tab_get (show 3 < 4 by decide), sm, quTo, gm] at ih ⊢
    generalize sm T (fun j => List.getD t j 0 * List.getD x ((0 + 3 * j) % 4) 0) = s0 at ih ⊢
    generalize sm T (fun j => List.getD t j 0 * List.getD x ((1 + 3 * j) % 4) 0) = s1 at ih ⊢
    generalize sm T (fun j => List.getD t j 0 * List.getD x ((2 + 3 * j) % 4) 0) = s2 at ih ⊢
    generalize sm T (fun j => List.getD t j 0 * List.getD x ((3 + 3 * j) % 4) 0) = s3 at ih ⊢
    generalize List.getD t T 0 = u
    generalize quTo t k T = q at ih ⊢
    obtain ⟨q1, q2⟩ := q
    match x, hx with
    | [a, b, c, d], _ =>
      have hm : T % 4 < 4 := Nat.mod_lt _ (by decide)
      rw [pw_mod (k * T), Nat.mul_mod, show (0 + 3 * T) % 4 = (0 + 3 * (T % 4)) % 4 by omega, show (1 + 3 * T) % 4 = (1 + 3 * (T % 4)) % 4 by omega, show (2 + 3 * T) % 4 = (2 + 3 * (T % 4)) % 4 by omega, show (3 + 3 * T) % 4 = (3 + 3 * (T % 4)) % 4 by omega]
      generalize T % 4 = m at hm
      have h1 : k = 0 ∨ k = 1 ∨ k = 2 ∨ k = 3 := by omega
      have h2 : m = 0 ∨ m = 1 ∨ m = 2 ∨ m = 3 := by omega
      rcases h1 with rfl | rfl | rfl | rfl <;> rcases h2 with rfl | rfl | rfl | rfl <;>
        (simp only [List.getD_cons_zero, List.getD_cons_succ, pw, Nat.reduceMul, Nat.reduceMod, Nat.reduceAdd, Nat.zero_mul, Nat.mul_zero, Prod.mk.injEq] at ih ⊢
         obtain ⟨i1, i2⟩ := ih
         constructor <;> (simp only [Int.mul_one, Int.one_mul, Int.mul_zero, Int.zero_mul, Int.mul_neg, Int.add_zero, Int.zero_add, Int.sub_zero, Int.neg_neg, Int.add_mul, Int.mul_add, Int.mul_sub, Int.sub_mul, Int.neg_mul, Int.mul_comm u] at i1 i2 ⊢; omega))
end Go.Sx.U

/- Plain functions of composite: the signals of the law of adjoints. -/
namespace Go.Sx.U
def avI (A : List (List Int)) (i k : Nat) : Int := Int.tmod (List.getD (List.getD A i []) k 0) 33
def avS (A : List (List Int)) (i k : Nat) : Nat := smp (avI A i k)
def avR (A : List (List Int)) (i q : Nat) : List Nat := tab q (avS A i)
def avF (A : List (List Int)) (g : Nat) : Fld := tab g fun i => avR A i 4
def avX (A : List (List Int)) (g : Nat) : List Nat := tab (4 * g) fun n => avS A (n / 4) (n % 4)
def tpL (T : List Int) (g : Nat) : List Int := tab g fun j => Int.tmod (List.getD T j 0) 10
def prT (a b : List Nat) (g : Nat) : Int := sm g fun i => six (List.getD a i 0) * six (List.getD b i 0)
def prS (a b : List Nat) : Int := if a.length = b.length then prT a b a.length else 0
def prF (a b : Fld) (g : Nat) : Int := sm g fun i => prS (List.getD a i []) (List.getD b i [])
theorem tmod_abs (n : Int) {m : Nat} (hm : 0 < m) : -((m : Int) - 1) ≤ Int.tmod n m ∧ Int.tmod n m ≤ (m : Int) - 1 := by
  have h1 : (Int.tmod n m).natAbs = n.natAbs % m := Int.natAbs_tmod n m
  have h2 := Nat.mod_lt n.natAbs hm
  omega
theorem avI_bd (A : List (List Int)) (i k : Nat) : -32 ≤ avI A i k ∧ avI A i k ≤ 32 := by
  have : -32 ≤ Int.tmod (List.getD (List.getD A i []) k 0) 33 ∧ Int.tmod (List.getD (List.getD A i []) k 0) 33 ≤ 32 := tmod_abs _ (m := 33) (by decide)
  exact this
theorem avS_ok (A : List (List Int)) (i k : Nat) : chkS (avS A i k) = 0 ∧ six (avS A i k) = avI A i k := by
  have := avI_bd A i k
  exact ⟨chk_smp (by omega) (by omega), six_smp (by omega)⟩
theorem oks_tab {n : Nat} {f : Nat → Nat} (h : ∀ i, i < n → chkS (f i) = 0) : OkS (tab n f) := by
  intro b hb
  unfold tab at hb
  obtain ⟨i, hi, rfl⟩ := List.mem_map.1 hb
  exact h i (List.mem_range.1 hi)
theorem avX_ok (A : List (List Int)) (g : Nat) : OkS (avX A g) := oks_tab fun _ _ => (avS_ok _ _ _).1
theorem avR_ok (A : List (List Int)) (i q : Nat) : OkS (avR A i q) := oks_tab fun _ _ => (avS_ok _ _ _).1
theorem avX_sx (A : List (List Int)) (g : Nat) : sixs (avX A g) = tab (4 * g) fun n => avI A (n / 4) (n % 4) := by
  unfold avX sixs
  rw [tab_map]
  exact tab_ext fun _ _ => (avS_ok _ _ _).2
theorem avR_sx (A : List (List Int)) (i q : Nat) : sixs (avR A i q) = tab q (avI A i) := by
  unfold avR sixs
  rw [tab_map]
  exact tab_ext fun _ _ => (avS_ok _ _ _).2
theorem avX_len (A : List (List Int)) (g : Nat) : (avX A g).length = 4 * g := tab_len _ _
theorem avR_len (A : List (List Int)) (i q : Nat) : (avR A i q).length = q := tab_len _ _
theorem avF_len (A : List (List Int)) (g : Nat) : (avF A g).length = g := tab_len _ _
theorem avX_next (A : List (List Int)) (g : Nat) : avX A g ++ avR A g 4 = avX A (g + 1) := by
  have e := tab_four g (fun n => avS A (n / 4) (n % 4))
  unfold avX
  rw [← e]
  congr 1
  show [avS A g 0, avS A g 1, avS A g 2, avS A g 3] = _
  rw [show (4 * g) / 4 = g by omega, show (4 * g + 1) / 4 = g by omega, show (4 * g + 2) / 4 = g by omega, show (4 * g + 3) / 4 = g by omega, show (4 * g) % 4 = 0 by omega, show (4 * g + 1) % 4 = 1 by omega, show (4 * g + 2) % 4 = 2 by omega, show (4 * g + 3) % 4 = 3 by omega]
theorem tp_bd (T : List Int) (g : Nat) : Bd 9 (tpL T g) := bd_tab fun j _ => by
  have : -9 ≤ Int.tmod (List.getD T j 0) 10 ∧ Int.tmod (List.getD T j 0) 10 ≤ 9 := tmod_abs _ (m := 10) (by decide)
  exact this
theorem tp_len (T : List Int) (g : Nat) : (tpL T g).length = g := tab_len _ _
theorem tp_chk {T : List Int} {g : Nat} (h : 1 ≤ g ∧ g ≤ 8) : chkTap (tpL T g) = 0 := chkTap_zero.2 ⟨by rw [tp_len]; omega, by rw [tp_len]; omega, bd_le (tp_bd T g) (by omega)⟩
theorem swTo_bd9 {n : Nat} {L : Int → Int} {t : List Int} {w : Int} (hL : ∀ k, -32 ≤ L k ∧ L k ≤ 32) (ht : Bd 9 t) (i : Nat) : ∀ j : Nat, -((j : Int) * 288) ≤ swTo n L t w i j ∧ swTo n L t w i j ≤ (j : Int) * 288
  | 0 => by simp [swTo]
  | j + 1 => by
    have ih := swTo_bd9 (n := n) (w := w) hL ht i j
    have hb := mul_bd (bd_get ht (i := j) (by omega)) (hL ((i : Int) - w * j))
    unfold swTo
    generalize List.getD t j 0 * L ((i : Int) - w * j) = p at *
    split <;> omega
theorem flt_all {x : List Nat} {t : List Int} {w : Int} (hx : chkSig x = 0) (hb : Bd 32 (sixs x)) (ht : chkTap t = 0) (h9 : Bd 9 t) :
    fltE x t w = 0 ∧ fltN x t w = (fltI (sixs x) t w).map smp ∧ Bd 2304 (fltI (sixs x) t w) := by
  have h8 := (chkTap_zero.1 ht).2.1
  have hB : Bd 2304 (fltI (sixs x) t w) := by
    unfold fltI
    refine bd_tab fun i _ => ?_
    have := swTo_bd9 (n := (sixs x).length) (w := w) (lat_bd hb (by omega)) h9 i t.length
    omega
  have hz : fltB x t = 0 := first_zero.2 fun n hn => by
    rcases hn with _ | ⟨_, _ | ⟨_, hn⟩⟩
    · exact hx
    · exact ht
    · cases hn
  have h16 := bd_le hB (show (2304 : Int) ≤ 16384 by decide)
  refine ⟨?_, ?_, hB⟩
  · unfold fltE; rw [if_pos hz]; exact lgE_of h16
  · unfold fltN; rw [if_pos hz]; exact smpsN_of h16
theorem avX_sig (A : List (List Int)) : chkSig (avX A 4) = 0 := chkSig_zero.2 ⟨by rw [avX_len]; omega, by rw [avX_len], avX_ok A 4⟩
theorem avX_bd (A : List (List Int)) (g : Nat) : Bd 32 (sixs (avX A g)) := by rw [avX_sx]; exact bd_tab fun _ _ => avI_bd _ _ _
theorem avR_bd (A : List (List Int)) (i q : Nat) : Bd 32 (sixs (avR A i q)) := by rw [avR_sx]; exact bd_tab fun _ _ => avI_bd _ _ _
theorem prT_sx (a b : List Nat) (g : Nat) : prT a b g = sm g fun i => List.getD (sixs a) i 0 * List.getD (sixs b) i 0 := by
  unfold prT
  exact sm_ext fun i _ => by rw [sixs_get, sixs_get]
theorem prT_bd {a b : List Nat} {x y : Int} (ha : Bd x (sixs a)) (hb : Bd y (sixs b)) (hx : 0 ≤ x) (hy : 0 ≤ y) : ∀ g : Nat, -((g : Int) * (x * y)) ≤ prT a b g ∧ prT a b g ≤ (g : Int) * (x * y)
  | 0 => by simp [prT, sm]
  | g + 1 => by
    have ih := prT_bd ha hb hx hy g
    have h1 := bd_get ha (i := g) hx
    have h2 := bd_get hb (i := g) hy
    rw [sixs_get] at h1 h2
    have hm := mul_bd h1 h2
    have e : ((g + 1 : Nat) : Int) * (x * y) = (g : Int) * (x * y) + x * y := by rw [Int.natCast_add, Int.add_mul]; simp
    rw [e]
    show _ ≤ prT a b g + six (List.getD a g 0) * six (List.getD b g 0) ∧ prT a b g + six (List.getD a g 0) * six (List.getD b g 0) ≤ _
    generalize (g : Int) * (x * y) = m at *
    generalize x * y = q at *
    generalize six (List.getD a g 0) * six (List.getD b g 0) = r at *
    omega
theorem adj_line {A B : List (List Int)} {t : List Int} (ht : chkTap t = 0) (h9 : Bd 9 t) {p r : List Nat} (hp : p = fltN (avX A 4) t 1) (hr : r = fltN (avX B 4) t (-1)) :
    fltE (avX A 4) t 1 = 0 ∧ fltE (avX B 4) t (-1) = 0 ∧ OkS p ∧ OkS r ∧ p.length = 16 ∧ r.length = 16 ∧ prS p (avX B 4) = prS (avX A 4) r := by
  obtain ⟨a1, a2, a3⟩ := flt_all (w := 1) (avX_sig A) (avX_bd A 4) ht h9
  obtain ⟨b1, b2, b3⟩ := flt_all (w := -1) (avX_sig B) (avX_bd B 4) ht h9
  have a4 := bd_le a3 (show (2304 : Int) ≤ 16384 by decide)
  have b4 := bd_le b3 (show (2304 : Int) ≤ 16384 by decide)
  rw [a2] at hp
  rw [b2] at hr
  have lp : p.length = 16 := by rw [hp, List.length_map, fltI_len, sixs_len, avX_len]
  have lr : r.length = 16 := by rw [hr, List.length_map, fltI_len, sixs_len, avX_len]
  have sp : sixs p = fltI (sixs (avX A 4)) t 1 := by rw [hp]; exact six_smps a4
  have sr : sixs r = fltI (sixs (avX B 4)) t (-1) := by rw [hr]; exact six_smps b4
  refine ⟨a1, b1, by rw [hp]; exact smp_ok a4, by rw [hr]; exact smp_ok b4, lp, lr, ?_⟩
  unfold prS
  rw [lp, lr, avX_len, avX_len, if_pos rfl, if_pos rfl, prT_sx, prT_sx, sp, sr]
  have h16 : ∀ C : List (List Int), (sixs (avX C 4)).length = 16 := fun C => by rw [sixs_len, avX_len]
  have := adjoint (sixs (avX A 4)) (sixs (avX B 4)) t 16 t.length
  refine (sm_ext fun i hi => ?_).trans (this.trans (sm_ext fun i hi => ?_))
  · congr 1
    unfold fltI
    rw [h16, tab_get hi]
  · congr 1
    unfold fltI
    rw [h16, tab_get hi]
theorem avF_get (A : List (List Int)) {i : Nat} (h : i < 4) : List.getD (avF A 4) i [] = avR A i 4 := tab_get h
theorem avF_wid (A : List (List Int)) : widN (avF A 4) = 4 := by unfold widN; rw [avF_get A (by decide), avR_len]
theorem avF_mem {A : List (List Int)} {g : Nat} {x : List Nat} (h : x ∈ avF A g) : x.length = 4 ∧ OkS x := by
  unfold avF tab at h
  obtain ⟨i, _, rfl⟩ := List.mem_map.1 h
  exact ⟨avR_len _ _ _, avR_ok _ _ _⟩
theorem avF_ok {A : List (List Int)} {t : List Int} (ht : chkTap t = 0) : FldOk (avF A 4) t := by
  obtain ⟨t0, t1, t2⟩ := chkTap_zero.1 ht
  refine ⟨by rw [avF_len]; decide, fun i hi => ?_, fun i hi => ?_, t0, t1, t2⟩
  · rw [avF_len] at hi
    rw [avF_get A hi]
    exact ⟨by rw [avR_len]; decide, by rw [avR_len], avR_ok _ _ _⟩
  · rw [avF_len] at hi
    rw [avF_get A hi, avF_wid, avR_len]
theorem avF_val {A : List (List Int)} {t : List Int} {w : Int} (h8 : t.length ≤ 8) (h9 : Bd 9 t) (i a : Nat) : -2304 ≤ cmbV (avF A 4) t w i a ∧ cmbV (avF A 4) t w i a ≤ 2304 := by
  have hc : Bd 32 (colN (avF A 4) a) := by
    intro n hn
    unfold colN avF tab at hn
    rw [List.map_map] at hn
    obtain ⟨k, _, rfl⟩ := List.mem_map.1 hn
    exact bd_get (avR_bd A k 4) (by omega)
  have := swTo_bd9 (n := (avF A 4).length) (w := w) (lat_bd hc (by omega)) h9 i t.length
  unfold cmbV
  omega
theorem cmb_av {A : List (List Int)} {t : List Int} {w : Int} (ht : chkTap t = 0) (h9 : Bd 9 t) : cmbE (avF A 4) t w = 0 ∧ cmbN (avF A 4) t w = tab 4 fun i => tab 4 fun a => smp (cmbV (avF A 4) t w i a) := by
  have h8 := (chkTap_zero.1 ht).2.1
  have hx : cmbX (avF A 4) t w = 0 := cmbX_zero.2 fun i _ a _ => by have := avF_val (A := A) (w := w) h8 h9 i a; omega
  obtain ⟨c1, c2⟩ := cmb_ok (cmbB_zero.2 (avF_ok ht)) hx
  refine ⟨c2, c1.trans ?_⟩
  unfold cmbS
  rw [avF_len, avF_wid]
theorem cmb_row {A : List (List Int)} {t : List Int} {w : Int} (ht : chkTap t = 0) (h9 : Bd 9 t) {m : Fld} (hm : m = cmbN (avF A 4) t w) :
    m.length = 4 ∧ ∀ i, i < 4 → (List.getD m i []).length = 4 ∧ OkS (List.getD m i []) ∧ sixs (List.getD m i []) = tab 4 (cmbV (avF A 4) t w i) := by
  have h8 := (chkTap_zero.1 ht).2.1
  rw [(cmb_av ht h9).2] at hm
  subst hm
  refine ⟨tab_len _ _, fun i hi => ?_⟩
  rw [tab_get hi]
  have hb : Bd 16384 (tab 4 (cmbV (avF A 4) t w i)) := bd_tab fun a _ => by have := avF_val (A := A) (w := w) h8 h9 i a; omega
  have e : (tab 4 fun a => smp (cmbV (avF A 4) t w i a)) = (tab 4 (cmbV (avF A 4) t w i)).map smp := (tab_map _ _ _).symm
  rw [e]
  exact ⟨by rw [List.length_map, tab_len], smp_ok hb, six_smps hb⟩
theorem adj_field {A B : List (List Int)} {t : List Int} (ht : chkTap t = 0) (h9 : Bd 9 t) {m n : Fld} (hm : m = cmbN (avF A 4) t 1) (hn : n = cmbN (avF B 4) t (-1)) :
    prF m (avF B 4) 4 = prF (avF A 4) n 4 := by
  obtain ⟨_, m1⟩ := cmb_row ht h9 hm
  obtain ⟨_, n1⟩ := cmb_row ht h9 hn
  have := adjoint2 (avF A 4) (avF B 4) t 4 (by rw [avF_len, avF_len])
  rw [avF_len] at this
  unfold prF
  refine (sm_ext fun i hi => ?_).trans (this.trans (sm_ext fun i hi => ?_))
  · obtain ⟨l1, _, s1⟩ := m1 i hi
    unfold prS
    rw [l1, avF_get B hi, avR_len, if_pos rfl, prT_sx, s1]
    exact sm_ext fun a ha => by rw [tab_get ha]
  · obtain ⟨l1, _, s1⟩ := n1 i hi
    unfold prS
    rw [l1, avF_get A hi, avR_len, if_pos rfl, prT_sx, s1]
    exact sm_ext fun a ha => by rw [tab_get ha]
theorem prS_bd {a b : List Nat} {x y : Int} (ha : Bd x (sixs a)) (hb : Bd y (sixs b)) (hx : 0 ≤ x) (hy : 0 ≤ y) (hl : a.length ≤ 16) (hxy : x * y ≤ 268435456) : -4294967296 ≤ prS a b ∧ prS a b ≤ 4294967296 := by
  unfold prS
  have := prT_bd ha hb hx hy a.length
  have h0 := Int.mul_nonneg hx hy
  have h2 : (a.length : Int) * (x * y) ≤ 16 * 268435456 := Int.le_trans (Int.mul_le_mul_of_nonneg_right (by omega) h0) (Int.mul_le_mul_of_nonneg_left hxy (by omega))
  split <;> omega
theorem prF_bd {a b : Fld} {n : Nat} (h : ∀ i, i < n → -4294967296 ≤ prS (List.getD a i []) (List.getD b i []) ∧ prS (List.getD a i []) (List.getD b i []) ≤ 4294967296) : ∀ g : Nat, g ≤ n → -((g : Int) * 4294967296) ≤ prF a b g ∧ prF a b g ≤ (g : Int) * 4294967296
  | 0, _ => by simp [prF, sm]
  | g + 1, hg => by
    have ih := prF_bd h g (by omega)
    have := h g (by omega)
    show _ ≤ prF a b g + prS (List.getD a g []) (List.getD b g []) ∧ prF a b g + prS (List.getD a g []) (List.getD b g []) ≤ _
    omega
def agN (A : List (List Int)) : List Nat := avR A 0 4 ++ avR A 0 4 ++ avR A 0 4 ++ avR A 0 4
theorem agN_len (A : List (List Int)) : (agN A).length = 16 := by unfold agN; simp only [List.length_append, avR_len]
theorem agN_ok (A : List (List Int)) : OkS (agN A) := by
  intro b hb
  unfold agN at hb
  simp only [List.mem_append] at hb
  rcases hb with ((h | h) | h) | h <;> exact avR_ok A 0 4 b h
theorem agN_sx (A : List (List Int)) : sixs (agN A) = tab 4 (avI A 0) ++ tab 4 (avI A 0) ++ tab 4 (avI A 0) ++ tab 4 (avI A 0) := by
  rw [← avR_sx A 0 4]
  unfold agN sixs
  simp only [List.map_append]
theorem agN_bd (A : List (List Int)) : Bd 32 (sixs (agN A)) := by
  rw [agN_sx]
  intro n hn
  have hb := avR_bd A 0 4
  rw [avR_sx] at hb
  simp only [List.mem_append] at hn
  rcases hn with ((h | h) | h) | h <;> exact hb n h
theorem ag_flt {A : List (List Int)} {t : List Int} (ht : chkTap t = 0) (h9 : Bd 9 t) {z : List Nat} (hz : z = fltN (agN A) t 1) :
    fltE (agN A) t 1 = 0 ∧ chkSig z = 0 ∧ z.length = 16 ∧ sixs z = fltI (sixs (agN A)) t 1 := by
  have hs : chkSig (agN A) = 0 := chkSig_zero.2 ⟨by rw [agN_len]; decide, by rw [agN_len], agN_ok A⟩
  obtain ⟨a1, a2, a3⟩ := flt_all (w := 1) hs (agN_bd A) ht h9
  have a4 := bd_le a3 (show (2304 : Int) ≤ 16384 by decide)
  rw [a2] at hz
  have lz : z.length = 16 := by rw [hz, List.length_map, fltI_len, sixs_len, agN_len]
  refine ⟨a1, chkSig_zero.2 ⟨by rw [lz]; decide, by rw [lz], by rw [hz]; exact smp_ok a4⟩, lz, by rw [hz]; exact six_smps a4⟩
theorem ag_cyc {A : List (List Int)} {t : List Int} (ht : chkTap t = 0) {c : Nat} (hc : c = 2 ∨ c = 3) : List.take 4 (List.drop (4 * c) (fltI (sixs (agN A)) t 1)) = cyL (tab 4 (avI A 0)) t t.length := by
  have h8 := (chkTap_zero.1 ht).2.1
  have hl : (fltI (sixs (agN A)) t 1).length = 16 := by rw [fltI_len, sixs_len, agN_len]
  unfold cyL
  refine List.ext_getElem (by rw [List.length_take, List.length_drop, hl, tab_len]; omega) fun r h1 h2 => ?_
  rw [tab_len] at h2
  rw [List.getElem_take, List.getElem_drop, tab_getElem, ← getD_of (d := 0) (by rw [hl]; omega)]
  have hlen : (sixs (agN A)).length = 16 := by rw [sixs_len, agN_len]
  unfold fltI
  rw [hlen, tab_get (show 4 * c + r < 16 by omega), agN_sx, cy_val (tab_len _ _) h8 (by omega), show (4 * c + r) % 4 = r by omega]
theorem pan_conv {l : List Int} {B : Int} (hl : l.length = 4) (hb : Bd B l) (hB : 0 ≤ B ∧ B ≤ 100000) (k : Nat) :
    (∃ y, convF .f32 .f64 (smp (qu l k).1) = some y ∧ isD y (qu l k).1) ∧ (∃ y, convF .f32 .f64 (smp (qu l k).2) = some y ∧ isD y (qu l k).2) ∧ (-(4 * B) ≤ (qu l k).1 ∧ (qu l k).1 ≤ 4 * B) ∧ (-(4 * B) ≤ (qu l k).2 ∧ (qu l k).2 ≤ 4 * B) := by
  have h := quTo_bd hb hB.1 k l.length
  have e : quTo l k l.length = qu l k := rfl
  rw [e, hl] at h
  refine ⟨conv_d (isS_smp (by omega)), conv_d (isS_smp (by omega)), ?_, ?_⟩ <;> omega
theorem cy_bd {A : List (List Int)} {t : List Int} (h8 : t.length ≤ 8) (h9 : Bd 9 t) : Bd 2304 (cyL (tab 4 (avI A 0)) t t.length) := by
  unfold cyL
  refine bd_tab fun r _ => ?_
  have key : ∀ T : Nat, -((T : Int) * 288) ≤ cyV (tab 4 (avI A 0)) t r T ∧ cyV (tab 4 (avI A 0)) t r T ≤ (T : Int) * 288 := by
    intro T
    induction T with
    | zero => simp [cyV, sm]
    | succ T ih =>
      have h1 := bd_get h9 (i := T) (by omega)
      have h2 : -32 ≤ List.getD (tab 4 (avI A 0)) ((r + 3 * T) % 4) 0 ∧ List.getD (tab 4 (avI A 0)) ((r + 3 * T) % 4) 0 ≤ 32 := bd_get (B := 32) (bd_tab fun _ _ => avI_bd _ _ _) (by omega)
      have hm := mul_bd h1 h2
      show _ ≤ cyV (tab 4 (avI A 0)) t r T + List.getD t T 0 * List.getD (tab 4 (avI A 0)) ((r + 3 * T) % 4) 0 ∧ cyV (tab 4 (avI A 0)) t r T + List.getD t T 0 * List.getD (tab 4 (avI A 0)) ((r + 3 * T) % 4) 0 ≤ _
      generalize List.getD t T 0 * List.getD (tab 4 (avI A 0)) ((r + 3 * T) % 4) 0 = q at *
      omega
  have := key t.length
  omega
theorem pan_resp {A : List (List Int)} {t : List Int} (ht : chkTap t = 0) (h9 : Bd 9 t) {k : Nat} (hk : k < 4) :
    ∃ z, (∃ a b, convF .f32 .f64 (smp (qu (tab 4 (avI A 0)) k).1) = some a ∧ convF .f32 .f64 (smp (qu (tab 4 (avI A 0)) k).2) = some b ∧ cmulF a b (rsC (qu t k)).1 (rsC (qu t k)).2 = some z) ∧
      ∃ c d, convF .f32 .f64 (smp (qu (cyL (tab 4 (avI A 0)) t t.length) k).1) = some c ∧ convF .f32 .f64 (smp (qu (cyL (tab 4 (avI A 0)) t t.length) k).2) = some d ∧ Op.floatEq .f64 c z.1 = true ∧ Op.floatEq .f64 d z.2 = true := by
  have h8 := (chkTap_zero.1 ht).2.1
  obtain ⟨⟨a, a1, a2⟩, ⟨b, b1, b2⟩, p1, p2⟩ := pan_conv (l := tab 4 (avI A 0)) (B := 32) (tab_len _ _) (bd_tab fun _ _ => avI_bd _ _ _) (by omega) k
  obtain ⟨⟨c, c1, c2⟩, ⟨d, d1, d2⟩, _, _⟩ := pan_conv (l := cyL (tab 4 (avI A 0)) t t.length) (B := 2304) (by unfold cyL; exact tab_len _ _) (cy_bd h8 h9) (by omega) k
  have hq := quTo_bd h9 (by omega) k t.length
  have e : quTo t k t.length = qu t k := rfl
  rw [e] at hq
  have q1 : -72 ≤ (qu t k).1 ∧ (qu t k).1 ≤ 72 := by omega
  have q2 : -72 ≤ (qu t k).2 ∧ (qu t k).2 ≤ 72 := by omega
  have hg : qu (cyL (tab 4 (avI A 0)) t t.length) k = gm (qu (tab 4 (avI A 0)) k) (qu t k) := cy_qu (tab_len _ _) hk t.length
  have m1 := mul_bd (A := 128) (B := 72) (by omega) q1 (a := (qu (tab 4 (avI A 0)) k).1)
  have m2 := mul_bd (A := 128) (B := 72) (by omega) q2 (a := (qu (tab 4 (avI A 0)) k).2)
  have m3 := mul_bd (A := 128) (B := 72) (by omega) q2 (a := (qu (tab 4 (avI A 0)) k).1)
  have m4 := mul_bd (A := 128) (B := 72) (by omega) q1 (a := (qu (tab 4 (avI A 0)) k).2)
  obtain ⟨z, z1, z2, z3⟩ := cmul_d a2 b2 (isD_int (n := (qu t k).1) (by omega)) (isD_int (n := (qu t k).2) (by omega)) (by omega) (by omega) (by omega) (by omega)
  refine ⟨z, ⟨a, b, a1, b1, z1⟩, c, d, c1, d1, ?_, ?_⟩
  · rw [eq_d c2 z2, hg]
    exact decide_eq_true rfl
  · rw [eq_d d2 z3, hg]
    exact decide_eq_true rfl
end Go.Sx.U

/- Plain functions and hints. -/
namespace Go.Sx
open U
abbrev pnT : Ty := .arr 4 (.cpx .f32)
def arrM (s : St) (t : Nat) : Option (List (List Int)) := match lookT s.tm t with
  | some (.val (.agg [.arr 4 (.arr 4 (.int .i8)) A])) => some A
  | _ => none
@[reducible] def obA (i : Nat) (A : List (List Int)) : Nat × Option AObj := (i, some (.box [.arr 4 (.arr 4 (.int .i8)) A]))
def boxR (s : St) (t : Nat) : Option (Nat × List (Nat × Nat)) := match lookT s.tm t with
  | some (.val (.one (.ptr id 0))) => match lookO s.ob id with
    | some (.box [.arr 4 (.cpx .f64) R]) => some (id, R)
    | _ => none
  | _ => none
@[reducible] def slF (l : List Nat) : SV := .val (.one (.sl (.flt .f32) l))
@[reducible] def slI (l : List Int) : SV := .val (.one (.sl (.int .i64) l))
def h85 : Hints := ⟨fun f k s => match f, k with
  | 85, 5 => match listAs s 0 (.flt .f32), listAs s 1 (.flt .f32) with
    | some a, some b => some ⟨Nat, fun g => ⟨[tI 14 g, tI 5 (prT a b g)] ++ keepC [0, 1, 12, 13] s.tm, [], s.nx, s.lr⟩, fun g => g ≤ List.length a, fun g => List.length a - g⟩
    | _, _ => none
  | _, _ => none, 0⟩
def h14 : Hints := ⟨fun f k s => match f, k with
  | 14, 5 => match arrM s 0, arrM s 1, ptrM s 3, ptrM s 4, listAs s 2 (.int .i8) with
    | some A, some B, some i, some j, some T => some ⟨Nat, fun g => ⟨[tI 51 g, (7, .val (.one (.own s.nx)))] ++ keepC [0, 1, 2, 3, 4, 49, 50] s.tm, [(s.nx, some (.row (.int .i64) (tpL T g))), obA i A, obA j B], s.nx + 1, s.lr⟩, fun g => g ≤ List.length T, fun g => List.length T - g⟩
    | _, _, _, _, _ => none
  | 14, 12 => match arrM s 0, arrM s 1, ptrM s 3, ptrM s 4, listAs s 7 (.int .i64) with
    | some A, some B, some i, some j, some t => some ⟨Nat, fun g => ⟨[tI 62 g, (10, .val (.one (.own s.nx))), (11, .val (.one (.own (s.nx + 1)))), (12, .val (.one (.own (s.nx + 2)))), (13, .val (.one (.own (s.nx + 3)))), (7, slI t)] ++ keepC [0, 1, 3, 4] s.tm,
        [(s.nx, some (.row (.flt .f32) (avX A g))), (s.nx + 1, some (.row (.flt .f32) (avX B g))), (s.nx + 2, some (.row lnT (avF A g))), (s.nx + 3, some (.row lnT (avF B g))), obA i A, obA j B], s.nx + 4, s.lr⟩, fun g => g ≤ 4, fun g => 4 - g⟩
    | _, _, _, _, _ => none
  | 14, 16 => match arrM s 0, arrM s 1, ptrM s 3, ptrM s 4, intOfT s 14 with
    | some A, some B, some i, some j, some c => match ownM s 10, ownM s 11, ownM s 12, ownM s 13 with
      | some o1, some o2, some o3, some o4 => some ⟨Nat, fun q => ⟨[tI 65 q, (15, .val (.one (.own s.nx))), (16, .val (.one (.own (s.nx + 1))))] ++ keepC [0, 1, 3, 4, 7, 10, 11, 12, 13, 14, 62] s.tm,
        (s.nx, some (.row (.flt .f32) (avR A c.toNat q))) :: (s.nx + 1, some (.row (.flt .f32) (avR B c.toNat q))) :: obK s [o1, o2, o3, o4, i, j], s.nx + 2, s.lr⟩, fun q => q ≤ 4, fun q => 4 - q⟩
      | _, _, _, _ => none
    | _, _, _, _, _ => none
  | 14, 1000022 => match arrM s 0, arrM s 1, listAs s 7 (.int .i64) with
    | some A, some B, some t => some ⟨(List Nat × List Nat) × (Fld × Fld) × List Int, fun g => ⟨[(10, slF g.1.1), (11, slF g.1.2), (12, .val (fldV g.2.1.1)), (13, .val (fldV g.2.1.2)), (7, slI g.2.2)], [], s.nx, s.lr⟩, fun g => g.1.1 = avX A 4 ∧ g.1.2 = avX B 4 ∧ g.2.1.1 = avF A 4 ∧ g.2.1.2 = avF B 4 ∧ g.2.2 = t, fun _ => 0⟩
    | _, _, _ => none
  | 14, 1000026 => match listAs s 18 (.flt .f32), intOfT s 19, listAs s 20 (.flt .f32), intOfT s 21, listAs s 22 lnT, intOfT s 23, listAs s 24 lnT, intOfT s 25 with
    | some p, some e1, some r, some e2, some m, some e3, some n, some e4 => some ⟨((Int × Int) × (Int × Int)) × (List Nat × List Nat) × (Fld × Fld), fun g => ⟨[(18, slF g.2.1.1), (19, .val (iV g.1.1.1)), (20, slF g.2.1.2), (21, .val (iV g.1.1.2)), (22, .val (fldV g.2.2.1)), (23, .val (iV g.1.2.1)), (24, .val (fldV g.2.2.2)), (25, .val (iV g.1.2.2))] ++ keepC [7, 10, 11, 12, 13] s.tm, [], s.nx, s.lr⟩,
        fun g => (g.1.1.1 = e1 ∧ g.1.1.2 = e2 ∧ g.1.2.1 = e3 ∧ g.1.2.2 = e4) ∧ g.2.1.1 = p ∧ g.2.1.2 = r ∧ g.2.2.1 = m ∧ g.2.2.2 = n, fun _ => 0⟩
    | _, _, _, _, _, _, _, _ => none
  | 14, 1000028 => match listAs s 7 (.int .i64), listAs s 12 lnT, listAs s 13 lnT, listAs s 22 lnT, listAs s 24 lnT with
    | some t, some f, some g, some m, some n => some ⟨List Int × (Fld × Fld) × (Fld × Fld), fun q => ⟨[(7, slI q.1), (12, .val (fldV q.2.1.1)), (13, .val (fldV q.2.1.2)), (22, .val (fldV q.2.2.1)), (24, .val (fldV q.2.2.2))], [], s.nx, s.lr⟩, fun q => q.1 = t ∧ (q.2.1.1 = f ∧ q.2.1.2 = g) ∧ q.2.2.1 = m ∧ q.2.2.2 = n, fun _ => 0⟩
    | _, _, _, _, _ => none
  | 14, 30 => match listAs s 12 lnT, listAs s 13 lnT, listAs s 22 lnT, listAs s 24 lnT with
    | some f, some g, some m, some n => some ⟨Nat, fun i => ⟨[tI 175 i, tI 26 (prF m g i), tI 27 (prF f n i)] ++ keepC [7, 12, 13, 22, 24] s.tm, [], s.nx, s.lr⟩, fun i => i ≤ 4, fun i => 4 - i⟩
    | _, _, _, _ => none
  | 14, 1000038 => some ⟨Nat, fun _ => ⟨keepC [7, 12] s.tm, [], s.nx, s.lr⟩, fun _ => True, fun _ => 0⟩
  | 14, 1000039 => match listAs s 29 (.flt .f32) with
    | some a => some ⟨List Nat, fun g => ⟨(29, slF g) :: keepC [7, 12] s.tm, [], s.nx, s.lr⟩, fun g => g = a, fun _ => 0⟩
    | _ => none
  | 14, 1000040 => match listAs s 30 (.flt .f32), intOfT s 31 with
    | some z, some e => some ⟨List Nat × Int, fun g => ⟨[(30, slF g.1), (31, .val (iV g.2))] ++ keepC [7, 12] s.tm, [], s.nx, s.lr⟩, fun g => g.1 = z ∧ g.2 = e, fun _ => 0⟩
    | _, _ => none
  | 14, 1000045 => match listAs s 32 pnT, intOfT s 33, listAs s 34 pnT, intOfT s 35, boxR s 36, intOfT s 37 with
    | some w, some e1, some i, some e2, some (id, R), some e3 => some ⟨(Int × Int × Int) × (List (List (Nat × Nat)) × List (List (Nat × Nat))) × List (Nat × Nat), fun g => ⟨[(32, .val (.one (.sl pnT g.2.1.1))), (33, .val (iV g.1.1)), (34, .val (.one (.sl pnT g.2.1.2))), (35, .val (iV g.1.2.1)), (37, .val (iV g.1.2.2)), (36, .val (.one (.ptr id 0)))], [(id, some (.box [.arr 4 (.cpx .f64) g.2.2]))], s.nx, s.lr⟩,
        fun g => (g.1.1 = e1 ∧ g.1.2.1 = e2 ∧ g.1.2.2 = e3) ∧ g.2.1.1 = w ∧ g.2.1.2 = i ∧ g.2.2 = R, fun _ => 0⟩
    | _, _, _, _, _, _ => none
  | 14, 1000047 => match listAs s 32 pnT, listAs s 34 pnT, boxR s 36 with
    | some w, some i, some (id, R) => some ⟨(List (List (Nat × Nat)) × List (List (Nat × Nat))) × List (Nat × Nat), fun g => ⟨[(32, .val (.one (.sl pnT g.1.1))), (34, .val (.one (.sl pnT g.1.2))), (36, .val (.one (.ptr id 0)))], [(id, some (.box [.arr 4 (.cpx .f64) g.2]))], s.nx, s.lr⟩, fun g => (g.1.1 = w ∧ g.1.2 = i) ∧ g.2 = R, fun _ => 0⟩
    | _, _, _ => none
  | 14, 48 => match boxR s 36 with
    | some (id, R) => some ⟨Nat, fun c => ⟨tI 38 (2 + (c : Int)) :: keepC [32, 34, 36] s.tm, [(id, some (.box [.arr 4 (.cpx .f64) R]))], s.nx, s.lr⟩, fun c => c ≤ 2, fun c => 2 - c⟩
    | _ => none
  | 14, 51 => match boxR s 36 with
    | some (id, R) => some ⟨Nat, fun k => ⟨tI 293 k :: keepC [32, 34, 36, 38] s.tm, [(id, some (.box [.arr 4 (.cpx .f64) R]))], s.nx, s.lr⟩, fun k => k ≤ 4, fun k => 4 - k⟩
    | _ => none
  | _, _ => none, 0⟩
end Go.Sx
namespace Go.Sx
open U
def sp85 : FSpec := ⟨fun vs => match vs with
  | [.one (.sl (.flt .f32) a), .one (.sl (.flt .f32) b)] => some ([OkS a, OkS b, List.length a ≤ 1000], .val (iV (prS a b)))
  | _ => none, true⟩
end Go.Sx

/- What the engine asks, written out (printed by a program). -/
namespace Go.Sx
open U
theorem vc85 (a b : List Nat) : exF (env false [(86, sp86)] []) h85 0 85 Proofs.Tryz.f85 [.one (.sl (.flt .f32) a), .one (.sl (.flt .f32) b)] (.val (iV (prS a b))) = (let q0 := (↑(List.length a) : Int); splitB (q0 != (↑(List.length b) : Int)) ((0 : Int) = prS a b ∧ True) ((∃ (g : Nat), Nat.le g (List.length a) ∧ (0 : Int) = (↑g : Int) ∧ (0 : Int) = prT a b g ∧ a = a ∧ b = b ∧ a = a ∧ q0 = q0 ∧ True) ∧ ∀ (g : Nat), let q1 := (List.getD a g (0 : Nat)); let q2 := (List.getD b g (0 : Nat)); Nat.le g (List.length a) → splitB (decide ((↑g : Int) < q0)) (((0 : Int) ≤ (↑g : Int) ∧ (↑g : Int) < q0) ∧ chkS q1 = (0 : Int) ∧ ((0 : Int) ≤ (↑g : Int) ∧ (↑g : Int) < (↑(List.length b) : Int)) ∧ chkS q2 = (0 : Int) ∧ fits IntKind.i64 (six q1 * six q2) ∧ fits IntKind.i64 (prT a b g + six q1 * six q2) ∧ fits IntKind.i64 ((↑g : Int) + (1 : Int)) ∧ ∃ (g' : Nat), Nat.le g' (List.length a) ∧ List.length a - g' < List.length a - g ∧ (↑g : Int) + (1 : Int) = (↑g' : Int) ∧ prT a b g + six q1 * six q2 = prT a b g' ∧ a = a ∧ b = b ∧ a = a ∧ q0 = q0 ∧ True) (prT a b g = prS a b ∧ True))) := by
  kernel_rfl
theorem vc14 (A B : List (List Int)) (T : List Int) : exF (env true [(19, sp19), (34, sp34), (73, sp73), (74, sp74), (75, sp75), (39, sp39), (80, sp80), (81, sp81), (85, sp85), (36, sp36), (33, sp33), (72, sp72)] []) h14 0 14 Proofs.Tryz.f14 [.agg [.arr 4 (.arr 4 (.int .i8)) A], .agg [.arr 4 (.arr 4 (.int .i8)) B], .one (.sl (.int .i8) T)] (.val (bV true)) = (let q8 := (1000000 : Nat); let q9 := (↑(List.length T) : Int); let q10 := ((0 : Nat), (0 : Nat)); let q13 := (List.replicate (4 : Nat) (0 : Int)); let q16 := (false = true ∧ True); splitB (bif decide (q9 < (1 : Int)) then true else decide ((8 : Int) < q9)) (true = true ∧ True) ((∃ (g : Nat), Nat.le g (List.length T) ∧ (0 : Int) = (↑g : Int) ∧ A = A ∧ B = B ∧ T = T ∧ T = T ∧ q9 = q9 ∧ tpL T g = [] ∧ A = A ∧ B = B ∧ True) ∧ ∀ (g : Nat), Nat.le g (List.length T) → splitB (decide ((↑g : Int) < q9)) (((0 : Int) ≤ (↑g : Int) ∧ (↑g : Int) < q9) ∧ fits IntKind.i64 (List.getD T g (0 : Int)) ∧ (10 : Int) ≠ (0 : Int) ∧ room (List.length (tpL T g) + (1 : Nat)) (8 : Nat) ∧ ∃ (g' : Nat), Nat.le g' (List.length T) ∧ List.length T - g' < List.length T - g ∧ IntKind.wrap IntKind.i64 ((↑g : Int) + (1 : Int)) = (↑g' : Int) ∧ A = A ∧ B = B ∧ T = T ∧ T = T ∧ q9 = q9 ∧ tpL T g ++ [Int.tmod (List.getD T g (0 : Int)) (10 : Int)] = tpL T g' ∧ A = A ∧ B = B ∧ True) ((∃ (g_1 : Nat), Nat.le g_1 (4 : Nat) ∧ (0 : Int) = (↑g_1 : Int) ∧ tpL T g = tpL T g ∧ A = A ∧ B = B ∧ avX A g_1 = [] ∧ avX B g_1 = [] ∧ avF A g_1 = [] ∧ avF B g_1 = [] ∧ A = A ∧ B = B ∧ True) ∧ ∀ (g_1 : Nat), let q18 := ((0 : Int) ≤ (↑g_1 : Int) ∧ (↑g_1 : Int) < (4 : Int)); Nat.le g_1 (4 : Nat) → splitB (decide ((↑g_1 : Int) < (4 : Int))) ((∃ (g_2 : Nat), Nat.le g_2 (4 : Nat) ∧ (0 : Int) = (↑g_2 : Int) ∧ A = A ∧ B = B ∧ tpL T g = tpL T g ∧ (↑g_1 : Int) = (↑g_1 : Int) ∧ (↑g_1 : Int) = (↑g_1 : Int) ∧ avR A g_1 g_2 = [] ∧ avR B g_1 g_2 = [] ∧ avX A g_1 = avX A g_1 ∧ avX B g_1 = avX B g_1 ∧ avF A g_1 = avF A g_1 ∧ avF B g_1 = avF B g_1 ∧ A = A ∧ B = B ∧ True) ∧ ∀ (g_2 : Nat), let q11 := ((0 : Nat) + g_2 * (1 : Nat)); let q6 := (Ieee.Format.div (FloatKind.format FloatKind.f32) (FloatKind.nearest FloatKind.f32 (Int.tmod (List.getD (List.getD A g_1 q13) (q11 / (1 : Nat)) (0 : Int)) (33 : Int))) (1098907648 : Nat)); let q7 := (Ieee.Format.div (FloatKind.format FloatKind.f32) (FloatKind.nearest FloatKind.f32 (Int.tmod (List.getD (List.getD B g_1 q13) (q11 / (1 : Nat)) (0 : Int)) (33 : Int))) (1098907648 : Nat)); let q19 := ((0 : Int) ≤ (↑g_2 : Int) ∧ (↑g_2 : Int) < (4 : Int)); Nat.le g_2 (4 : Nat) → splitB (decide ((↑g_2 : Int) < (4 : Int))) (q18 ∧ q19 ∧ g_1 < List.length A ∧ q11 % (1 : Nat) = (0 : Nat) ∧ q11 / (1 : Nat) < List.length (List.getD A g_1 q13) ∧ (33 : Int) ≠ (0 : Int) ∧ Option.isSome q6 = true ∧ room (List.length (avR A g_1 g_2) + (1 : Nat)) (4 : Nat) ∧ q18 ∧ q19 ∧ g_1 < List.length B ∧ q11 % (1 : Nat) = (0 : Nat) ∧ q11 / (1 : Nat) < List.length (List.getD B g_1 q13) ∧ (33 : Int) ≠ (0 : Int) ∧ Option.isSome q7 = true ∧ room (List.length (avR B g_1 g_2) + (1 : Nat)) (4 : Nat) ∧ ∃ (g' : Nat), Nat.le g' (4 : Nat) ∧ (4 : Nat) - g' < (4 : Nat) - g_2 ∧ IntKind.wrap IntKind.i64 ((↑g_2 : Int) + (1 : Int)) = (↑g' : Int) ∧ A = A ∧ B = B ∧ tpL T g = tpL T g ∧ (↑g_1 : Int) = (↑g_1 : Int) ∧ (↑g_1 : Int) = (↑g_1 : Int) ∧ avR A g_1 g_2 ++ [Option.getD q6 (0 : Nat)] = avR A g_1 g' ∧ avR B g_1 g_2 ++ [Option.getD q7 (0 : Nat)] = avR B g_1 g' ∧ avX A g_1 = avX A g_1 ∧ avX B g_1 = avX B g_1 ∧ avF A g_1 = avF A g_1 ∧ avF B g_1 = avF B g_1 ∧ A = A ∧ B = B ∧ True) (room (List.length (avX A g_1) + List.length (avR A g_1 g_2)) (4 : Nat) ∧ room (List.length (avX B g_1) + List.length (avR B g_1 g_2)) (4 : Nat) ∧ room (List.length (avF A g_1) + (1 : Nat)) (24 : Nat) ∧ room (List.length (avF B g_1) + (1 : Nat)) (24 : Nat) ∧ ∃ (g' : Nat), Nat.le g' (4 : Nat) ∧ (4 : Nat) - g' < (4 : Nat) - g_1 ∧ IntKind.wrap IntKind.i64 ((↑g_1 : Int) + (1 : Int)) = (↑g' : Int) ∧ tpL T g = tpL T g ∧ A = A ∧ B = B ∧ avX A g_1 ++ avR A g_1 g_2 = avX A g' ∧ avX B g_1 ++ avR B g_1 g_2 = avX B g' ∧ avF A g_1 ++ [avR A g_1 g_2] = avF A g' ∧ avF B g_1 ++ [avR B g_1 g_2] = avF B g' ∧ A = A ∧ B = B ∧ True)) ((∃ (g_2 : (List Nat × List Nat) × (Fld × Fld) × List Int), (g_2.1.1 = avX A (4 : Nat) ∧ g_2.1.2 = avX B (4 : Nat) ∧ g_2.2.1.1 = avF A (4 : Nat) ∧ g_2.2.1.2 = avF B (4 : Nat) ∧ g_2.2.2 = tpL T g) ∧ avX A g_1 = g_2.1.1 ∧ avX B g_1 = g_2.1.2 ∧ avF A g_1 = g_2.2.1.1 ∧ avF B g_1 = g_2.2.1.2 ∧ tpL T g = g_2.2.2 ∧ True) ∧ ∀ (g_2 : (List Nat × List Nat) × (Fld × Fld) × List Int), g_2.1.1 = avX A (4 : Nat) ∧ g_2.1.2 = avX B (4 : Nat) ∧ g_2.2.1.1 = avF A (4 : Nat) ∧ g_2.2.1.2 = avF B (4 : Nat) ∧ g_2.2.2 = tpL T g → List.length g_2.1.1 ≤ q8 ∧ List.length g_2.2.2 ≤ q8 ∧ List.length g_2.1.2 ≤ q8 ∧ List.length g_2.2.2 ≤ q8 ∧ List.length g_2.2.1.1 ≤ q8 ∧ (∀ (x : List Nat), x ∈ g_2.2.1.1 → List.length x ≤ q8) ∧ List.length g_2.2.2 ≤ q8 ∧ (List.length g_2.2.1.1 ≤ (5 : Nat) ∨ ¬cmbB g_2.2.1.1 g_2.2.2 = (0 : Int)) ∧ List.length g_2.2.1.2 ≤ q8 ∧ (∀ (x : List Nat), x ∈ g_2.2.1.2 → List.length x ≤ q8) ∧ List.length g_2.2.2 ≤ q8 ∧ (List.length g_2.2.1.2 ≤ (5 : Nat) ∨ ¬cmbB g_2.2.1.2 g_2.2.2 = (0 : Int)) ∧ (∃ (g : ((Int × Int) × Int × Int) × (List Nat × List Nat) × Fld × Fld), ((g.1.1.1 = fltE g_2.1.1 g_2.2.2 (1 : Int) ∧ g.1.1.2 = fltE g_2.1.2 g_2.2.2 (-1 : Int) ∧ g.1.2.1 = cmbE g_2.2.1.1 g_2.2.2 (1 : Int) ∧ g.1.2.2 = cmbE g_2.2.1.2 g_2.2.2 (-1 : Int)) ∧ g.2.1.1 = fltN g_2.1.1 g_2.2.2 (1 : Int) ∧ g.2.1.2 = fltN g_2.1.2 g_2.2.2 (-1 : Int) ∧ g.2.2.1 = cmbN g_2.2.1.1 g_2.2.2 (1 : Int) ∧ g.2.2.2 = cmbN g_2.2.1.2 g_2.2.2 (-1 : Int)) ∧ fltN g_2.1.1 g_2.2.2 (1 : Int) = g.2.1.1 ∧ fltE g_2.1.1 g_2.2.2 (1 : Int) = g.1.1.1 ∧ fltN g_2.1.2 g_2.2.2 (-1 : Int) = g.2.1.2 ∧ fltE g_2.1.2 g_2.2.2 (-1 : Int) = g.1.1.2 ∧ cmbN g_2.2.1.1 g_2.2.2 (1 : Int) = g.2.2.1 ∧ cmbE g_2.2.1.1 g_2.2.2 (1 : Int) = g.1.2.1 ∧ cmbN g_2.2.1.2 g_2.2.2 (-1 : Int) = g.2.2.2 ∧ cmbE g_2.2.1.2 g_2.2.2 (-1 : Int) = g.1.2.2 ∧ g_2.2.2 = g_2.2.2 ∧ g_2.1.1 = g_2.1.1 ∧ g_2.1.2 = g_2.1.2 ∧ g_2.2.1.1 = g_2.2.1.1 ∧ g_2.2.1.2 = g_2.2.1.2 ∧ True) ∧ ∀ (g : ((Int × Int) × Int × Int) × (List Nat × List Nat) × Fld × Fld), let q14 := (IntKind.wrap IntKind.i64 (IntKind.wrap IntKind.i64 (g.1.1.1 + g.1.1.2) + g.1.2.1) + g.1.2.2); let q1 := (IntKind.wrap IntKind.i64 q14 != (0 : Int)); (g.1.1.1 = fltE g_2.1.1 g_2.2.2 (1 : Int) ∧ g.1.1.2 = fltE g_2.1.2 g_2.2.2 (-1 : Int) ∧ g.1.2.1 = cmbE g_2.2.1.1 g_2.2.2 (1 : Int) ∧ g.1.2.2 = cmbE g_2.2.1.2 g_2.2.2 (-1 : Int)) ∧ g.2.1.1 = fltN g_2.1.1 g_2.2.2 (1 : Int) ∧ g.2.1.2 = fltN g_2.1.2 g_2.2.2 (-1 : Int) ∧ g.2.2.1 = cmbN g_2.2.1.1 g_2.2.2 (1 : Int) ∧ g.2.2.2 = cmbN g_2.2.1.2 g_2.2.2 (-1 : Int) → (q1 = false → OkS g.2.1.1) ∧ (q1 = false → OkS g_2.1.2) ∧ (q1 = false → List.length g.2.1.1 ≤ (1000 : Nat)) ∧ (q1 = false → OkS g_2.1.1) ∧ (q1 = false → OkS g.2.1.2) ∧ (q1 = false → List.length g_2.1.1 ≤ (1000 : Nat)) ∧ splitB (bif bif bif bif bif IntKind.wrap IntKind.i64 q14 != (0 : Int) then true else prS g.2.1.1 g_2.1.2 != prS g_2.1.1 g.2.1.2 then true else (↑(List.length g.2.1.1) : Int) != (16 : Int) then true else (↑(List.length g.2.1.2) : Int) != (16 : Int) then true else (↑(List.length g.2.2.1) : Int) != (4 : Int) then true else (↑(List.length g.2.2.2) : Int) != (4 : Int)) q16 ((∃ (g_3 : List Int × (Fld × Fld) × Fld × Fld), (g_3.1 = g_2.2.2 ∧ (g_3.2.1.1 = g_2.2.1.1 ∧ g_3.2.1.2 = g_2.2.1.2) ∧ g_3.2.2.1 = g.2.2.1 ∧ g_3.2.2.2 = g.2.2.2) ∧ g_2.2.2 = g_3.1 ∧ g_2.2.1.1 = g_3.2.1.1 ∧ g_2.2.1.2 = g_3.2.1.2 ∧ g.2.2.1 = g_3.2.2.1 ∧ g.2.2.2 = g_3.2.2.2 ∧ True) ∧ ∀ (g_3 : List Int × (Fld × Fld) × Fld × Fld), let q4 := (List.getD g_3.2.1.1 (0 : Nat) []); let q5 := ((0 : Int) ≤ (0 : Int) ∧ (0 : Int) < (↑(List.length g_3.2.1.1) : Int)); g_3.1 = g_2.2.2 ∧ (g_3.2.1.1 = g_2.2.1.1 ∧ g_3.2.1.2 = g_2.2.1.2) ∧ g_3.2.2.1 = g.2.2.1 ∧ g_3.2.2.2 = g.2.2.2 → (∃ (g : Nat), Nat.le g (4 : Nat) ∧ (0 : Int) = (↑g : Int) ∧ (0 : Int) = prF g_3.2.2.1 g_3.2.1.2 g ∧ (0 : Int) = prF g_3.2.1.1 g_3.2.2.2 g ∧ g_3.1 = g_3.1 ∧ g_3.2.1.1 = g_3.2.1.1 ∧ g_3.2.1.2 = g_3.2.1.2 ∧ g_3.2.2.1 = g_3.2.2.1 ∧ g_3.2.2.2 = g_3.2.2.2 ∧ True) ∧ ∀ (g : Nat), let q15 := (List.getD g_3.2.2.1 g []); let q17 := ((0 : Int) ≤ (↑g : Int) ∧ (↑g : Int) < (↑(List.length g_3.2.2.1) : Int)); let q20 := (List.getD g_3.2.2.2 g []); let q21 := (List.getD g_3.2.1.1 g []); Nat.le g (4 : Nat) → splitB (decide ((↑g : Int) < (4 : Int))) (q17 ∧ (((↑(List.length q15) : Int) != (4 : Int)) = false → (0 : Int) ≤ (↑g : Int) ∧ (↑g : Int) < (↑(List.length g_3.2.2.2) : Int)) ∧ splitB (bif (↑(List.length q15) : Int) != (4 : Int) then true else (↑(List.length q20) : Int) != (4 : Int)) q16 (q17 ∧ ((0 : Int) ≤ (↑g : Int) ∧ (↑g : Int) < (↑(List.length g_3.2.1.2) : Int)) ∧ OkS q15 ∧ OkS (List.getD g_3.2.1.2 g []) ∧ List.length q15 ≤ (1000 : Nat) ∧ ((0 : Int) ≤ (↑g : Int) ∧ (↑g : Int) < (↑(List.length g_3.2.1.1) : Int)) ∧ ((0 : Int) ≤ (↑g : Int) ∧ (↑g : Int) < (↑(List.length g_3.2.2.2) : Int)) ∧ OkS q21 ∧ OkS q20 ∧ List.length q21 ≤ (1000 : Nat) ∧ ∃ (g' : Nat), Nat.le g' (4 : Nat) ∧ (4 : Nat) - g' < (4 : Nat) - g ∧ IntKind.wrap IntKind.i64 ((↑g : Int) + (1 : Int)) = (↑g' : Int) ∧ IntKind.wrap IntKind.i64 (prF g_3.2.2.1 g_3.2.1.2 g + prS q15 (List.getD g_3.2.1.2 g [])) = prF g_3.2.2.1 g_3.2.1.2 g' ∧ IntKind.wrap IntKind.i64 (prF g_3.2.1.1 g_3.2.2.2 g + prS q21 q20) = prF g_3.2.1.1 g_3.2.2.2 g' ∧ g_3.1 = g_3.1 ∧ g_3.2.1.1 = g_3.2.1.1 ∧ g_3.2.1.2 = g_3.2.1.2 ∧ g_3.2.2.1 = g_3.2.2.1 ∧ g_3.2.2.2 = g_3.2.2.2 ∧ True)) (splitB (prF g_3.2.2.1 g_3.2.1.2 g != prF g_3.2.1.1 g_3.2.2.2 g) q16 ((∃ (g : Nat), True ∧ g_3.1 = g_3.1 ∧ g_3.2.1.1 = g_3.2.1.1 ∧ True) ∧ ∀ (g : Nat), True → q5 ∧ List.length q4 ≤ q8 ∧ q5 ∧ room (List.length q4 + List.length q4) (4 : Nat) ∧ q5 ∧ room (List.length (List.getD g_3.2.1.1 (0 : Nat) [] ++ List.getD g_3.2.1.1 (0 : Nat) []) + List.length q4) (4 : Nat) ∧ q5 ∧ room (List.length (List.getD g_3.2.1.1 (0 : Nat) [] ++ List.getD g_3.2.1.1 (0 : Nat) [] ++ List.getD g_3.2.1.1 (0 : Nat) []) + List.length q4) (4 : Nat) ∧ (∃ (g : List Nat), g = List.getD g_3.2.1.1 (0 : Nat) [] ++ List.getD g_3.2.1.1 (0 : Nat) [] ++ List.getD g_3.2.1.1 (0 : Nat) [] ++ List.getD g_3.2.1.1 (0 : Nat) [] ∧ List.getD g_3.2.1.1 (0 : Nat) [] ++ List.getD g_3.2.1.1 (0 : Nat) [] ++ List.getD g_3.2.1.1 (0 : Nat) [] ++ List.getD g_3.2.1.1 (0 : Nat) [] = g ∧ g_3.1 = g_3.1 ∧ g_3.2.1.1 = g_3.2.1.1 ∧ True) ∧ ∀ (g : List Nat), g = List.getD g_3.2.1.1 (0 : Nat) [] ++ List.getD g_3.2.1.1 (0 : Nat) [] ++ List.getD g_3.2.1.1 (0 : Nat) [] ++ List.getD g_3.2.1.1 (0 : Nat) [] → List.length g_3.1 ≤ q8 ∧ (∃ (g_4 : List Nat × Int), (g_4.1 = fltN g g_3.1 (1 : Int) ∧ g_4.2 = fltE g g_3.1 (1 : Int)) ∧ fltN g g_3.1 (1 : Int) = g_4.1 ∧ fltE g g_3.1 (1 : Int) = g_4.2 ∧ g_3.1 = g_3.1 ∧ g_3.2.1.1 = g_3.2.1.1 ∧ True) ∧ ∀ (g_4 : List Nat × Int), g_4.1 = fltN g g_3.1 (1 : Int) ∧ g_4.2 = fltE g g_3.1 (1 : Int) → splitB (bif bif g_4.2 != (0 : Int) then true else chkSig g_4.1 != (0 : Int) then true else (↑(List.length g_4.1) : Int) != (16 : Int)) q16 (q5 ∧ List.length q4 ≤ q8 ∧ List.length g_4.1 ≤ q8 ∧ List.length g_3.1 ≤ q8 ∧ (∃ (g : (Int × Int × Int) × (List (List (Nat × Nat)) × List (List (Nat × Nat))) × List (Nat × Nat)), ((g.1.1 = chkSig q4 ∧ g.1.2.1 = chkSig g_4.1 ∧ g.1.2.2 = chkTap g_3.1) ∧ g.2.1.1 = panN q4 ∧ g.2.1.2 = panN g_4.1 ∧ g.2.2 = resN g_3.1) ∧ panN q4 = g.2.1.1 ∧ chkSig q4 = g.1.1 ∧ panN g_4.1 = g.2.1.2 ∧ chkSig g_4.1 = g.1.2.1 ∧ chkTap g_3.1 = g.1.2.2 ∧ resN g_3.1 = g.2.2 ∧ True) ∧ ∀ (g : (Int × Int × Int) × (List (List (Nat × Nat)) × List (List (Nat × Nat))) × List (Nat × Nat)), (g.1.1 = chkSig q4 ∧ g.1.2.1 = chkSig g_4.1 ∧ g.1.2.2 = chkTap g_3.1) ∧ g.2.1.1 = panN q4 ∧ g.2.1.2 = panN g_4.1 ∧ g.2.2 = resN g_3.1 → splitB (bif bif IntKind.wrap IntKind.i64 (IntKind.wrap IntKind.i64 (g.1.1 + g.1.2.1) + g.1.2.2) != (0 : Int) then true else (↑(List.length g.2.1.1) : Int) != (1 : Int) then true else (↑(List.length g.2.1.2) : Int) != (4 : Int)) q16 ((∃ (g_5 : (List (List (Nat × Nat)) × List (List (Nat × Nat))) × List (Nat × Nat)), ((g_5.1.1 = g.2.1.1 ∧ g_5.1.2 = g.2.1.2) ∧ g_5.2 = g.2.2) ∧ g.2.1.1 = g_5.1.1 ∧ g.2.1.2 = g_5.1.2 ∧ g.2.2 = g_5.2 ∧ True) ∧ ∀ (g_5 : (List (List (Nat × Nat)) × List (List (Nat × Nat))) × List (Nat × Nat)), (g_5.1.1 = g.2.1.1 ∧ g_5.1.2 = g.2.1.2) ∧ g_5.2 = g.2.2 → (∃ (g : Nat), Nat.le g (2 : Nat) ∧ (2 : Int) = (2 : Int) + (↑g : Int) ∧ g_5.1.1 = g_5.1.1 ∧ g_5.1.2 = g_5.1.2 ∧ g_5.2 = g_5.2 ∧ True) ∧ ∀ (g : Nat), Nat.le g (2 : Nat) → splitB (decide ((2 : Int) + (↑g : Int) < (4 : Int))) ((∃ (g_6 : Nat), Nat.le g_6 (4 : Nat) ∧ (0 : Int) = (↑g_6 : Int) ∧ g_5.1.1 = g_5.1.1 ∧ g_5.1.2 = g_5.1.2 ∧ (2 : Int) + (↑g : Int) = (2 : Int) + (↑g : Int) ∧ g_5.2 = g_5.2 ∧ True) ∧ ∀ (g_6 : Nat), let q3 := (List.getD (List.getD g_5.1.1 (0 : Nat) (List.replicate (4 : Nat) q10)) g_6 q10); let q0 := (cmulF (Option.getD (convF FloatKind.f32 FloatKind.f64 q3.1) (0 : Nat)) (Option.getD (convF FloatKind.f32 FloatKind.f64 q3.2) (0 : Nat)) (List.getD g_5.2 g_6 q10).1 (List.getD g_5.2 g_6 q10).2); let q2 := (List.getD (List.getD g_5.1.2 (Int.toNat ((2 : Int) + (↑g : Int))) (List.replicate (4 : Nat) q10)) g_6 q10); let q12 := ((0 : Int) ≤ (↑g_6 : Int) ∧ (↑g_6 : Int) < (4 : Int)); Nat.le g_6 (4 : Nat) → splitB (decide ((↑g_6 : Int) < (4 : Int))) (((0 : Int) ≤ (2 : Int) + (↑g : Int) ∧ (2 : Int) + (↑g : Int) < (↑(List.length g_5.1.2) : Int)) ∧ q12 ∧ (Option.isSome (convF FloatKind.f32 FloatKind.f64 q2.1) = true ∧ Option.isSome (convF FloatKind.f32 FloatKind.f64 q2.2) = true) ∧ ((0 : Int) ≤ (0 : Int) ∧ (0 : Int) < (↑(List.length g_5.1.1) : Int)) ∧ q12 ∧ (Option.isSome (convF FloatKind.f32 FloatKind.f64 q3.1) = true ∧ Option.isSome (convF FloatKind.f32 FloatKind.f64 q3.2) = true) ∧ q12 ∧ g_6 < List.length g_5.2 ∧ Option.isSome q0 = true ∧ splitB (!(Op.floatEq FloatKind.f64 (Option.getD (convF FloatKind.f32 FloatKind.f64 q2.1) (0 : Nat)) (Option.getD q0 q10).1 && Op.floatEq FloatKind.f64 (Option.getD (convF FloatKind.f32 FloatKind.f64 q2.2) (0 : Nat)) (Option.getD q0 q10).2)) q16 (∃ (g' : Nat), Nat.le g' (4 : Nat) ∧ (4 : Nat) - g' < (4 : Nat) - g_6 ∧ IntKind.wrap IntKind.i64 ((↑g_6 : Int) + (1 : Int)) = (↑g' : Int) ∧ g_5.1.1 = g_5.1.1 ∧ g_5.1.2 = g_5.1.2 ∧ (2 : Int) + (↑g : Int) = (2 : Int) + (↑g : Int) ∧ g_5.2 = g_5.2 ∧ True)) (∃ (g' : Nat), Nat.le g' (2 : Nat) ∧ (2 : Nat) - g' < (2 : Nat) - g ∧ IntKind.wrap IntKind.i64 ((2 : Int) + (↑g : Int) + (1 : Int)) = (2 : Int) + (↑g' : Int) ∧ g_5.1.1 = g_5.1.1 ∧ g_5.1.2 = g_5.1.2 ∧ g_5.2 = g_5.2 ∧ True)) (true = true ∧ True)))))))))) := by
  kernel_rfl
end Go.Sx
