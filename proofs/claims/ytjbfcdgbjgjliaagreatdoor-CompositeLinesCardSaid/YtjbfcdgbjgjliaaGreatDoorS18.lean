/- A verified symbolic run of functions, part 18: lemmas, no claim of their own. -/
import Derived.Test.YtjbfcdgbjgjliaaGreatDoorS17
import Derived.OpenShut
import Derived.ProofKit
import Derived.Carry
import Derived.OpenVars
import Derived.Lib.LaidTab
import Derived.ChangeSame
import Derived.WalkKit
import Derived.Deep.DeepHandedRow
import Derived.JoinedCond
import Derived.KernelRfl
import Derived.Test.YtjbfcdgbjgjliaaGreatDoorProg
import Derived.Test.YtjbfcdgbjgjliaaGreatDoorCards
/- Contracts. -/
namespace Go.Sx
open U
theorem so195 : Sp1 195 sp195 := by
  refine ⟨fun vs ps r h hp => ?_, Proofs.Tryz.f195, _, by kernel_rfl, rfl, by kernel_rfl⟩
  simp only [sp195] at h
  split at h
  · cases h; exact grow1 _ (hp _ (by simp)) (hp _ (by simp))
  · cases h
theorem flat_succ {l : List (List Int)} {g : Nat} (h : g < l.length) : flatTo l (g + 1) = flatTo l g ++ l.getD g [] := by
  unfold flatTo
  rw [List.take_succ_eq_append_getElem h, List.flatten_append, getD_of h]
  simp
theorem flat_len (l : List (List Int)) (i : Nat) : (flatTo l i).length ≤ l.flatten.length := by
  have h : l.flatten = flatTo l i ++ (l.drop i).flatten := by
    unfold flatTo
    rw [← List.flatten_append, List.take_append_drop]
  rw [h, List.length_append]
  omega
theorem fn158 (l : List (List Int)) (hl : l.length ≤ 1000) (hf : l.flatten.length ≤ 1000000) : Fn P1 gl1 158 [.one (.sl (.sl (.int .i64)) l)] (.val (.one (.frs (.int .i64) l.flatten))) true := by
  refine Fn.flat ?_ rfl
  refine fn_of false [(195, sp195)] [] h158 0 Proofs.Tryz.f158 ⟨so195, trivial⟩ trivial (by kernel_rfl) rfl (by kernel_rfl) rfl rfl rfl ?_
  rw [vc158]
  try simp only [splitB_iff, -eq_self]
  have hle : ∀ i, (flatTo l i).length ≤ 1000000 := fun i => Nat.le_trans (flat_len l i) hf
  simp only [eq_self, true_and, and_true, and_self]
  refine ⟨⟨0, Nat.zero_le _, rfl, by simp [flatTo]⟩, fun g hg => ⟨fun hlt => ?_, fun hge => ?_⟩⟩
  · have hlt' : g < l.length := by have := of_decide_eq_true hlt; omega
    have h1 := hle (g + 1)
    have h2 := flat_succ hlt'
    have h3 : (flatTo l (g + 1)).length = (flatTo l g).length + (l.getD g []).length := by rw [h2, List.length_append]
    exact ⟨by omega, by simp only [fits]; omega, by simp only [fits]; omega, g + 1, hlt', by omega, by omega, by rw [h3]; omega⟩
  · have := hle g
    refine ⟨by omega, by omega, ⟨0, Nat.zero_le _, rfl, by simp [flatTo]⟩, fun j hj => ⟨fun hjl => ?_, fun hjg => ?_⟩⟩
    · have hlt' : j < l.length := by have := of_decide_eq_true hjl; omega
      have h1 := hle (j + 1)
      have h2 := flat_succ hlt'
      have h3 : (flatTo l (j + 1)).length = (flatTo l j).length + (l.getD j []).length := by rw [h2, List.length_append]
      exact ⟨by omega, by simp only [room]; omega, by simp only [fits]; omega, j + 1, hlt', by omega, by omega, h2.symm⟩
    · have hj' : j = l.length := by have := of_decide_eq_false hjg; have : j ≤ l.length := hj; omega
      rw [hj']
      unfold flatTo
      rw [List.take_length]
theorem so158_ : SpecOk P1 gl1 158 sp158 := by
  intro vs ps r h hp
  simp only [sp158] at h
  split at h
  · cases h; exact fn158 _ (hp _ (.head _)) (hp _ (.tail _ (.head _)))
  · cases h
theorem so158 : Sp1 158 sp158 := ⟨so158_, Proofs.Tryz.f158, _, by kernel_rfl, rfl, by kernel_rfl⟩
theorem fn1470 (t : List Int) (w : Int) (hw : w = 1 ∨ w = -1) : Fn P1 gl1 147 [fldV [], .one (.sl (.int .i64) t), iV w] (.tup [.one (.sl lnT (cmbN [] t w)), iV (cmbE [] t w)]) false := by
  refine fn_of false [(38, sp38), (79, sp79), (95, sp95), (123, sp123), (158, sp158), (138, sp138)] [fb178, fb180] (h147 0 fun _ => []) 3 Proofs.Tryz.f147 ⟨so38, so79, so95, so123, so158, so138, trivial⟩ ⟨⟨by kernel_rfl, by kernel_rfl, _, rfl, by kernel_rfl⟩, ⟨by kernel_rfl, by kernel_rfl, _, rfl, by kernel_rfl⟩, trivial⟩ (by kernel_rfl) rfl (by kernel_rfl) rfl rfl rfl ?_
  rw [vc1470]
  try simp only [splitB_iff, -eq_self]
  simp only [eq_self, true_and, and_true, and_self]
  refine ⟨by decide, fun h => cmb_bad (bneZ.1 h), fun h => ?_⟩
  have h : cmbB [] t = 0 := bneF.1 h
  have hz := first_zero.1 h
  have hx : cmbX [] t w = 0 := rfl
  obtain ⟨c1, c2⟩ := cmb_ok h hx
  rw [c1, c2]
  exact ⟨hz _ (.head _), by decide, by simp only [room]; omega, by decide, by decide, ⟨by decide, by decide, by simp only [fits]; decide⟩, ⟨0, rfl, rfl⟩, fun g hg => ⟨rfl, rfl⟩⟩
theorem fn1471 (l0 : List Nat) (t : List Int) (w : Int) (hw : w = 1 ∨ w = -1) : Fn P1 gl1 147 [fldV [l0], .one (.sl (.int .i64) t), iV w] (.tup [.one (.sl lnT (cmbN [l0] t w)), iV (cmbE [l0] t w)]) false := by
  refine fn_of false [(38, sp38), (79, sp79), (95, sp95), (123, sp123), (158, sp158), (138, sp138)] [fb178, fb180] (h147 1 fun g => [g 0]) 3 Proofs.Tryz.f147 ⟨so38, so79, so95, so123, so158, so138, trivial⟩ ⟨⟨by kernel_rfl, by kernel_rfl, _, rfl, by kernel_rfl⟩, ⟨by kernel_rfl, by kernel_rfl, _, rfl, by kernel_rfl⟩, trivial⟩ (by kernel_rfl) rfl (by kernel_rfl) rfl rfl rfl ?_
  rw [vc1471]
  try simp only [splitB_iff, -eq_self]
  simp only [eq_self, true_and, and_true, and_self, List.length_map, col_map]
  refine ⟨by decide, fun h => ?_, fun h => ?_⟩
  · exact cmb_bad (bneZ.1 h)
  · have h : cmbB [l0] t = 0 := bneF.1 h
    have H := cmbB_zero.1 h
    have hW := H.wid_le
    have w0 : l0.length = widN [l0] := H.wid 0 (show 0 < 1 by decide)
    have hfl := flat_wid H
    have hfl : (List.flatten (List.map sixs [l0])).length = 1 * widN [l0] := hfl
    have hq : ((List.flatten (List.map sixs [l0])).length : Int) / max 1 1 = (widN [l0] : Int) := by
      rw [hfl, show max 1 1 = (1 : Int) by decide]; omega
    have hz := first_zero.1 h
    simp only [hq]
    refine ⟨hz _ (.head _), by decide, by simp only [room]; omega, ⟨0, by decide⟩, fun _ _ => ⟨by decide, by omega, by simp only [room]; omega, by decide, by simp only [fits]; omega, (show 1 ≤ 1000 by decide), by omega, ⟨by omega, by decide, by simp only [fits]; omega⟩, ⟨0, ⟨Nat.zero_le _, fun a ha => absurd ha (Nat.not_lt_zero a)⟩, rfl, (fillTo_zero _ _ _).symm⟩, fun g hg => ⟨fun hlt => ?_, fun hge => ?_⟩⟩⟩
    · have hlt : g < widN [l0] := by simpa using hlt
      refine ⟨⟨0, Nat.zero_le _, rfl, rfl⟩, fun i hi => ⟨fun hlt2 => ⟨⟨0, Nat.zero_le _, rfl, rfl⟩, fun j hj => ⟨fun hlt3 => ?_, fun hge3 => ?_⟩⟩, fun hge2 => ?_⟩⟩
      · have hlt2 : i < List.length [l0] := by have := of_decide_eq_true hlt2; omega
        have hlt3 : j < t.length := by simpa using hlt3
        obtain ⟨a1, a2, a3, a4⟩ := cmb_step hw H rfl hlt2 hlt3 (show g < widN [l0] from hlt)
        have h8 := H.t1
        refine ⟨⟨by omega, by omega⟩, a1, a2, fun c => ?_, fun c => ⟨by simp only [fits]; omega, j + 1, hlt3, by omega, by simp, a4 (of_and0 c)⟩⟩
        obtain ⟨b1, b2, b3, b4⟩ := a3 (of_and1 c)
        exact ⟨of_and1 c, ⟨by omega, b1⟩, b2, b3, by simp only [fits]; omega, j + 1, hlt3, by omega, by simp, b4⟩
      · have hlt2 : i < List.length [l0] := by have := of_decide_eq_true hlt2; omega
        have hj : j ≤ t.length := hj
        have hge3 : ¬ j < t.length := by simpa using hge3
        have ej : j = t.length := by omega
        subst ej
        have h32 : List.length [l0] ≤ 32 := (show 1 ≤ 32 by decide)
        exact ⟨by simp only [room, tab_len]; omega, by simp only [fits]; omega, i + 1, hlt2, by omega, by simp, (tab_succ _ _).symm⟩
      · have hi : i ≤ List.length [l0] := hi
        have hge2 : ¬ (i : Int) < (List.length [l0] : Int) := of_decide_eq_false hge2
        have ei : i = List.length [l0] := by omega
        subst ei
        have e := col_flt [l0] t w g
        rw [show (tab (List.length [l0]) fun i => swTo (List.length [l0]) (lat (colN [l0] g)) t w i (List.length t)) = fltI (colN [l0] g) t w from e.symm]
        refine ⟨by rw [e, tab_len]; exact (show 1 ≤ 1000000 by decide), fun k => ?_, fun k => ?_⟩
        · have k : ¬ lgE (fltI (colN [l0] g) t w) = 0 := bneZ.1 k
          have kb : ¬ Bd 16384 (fltI (colN [l0] g) t w) := fun b => k (lgE_of b)
          obtain ⟨c1, c2⟩ := cmb_four h (cmbX_col hlt kb)
          rw [lgE_not kb, c2]
          exact ⟨c1, rfl⟩
        · have k : lgE (fltI (colN [l0] g) t w) = 0 := bneF.1 k
          have kb := lgE_zero.1 k
          have hs : smpsN (fltI (colN [l0] g) t w) = [smp (cmbV [l0] t w 0 g)] := by rw [smpsN_of kb, e, tab_map]; rfl
          rw [hs]
          refine ⟨⟨fun i => smp (cmbV [l0] t w i g), rfl, rfl⟩, fun z hz => ?_⟩
          simp only [List.cons.injEq, and_true] at hz
          have z0 := hz
          simp only [fillTo_len, z0]
          exact ⟨by decide, by decide, by decide, by omega, by omega, by simp only [fits]; omega, by simp only [fits]; omega, g + 1, ⟨hlt, fun a ha => by
            rcases Nat.lt_succ_iff_lt_or_eq.1 ha with ha | rfl
            · exact hg.2 a ha
            · exact kb⟩, by omega, by simp, fillTo_set _ _ _ _⟩
    · have hge : ¬ (g : Int) < (widN [l0] : Int) := of_decide_eq_false hge
      have eg : g = widN [l0] := by omega
      have hx : cmbX [l0] t w = 0 := cmbX_cols fun a ha => hg.2 a (by omega)
      obtain ⟨c1, c2⟩ := cmb_ok h hx
      rw [c1, c2]
      refine ⟨?_, rfl⟩
      have fa : ∀ n, n = widN [l0] → ∀ f : Nat → Nat, fillTo 0 n f g = tab (widN [l0]) f := fun n hn f => by rw [hn, fillTo_all _ _ _ _ (by omega)]
      rw [fa _ w0]
      rfl
theorem fn1472 (l0 l1 : List Nat) (t : List Int) (w : Int) (hw : w = 1 ∨ w = -1) : Fn P1 gl1 147 [fldV [l0, l1], .one (.sl (.int .i64) t), iV w] (.tup [.one (.sl lnT (cmbN [l0, l1] t w)), iV (cmbE [l0, l1] t w)]) false := by
  refine fn_of false [(38, sp38), (79, sp79), (95, sp95), (123, sp123), (158, sp158), (138, sp138)] [fb178, fb180] (h147 2 fun g => [g 0, g 1]) 3 Proofs.Tryz.f147 ⟨so38, so79, so95, so123, so158, so138, trivial⟩ ⟨⟨by kernel_rfl, by kernel_rfl, _, rfl, by kernel_rfl⟩, ⟨by kernel_rfl, by kernel_rfl, _, rfl, by kernel_rfl⟩, trivial⟩ (by kernel_rfl) rfl (by kernel_rfl) rfl rfl rfl ?_
  rw [vc1472]
  try simp only [splitB_iff, -eq_self]
  simp only [eq_self, true_and, and_true, and_self, List.length_map, col_map]
  refine ⟨by decide, fun h => ?_, fun h => ?_⟩
  · exact cmb_bad (bneZ.1 h)
  · have h : cmbB [l0, l1] t = 0 := bneF.1 h
    have H := cmbB_zero.1 h
    have hW := H.wid_le
    have w0 : l0.length = widN [l0, l1] := H.wid 0 (show 0 < 2 by decide)
    have w1 : l1.length = widN [l0, l1] := H.wid 1 (show 1 < 2 by decide)
    have hfl := flat_wid H
    have hfl : (List.flatten (List.map sixs [l0, l1])).length = 2 * widN [l0, l1] := hfl
    have hq : ((List.flatten (List.map sixs [l0, l1])).length : Int) / max 1 2 = (widN [l0, l1] : Int) := by
      rw [hfl, show max 1 2 = (2 : Int) by decide]; omega
    have hz := first_zero.1 h
    simp only [hq]
    refine ⟨hz _ (.head _), by decide, by simp only [room]; omega, ⟨0, by decide⟩, fun _ _ => ⟨by decide, by omega, by simp only [room]; omega, by decide, by simp only [fits]; omega, by decide, by omega, by simp only [room]; omega, by decide, by simp only [fits]; omega, (show 2 ≤ 1000 by decide), by omega, ⟨by omega, by decide, by simp only [fits]; omega⟩, ⟨0, ⟨Nat.zero_le _, fun a ha => absurd ha (Nat.not_lt_zero a)⟩, rfl, (fillTo_zero _ _ _).symm, (fillTo_zero _ _ _).symm⟩, fun g hg => ⟨fun hlt => ?_, fun hge => ?_⟩⟩⟩
    · have hlt : g < widN [l0, l1] := by simpa using hlt
      refine ⟨⟨0, Nat.zero_le _, rfl, rfl⟩, fun i hi => ⟨fun hlt2 => ⟨⟨0, Nat.zero_le _, rfl, rfl⟩, fun j hj => ⟨fun hlt3 => ?_, fun hge3 => ?_⟩⟩, fun hge2 => ?_⟩⟩
      · have hlt2 : i < List.length [l0, l1] := by have := of_decide_eq_true hlt2; omega
        have hlt3 : j < t.length := by simpa using hlt3
        obtain ⟨a1, a2, a3, a4⟩ := cmb_step hw H rfl hlt2 hlt3 (show g < widN [l0, l1] from hlt)
        have h8 := H.t1
        refine ⟨⟨by omega, by omega⟩, a1, a2, fun c => ?_, fun c => ⟨by simp only [fits]; omega, j + 1, hlt3, by omega, by simp, a4 (of_and0 c)⟩⟩
        obtain ⟨b1, b2, b3, b4⟩ := a3 (of_and1 c)
        exact ⟨of_and1 c, ⟨by omega, b1⟩, b2, b3, by simp only [fits]; omega, j + 1, hlt3, by omega, by simp, b4⟩
      · have hlt2 : i < List.length [l0, l1] := by have := of_decide_eq_true hlt2; omega
        have hj : j ≤ t.length := hj
        have hge3 : ¬ j < t.length := by simpa using hge3
        have ej : j = t.length := by omega
        subst ej
        have h32 : List.length [l0, l1] ≤ 32 := (show 2 ≤ 32 by decide)
        exact ⟨by simp only [room, tab_len]; omega, by simp only [fits]; omega, i + 1, hlt2, by omega, by simp, (tab_succ _ _).symm⟩
      · have hi : i ≤ List.length [l0, l1] := hi
        have hge2 : ¬ (i : Int) < (List.length [l0, l1] : Int) := of_decide_eq_false hge2
        have ei : i = List.length [l0, l1] := by omega
        subst ei
        have e := col_flt [l0, l1] t w g
        rw [show (tab (List.length [l0, l1]) fun i => swTo (List.length [l0, l1]) (lat (colN [l0, l1] g)) t w i (List.length t)) = fltI (colN [l0, l1] g) t w from e.symm]
        refine ⟨by rw [e, tab_len]; exact (show 2 ≤ 1000000 by decide), fun k => ?_, fun k => ?_⟩
        · have k : ¬ lgE (fltI (colN [l0, l1] g) t w) = 0 := bneZ.1 k
          have kb : ¬ Bd 16384 (fltI (colN [l0, l1] g) t w) := fun b => k (lgE_of b)
          obtain ⟨c1, c2⟩ := cmb_four h (cmbX_col hlt kb)
          rw [lgE_not kb, c2]
          exact ⟨c1, rfl⟩
        · have k : lgE (fltI (colN [l0, l1] g) t w) = 0 := bneF.1 k
          have kb := lgE_zero.1 k
          have hs : smpsN (fltI (colN [l0, l1] g) t w) = [smp (cmbV [l0, l1] t w 0 g), smp (cmbV [l0, l1] t w 1 g)] := by rw [smpsN_of kb, e, tab_map]; rfl
          rw [hs]
          refine ⟨⟨fun i => smp (cmbV [l0, l1] t w i g), rfl, rfl⟩, fun z hz => ?_⟩
          simp only [List.cons.injEq, and_true] at hz
          obtain ⟨z0, z1⟩ := hz
          simp only [fillTo_len, z0, z1]
          exact ⟨by decide, by decide, by decide, by omega, by omega, by simp only [fits]; omega, by decide, by decide, by decide, by omega, by omega, by simp only [fits]; omega, by simp only [fits]; omega, g + 1, ⟨hlt, fun a ha => by
            rcases Nat.lt_succ_iff_lt_or_eq.1 ha with ha | rfl
            · exact hg.2 a ha
            · exact kb⟩, by omega, by simp, fillTo_set _ _ _ _, fillTo_set _ _ _ _⟩
    · have hge : ¬ (g : Int) < (widN [l0, l1] : Int) := of_decide_eq_false hge
      have eg : g = widN [l0, l1] := by omega
      have hx : cmbX [l0, l1] t w = 0 := cmbX_cols fun a ha => hg.2 a (by omega)
      obtain ⟨c1, c2⟩ := cmb_ok h hx
      rw [c1, c2]
      refine ⟨?_, rfl⟩
      have fa : ∀ n, n = widN [l0, l1] → ∀ f : Nat → Nat, fillTo 0 n f g = tab (widN [l0, l1]) f := fun n hn f => by rw [hn, fillTo_all _ _ _ _ (by omega)]
      rw [fa _ w0, fa _ w1]
      rfl
theorem fn1473 (l0 l1 l2 : List Nat) (t : List Int) (w : Int) (hw : w = 1 ∨ w = -1) : Fn P1 gl1 147 [fldV [l0, l1, l2], .one (.sl (.int .i64) t), iV w] (.tup [.one (.sl lnT (cmbN [l0, l1, l2] t w)), iV (cmbE [l0, l1, l2] t w)]) false := by
  refine fn_of false [(38, sp38), (79, sp79), (95, sp95), (123, sp123), (158, sp158), (138, sp138)] [fb178, fb180] (h147 3 fun g => [g 0, g 1, g 2]) 3 Proofs.Tryz.f147 ⟨so38, so79, so95, so123, so158, so138, trivial⟩ ⟨⟨by kernel_rfl, by kernel_rfl, _, rfl, by kernel_rfl⟩, ⟨by kernel_rfl, by kernel_rfl, _, rfl, by kernel_rfl⟩, trivial⟩ (by kernel_rfl) rfl (by kernel_rfl) rfl rfl rfl ?_
  rw [vc1473]
  try simp only [splitB_iff, -eq_self]
  simp only [eq_self, true_and, and_true, and_self, List.length_map, col_map]
  refine ⟨by decide, fun h => ?_, fun h => ?_⟩
  · exact cmb_bad (bneZ.1 h)
  · have h : cmbB [l0, l1, l2] t = 0 := bneF.1 h
    have H := cmbB_zero.1 h
    have hW := H.wid_le
    have w0 : l0.length = widN [l0, l1, l2] := H.wid 0 (show 0 < 3 by decide)
    have w1 : l1.length = widN [l0, l1, l2] := H.wid 1 (show 1 < 3 by decide)
    have w2 : l2.length = widN [l0, l1, l2] := H.wid 2 (show 2 < 3 by decide)
    have hfl := flat_wid H
    have hfl : (List.flatten (List.map sixs [l0, l1, l2])).length = 3 * widN [l0, l1, l2] := hfl
    have hq : ((List.flatten (List.map sixs [l0, l1, l2])).length : Int) / max 1 3 = (widN [l0, l1, l2] : Int) := by
      rw [hfl, show max 1 3 = (3 : Int) by decide]; omega
    have hz := first_zero.1 h
    simp only [hq]
    refine ⟨hz _ (.head _), by decide, by simp only [room]; omega, ⟨0, by decide⟩, fun _ _ => ⟨by decide, by omega, by simp only [room]; omega, by decide, by simp only [fits]; omega, by decide, by omega, by simp only [room]; omega, by decide, by simp only [fits]; omega, by decide, by omega, by simp only [room]; omega, by decide, by simp only [fits]; omega, (show 3 ≤ 1000 by decide), by omega, ⟨by omega, by decide, by simp only [fits]; omega⟩, ⟨0, ⟨Nat.zero_le _, fun a ha => absurd ha (Nat.not_lt_zero a)⟩, rfl, (fillTo_zero _ _ _).symm, (fillTo_zero _ _ _).symm, (fillTo_zero _ _ _).symm⟩, fun g hg => ⟨fun hlt => ?_, fun hge => ?_⟩⟩⟩
    · have hlt : g < widN [l0, l1, l2] := by simpa using hlt
      refine ⟨⟨0, Nat.zero_le _, rfl, rfl⟩, fun i hi => ⟨fun hlt2 => ⟨⟨0, Nat.zero_le _, rfl, rfl⟩, fun j hj => ⟨fun hlt3 => ?_, fun hge3 => ?_⟩⟩, fun hge2 => ?_⟩⟩
      · have hlt2 : i < List.length [l0, l1, l2] := by have := of_decide_eq_true hlt2; omega
        have hlt3 : j < t.length := by simpa using hlt3
        obtain ⟨a1, a2, a3, a4⟩ := cmb_step hw H rfl hlt2 hlt3 (show g < widN [l0, l1, l2] from hlt)
        have h8 := H.t1
        refine ⟨⟨by omega, by omega⟩, a1, a2, fun c => ?_, fun c => ⟨by simp only [fits]; omega, j + 1, hlt3, by omega, by simp, a4 (of_and0 c)⟩⟩
        obtain ⟨b1, b2, b3, b4⟩ := a3 (of_and1 c)
        exact ⟨of_and1 c, ⟨by omega, b1⟩, b2, b3, by simp only [fits]; omega, j + 1, hlt3, by omega, by simp, b4⟩
      · have hlt2 : i < List.length [l0, l1, l2] := by have := of_decide_eq_true hlt2; omega
        have hj : j ≤ t.length := hj
        have hge3 : ¬ j < t.length := by simpa using hge3
        have ej : j = t.length := by omega
        subst ej
        have h32 : List.length [l0, l1, l2] ≤ 32 := (show 3 ≤ 32 by decide)
        exact ⟨by simp only [room, tab_len]; omega, by simp only [fits]; omega, i + 1, hlt2, by omega, by simp, (tab_succ _ _).symm⟩
      · have hi : i ≤ List.length [l0, l1, l2] := hi
        have hge2 : ¬ (i : Int) < (List.length [l0, l1, l2] : Int) := of_decide_eq_false hge2
        have ei : i = List.length [l0, l1, l2] := by omega
        subst ei
        have e := col_flt [l0, l1, l2] t w g
        rw [show (tab (List.length [l0, l1, l2]) fun i => swTo (List.length [l0, l1, l2]) (lat (colN [l0, l1, l2] g)) t w i (List.length t)) = fltI (colN [l0, l1, l2] g) t w from e.symm]
        refine ⟨by rw [e, tab_len]; exact (show 3 ≤ 1000000 by decide), fun k => ?_, fun k => ?_⟩
        · have k : ¬ lgE (fltI (colN [l0, l1, l2] g) t w) = 0 := bneZ.1 k
          have kb : ¬ Bd 16384 (fltI (colN [l0, l1, l2] g) t w) := fun b => k (lgE_of b)
          obtain ⟨c1, c2⟩ := cmb_four h (cmbX_col hlt kb)
          rw [lgE_not kb, c2]
          exact ⟨c1, rfl⟩
        · have k : lgE (fltI (colN [l0, l1, l2] g) t w) = 0 := bneF.1 k
          have kb := lgE_zero.1 k
          have hs : smpsN (fltI (colN [l0, l1, l2] g) t w) = [smp (cmbV [l0, l1, l2] t w 0 g), smp (cmbV [l0, l1, l2] t w 1 g), smp (cmbV [l0, l1, l2] t w 2 g)] := by rw [smpsN_of kb, e, tab_map]; rfl
          rw [hs]
          refine ⟨⟨fun i => smp (cmbV [l0, l1, l2] t w i g), rfl, rfl⟩, fun z hz => ?_⟩
          simp only [List.cons.injEq, and_true] at hz
          obtain ⟨z0, z1, z2⟩ := hz
          simp only [fillTo_len, z0, z1, z2]
          exact ⟨by decide, by decide, by decide, by omega, by omega, by simp only [fits]; omega, by decide, by decide, by decide, by omega, by omega, by simp only [fits]; omega, by decide, by decide, by decide, by omega, by omega, by simp only [fits]; omega, by simp only [fits]; omega, g + 1, ⟨hlt, fun a ha => by
            rcases Nat.lt_succ_iff_lt_or_eq.1 ha with ha | rfl
            · exact hg.2 a ha
            · exact kb⟩, by omega, by simp, fillTo_set _ _ _ _, fillTo_set _ _ _ _, fillTo_set _ _ _ _⟩
    · have hge : ¬ (g : Int) < (widN [l0, l1, l2] : Int) := of_decide_eq_false hge
      have eg : g = widN [l0, l1, l2] := by omega
      have hx : cmbX [l0, l1, l2] t w = 0 := cmbX_cols fun a ha => hg.2 a (by omega)
      obtain ⟨c1, c2⟩ := cmb_ok h hx
      rw [c1, c2]
      refine ⟨?_, rfl⟩
      have fa : ∀ n, n = widN [l0, l1, l2] → ∀ f : Nat → Nat, fillTo 0 n f g = tab (widN [l0, l1, l2]) f := fun n hn f => by rw [hn, fillTo_all _ _ _ _ (by omega)]
      rw [fa _ w0, fa _ w1, fa _ w2]
      rfl
theorem fn1474 (l0 l1 l2 l3 : List Nat) (t : List Int) (w : Int) (hw : w = 1 ∨ w = -1) : Fn P1 gl1 147 [fldV [l0, l1, l2, l3], .one (.sl (.int .i64) t), iV w] (.tup [.one (.sl lnT (cmbN [l0, l1, l2, l3] t w)), iV (cmbE [l0, l1, l2, l3] t w)]) false := by
  refine fn_of false [(38, sp38), (79, sp79), (95, sp95), (123, sp123), (158, sp158), (138, sp138)] [fb178, fb180] (h147 4 fun g => [g 0, g 1, g 2, g 3]) 3 Proofs.Tryz.f147 ⟨so38, so79, so95, so123, so158, so138, trivial⟩ ⟨⟨by kernel_rfl, by kernel_rfl, _, rfl, by kernel_rfl⟩, ⟨by kernel_rfl, by kernel_rfl, _, rfl, by kernel_rfl⟩, trivial⟩ (by kernel_rfl) rfl (by kernel_rfl) rfl rfl rfl ?_
  rw [vc1474]
  try simp only [splitB_iff, -eq_self]
  simp only [eq_self, true_and, and_true, and_self, List.length_map, col_map]
  refine ⟨by decide, fun h => ?_, fun h => ?_⟩
  · exact cmb_bad (bneZ.1 h)
  · have h : cmbB [l0, l1, l2, l3] t = 0 := bneF.1 h
    have H := cmbB_zero.1 h
    have hW := H.wid_le
    have w0 : l0.length = widN [l0, l1, l2, l3] := H.wid 0 (show 0 < 4 by decide)
    have w1 : l1.length = widN [l0, l1, l2, l3] := H.wid 1 (show 1 < 4 by decide)
    have w2 : l2.length = widN [l0, l1, l2, l3] := H.wid 2 (show 2 < 4 by decide)
    have w3 : l3.length = widN [l0, l1, l2, l3] := H.wid 3 (show 3 < 4 by decide)
    have hfl := flat_wid H
    have hfl : (List.flatten (List.map sixs [l0, l1, l2, l3])).length = 4 * widN [l0, l1, l2, l3] := hfl
    have hq : ((List.flatten (List.map sixs [l0, l1, l2, l3])).length : Int) / max 1 4 = (widN [l0, l1, l2, l3] : Int) := by
      rw [hfl, show max 1 4 = (4 : Int) by decide]; omega
    have hz := first_zero.1 h
    simp only [hq]
    refine ⟨hz _ (.head _), by decide, by simp only [room]; omega, ⟨0, by decide⟩, fun _ _ => ⟨by decide, by omega, by simp only [room]; omega, by decide, by simp only [fits]; omega, by decide, by omega, by simp only [room]; omega, by decide, by simp only [fits]; omega, by decide, by omega, by simp only [room]; omega, by decide, by simp only [fits]; omega, by decide, by omega, by simp only [room]; omega, by decide, by simp only [fits]; omega, (show 4 ≤ 1000 by decide), by omega, ⟨by omega, by decide, by simp only [fits]; omega⟩, ⟨0, ⟨Nat.zero_le _, fun a ha => absurd ha (Nat.not_lt_zero a)⟩, rfl, (fillTo_zero _ _ _).symm, (fillTo_zero _ _ _).symm, (fillTo_zero _ _ _).symm, (fillTo_zero _ _ _).symm⟩, fun g hg => ⟨fun hlt => ?_, fun hge => ?_⟩⟩⟩
    · have hlt : g < widN [l0, l1, l2, l3] := by simpa using hlt
      refine ⟨⟨0, Nat.zero_le _, rfl, rfl⟩, fun i hi => ⟨fun hlt2 => ⟨⟨0, Nat.zero_le _, rfl, rfl⟩, fun j hj => ⟨fun hlt3 => ?_, fun hge3 => ?_⟩⟩, fun hge2 => ?_⟩⟩
      · have hlt2 : i < List.length [l0, l1, l2, l3] := by have := of_decide_eq_true hlt2; omega
        have hlt3 : j < t.length := by simpa using hlt3
        obtain ⟨a1, a2, a3, a4⟩ := cmb_step hw H rfl hlt2 hlt3 (show g < widN [l0, l1, l2, l3] from hlt)
        have h8 := H.t1
        refine ⟨⟨by omega, by omega⟩, a1, a2, fun c => ?_, fun c => ⟨by simp only [fits]; omega, j + 1, hlt3, by omega, by simp, a4 (of_and0 c)⟩⟩
        obtain ⟨b1, b2, b3, b4⟩ := a3 (of_and1 c)
        exact ⟨of_and1 c, ⟨by omega, b1⟩, b2, b3, by simp only [fits]; omega, j + 1, hlt3, by omega, by simp, b4⟩
      · have hlt2 : i < List.length [l0, l1, l2, l3] := by have := of_decide_eq_true hlt2; omega
        have hj : j ≤ t.length := hj
        have hge3 : ¬ j < t.length := by simpa using hge3
        have ej : j = t.length := by omega
        subst ej
        have h32 : List.length [l0, l1, l2, l3] ≤ 32 := (show 4 ≤ 32 by decide)
        exact ⟨by simp only [room, tab_len]; omega, by simp only [fits]; omega, i + 1, hlt2, by omega, by simp, (tab_succ _ _).symm⟩
      · have hi : i ≤ List.length [l0, l1, l2, l3] := hi
        have hge2 : ¬ (i : Int) < (List.length [l0, l1, l2, l3] : Int) := of_decide_eq_false hge2
        have ei : i = List.length [l0, l1, l2, l3] := by omega
        subst ei
        have e := col_flt [l0, l1, l2, l3] t w g
        rw [show (tab (List.length [l0, l1, l2, l3]) fun i => swTo (List.length [l0, l1, l2, l3]) (lat (colN [l0, l1, l2, l3] g)) t w i (List.length t)) = fltI (colN [l0, l1, l2, l3] g) t w from e.symm]
        refine ⟨by rw [e, tab_len]; exact (show 4 ≤ 1000000 by decide), fun k => ?_, fun k => ?_⟩
        · have k : ¬ lgE (fltI (colN [l0, l1, l2, l3] g) t w) = 0 := bneZ.1 k
          have kb : ¬ Bd 16384 (fltI (colN [l0, l1, l2, l3] g) t w) := fun b => k (lgE_of b)
          obtain ⟨c1, c2⟩ := cmb_four h (cmbX_col hlt kb)
          rw [lgE_not kb, c2]
          exact ⟨c1, rfl⟩
        · have k : lgE (fltI (colN [l0, l1, l2, l3] g) t w) = 0 := bneF.1 k
          have kb := lgE_zero.1 k
          have hs : smpsN (fltI (colN [l0, l1, l2, l3] g) t w) = [smp (cmbV [l0, l1, l2, l3] t w 0 g), smp (cmbV [l0, l1, l2, l3] t w 1 g), smp (cmbV [l0, l1, l2, l3] t w 2 g), smp (cmbV [l0, l1, l2, l3] t w 3 g)] := by rw [smpsN_of kb, e, tab_map]; rfl
          rw [hs]
          refine ⟨⟨fun i => smp (cmbV [l0, l1, l2, l3] t w i g), rfl, rfl⟩, fun z hz => ?_⟩
          simp only [List.cons.injEq, and_true] at hz
          obtain ⟨z0, z1, z2, z3⟩ := hz
          simp only [fillTo_len, z0, z1, z2, z3]
          exact ⟨by decide, by decide, by decide, by omega, by omega, by simp only [fits]; omega, by decide, by decide, by decide, by omega, by omega, by simp only [fits]; omega, by decide, by decide, by decide, by omega, by omega, by simp only [fits]; omega, by decide, by decide, by decide, by omega, by omega, by simp only [fits]; omega, by simp only [fits]; omega, g + 1, ⟨hlt, fun a ha => by
            rcases Nat.lt_succ_iff_lt_or_eq.1 ha with ha | rfl
            · exact hg.2 a ha
            · exact kb⟩, by omega, by simp, fillTo_set _ _ _ _, fillTo_set _ _ _ _, fillTo_set _ _ _ _, fillTo_set _ _ _ _⟩
    · have hge : ¬ (g : Int) < (widN [l0, l1, l2, l3] : Int) := of_decide_eq_false hge
      have eg : g = widN [l0, l1, l2, l3] := by omega
      have hx : cmbX [l0, l1, l2, l3] t w = 0 := cmbX_cols fun a ha => hg.2 a (by omega)
      obtain ⟨c1, c2⟩ := cmb_ok h hx
      rw [c1, c2]
      refine ⟨?_, rfl⟩
      have fa : ∀ n, n = widN [l0, l1, l2, l3] → ∀ f : Nat → Nat, fillTo 0 n f g = tab (widN [l0, l1, l2, l3]) f := fun n hn f => by rw [hn, fillTo_all _ _ _ _ (by omega)]
      rw [fa _ w0, fa _ w1, fa _ w2, fa _ w3]
      rfl
theorem fn1475 (l0 l1 l2 l3 l4 : List Nat) (t : List Int) (w : Int) (hw : w = 1 ∨ w = -1) : Fn P1 gl1 147 [fldV [l0, l1, l2, l3, l4], .one (.sl (.int .i64) t), iV w] (.tup [.one (.sl lnT (cmbN [l0, l1, l2, l3, l4] t w)), iV (cmbE [l0, l1, l2, l3, l4] t w)]) false := by
  refine fn_of false [(38, sp38), (79, sp79), (95, sp95), (123, sp123), (158, sp158), (138, sp138)] [fb178, fb180] (h147 5 fun g => [g 0, g 1, g 2, g 3, g 4]) 3 Proofs.Tryz.f147 ⟨so38, so79, so95, so123, so158, so138, trivial⟩ ⟨⟨by kernel_rfl, by kernel_rfl, _, rfl, by kernel_rfl⟩, ⟨by kernel_rfl, by kernel_rfl, _, rfl, by kernel_rfl⟩, trivial⟩ (by kernel_rfl) rfl (by kernel_rfl) rfl rfl rfl ?_
  rw [vc1475]
  try simp only [splitB_iff, -eq_self]
  simp only [eq_self, true_and, and_true, and_self, List.length_map, col_map]
  refine ⟨by decide, fun h => ?_, fun h => ?_⟩
  · exact cmb_bad (bneZ.1 h)
  · have h : cmbB [l0, l1, l2, l3, l4] t = 0 := bneF.1 h
    have H := cmbB_zero.1 h
    have hW := H.wid_le
    have w0 : l0.length = widN [l0, l1, l2, l3, l4] := H.wid 0 (show 0 < 5 by decide)
    have w1 : l1.length = widN [l0, l1, l2, l3, l4] := H.wid 1 (show 1 < 5 by decide)
    have w2 : l2.length = widN [l0, l1, l2, l3, l4] := H.wid 2 (show 2 < 5 by decide)
    have w3 : l3.length = widN [l0, l1, l2, l3, l4] := H.wid 3 (show 3 < 5 by decide)
    have w4 : l4.length = widN [l0, l1, l2, l3, l4] := H.wid 4 (show 4 < 5 by decide)
    have hfl := flat_wid H
    have hfl : (List.flatten (List.map sixs [l0, l1, l2, l3, l4])).length = 5 * widN [l0, l1, l2, l3, l4] := hfl
    have hq : ((List.flatten (List.map sixs [l0, l1, l2, l3, l4])).length : Int) / max 1 5 = (widN [l0, l1, l2, l3, l4] : Int) := by
      rw [hfl, show max 1 5 = (5 : Int) by decide]; omega
    have hz := first_zero.1 h
    simp only [hq]
    refine ⟨hz _ (.head _), by decide, by simp only [room]; omega, ⟨0, by decide⟩, fun _ _ => ⟨by decide, by omega, by simp only [room]; omega, by decide, by simp only [fits]; omega, by decide, by omega, by simp only [room]; omega, by decide, by simp only [fits]; omega, by decide, by omega, by simp only [room]; omega, by decide, by simp only [fits]; omega, by decide, by omega, by simp only [room]; omega, by decide, by simp only [fits]; omega, by decide, by omega, by simp only [room]; omega, by decide, by simp only [fits]; omega, (show 5 ≤ 1000 by decide), by omega, ⟨by omega, by decide, by simp only [fits]; omega⟩, ⟨0, ⟨Nat.zero_le _, fun a ha => absurd ha (Nat.not_lt_zero a)⟩, rfl, (fillTo_zero _ _ _).symm, (fillTo_zero _ _ _).symm, (fillTo_zero _ _ _).symm, (fillTo_zero _ _ _).symm, (fillTo_zero _ _ _).symm⟩, fun g hg => ⟨fun hlt => ?_, fun hge => ?_⟩⟩⟩
    · have hlt : g < widN [l0, l1, l2, l3, l4] := by simpa using hlt
      refine ⟨⟨0, Nat.zero_le _, rfl, rfl⟩, fun i hi => ⟨fun hlt2 => ⟨⟨0, Nat.zero_le _, rfl, rfl⟩, fun j hj => ⟨fun hlt3 => ?_, fun hge3 => ?_⟩⟩, fun hge2 => ?_⟩⟩
      · have hlt2 : i < List.length [l0, l1, l2, l3, l4] := by have := of_decide_eq_true hlt2; omega
        have hlt3 : j < t.length := by simpa using hlt3
        obtain ⟨a1, a2, a3, a4⟩ := cmb_step hw H rfl hlt2 hlt3 (show g < widN [l0, l1, l2, l3, l4] from hlt)
        have h8 := H.t1
        refine ⟨⟨by omega, by omega⟩, a1, a2, fun c => ?_, fun c => ⟨by simp only [fits]; omega, j + 1, hlt3, by omega, by simp, a4 (of_and0 c)⟩⟩
        obtain ⟨b1, b2, b3, b4⟩ := a3 (of_and1 c)
        exact ⟨of_and1 c, ⟨by omega, b1⟩, b2, b3, by simp only [fits]; omega, j + 1, hlt3, by omega, by simp, b4⟩
      · have hlt2 : i < List.length [l0, l1, l2, l3, l4] := by have := of_decide_eq_true hlt2; omega
        have hj : j ≤ t.length := hj
        have hge3 : ¬ j < t.length := by simpa using hge3
        have ej : j = t.length := by omega
        subst ej
        have h32 : List.length [l0, l1, l2, l3, l4] ≤ 32 := (show 5 ≤ 32 by decide)
        exact ⟨by simp only [room, tab_len]; omega, by simp only [fits]; omega, i + 1, hlt2, by omega, by simp, (tab_succ _ _).symm⟩
      · have hi : i ≤ List.length [l0, l1, l2, l3, l4] := hi
        have hge2 : ¬ (i : Int) < (List.length [l0, l1, l2, l3, l4] : Int) := of_decide_eq_false hge2
        have ei : i = List.length [l0, l1, l2, l3, l4] := by omega
        subst ei
        have e := col_flt [l0, l1, l2, l3, l4] t w g
        rw [show (tab (List.length [l0, l1, l2, l3, l4]) fun i => swTo (List.length [l0, l1, l2, l3, l4]) (lat (colN [l0, l1, l2, l3, l4] g)) t w i (List.length t)) = fltI (colN [l0, l1, l2, l3, l4] g) t w from e.symm]
        refine ⟨by rw [e, tab_len]; exact (show 5 ≤ 1000000 by decide), fun k => ?_, fun k => ?_⟩
        · have k : ¬ lgE (fltI (colN [l0, l1, l2, l3, l4] g) t w) = 0 := bneZ.1 k
          have kb : ¬ Bd 16384 (fltI (colN [l0, l1, l2, l3, l4] g) t w) := fun b => k (lgE_of b)
          obtain ⟨c1, c2⟩ := cmb_four h (cmbX_col hlt kb)
          rw [lgE_not kb, c2]
          exact ⟨c1, rfl⟩
        · have k : lgE (fltI (colN [l0, l1, l2, l3, l4] g) t w) = 0 := bneF.1 k
          have kb := lgE_zero.1 k
          have hs : smpsN (fltI (colN [l0, l1, l2, l3, l4] g) t w) = [smp (cmbV [l0, l1, l2, l3, l4] t w 0 g), smp (cmbV [l0, l1, l2, l3, l4] t w 1 g), smp (cmbV [l0, l1, l2, l3, l4] t w 2 g), smp (cmbV [l0, l1, l2, l3, l4] t w 3 g), smp (cmbV [l0, l1, l2, l3, l4] t w 4 g)] := by rw [smpsN_of kb, e, tab_map]; rfl
          rw [hs]
          refine ⟨⟨fun i => smp (cmbV [l0, l1, l2, l3, l4] t w i g), rfl, rfl⟩, fun z hz => ?_⟩
          simp only [List.cons.injEq, and_true] at hz
          obtain ⟨z0, z1, z2, z3, z4⟩ := hz
          simp only [fillTo_len, z0, z1, z2, z3, z4]
          exact ⟨by decide, by decide, by decide, by omega, by omega, by simp only [fits]; omega, by decide, by decide, by decide, by omega, by omega, by simp only [fits]; omega, by decide, by decide, by decide, by omega, by omega, by simp only [fits]; omega, by decide, by decide, by decide, by omega, by omega, by simp only [fits]; omega, by decide, by decide, by decide, by omega, by omega, by simp only [fits]; omega, by simp only [fits]; omega, g + 1, ⟨hlt, fun a ha => by
            rcases Nat.lt_succ_iff_lt_or_eq.1 ha with ha | rfl
            · exact hg.2 a ha
            · exact kb⟩, by omega, by simp, fillTo_set _ _ _ _, fillTo_set _ _ _ _, fillTo_set _ _ _ _, fillTo_set _ _ _ _, fillTo_set _ _ _ _⟩
    · have hge : ¬ (g : Int) < (widN [l0, l1, l2, l3, l4] : Int) := of_decide_eq_false hge
      have eg : g = widN [l0, l1, l2, l3, l4] := by omega
      have hx : cmbX [l0, l1, l2, l3, l4] t w = 0 := cmbX_cols fun a ha => hg.2 a (by omega)
      obtain ⟨c1, c2⟩ := cmb_ok h hx
      rw [c1, c2]
      refine ⟨?_, rfl⟩
      have fa : ∀ n, n = widN [l0, l1, l2, l3, l4] → ∀ f : Nat → Nat, fillTo 0 n f g = tab (widN [l0, l1, l2, l3, l4]) f := fun n hn f => by rw [hn, fillTo_all _ _ _ _ (by omega)]
      rw [fa _ w0, fa _ w1, fa _ w2, fa _ w3, fa _ w4]
      rfl
theorem fn1476 (f : Fld) (t : List Int) (w : Int) (hw : w = 1 ∨ w = -1) (hx : ¬ cmbB f t = 0) : Fn P1 gl1 147 [fldV f, .one (.sl (.int .i64) t), iV w] (.tup [.one (.sl lnT (cmbN f t w)), iV (cmbE f t w)]) false := by
  refine fn_of false [(38, sp38), (79, sp79), (95, sp95), (123, sp123), (158, sp158), (138, sp138)] [] h0 0 Proofs.Tryz.f147 ⟨so38, so79, so95, so123, so158, so138, trivial⟩ trivial (by kernel_rfl) rfl (by kernel_rfl) rfl rfl rfl ?_
  rw [vc1476]
  try simp only [splitB_iff, -eq_self]
  simp only [eq_self, true_and, and_true, and_self]
  exact ⟨by decide, fun h => cmb_bad (bneZ.1 h), fun h => absurd (bneF.1 h) hx⟩
theorem so147_ : SpecOk P1 gl1 147 sp147 := by
  intro vs ps r h hp
  simp only [sp147] at h
  split at h
  · rename_i f t w
    cases h
    have hw : w = 1 ∨ w = -1 := hp _ (.head _)
    have hl : List.length f ≤ 5 ∨ ¬ cmbB f t = 0 := hp _ (.tail _ (.head _))
    rcases hl with hl | hl
    rotate_left
    · exact fn1476 f t w hw hl
    match f, hl with
    | [], _ => exact fn1470 t w hw
    | [a], _ => exact fn1471 a t w hw
    | [a, b], _ => exact fn1472 a b t w hw
    | [a, b, c], _ => exact fn1473 a b c t w hw
    | [a, b, c, d], _ => exact fn1474 a b c d t w hw
    | [a, b, c, d, e], _ => exact fn1475 a b c d e t w hw
    | _ :: _ :: _ :: _ :: _ :: _ :: _, hl => simp only [List.length_cons] at hl; omega
  · cases h
theorem so147 : Sp1 147 sp147 := ⟨so147_, Proofs.Tryz.f147, _, by kernel_rfl, rfl, by kernel_rfl⟩
theorem fn80 (f : Fld) (t : List Int) (hl : f.length ≤ 5 ∨ ¬ cmbB f t = 0) : Fn P1 gl1 80 [fldV f, .one (.sl (.int .i64) t)] (.tup [fldV (cmbN f t 1), iV (cmbE f t 1)]) false := by
  refine fn_of false [(147, sp147)] [] h0 0 Proofs.Tryz.f80 ⟨so147, trivial⟩ trivial (by kernel_rfl) rfl (by kernel_rfl) rfl rfl rfl ?_
  rw [vc80]
  try simp only [splitB_iff, -eq_self]
  exact ⟨.inl rfl, hl, rfl, rfl, trivial⟩
theorem so80_ : SpecOk P1 gl1 80 sp80 := by
  intro vs ps r h hp
  simp only [sp80] at h
  split at h
  · cases h; exact fn80 _ _ (hp _ (.head _))
  · cases h
theorem so80 : Sp1 80 sp80 := ⟨so80_, Proofs.Tryz.f80, _, by kernel_rfl, rfl, by kernel_rfl⟩
theorem fn81 (f : Fld) (t : List Int) (hl : f.length ≤ 5 ∨ ¬ cmbB f t = 0) : Fn P1 gl1 81 [fldV f, .one (.sl (.int .i64) t)] (.tup [fldV (cmbN f t (-1)), iV (cmbE f t (-1))]) false := by
  refine fn_of false [(147, sp147)] [] h0 0 Proofs.Tryz.f81 ⟨so147, trivial⟩ trivial (by kernel_rfl) rfl (by kernel_rfl) rfl rfl rfl ?_
  rw [vc81]
  try simp only [splitB_iff, -eq_self]
  exact ⟨.inr rfl, hl, rfl, rfl, trivial⟩
theorem so81_ : SpecOk P1 gl1 81 sp81 := by
  intro vs ps r h hp
  simp only [sp81] at h
  split at h
  · cases h; exact fn81 _ _ (hp _ (.head _))
  · cases h
theorem so81 : Sp1 81 sp81 := ⟨so81_, Proofs.Tryz.f81, _, by kernel_rfl, rfl, by kernel_rfl⟩
theorem rep_tab {α : Type} (n : Nat) (d : α) : List.replicate n d = tab n fun _ => d := (fillTo_zero d n (fun _ => d)).symm.trans (tab_ext fun i _ => by rw [if_neg (Nat.not_lt_zero i)])
theorem mixTo_len (n q : Nat) (f g : Nat → Int) : (mixTo n q f g).length = n := tab_len _ _
theorem mixTo_zero (n : Nat) (f g : Nat → Int) : tab n g = mixTo n 0 f g := tab_ext fun a _ => by rw [if_neg (Nat.not_lt_zero a)]
theorem mixTo_all (n : Nat) (f g : Nat → Int) : mixTo n n f g = tab n f := tab_ext fun a ha => by rw [if_pos ha]
theorem mixTo_at {n q : Nat} (h : q < n) (f g : Nat → Int) : List.getD (mixTo n q f g) q 0 = g q := by
  unfold mixTo
  rw [tab_get h, if_neg (Nat.lt_irrefl q)]
theorem mixTo_set (n q : Nat) (f g : Nat → Int) : List.set (mixTo n q f g) q (f q) = mixTo n (q + 1) f g := by
  unfold mixTo
  rw [tab_set]
  refine tab_ext fun a _ => ?_
  by_cases e : a = q
  · subst e; rw [if_pos rfl, if_pos (by omega)]
  · rw [if_neg e]
    by_cases k : a < q
    · rw [if_pos k, if_pos (by omega)]
    · rw [if_neg k, if_neg (by omega)]
theorem fn82 (f : Fld) (t : List Int) (w : Int) (hw : w = 1 ∨ w = -1) (h : cmbB f t = 0) : Fn P1 gl1 82 [fldV f, .one (.sl (.int .i64) t), iV w] (.tup [fldV (if cmbX f t w = 0 then cmbS f t w else []), iV (cmbX f t w)]) false := by
  refine fn_of false [(100, sp100), (102, sp102)] [] h82 0 Proofs.Tryz.f82 ⟨so100, so102, trivial⟩ trivial (by kernel_rfl) rfl (by kernel_rfl) rfl rfl rfl ?_
  rw [vc82]
  try simp only [splitB_iff, -eq_self]
  have H := cmbB_zero.1 h
  have h8 := H.t1
  have h32 := H.len
  have hW := H.wid_le
  simp only [eq_self, true_and, and_true, and_self]
  refine ⟨⟨0, ⟨Nat.zero_le _, fun i hi => absurd hi (Nat.not_lt_zero i)⟩, rfl, rfl⟩, fun g hg => ⟨fun hlt => ?_, fun hge => ?_⟩⟩
  · have hlt : g < f.length := by have := of_decide_eq_true hlt; omega
    rw [H.wid g hlt]
    refine ⟨by omega, by omega, by simp only [room]; omega, ⟨0, Nat.zero_le _, rfl, rep_tab _ _⟩, fun j hj => ⟨fun hlt2 => ?_, fun hge2 => ?_⟩⟩
    · have hlt2 : j < t.length := by have := of_decide_eq_true hlt2; omega
      have hwj : -(j : Int) ≤ w * (j : Int) ∧ w * (j : Int) ≤ (j : Int) := by rcases hw with e | e <;> rw [e] <;> omega
      refine ⟨by simp only [fits]; omega, by simp only [fits]; omega, fun c => ?_, fun c => ⟨by simp only [fits]; omega, j + 1, hlt2, by omega, by simp, tab_ext fun a ha => (cmb_step hw H rfl hlt hlt2 ha).2.2.2 (of_and0 c)⟩⟩
      have c' := of_and1 c
      have hk : ((g : Int) - w * (j : Int)).toNat < f.length := by omega
      have hs := H.sig _ hk
      have hwk := H.wid _ hk
      have e : List.getD (List.map sixs f) ((g : Int) - w * (j : Int)).toNat [] = sixs (List.getD f ((g : Int) - w * (j : Int)).toNat []) := by
        rw [getD_of (by rw [List.length_map]; exact hk), List.getElem_map, getD_of hk]
      simp only [sixs_len, hwk, mixTo_len]
      refine ⟨c', by omega, hs.2.2, ⟨0, Nat.zero_le _, rfl, mixTo_zero _ _ _⟩, fun q hq => ⟨fun hlt3 => ?_, fun hge3 => ?_⟩⟩
      · have hlt3 : q < widN f := by have := of_decide_eq_true hlt3; omega
        obtain ⟨_, _, a3, _⟩ := cmb_step hw H rfl hlt hlt2 hlt3
        obtain ⟨b1, b2, b3, b4⟩ := a3 c'
        rw [e] at b2 b3 b4
        rw [mixTo_at hlt3, b4, mixTo_set]
        rw [b4] at b3
        exact ⟨by omega, hlt3, by omega, by omega, hlt3, b2, b3, by omega, hlt3, by simp only [fits]; omega, q + 1, hlt3, by omega, by simp, rfl⟩
      · have hq : q ≤ widN f := hq
        have hge3 : ¬ (q : Int) < (widN f : Int) := of_decide_eq_false hge3
        have eq : q = widN f := by omega
        subst eq
        exact ⟨by simp only [fits]; omega, j + 1, hlt2, by omega, by simp, mixTo_all _ _ _⟩
    · have hj : j ≤ t.length := hj
      have hge2 : ¬ (j : Int) < (t.length : Int) := of_decide_eq_false hge2
      have ej : j = t.length := by omega
      subst ej
      rw [show (tab (widN f) fun a => swTo (List.length f) (lat (colN f a)) t w g (List.length t)) = cmbL f t w g from rfl]
      refine ⟨by unfold cmbL; rw [tab_len]; omega, fun k => ?_, fun k => ?_⟩
      · have k : ¬ lgE (cmbL f t w g) = 0 := bneZ.1 k
        have kb : ¬ Bd 16384 (cmbL f t w g) := fun b => k (lgE_of b)
        have h4 := cmbX_line hlt kb
        rw [h4, if_neg (by decide), lgE_not kb]
        exact ⟨rfl, rfl⟩
      · have k : lgE (cmbL f t w g) = 0 := bneF.1 k
        have kb := lgE_zero.1 k
        rw [smpsN_of kb]
        exact ⟨by simp only [room, tab_len]; omega, by simp only [fits]; omega, g + 1, ⟨hlt, fun a ha => by
          rcases Nat.lt_succ_iff_lt_or_eq.1 ha with ha | rfl
          · exact hg.2 a ha
          · exact kb⟩, by omega, by simp, (tab_succ _ _).symm⟩
  · have hge : ¬ (g : Int) < (f.length : Int) := of_decide_eq_false hge
    have eg : g = f.length := by omega
    subst eg
    have hx : cmbX f t w = 0 := cmbX_lines hg.2
    rw [hx, if_pos rfl]
    refine ⟨tab_ext fun i _ => ?_, rfl⟩
    unfold cmbL
    exact tab_map _ _ _
theorem so82_ : SpecOk P1 gl1 82 sp82 := by
  intro vs ps r h hp
  simp only [sp82] at h
  split at h
  · cases h; exact fn82 _ _ _ (hp _ (.head _)) (hp _ (.tail _ (.head _)))
  · cases h
theorem so82 : Sp1 82 sp82 := ⟨so82_, Proofs.Tryz.f82, _, by kernel_rfl, rfl, by kernel_rfl⟩
end Go.Sx

/- Plain functions of the law Fields. -/
namespace Go.Sx.U
theorem shortF_len {l : Fld} (h : shortF l = true) : l.length ≤ 33 ∧ ∀ x ∈ l, x.length ≤ 260 := by
  unfold shortF at h
  simp only [Bool.and_eq_true, Bool.or_eq_true, decide_eq_true_eq, List.all_eq_true] at h
  exact ⟨by omega, fun x hx => shortS_len (h.1 x hx)⟩
end Go.Sx.U

/- Plain functions and hints. -/
namespace Go.Sx
open U
end Go.Sx

/- What the engine asks, written out (printed by a program). -/
namespace Go.Sx
open U
theorem vc11 (f : Fld) (t : List Int) : exF (env false [(29, sp29), (19, sp19), (39, sp39), (73, sp73), (80, sp80), (81, sp81), (40, sp40), (76, sp76), (22, sp22), (82, sp82), (42, sp42)] []) h0 0 11 Proofs.Tryz.f11 [fldV f, .one (.sl (.int .i64) t)] (.val (bV true)) = (let q2 := (cmbN f t (1 : Int)); let q4 := (if cmbX f t (1 : Int) = (0 : Int) then cmbS f t (1 : Int) else []); let q0 := (bif sameF q2 q4 then cmbE f t (1 : Int) == cmbX f t (1 : Int) else false); let q1 := (1000000 : Nat); let q3 := (bif sameF q2 [] then cmbE f t (1 : Int) == first [chkFld f, chkTap t] else false); let q5 := (cmbN f t (-1 : Int)); let q6 := (List.length f ≤ (5 : Nat) ∨ ¬cmbB f t = (0 : Int)); List.length f ≤ (9223372036854775807 : Nat) ∧ splitB (bif !shortF f then true else decide ((10 : Int) < (↑(List.length t) : Int))) (true = true ∧ True) (List.length f ≤ q1 ∧ (∀ (x : List Nat), x ∈ f → List.length x ≤ q1) ∧ List.length t ≤ q1 ∧ q6 ∧ List.length f ≤ q1 ∧ (∀ (x : List Nat), x ∈ f → List.length x ≤ q1) ∧ List.length t ≤ q1 ∧ q6 ∧ (2 : Nat) ≤ (1000000000 : Nat) ∧ splitB (first [chkFld f, chkTap t] == (0 : Int)) (((1 : Int) = (1 : Int) ∨ (1 : Int) = (-1 : Int)) ∧ cmbB f t = (0 : Int) ∧ ((-1 : Int) = (1 : Int) ∨ (-1 : Int) = (-1 : Int)) ∧ cmbB f t = (0 : Int) ∧ List.length q2 ≤ q1 ∧ (∀ (x : List Nat), x ∈ cmbN f t (1 : Int) → List.length x ≤ q1) ∧ (q0 = true → List.length q5 ≤ q1) ∧ (q0 = true → ∀ (x : List Nat), x ∈ cmbN f t (-1 : Int) → List.length x ≤ q1) ∧ (bif bif bif bif sameF q2 q4 then cmbE f t (1 : Int) == cmbX f t (1 : Int) else false then sameF q5 (if cmbX f t (-1 : Int) = (0 : Int) then cmbS f t (-1 : Int) else []) else false then cmbE f t (-1 : Int) == cmbX f t (-1 : Int) else false then true else false) = true ∧ True) (List.length q2 ≤ q1 ∧ (∀ (x : List Nat), x ∈ cmbN f t (1 : Int) → List.length x ≤ q1) ∧ (q3 = true → List.length q5 ≤ q1) ∧ (q3 = true → ∀ (x : List Nat), x ∈ cmbN f t (-1 : Int) → List.length x ≤ q1) ∧ (bif bif bif bif sameF q2 [] then cmbE f t (1 : Int) == first [chkFld f, chkTap t] else false then sameF q5 [] else false then cmbE f t (-1 : Int) == first [chkFld f, chkTap t] else false then true else false) = true ∧ True))) := by
  kernel_rfl
end Go.Sx

/- Contracts. -/
namespace Go.Sx
open U
theorem fn11 (f : Fld) (t : List Int) (hf : f.length ≤ 9223372036854775807) (ht : t.length ≤ 9223372036854775807) : Fn P1 gl1 11 [fldV f, .one (.sl (.int .i64) t)] (.val (bV true)) true := by
  refine Fn.flat ?_ rfl
  refine fn_of false [(29, sp29), (19, sp19), (39, sp39), (73, sp73), (80, sp80), (81, sp81), (40, sp40), (76, sp76), (22, sp22), (82, sp82), (42, sp42)] [] h0 0 Proofs.Tryz.f11 ⟨so29, so19, so39, so73, so80, so81, so40, so76, so22, so82, so42, trivial⟩ trivial (by kernel_rfl) rfl (by kernel_rfl) rfl rfl rfl ?_
  rw [vc11]
  try simp only [splitB_iff, -eq_self]
  refine ⟨hf, fun _ => ⟨rfl, trivial⟩, fun h => ?_⟩
  simp only [bcond_l, Bool.or_eq_false_iff, Bool.not_eq_false', decide_eq_false_iff_not] at h
  obtain ⟨h1, h2⟩ := h
  obtain ⟨f1, f2⟩ := shortF_len h1
  have h3 : List.length f ≤ 5 ∨ ¬ cmbB f t = 0 := by
    unfold shortF at h1
    simp only [Bool.and_eq_true, Bool.or_eq_true, decide_eq_true_eq] at h1
    by_cases k : f.length ≤ 5
    · exact .inl k
    · refine .inr fun z => ?_
      have := (cmbB_zero.1 z).len
      omega
  have f3 : ∀ x ∈ f, x.length ≤ 1000000 := fun x hx => by have := f2 x hx; omega
  have hN : ∀ w, (cmbN f t w).length ≤ 1000000 ∧ (∀ x ∈ cmbN f t w, x.length ≤ 1000000) ∧ sameF (cmbN f t w) (cmbN f t w) = true := by
    intro w
    by_cases hz : cmbB f t = 0
    · have H := cmbB_zero.1 hz
      have hW := H.wid_le
      by_cases hx : cmbX f t w = 0
      · rw [(cmb_ok hz hx).1]
        have hm : ∀ x ∈ cmbS f t w, x.length ≤ 1000000 ∧ OkS x := by
          intro x hx'
          obtain ⟨i, hi, rfl⟩ := List.mem_map.1 hx'
          have hi := List.mem_range.1 hi
          refine ⟨by rw [tab_len]; omega, ?_⟩
          rw [show (tab (widN f) fun a => smp (cmbV f t w i a)) = (tab (widN f) (cmbV f t w i)).map smp from (tab_map _ _ _).symm]
          exact smp_ok (bdt_iff.2 fun a ha => cmbX_zero.1 hx i hi a ha)
        refine ⟨by unfold cmbS; rw [tab_len]; omega, fun x hx' => (hm x hx').1, sameF_self fun x hx' => (hm x hx').2⟩
      · rw [(cmb_four hz (cmbX_four hx)).1]
        exact ⟨by simp, fun x hx => (by simp at hx), rfl⟩
    · rw [(cmb_bad hz).1]
      exact ⟨by simp, fun x hx => (by simp at hx), rfl⟩
  obtain ⟨n1, n2, n3⟩ := hN 1
  obtain ⟨m1, m2, m3⟩ := hN (-1)
  refine ⟨by omega, f3, by omega, h3, by omega, f3, by omega, h3, by decide, fun k => ?_, fun k => ?_⟩
  · have hz : cmbB f t = 0 := eq_of_beq k
    have e : ∀ w, (if cmbX f t w = 0 then cmbS f t w else []) = cmbN f t w ∧ cmbE f t w = cmbX f t w := by
      intro w
      by_cases hx : cmbX f t w = 0
      · obtain ⟨c1, c2⟩ := cmb_ok hz hx
        rw [c1, c2, hx, if_pos rfl]
        exact ⟨rfl, rfl⟩
      · obtain ⟨c1, c2⟩ := cmb_four hz (cmbX_four hx)
        rw [c1, c2, if_neg hx, cmbX_four hx]
        exact ⟨rfl, rfl⟩
    rw [(e 1).1, (e 1).2, (e (-1)).1, (e (-1)).2]
    exact ⟨.inl rfl, hz, .inr rfl, hz, n1, n2, fun _ => m1, fun _ => m2, by rw [n3, m3]; simp, trivial⟩
  · have hz : ¬ cmbB f t = 0 := fun z => by
      rw [show first [chkFld f, chkTap t] = 0 from z] at k
      simp at k
    obtain ⟨c1, c2⟩ := cmb_bad (w := 1) hz
    obtain ⟨d1, d2⟩ := cmb_bad (w := -1) hz
    rw [c1, d1, ← d2, ← c2]
    exact ⟨by simp, fun x hx => (by simp at hx), fun _ => by simp, fun _ x hx => (by simp at hx), by simp [sameF], trivial⟩
end Go.Sx

/- From readings of arguments to pure data. -/
namespace Go.Sx
open Go.RowKit
def WF : (t : Ty) → t.T → Prop
  | .int k, n => (Lit.int k n).wf = true
  | .bool, _ => True
  | .str, l => List.length l ≤ maxLen
  | .flt k, n => (Lit.float k n).wf = true
  | .cpx _, _ => True
  | .fnp, _ => True
  | .sl t, xs => List.length xs ≤ maxLen ∧ ∀ i (h : i < List.length xs), WF t (xs[i]'h)
  | .arr n t, xs => List.length xs = n ∧ ∀ i (h : i < List.length xs), WF t (xs[i]'h)
  | .pair a b, x => WF a x.1 ∧ WF b x.2
mutual
def rdChk (P : Program) : Nat → TypeId → Ty → Bool
  | 0, _, _ => false
  | n + 1, t, u => match P.underlying t with
      | some (.int k) => decide (u = .int k)
      | some .bool => decide (u = .bool)
      | some .string => decide (u = .str)
      | some (.float k) => decide (u = .flt k)
      | some (.slice e) => match u with
        | .sl v => decide (P.cellsOf e = v.sz) && decide (v.sz ≠ 0) && rdChk P n e v
        | _ => false
      | some (.array m e) => match u with
        | .arr m' v => decide (m = m') && decide (P.cellsOf e = v.sz) && decide (P.cellsOf t = m * v.sz) && rdChk P n e v
        | _ => false
      | some (.struct fs) => decide (P.cellsOf t = u.sz) && rdFs P n 0 fs.toList u
      | _ => false
def rdFs (P : Program) : Nat → Nat → List Field → Ty → Bool
  | 0, _, _, _ => false
  | n + 1, off, [f], u => decide (f.offset = off) && decide (P.cellsOf f.type = u.sz) && rdChk P n f.type u
  | n + 1, off, f :: r, .pair a b => decide (f.offset = off) && decide (P.cellsOf f.type = a.sz) && rdChk P n f.type a && rdFs P n (off + a.sz) r b
  | _, _, _, _ => false
end
def HW (w : World) : IH := fun b => w.heap[b]?
theorem addp (b off i : Nat) : (Addr.mk b off none).add i = ⟨b, off + i, none⟩ := by
  unfold Addr.add; split <;> simp_all
theorem cells_seg {w : World} {base : Nat} {a : Addr} {n : Nat} {cs : List Value} (h : w.cells? base a n = some cs) (hn : 0 < n) :
    ∃ b off c e fr, a = ⟨b, off, none⟩ ∧ w.heap[b]? = some (.cells c e fr) ∧ seg c off n = cs := by
  obtain ⟨_, hl, hc⟩ := World.cells?_some h
  obtain ⟨b, off, sp⟩ := a
  have h0 := hc 0 hn
  rw [List.getElem?_eq_getElem (by omega)] at h0
  have hs : sp = none := by
    have := World.cell?_spot h0
    simp only [Addr.add] at this
    cases sp with
    | none => rfl
    | some x => simp at this
  subst hs
  have hb : ∃ c e fr, w.heap[b]? = some (.cells c e fr) := by
    simp only [World.cell?, Addr.add] at h0
    split at h0
    · exact ⟨_, _, _, ‹_›⟩
    · cases h0
  obtain ⟨c, e, fr, hb⟩ := hb
  refine ⟨b, off, c, e, fr, rfl, hb, ?_⟩
  have hi : ∀ i, i < n → c[off + i]? = cs[i]? := by
    intro i hi
    have := hc i hi
    rw [addp] at this
    simpa [World.cell?, hb] using this
  apply List.ext_getElem?
  intro i
  simp only [seg, List.getElem?_take, List.getElem?_drop]
  split
  · rename_i h1
    rw [← hi i h1]; simp
  · rename_i h1
    rw [List.getElem?_eq_none (by omega)]
theorem choose_list {α : Type} (n : Nat) (p : Nat → α → Prop) (h : ∀ i, i < n → ∃ y, p i y) : ∃ ys : List α, ys.length = n ∧ ∀ i (hi : i < ys.length), p i (ys[i]'hi) := by
  induction n with
  | zero => exact ⟨[], rfl, fun i hi => by simp at hi⟩
  | succ n ih =>
    obtain ⟨ys, h1, h2⟩ := ih fun i hi => h i (by omega)
    obtain ⟨y, hy⟩ := h n (by omega)
    refine ⟨ys ++ [y], by simp [h1], fun i hi => ?_⟩
    by_cases hlt : i < ys.length
    · rw [List.getElem_append_left hlt]; exact h2 i hlt
    · simp at hi
      have : i = ys.length := by omega
      subst this
      simp
      rw [h1]; exact hy
theorem trod_rd_all {X : Type} {enc : TypeId × Value → X} {P : Program} {w : World} {base : Nat} {spare : Nat → Bool} {held : Bool} : ∀ (n : Nat),
    (∀ (t : TypeId) (u : Ty) (fuel : Nat) (cs : List Value) (x : DataW X × List MemPlace), rdChk P n t u = true → DataW.trod enc P w base spare held fuel t cs = some x → ∃ y : u.T, Rd (HW w) u y cs ∧ WF u y) ∧
    (∀ (off : Nat) (fs : List Field) (u : Ty) (fuel : Nat) (cs : List Value), rdFs P n off fs u = true → cs.length = off + u.sz →
      (∀ f ∈ fs, ∃ x, DataW.trod enc P w base spare held fuel f.type ((cs.drop f.offset).take (P.cellsOf f.type)) = some x) → ∃ y : u.T, Rd (HW w) u y (cs.drop off) ∧ WF u y) := by
  intro n
  induction n with
  | zero => exact ⟨fun _ _ _ _ _ h => by simp [rdChk] at h, fun _ _ _ _ _ h => by simp [rdFs] at h⟩
  | succ n ih =>
    refine ⟨?_, ?_⟩
    · intro t u fuel cs x h hx
      unfold rdChk at h
      split at h
      · rename_i k hu
        simp at h; subst h
        obtain ⟨m, rfl, _, hw⟩ := DataW.trod_int hu hx
        exact ⟨m, rfl, hw⟩
      · rename_i hu
        simp at h; subst h
        obtain ⟨m, rfl, _⟩ := DataW.trod_bool hu hx
        exact ⟨m, rfl, trivial⟩
      · rename_i hu
        simp at h; subst h
        obtain ⟨s, rfl, _, hw⟩ := DataW.trod_string hu hx
        refine ⟨s.data.toList, rfl, ?_⟩
        show s.data.toList.length ≤ maxLen
        rw [Array.length_toList]; exact hw
      · rename_i k hu
        simp at h; subst h
        cases fuel with
        | zero => simp [DataW.trod] at hx
        | succ m =>
          unfold DataW.trod at hx
          rw [hu] at hx
          have : ∃ b, cs = [.float k b] ∧ (Lit.float k b).wf = true := by split at hx <;> simp_all
          obtain ⟨b, rfl, hw⟩ := this
          exact ⟨b, rfl, hw⟩
      · rename_i e hu
        split at h
        · rename_i v
          simp only [Bool.and_eq_true, decide_eq_true_eq] at h
          obtain ⟨⟨h1, h2⟩, h3⟩ := h
          rcases DataW.trod_slice hu hx with ⟨rfl, _⟩ | ⟨a, len, cap, elems, rest, m, _, rfl, _, _, hlc, hm, hel, hei, _, _⟩
          · exact ⟨[], ⟨none, 0, rfl, Nat.le_refl _, .inl rfl⟩, by simp [WF]⟩
          · have hone : ∀ i, i < len → ∃ cs', w.cells? base (a.add (i * P.cellsOf e)) (P.cellsOf e) = some cs' ∧ ∃ y : v.T, Rd (HW w) v y cs' ∧ WF v y := by
              intro i hi
              have := hei i hi
              rw [List.getElem?_eq_getElem (by omega)] at this
              obtain ⟨cs', hc1, hc2⟩ := Option.bind_eq_some_iff.1 this
              exact ⟨cs', hc1, ih.1 _ _ _ _ _ h3 hc2⟩
            obtain ⟨ys, hy1, hy2⟩ := choose_list len (fun i (y : v.T) => ∃ cs', w.cells? base (a.add (i * P.cellsOf e)) (P.cellsOf e) = some cs' ∧ Rd (HW w) v y cs' ∧ WF v y)
              (fun i hi => by obtain ⟨cs', h1, y, h2⟩ := hone i hi; exact ⟨y, cs', h1, h2⟩)
            refine ⟨ys, ⟨some a, cap, by rw [hy1], by rw [hy1]; exact hlc, ?_⟩, by rw [hy1]; omega, fun i hi => ?_⟩
            · rcases Nat.eq_zero_or_pos ys.length with h0 | h0
              · exact .inl h0
              · right
                obtain ⟨cs0, hc0, _⟩ := hy2 0 h0
                obtain ⟨b, off, c, e', fr, ha, hb, _⟩ := cells_seg hc0 (by omega)
                have ha' : a = ⟨b, off, none⟩ := by rw [← ha]; simp [Addr.add]
                refine ⟨b, off, c, e', fr, by rw [ha'], hb, fun i hi => ?_⟩
                obtain ⟨cs', hc', hr, _⟩ := hy2 i hi
                obtain ⟨b', off', c', e'', fr', hab, hb', hsg⟩ := cells_seg hc' (by omega)
                rw [ha', addp] at hab
                simp only [Addr.mk.injEq] at hab
                obtain ⟨rfl, rfl, _⟩ := hab
                rw [hb] at hb'
                cases hb'
                rw [h1] at hsg
                rw [hsg]; exact hr
            · obtain ⟨_, _, _, hwf⟩ := hy2 i hi
              exact hwf
        · cases h
      · rename_i m e hu
        split at h
        · rename_i m' v
          simp only [Bool.and_eq_true, decide_eq_true_eq] at h
          obtain ⟨⟨⟨rfl, h1⟩, h2⟩, h3⟩ := h
          obtain ⟨xs, k, _, _, hl, hxl, hxi⟩ := DataW.trod_array hu hx
          obtain ⟨ys, hy1, hy2⟩ := choose_list m (fun i (y : v.T) => Rd (HW w) v y ((cs.drop (i * P.cellsOf e)).take (P.cellsOf e)) ∧ WF v y)
            (fun i hi => by
              have := hxi i hi
              rw [List.getElem?_eq_getElem (by omega)] at this
              exact ih.1 _ _ _ _ _ h3 this)
          refine ⟨ys, ⟨hy1, by rw [hl, h2], fun i hi => ?_⟩, hy1, fun i hi => (hy2 i hi).2⟩
          have := (hy2 i hi).1
          rw [h1] at this
          exact this
        · cases h
      · rename_i fs hu
        simp only [Bool.and_eq_true, decide_eq_true_eq] at h
        obtain ⟨xs, k, _, _, hl, hxl, hxi⟩ := DataW.trod_struct hu hx
        have := ih.2 0 fs.toList u k cs h.2 (by rw [hl, h.1]; omega) (fun f hf => by
          obtain ⟨i, hi, rfl⟩ := List.mem_iff_getElem.1 hf
          simp at hi
          have := hxi i fs[i] (by simp [hi])
          rw [List.getElem?_eq_getElem (by omega)] at this
          exact ⟨_, by simpa using this⟩)
        simpa using this
      · cases h
    · intro off fs u fuel cs h hl hf
      match fs, u, h, hl, hf with
      | [], u, h, _, _ => simp [rdFs] at h
      | [f], u, h, hl, hf =>
        simp only [rdFs, Bool.and_eq_true, decide_eq_true_eq] at h
        obtain ⟨⟨rfl, h1⟩, h2⟩ := h
        obtain ⟨x, hx⟩ := hf f (by simp)
        rw [h1, List.take_of_length_le (by simp; omega)] at hx
        exact ih.1 _ _ _ _ _ h2 hx
      | f :: g :: r, .pair a b, h, hl, hf =>
        simp only [rdFs, Bool.and_eq_true, decide_eq_true_eq] at h
        obtain ⟨⟨⟨rfl, h1⟩, h2⟩, h3⟩ := h
        simp only [Ty.sz] at hl
        obtain ⟨x, hx⟩ := hf f (by simp)
        rw [h1] at hx
        obtain ⟨y1, hy1, hw1⟩ := ih.1 _ _ _ _ _ h2 hx
        obtain ⟨y2, hy2, hw2⟩ := ih.2 _ _ _ fuel cs h3 (by omega) (fun g' hg => hf g' (List.mem_cons_of_mem _ hg))
        refine ⟨(y1, y2), ⟨hy1, ?_⟩, hw1, hw2⟩
        rw [List.drop_drop]; exact hy2
      | _ :: _ :: _, .int _, h, _, _ => simp [rdFs] at h
      | _ :: _ :: _, .bool, h, _, _ => simp [rdFs] at h
      | _ :: _ :: _, .str, h, _, _ => simp [rdFs] at h
      | _ :: _ :: _, .flt _, h, _, _ => simp [rdFs] at h
      | _ :: _ :: _, .cpx _, h, _, _ => simp [rdFs] at h
      | _ :: _ :: _, .sl _, h, _, _ => simp [rdFs] at h
      | _ :: _ :: _, .arr _ _, h, _, _ => simp [rdFs] at h
theorem trod_rd {X : Type} {enc : TypeId × Value → X} {P : Program} {w : World} {base : Nat} {spare : Nat → Bool} {held : Bool} (n : Nat)
    {t : TypeId} {u : Ty} (h : rdChk P n t u = true) {fuel : Nat} {cs : List Value} {x : DataW X × List MemPlace} (hx : DataW.trod enc P w base spare held fuel t cs = some x) : ∃ y : u.T, Rd (HW w) u y cs ∧ WF u y :=
  (trod_rd_all n).1 t u fuel cs x h hx
end Go.Sx

/- From readings of arguments to pure data: arguments, variables, what is left behind. -/
namespace Go.Sx
open Go.RowKit Go.ChangeShapes Go.WideShapes Go.ChangeAt
section
variable {X : Type} {enc : TypeId × Value → X} {P : Program} {w : World} {base base' : Nat} {spare : Nat → Bool} {held : Bool} {n : Nat} {t : TypeId} {u : Ty} {v : Value} {d : DataW X} {ps : List MemPlace}
theorem cells_one (hv : ∀ cs, v ≠ .agg cs) : v.cells.toList = [v] := by
  cases v <;> simp_all [Value.cells]
theorem okWide_one (ha : aggOf P t = false) (hok : Value.okWide P w .any base' t v) : ∀ cs, v ≠ .agg cs := by
  intro cs hv
  subst hv
  unfold aggOf at ha
  unfold Value.okWide at hok
  split at hok
  · rename_i h; rw [h] at ha; cases ha
  · rename_i h; rw [h] at ha; cases ha
  · unfold Cell.okWide at hok
    split at hok <;> try (rename_i h; cases h; done)
    all_goals first | (rename_i h _; cases h; done) | skip
    all_goals first | (unfold Cell.ok at hok; split at hok <;> first | (exact hok) | (rename_i h; cases h; done) | (rename_i h _; cases h; done) | simp_all; done) | simp_all
theorem arg_one (h : rdChk P n t u = true) (ha : aggOf P t = false) (hok : Value.okWide P w .any base' t v) (hT : DataW.Trod enc P w base spare held t v d ps) : ∃ y : u.T, Rd (HW w) u y [v] ∧ WF u y := by
  obtain ⟨fuel, hT⟩ := hT
  rw [cells_one (okWide_one ha hok)] at hT
  exact trod_rd n h hT
end
theorem trodAll_below {X : Type} {enc : TypeId × Value → X} {P : Program} (hl : laidOutB P = true) {W W' : World} (hb : Below W.heap.size W W') : ∀ {ts : List TypeId} {vs : List Value} {ds : List (DataW X)} {ps : List MemPlace},
    (ts.all fun t => P.readableRec t && decide (t < P.types.size)) = true → DataW.TrodAll enc P W 0 (fun _ => true) true ts vs ds ps → (∀ x ∈ ps, x.block < W.heap.size) → DataW.TrodAll enc P W' 0 (fun b => decide (b < W.heap.size)) true ts vs ds ps
  | [], vs, ds, ps, _, h, _ => by
    cases vs <;> cases ds <;> simp_all [DataW.TrodAll]
  | t :: ts, vs, ds, ps, ht, h, hlt => by
    obtain ⟨v, vs', d, ds', p, q, rfl, rfl, rfl, h1, h2⟩ := trodAll_cons h
    simp only [List.all_cons, Bool.and_eq_true, decide_eq_true_eq] at ht
    refine trodAll_cons_mk (Below.trod hl ht.1.1 ht.1.2 h1 hb fun x hx => hlt x (by simp [hx])) (trodAll_below hl hb ht.2 h2 fun x hx => hlt x (by simp [hx]))
theorem law_post {X : Type} {enc : TypeId × Value → X} {P : Program} (hl : laidOutB P = true) {s : ChangeSpec} {f : Func} {tb : TypeId} {W W' : World} {args : Array Value} {ds gs : List (DataW X)} {before : List MemPlace} {r : Value}
    (hvars : s.vars = []) (hts : (f.params.toList.all fun t => P.readableRec t && decide (t < P.types.size)) = true) (hres : f.resultTypes = #[tb]) (htb : P.underlying tb = some .bool)
    (hfn : s.fn X ds = { results := [.lit (.bool true)], args := ds })
    (hW : DataW.Whole enc P f.params.toList s.vars false W args.toList ds gs before) (hb : Below W.heap.size W W') (hr : r = .bool true) :
    s.post enc P f false true false false W args r W' := by
  subst hr
  have hW' := hW
  obtain ⟨p, q, hA, hV, rfl, hfz, hnd⟩ := hW
  rw [hvars] at hV
  obtain ⟨rfl, rfl⟩ := trodVars_none hV
  have hlt : ∀ x ∈ p, x.block < W.heap.size := fun x hx => hW'.lt x (by simp [hx])
  refine ⟨ds, [], p ++ [], [], p, [], hW', ?_, ?_, ?_, hb.frame _, fun h => by cases h⟩
  · rw [List.append_nil, hfn, hres]
    exact trodAll_cons_mk (shut_bool htb _) trodAll_mk0
  · rw [List.append_nil, hfn]
    exact trodAll_below hl hb hts hA hlt
  · rw [List.append_nil, hfn, hvars]
    rfl
theorem law_calls {X : Type} {enc : TypeId × Value → X} {P : Program} (hl : laidOutB P = true) {s : ChangeSpec} {f : Func} {tb : TypeId} {fid : FuncId} {W : World} {args : Array Value} {ds gs : List (DataW X)} {before : List MemPlace}
    (hvars : s.vars = []) (hts : (f.params.toList.all fun t => P.readableRec t && decide (t < P.types.size)) = true) (hres : f.resultTypes = #[tb]) (htb : P.underlying tb = some .bool)
    (hfn : s.fn X ds = { results := [.lit (.bool true)], args := ds })
    (hW : DataW.Whole enc P f.params.toList s.vars false W args.toList ds gs before)
    {gl : Nat → Option ((t : Ty) × t.T)} {avs : List V} (hF : Fn P gl fid avs (.val (.one (.bool true))) true) (hg : GlobOk gl (HW W)) (ha : DenVs ρ0 (HW W) avs args.toList) :
    Calls P fid args W fun e W' => ∃ v, e = .returned v ∧ s.post enc P f false true false false W args v W' := by
  refine (hF W (HW W) args.toList (fun b o h => h) hg ha).mono fun e W' h => ?_
  obtain ⟨v, H', rfl, hb, _, _, hd⟩ := h
  exact ⟨v, rfl, law_post hl hvars hts hres htb hfn hW hb hd.2⟩
theorem glob_tab {P : Program} {W : World} {name : String} {k : IntKind} {zs : List Int} {g : Nat} (h : Lib.TabIs P W name k zs) (hg : P.globalNamed name = some g) :
    ∃ c e fr, HW W g = some (.cells c e fr) ∧ Rd (HW W) (.arr zs.length (.int k)) zs (seg c 0 (zs.length * 1)) ∧ c.size = zs.length * 1 := by
  unfold Lib.TabIs at h
  simp only [World.var?, hg, Option.bind_some] at h
  split at h
  · rename_i cs e fr hh
    cases h
    refine ⟨_, _, _, hh, ?_, by simp⟩
    have e1 : seg (zs.map fun z => Value.int k z).toArray 0 (zs.length * 1) = zs.map fun z => Value.int k z := by
      simp [seg, List.take_of_length_le]
    rw [e1]
    refine ⟨rfl, by simp [Ty.sz], fun i hi => ?_⟩
    show List.take 1 (List.drop (i * 1) (List.map (fun z => Value.int k z) zs)) = [Value.int k zs[i]]
    simp only [Nat.mul_one]
    rw [List.drop_eq_getElem_cons (by simpa using hi)]
    simp
  · cases h
end Go.Sx

/- What a row's list of variables gives, wherever a variable stands on it. -/
namespace Go.Sx
open Go.RowKit
theorem laid_at {P : Program} {W : World} {name : String} {d : DataW Unit} {l : List (String × DataW Unit)} (h : laidMet P l W) (hm : (name, d) ∈ l) :
    ∃ g t cs fuel p, P.globalNamed name = some g ∧ (P.globals[g]?).map (·.type) = some t ∧ W.var? P name = some cs ∧ DataW.trod (fun _ => ()) P W 0 (fun _ => true) false fuel t cs.toList = some (d, p) := by
  obtain ⟨ps, h, hrest⟩ := h
  clear hrest
  induction l generalizing ps with
  | nil => cases hm
  | cons x r ih =>
    obtain ⟨n, e⟩ := x
    obtain ⟨g, t, cs, fuel, p, q, h1, h2, h3, h4, h5, h6⟩ := h
    rcases List.mem_cons.1 hm with e | hm
    · cases e; exact ⟨g, t, cs, fuel, p, h1, h2, h3, h4⟩
    · exact ih hm _ h5
theorem tab_at {P : Program} {W : World} {name : String} {k : IntKind} {zs : List Int} {l : List (String × DataW Unit)} {g : Nat} {t e : TypeId} {n : Nat} (hm : (name, Lib.tabData k zs) ∈ l)
    (hg : P.globalNamed name = some g) (hty : (P.globals[g]?).map (·.type) = some t) (ht : P.underlying t = some (.array n e)) (he : P.underlying e = some (.int k)) (hce : P.cellsOf e = 1) (hct : P.cellsOf t = n)
    (h : laidMet P l W) : Lib.TabIs P W name k zs := by
  obtain ⟨g', t', cs, fuel, p, h1, h2, h3, h4⟩ := laid_at h hm
  obtain rfl := Option.some.inj (hg.symm.trans h1)
  obtain rfl := Option.some.inj (hty.symm.trans h2)
  unfold Lib.TabIs
  rw [h3, ← Lib.cells_of_tab ht he hce hct h4]
theorem var_heap {P : Program} {W : World} {name : String} {g : Nat} {cs : Array Value} (hg : P.globalNamed name = some g) (h : W.var? P name = some cs) : ∃ e fr, W.heap[g]? = some (.cells cs e fr) := by
  simp only [World.var?, hg, Option.bind_some] at h
  split at h
  · rename_i cs' e fr hh
    cases h
    exact ⟨e, fr, hh⟩
  · cases h
def intB (P : Program) (t : TypeId) (k : IntKind) : Bool := match P.underlying t with
  | some (.int q) => decide (q = k)
  | _ => false
theorem intB_ok {P : Program} {t : TypeId} {k : IntKind} (h : intB P t k = true) : P.underlying t = some (.int k) := by
  unfold intB at h
  split at h
  · rename_i q hq
    rw [hq, of_decide_eq_true h]
  · cases h
def pairB (P : Program) (t : TypeId) (k k' : IntKind) : Bool := match P.underlying t with
  | some (.struct fs) => match fs.toList with
    | [f0, f1] => decide (f0.offset = 0) && decide (f1.offset = 1) && decide (P.cellsOf f0.type = 1) && decide (P.cellsOf f1.type = 1) && intB P f0.type k && intB P f1.type k' && decide (P.cellsOf t = 2)
    | _ => false
  | _ => false
end Go.Sx

/- What a row's list of variables gives: rows of pairs of numbers; what every row of this seat asks of the program. -/
namespace Go.Sx
open Go.RowKit
theorem pair_cells {P : Program} {W : World} {k k' : IntKind} {a b : Int} {t : TypeId} {fuel : Nat} {cs : List Value} {p : List MemPlace} (hc : pairB P t k k' = true)
    (h : DataW.trod (fun _ => ()) P W 0 (fun _ => true) false fuel t cs = some (.agg [.lit (.int k a), .lit (.int k' b)], p)) : cs = [.int k a, .int k' b] := by
  unfold pairB at hc
  split at hc
  · rename_i fs ht
    split at hc
    · rename_i f0 f1 hfs
      simp only [Bool.and_eq_true, decide_eq_true_eq] at hc
      obtain ⟨⟨⟨⟨⟨⟨ho0, ho1⟩, hc0⟩, hc1⟩, hu0⟩, hu1⟩, hct⟩ := hc
      cases fuel with
      | zero => simp [DataW.trod] at h
      | succ fuel =>
        simp only [DataW.trod, ht, hct, hfs, hc0, hc1, ho0, ho1, List.mapM_cons, List.mapM_nil] at h
        split at h
        · rename_i hl
          obtain ⟨xs, hx1, hx2⟩ := Option.map_eq_some_iff.1 h
          simp only [Option.bind_eq_bind, Option.bind_eq_some_iff, Option.pure_def, Option.some.injEq] at hx1
          obtain ⟨y0, hy0, r, ⟨y1, hy1, r2, rfl, rfl⟩, rfl⟩ := hx1
          obtain ⟨m0, e0, hz0, _⟩ := DataW.trod_int (intB_ok hu0) hy0
          obtain ⟨m1, e1, hz1, _⟩ := DataW.trod_int (intB_ok hu1) hy1
          subst hz0 hz1
          simp only [List.map_cons, List.map_nil, Prod.mk.injEq, DataW.agg.injEq, List.cons.injEq, DataW.lit.injEq, Lit.int.injEq, true_and, and_true] at hx2
          obtain ⟨⟨rfl, rfl⟩, _⟩ := hx2
          match cs, hl with
          | [u, v], _ =>
            simp at e0 e1
            rw [e0, e1]
        · cases h
    · cases hc
  · cases hc
theorem pairs_at {P : Program} {W : World} {name : String} {k : IntKind} {zs : List (Int × Int)} {l : List (String × DataW Unit)} {g : Nat} {t e : TypeId} {n : Nat}
    (hm : (name, .agg (zs.map fun z => .agg [.lit (.int k z.1), .lit (.int k z.2)])) ∈ l) (hg : P.globalNamed name = some g) (hty : (P.globals[g]?).map (·.type) = some t) (ht : P.underlying t = some (.array n e))
    (hn : zs.length = n) (hce : P.cellsOf e = 2) (hct : P.cellsOf t = n * 2) (hc : pairB P e k k = true) (h : laidMet P l W) :
    ∃ c e fr, HW W g = some (.cells c e fr) ∧ Rd (HW W) (.arr n (.pair (.int k) (.int k))) zs (seg c 0 (n * 2)) ∧ c.size = n * 2 := by
  obtain ⟨g', t', cs, fuel, p, h1, h2, h3, h4⟩ := laid_at h hm
  obtain rfl := Option.some.inj (hg.symm.trans h1)
  obtain rfl := Option.some.inj (hty.symm.trans h2)
  obtain ⟨ee, fr, hh⟩ := var_heap hg h3
  obtain ⟨xs, m, _, hx, hl, hxl, hi⟩ := DataW.trod_array ht h4
  have hx1 : (zs.map fun z => (.agg [.lit (.int k z.1), .lit (.int k z.2)] : DataW Unit)) = xs.map (·.1) := by
    have := congrArg Prod.fst hx
    simpa using this
  have hs : cs.size = n * 2 := by rw [← Array.length_toList, hl, hct]
  have hseg : seg cs 0 (n * 2) = cs.toList := by
    unfold seg
    rw [List.drop_zero, List.take_of_length_le (by rw [Array.length_toList]; omega)]
  refine ⟨cs, ee, fr, hh, ?_, hs⟩
  rw [hseg]
  refine ⟨hn, by rw [Array.length_toList, hs]; rfl, fun i hiz => ?_⟩
  have hin : i < n := by rw [← hn]; exact hiz
  have hix : i < xs.length := by rw [hxl]; exact hin
  have q := hi i hin
  rw [List.getElem?_eq_getElem hix, hce] at q
  have e1 : xs[i].1 = .agg [.lit (.int k zs[i].1), .lit (.int k zs[i].2)] := by
    have := congrArg (fun l => l[i]?) hx1
    simp only [List.getElem?_map, List.getElem?_eq_getElem hix, List.getElem?_eq_getElem hiz, Option.map_some, Option.some.injEq] at this
    exact this.symm
  have q' : DataW.trod (fun _ => ()) P W 0 (fun _ => true) false m e ((cs.toList.drop (i * 2)).take 2) = some (.agg [.lit (.int k zs[i].1), .lit (.int k zs[i].2)], xs[i].2) := by
    rw [q, ← e1]
  have hcell := pair_cells hc q'
  show Rd (HW W) (.pair (.int k) (.int k)) zs[i] ((cs.toList.drop (i * 2)).take 2)
  rw [hcell]
  exact ⟨rfl, rfl⟩
theorem j4a : laidOutB Proofs.Tryz.prog = true := by kernel_rfl
theorem j4b : mapsRowed Proofs.Tryz.prog = true := by kernel_rfl
theorem j4c : Proofs.Tryz.prog.stopsHeard = true := by kernel_rfl
theorem j4d : Proofs.Tryz.prog.mayEnter = true := by kernel_rfl
end Go.Sx
