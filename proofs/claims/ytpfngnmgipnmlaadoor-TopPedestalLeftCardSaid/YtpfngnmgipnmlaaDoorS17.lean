/- A verified symbolic run of functions, part 17: lemmas, no claim of their own. -/
import Derived.Test.YtpfngnmgipnmlaaDoorS16
/- Contracts. -/
namespace Go.Sx
open U
theorem fn29 (R : List Rl) (hl : R.length ≤ 1000000) (hR : ∀ r ∈ R, r.2.2.length ≤ 1000000) : Fn P1 gl1 29 [.one (.sl rlT R)] (.val (.one (.sl rlT R))) false := by
  refine fn_of false [] [] h29 0 Proofs.Tryd.f29 trivial trivial (by kernel_rfl) rfl (by kernel_rfl) rfl rfl rfl ?_
  rw [vc29]
  try simp only [splitB_iff, -eq_self]
  refine ⟨⟨0, Nat.zero_le _, by trivial, by trivial, by trivial, by simp⟩, fun g hg => ⟨fun hlt => ?_, fun hge => ?_⟩⟩
  · have hlt' : g < R.length := by simpa using hlt
    have hx := hR _ (getD_mem (d := r0) hlt')
    refine ⟨by omega, by simp only [room]; omega, by simp only [room, List.length_take]; omega, by simp only [fits]; omega, g + 1, hlt', by omega, by simp, by trivial, by trivial, ?_, trivial⟩
    rw [List.take_succ_eq_append_getElem hlt', getD_of hlt']
  · have hge' : ¬ g < R.length := by simpa using hge
    exact ⟨List.take_of_length_le (by omega), trivial⟩
theorem so29_ : SpecOk P1 gl1 29 sp29 := by
  intro vs ps r h hp
  simp only [sp29] at h
  split at h
  · cases h; exact fn29 _ (hp _ (.head _)) (hp _ (.tail _ (.head _)))
  · cases h
theorem so29 : Sp1 29 sp29 := ⟨so29_, Proofs.Tryd.f29, _, by kernel_rfl, rfl, by kernel_rfl⟩
theorem fn30 (L : List Ed) (hl : L.length ≤ 1000000) : Fn P1 gl1 30 [.one (.sl edT L)] (.val (.one (.frs edT L))) true := by
  refine Fn.flat ?_ rfl
  refine fn_of false [] [] h30 0 Proofs.Tryd.f30 trivial trivial (by kernel_rfl) rfl (by kernel_rfl) rfl rfl rfl ?_
  rw [vc30]
  try simp only [splitB_iff, -eq_self]
  refine ⟨⟨0, Nat.zero_le _, by trivial, by trivial, by trivial, by simp⟩, fun g hg => ⟨fun hlt => ?_, fun hge => ?_⟩⟩
  · have hlt' : g < L.length := by simpa using hlt
    refine ⟨by omega, by simp only [room, List.length_take]; omega, by simp only [fits]; omega, g + 1, hlt', by omega, by simp, by trivial, by trivial, ?_, trivial⟩
    rw [List.take_succ_eq_append_getElem hlt', getD_of hlt']
  · have hge' : ¬ g < L.length := by simpa using hge
    exact ⟨List.take_of_length_le (by omega), trivial⟩
theorem so30_ : SpecOk P1 gl1 30 sp30 := by
  intro vs ps r h hp
  simp only [sp30] at h
  split at h
  · cases h; exact fn30 _ (hp _ (.head _))
  · cases h
theorem so30 : Sp1 30 sp30 := ⟨so30_, Proofs.Tryd.f30, _, by kernel_rfl, rfl, by kernel_rfl⟩
theorem fn27   : Fn P1 gl1 27 [] (.val (bV true)) true := by
  refine Fn.flat ?_ rfl
  refine fn_of false [(33, sp33), (31, sp31), (34, sp34), (17, sp17), (87, sp87)] [] h0 0 Proofs.Tryd.f27 ⟨so33, so31, so34, so17, so87, trivial⟩ trivial (by kernel_rfl) rfl (by kernel_rfl) rfl rfl rfl ?_
  rw [vc27 ()]
  try simp only [-eq_self]
  have e1 : chkEds [([97], 10, [1, 2]), ([98], 20, [30, 40])] [([97], 10, 12, 0, 0), ([98], 20, 22, 0, 0)] = 0 := by decide +kernel
  have e2 : convE [([97], 10, [1, 2]), ([98], 20, [30, 40])] [([97], 10, 12, 0, 0), ([98], 20, 22, 0, 0)] [2, 3] = 0 := by decide +kernel
  have e3 : playN [([97], 10, [1, 2]), ([98], 20, [30, 40])] [([97], 10, 12, 0, 0), ([98], 20, 22, 0, 0)] = [1, 2, 30, 40] := by decide +kernel
  have e4 : convL [([97], 10, [1, 2]), ([98], 20, [30, 40])] [([97], 10, 12, 0, 0), ([98], 20, 22, 0, 0)] [2, 3] = [[0, 0], [1, 1], [1, 2], [2, 3], [3, 3]] := by decide +kernel
  have e5 : labsN ((25, false), (0, 0, 0, 24), 0) (ls [([97], 10, 12, 0, 0), ([98], 20, 22, 0, 0)]) = [(0, 0, 0, 24), (0, 0, 1, 1)] := by decide +kernel
  have e6 : StOk ((25, false), (0, 0, 0, 24), 0) := chkStZ.1 (by decide +kernel)
  have hr : ∀ r ∈ ([([97], 10, [1, 2]), ([98], 20, [30, 40])] : List Rl), r.2.2.length ≤ 1000000 := by decide
  have hp : ∀ x ∈ ([[0, 0], [1, 1], [1, 2], [2, 3], [3, 3]] : List (List Int)), x.length = 2 := by decide
  simp only [e1, e2, e3, e4, e5, if_true]
  exact ⟨by decide, hr, by decide, by decide, hr, by decide, by decide, hr, by decide, e6, fun _ => by decide, fun _ => by decide, fun _ => hp, fun _ => hp, fun _ => ⟨by decide, by decide⟩, fun _ => by decide, by decide, trivial⟩
theorem so27_ : SpecOk P1 gl1 27 sp27 := by
  intro vs ps r h _
  simp only [sp27] at h
  split at h
  · cases h; exact fn27  
  · cases h
theorem so27 : Sp1 27 sp27 := ⟨so27_, Proofs.Tryd.f27, _, by kernel_rfl, rfl, by kernel_rfl⟩
theorem fn35 (F : Int) (D : Bool) (h m s f u : Int)  : Fn P1 gl1 35 [stV F D h m s f u] (.val (stV F D h m s f u)) true := by
  refine Fn.flat ?_ rfl
  refine fn_of false [] [] h0 0 Proofs.Tryd.f35 trivial trivial (by kernel_rfl) rfl (by kernel_rfl) rfl rfl rfl ?_
  rw [vc35]
  try simp only [splitB_iff, -eq_self]
  trivial
theorem so35_ : SpecOk P1 gl1 35 sp35 := by
  intro vs ps r h _
  simp only [sp35] at h
  split at h
  · cases h; exact fn35 _ _ _ _ _ _ _ 
  · cases h
theorem so35 : Sp1 35 sp35 := ⟨so35_, Proofs.Tryd.f35, _, by kernel_rfl, rfl, by kernel_rfl⟩
theorem fn5 (R : List Rl) (L : List Ed) (l : List Int) (F : Int) (D : Bool) (hh mm ss ff uu : Int) (hl : R.length ≤ 9223372036854775807) (hL : L.length ≤ 9223372036854775807) (hF : ∀ x ∈ L, fits .i64 x.2.2.1) : Fn P1 gl1 5 [.one (.sl rlT R), .one (.sl edT L), .agg [.one (.sl (.int .i64) l), .one (.int .i64 F), .one (.bool D), .one (.int .i64 hh), .one (.int .i64 mm), .one (.int .i64 ss), .one (.int .i64 ff), .one (.int .i64 uu)]] (.val (bV true)) true := by
  refine Fn.flat ?_ rfl
  refine fn_of false [(35, sp35), (24, sp24), (25, sp25), (26, sp26), (8, sp8), (27, sp27), (29, sp29), (30, sp30), (28, sp28), (31, sp31), (33, sp33), (34, sp34), (32, sp32), (10, sp10), (11, sp11), (17, sp17)] [] h5 0 Proofs.Tryd.f5 ⟨so35, so24, so25, so26, so8, so27, so29, so30, so28, so31, so33, so34, so32, so10, so11, so17, trivial⟩ trivial (by kernel_rfl) rfl (by kernel_rfl) rfl rfl rfl ?_
  rw [vc5]
  try simp only [splitB_iff, -eq_self]
  simp only [eq_self, true_and, and_true, and_self]
  have hsh : (!shortB R L) = false → (R.length ≤ 9 ∧ ∀ r ∈ R, r.2.2.length ≤ 257 ∧ (r.2.2.length ≤ 20 ∨ r.2.2.length = 257) ∧ r.1.length ≤ 40) ∧ (L.length ≤ 6 ∨ L.length = 17) := fun h => by
    simp only [Bool.not_eq_false', shortB, shortE, shortR, Bool.and_eq_true, Bool.or_eq_true, List.all_eq_true, decide_eq_true_eq] at h
    obtain ⟨h1, h2, h3, h4⟩ := h
    exact ⟨⟨by omega, fun r hr => by have := h1 r hr; omega⟩, by omega⟩
  refine ⟨hl, hL, fun h => by have := hsh h; omega, fun h r hr => by have := (hsh h).1.2 r hr; omega, fun h => by have := hsh h; omega, fun _ => hF, fun _ => trivial, fun h => ?_⟩
  simp only [bcond_l, Bool.or_eq_false_iff, decide_eq_false_iff_not, bne_eq_false_iff_eq] at h
  obtain ⟨⟨⟨⟨h1, h2⟩, h8⟩, hc⟩, hst⟩ := h
  obtain ⟨⟨hR9, hRx⟩, hLx⟩ := hsh h1
  have hk := chkEds_zero.1 h2
  have hL6 : L.length ≤ 6 := by have := hk.len; omega
  have hR20 : ∀ r ∈ R, r.2.2.length ≤ 20 := fun r hr => by
    have h3 := hRx r hr
    obtain ⟨j, hj, rfl⟩ := mem_getD r0 hr
    have h4 := reel_bd hk.rs (R.getD j r0).1
    have h5 : rlOf R (R.getD j r0).1 = R.getD j r0 := by unfold rlOf; rw [idx_reel (rs_nodup hk.rs) hj]
    rw [h5] at h4
    omega
  have hn0 := lenL_nn hk
  have hn1 : lenL L ≤ 120 := by
    have := begN_short hk hR20 L.length (Nat.le_refl _)
    unfold lenL; omega
  have hso : StOk ((F, D), (hh, mm, ss, ff), uu) := chkStZ.1 hst
  have hso1 : RateOk F D := hso.1
  have hso2 : LabOk F D hh mm ss ff := hso.2.1
  have hdb := dayN_bd hso1
  have hfr := frame_range hso1 hso2
  have eN : lenN R L = lenL L := by unfold lenN; rw [if_pos h2]
  have eC : convE R L l = 0 := by
    have : first [chkEds R L, chkCad l] = 0 := by rw [h2, hc]; rfl
    unfold convE
    rw [if_neg (by simpa using this), if_neg (by omega)]
  obtain ⟨n, hn⟩ : ∃ n : Nat, lenL L = (n : Int) := ⟨(lenL L).toNat, by omega⟩
  have eV : convL R L l = pullN l n := by unfold convL; rw [if_pos eC, hn]; rfl
  have eS : startsN R L = (ls L).map fun x => x.2 := by unfold startsN; rw [if_pos h2]
  have lS : (startsN R L).length = L.length := by rw [eS, List.length_map, ls_len]
  have gS : ∀ g, g < L.length → (startsN R L).getD g 0 = begN L g := fun g hg => by
    have : (startsN R L).getD g 0 = ((ls L).getD g pl0).2 := by
      rw [eS, List.getD_eq_getElem?_getD, List.getElem?_map, List.getD_eq_getElem?_getD, List.getElem?_eq_getElem (by rw [ls_len]; exact hg)]; rfl
    rw [this, ls_get L hg]
  have lB : (labsN ((F, D), (hh, mm, ss, ff), uu) (ls L)).length = L.length := by unfold labsN; rw [List.length_map, ls_len]
  have gB : ∀ g, g < L.length → (labsN ((F, D), (hh, mm, ss, ff), uu) (ls L)).getD g (0, 0, 0, 0) = lab F D (addN F D hh mm ss ff (begN L g)) := fun g hg => by
    have : (labsN ((F, D), (hh, mm, ss, ff), uu) (ls L)).getD g (0, 0, 0, 0) = lab F D (addN F D hh mm ss ff ((ls L).getD g pl0).2) := by
      unfold labsN
      rw [List.getD_eq_getElem?_getD, List.getElem?_map, List.getD_eq_getElem?_getD, List.getElem?_eq_getElem (by rw [ls_len]; exact hg)]; rfl
    rw [this, ls_get L hg]
  have hrep : List.replicate 2 (0 : Int) = [0, 0] := rfl
  have hu := und_spec (l := l) (show n ≤ 256 by omega)
  have hu2 := und_near hc (show n ≤ 256 by omega)
  have hpl := pull_len hc n
  have hcad := chkCad_ok hc
  simp only [h2, eC, eV, eN, hrep, hn, if_true]
  refine ⟨by omega, fun r hr => by have := hR20 r hr; omega, by omega, by omega, fun r hr => by have := hR20 r hr; omega, by omega, by omega, fun r hr => by have := hR20 r hr; omega, by omega, by simp only [room]; omega, by omega, fun r hr => by have := hR20 r hr; omega, by omega, fun h => ?_, fun _ => ?_⟩
  · exfalso
    simp only [lS, bne_self_eq_false, bcond_l, Bool.or_false, Bool.false_or, Bool.or_eq_true, decide_eq_true_eq] at h
    omega
  refine ⟨by simp only [room]; omega, by simp only [room]; omega, hc, by omega, pull_two n, ⟨n, by omega, rfl⟩, fun _ => by simp only [fits]; omega, fun h => ?_, fun _ => ⟨⟨0, Nat.zero_le _, rfl, rfl⟩, fun g hg => ⟨fun hlt => ?_, fun hge => ?_⟩⟩⟩
  · exfalso
    simp only [bne_self_eq_false, bcond_l, Bool.false_or, Bool.or_eq_true, decide_eq_true_eq] at h
    omega
  · have hlt' : g < (pullN l n).length := by have := of_decide_eq_true hlt; omega
    have hp := pull_at hc n g hlt'
    refine ⟨by omega, hlt', by omega, fun _ => by simp only [fits]; omega, fun h => ?_, fun _ => ⟨by simp only [fits]; omega, by omega, fun _ => by simp only [fits]; omega, fun h => ?_, fun _ => ⟨by simp only [fits]; omega, by simp only [fits]; omega, g + 1, hlt', by omega, by omega, rfl⟩⟩⟩
    all_goals
      exfalso
      simp only [bcond_l, Bool.or_eq_true, decide_eq_true_eq] at h
      omega
  refine ⟨by simp only [room]; omega, ⟨0, Nat.zero_le _, rfl, rfl⟩, fun g hg => ⟨fun hlt => ?_, fun hge => ?_⟩⟩
  · have hlt' : g < L.length := by have := of_decide_eq_true hlt; omega
    have hpn := pln_len L g
    exact ⟨by omega, by omega, by simp only [fits]; omega, g + 1, hlt', by omega, by omega, rfl⟩
  have hgL : g = L.length := by
    have h3 := of_decide_eq_false hge
    have h4 : g ≤ L.length := hg
    omega
  subst hgL
  have hpn := pln_len L L.length
  refine ⟨by omega, fun r hr => by have := hRx r hr; omega, by omega, fun x hx => ?_, fun hz => ?_, fun hz => ?_⟩
  · obtain ⟨y, hy, _, _, e⟩ := pln_mem hx
    rw [e]; exact hF y hy
  · have hz' : chkEds R (plnTo L L.length) = 0 := by simpa using hz
    have hkp := chkEds_zero.1 hz'
    have hpp := play_plain hz'
    simp only [hz', hpn]
    refine ⟨by omega, fun r hr => by have := hR20 r hr; omega, by omega, by omega, fun r hr => by have := hR20 r hr; omega, by omega, ⟨0, Nat.zero_le _, rfl, rfl⟩, fun g1 hg1 => ⟨fun hlt1 => ?_, fun hge1 => ?_⟩⟩
    · have hlt1' : g1 < L.length := by have := of_decide_eq_true hlt1; omega
      have hE := chkEd_ok (hkp.ed g1 (by omega))
      have w1 := want_len hR20 (plnTo L L.length) g1
      have e1 := hE.lo
      have e2 := hE.hi
      have e3 := hE.lt
      have hidx := hE.idx
      clear hE
      generalize hx : (plnTo L L.length).getD g1 e0 = x at *
      have hpx : ((x.1, x.2.1, x.2.2.1, x.2.2.2.1, x.2.2.2.2) : Ed) = x := rfl
      simp only [hpx]
      have hrb := reel_bd hkp.rs x.1
      unfold endR at e2
      refine ⟨by omega, by omega, ⟨0, Nat.zero_le _, rfl, by rw [if_neg (Nat.not_lt_zero _), List.append_nil]⟩, fun g2 hg2 => ⟨fun hlt2 => ⟨by have := of_decide_eq_true hlt2; omega, fun heq => ?_, fun hne => ?_⟩, fun hge2 => ?_⟩⟩
      · have hlt2' : g2 < R.length := by have := of_decide_eq_true hlt2; omega
        have heq' : (R.getD g2 r0).1 = x.1 := by simpa using heq
        have hi : idxN x.1 R = g2 := by rw [← heq']; exact idx_reel (rs_nodup hkp.rs) hlt2'
        have hrl : R.getD g2 r0 = rlOf R x.1 := by unfold rlOf; rw [hi]
        rw [hrl, hi, if_neg (Nat.lt_irrefl _), List.append_nil]
        have hcut : (List.take ((x.2.2.1 - (rlOf R x.1).2.1).toNat - (x.2.1 - (rlOf R x.1).2.1).toNat) (List.drop (x.2.1 - (rlOf R x.1).2.1).toNat (rlOf R x.1).2.2)) = partN (rlOf R x.1) x := rfl
        rw [hcut]
        have hpl2 : (partN (rlOf R x.1) x).length ≤ 256 := by
          unfold partN; rw [List.length_take, List.length_drop]; omega
        refine ⟨by simp only [fits]; omega, by simp only [fits]; omega, by omega, by simp only [room]; omega, by simp only [fits]; omega, g2 + 1, hlt2', by omega, by omega, ?_⟩
        rw [if_pos (Nat.lt_succ_self _)]
      · have hlt2' : g2 < R.length := by have := of_decide_eq_true hlt2; omega
        have hne' : (R.getD g2 r0).1 ≠ x.1 := by simpa using hne
        have hi : idxN x.1 R ≠ g2 := fun e => hne' (by have := idxN_name hidx; unfold rlOf at this; rwa [e] at this)
        refine ⟨by simp only [fits]; omega, g2 + 1, hlt2', by omega, by omega, ?_⟩
        by_cases hlt3 : idxN x.1 R < g2
        · rw [if_pos hlt3, if_pos (by omega)]
        · rw [if_neg hlt3, if_neg (by omega)]
      · have hge2' : g2 = R.length := by
          have h3 := of_decide_eq_false hge2
          have h4 : g2 ≤ R.length := hg2
          omega
        refine ⟨by simp only [fits]; omega, g1 + 1, hlt1', by omega, by omega, ?_⟩
        rw [if_pos (by omega)]
        simp only [wantTo, hx]
    · have hg1L : g1 = L.length := by
        have h3 := of_decide_eq_false hge1
        have h4 : g1 ≤ L.length := hg1
        omega
      subst hg1L
      have w1 := want_len hR20 (plnTo L L.length) L.length
      rw [hpp]
      refine ⟨fun _ => by omega, fun h => ?_, fun _ => ?_⟩
      · simp at h
      refine ⟨by omega, fun r hr => by have := hR20 r hr; omega, by omega, by omega, fun r hr => by have := hR20 r hr; omega, by omega, hso, hso1, hso1, hso2, fun h => ?_, fun _ => ⟨⟨0, Nat.zero_le _, rfl⟩, fun g2 hg2 => ⟨fun hlt2 => ?_, fun _ => trivial⟩⟩⟩
      · exfalso
        simp only [lB, bne_self_eq_false, bcond_l, Bool.or_false, Bool.false_or, decide_eq_true_eq] at h
        omega
      · simp only [lB] at hg2 hlt2 ⊢
        have hg3 : g2 < L.length := by have := of_decide_eq_true hlt2; omega
        have hst' := gS g2 hg3
        have hlb := gB g2 hg3
        have hbm := begN_mono hk.eds (show 0 ≤ g2 by omega) (by omega)
        have hbm2 := begN_mono hk.eds (show g2 ≤ L.length by omega) (Nat.le_refl _)
        have hb0 : begN L 0 = 0 := rfl; have hbl : begN L L.length = lenL L := rfl
        have hq0 : 0 ≤ addN F D hh mm ss ff (begN L g2) := Int.emod_nonneg _ (by omega)
        have hq1 : addN F D hh mm ss ff (begN L g2) < dayN F D := Int.emod_lt_of_pos _ (by omega)
        have hlo := lab_ok hso1 hq0 hq1
        rw [hlb, hst']
        have hfe : frameN F D (lab F D (addN F D hh mm ss ff (begN L g2))).1 (lab F D (addN F D hh mm ss ff (begN L g2))).2.1 (lab F D (addN F D hh mm ss ff (begN L g2))).2.2.1 (lab F D (addN F D hh mm ss ff (begN L g2))).2.2.2 = (frameN F D hh mm ss ff + begN L g2) % dayN F D := hlo.2
        rw [hfe]
        refine ⟨by omega, hg3, hso1, hlo.1, fun _ => by omega, fun _ => by omega, fun _ => by simp only [fits]; omega, fun _ => by omega, fun h => ?_, fun _ => ⟨by simp only [fits]; omega, g2 + 1, hg3, by omega, by omega⟩⟩
        simp at h
  · refine ⟨by omega, fun r hr => by have := hR20 r hr; omega, by omega, by omega, fun r hr => by have := hR20 r hr; omega, by omega, hso, hso1, hso1, hso2, fun h => ?_, fun _ => ⟨⟨0, Nat.zero_le _, rfl⟩, fun g2 hg2 => ⟨fun hlt2 => ?_, fun _ => trivial⟩⟩⟩
    · exfalso
      simp only [lB, bne_self_eq_false, bcond_l, Bool.or_false, Bool.false_or, decide_eq_true_eq] at h
      omega
    · simp only [lB] at hg2 hlt2 ⊢
      have hg3 : g2 < L.length := by have := of_decide_eq_true hlt2; omega
      have hst' := gS g2 hg3
      have hlb := gB g2 hg3
      have hbm := begN_mono hk.eds (show 0 ≤ g2 by omega) (by omega)
      have hbm2 := begN_mono hk.eds (show g2 ≤ L.length by omega) (Nat.le_refl _)
      have hb0 : begN L 0 = 0 := rfl; have hbl : begN L L.length = lenL L := rfl
      have hq0 : 0 ≤ addN F D hh mm ss ff (begN L g2) := Int.emod_nonneg _ (by omega)
      have hq1 : addN F D hh mm ss ff (begN L g2) < dayN F D := Int.emod_lt_of_pos _ (by omega)
      have hlo := lab_ok hso1 hq0 hq1
      rw [hlb, hst']
      have hfe : frameN F D (lab F D (addN F D hh mm ss ff (begN L g2))).1 (lab F D (addN F D hh mm ss ff (begN L g2))).2.1 (lab F D (addN F D hh mm ss ff (begN L g2))).2.2.1 (lab F D (addN F D hh mm ss ff (begN L g2))).2.2.2 = (frameN F D hh mm ss ff + begN L g2) % dayN F D := hlo.2
      rw [hfe]
      refine ⟨by omega, hg3, hso1, hlo.1, fun _ => by omega, fun _ => by omega, fun _ => by simp only [fits]; omega, fun _ => by omega, fun h => ?_, fun _ => ⟨by simp only [fits]; omega, g2 + 1, hg3, by omega, by omega⟩⟩
      simp at h

end Go.Sx

/- Plain functions and hints. -/
namespace Go.Sx.U
abbrev Nd := List UInt8 × Int × Int
def nd0 : Nd := ([], 0, 0)
/-- Some of the first spans of a name ends past a frame. -/
def byTo (nm : List UInt8) (e : Int) (nd : List Nd) : Nat → Bool
  | 0 => false
  | i + 1 => byTo nm e nd i || (decide ((nd.getD i nd0).1 = nm) && decide (e < (nd.getD i nd0).2.2))
end Go.Sx.U
namespace Go.Sx
open U
abbrev ndT' : Ty := .pair .str (.pair (.int .i64) (.int .i64))
def withRl (s : St) (t : Nat) (k : Nat → Rl → Option LInv) : Option LInv := match lookT s.tm t with
  | some (.val (.one (.ptr i 0))) => match lookO s.ob i with
    | some (.box [.one (.str nm), .one (.int .i64 f), .one (.sl (.int .i64) l)]) => k i (nm, f, l)
    | _ => none
  | _ => none
@[reducible] def rlBox (x : Rl) : AObj := .box [.one (.str x.1), .one (.int .i64 x.2.1), .one (.sl (.int .i64) x.2.2)]
def ownId' (s : St) (t : Nat) : Option Nat := match lookT s.tm t with
  | some (.val (.one (.own id))) => some id
  | _ => none
def h7 : Hints := ⟨fun f k s => match f, k with
  | 7, 18 => match listAs s 16 rlT, listAs s 10 ndT', ownId' s 10, intOfT s 15 with
    | some S, some nd, some j, some c => withRl s 12 fun iw w => some ⟨Nat × (Rl × Int × List Rl × List Nd),
        fun g => ⟨[tI 191 g.1, (190, .val (iV (List.length g.2.2.2.2))), (189, .val (.one (.own j))), (10, .val (.one (.own j))), (17, .val (bV (byTo g.2.1.1 (g.2.1.2.1 + g.2.2.1) g.2.2.2.2 g.1))), (15, .val (iV g.2.2.1)), (16, .val (.one (.sl rlT g.2.2.2.1))), (12, .val (.one (.ptr iw 0)))] ++ keepT [0, 1] s.tm, [(iw, some (rlBox g.2.1)), (j, some (.row ndT' g.2.2.2.2))], s.nx, s.lr⟩,
        fun g => g.1 ≤ List.length nd ∧ g.2.1 = w ∧ g.2.2.1 = c ∧ g.2.2.2.1 = S ∧ g.2.2.2.2 = nd, fun g => List.length nd - g.1⟩
    | _, _, _, _ => none
  | 7, 35 => match listAs s 21 (.sl tkT), listAs s 23 (.sl tkT), listAs s 10 ndT', listAs s 29 ndT' with
    | some A, some B, some N, some M => some ⟨Nat × (List (List Tk) × List (List Tk) × List Nd × List Nd),
        fun g => ⟨[tI 311 g.1, (310, .val (iV (List.length g.2.1))), (309, .val (.one (.sl (.sl tkT) g.2.1))), (21, .val (.one (.sl (.sl tkT) g.2.1))), (23, .val (.one (.sl (.sl tkT) g.2.2.1))), (10, .val (.one (.sl ndT' g.2.2.2.1))), (29, .val (.one (.sl ndT' g.2.2.2.2)))], [], s.nx, s.lr⟩,
        fun g => g.1 ≤ List.length A ∧ g.2.1 = A ∧ g.2.2.1 = B ∧ g.2.2.2.1 = N ∧ g.2.2.2.2 = M, fun g => List.length A - g.1⟩
    | _, _, _, _ => none
  | 7, 40 => match listAs s 21 (.sl tkT), intOfT s 31 with
    | some A, some i => some ⟨Nat, fun j => s.at [309, 310, 311, 21, 23, 10, 29, 31, 329] [tI 330 j], fun j => j ≤ List.length (List.getD A i.toNat []), fun j => List.length (List.getD A i.toNat []) - j⟩
    | _, _ => none
  | 7, 47 => match listAs s 10 ndT' with
    | some N => some ⟨Nat, fun i => s.at [350, 351, 10, 29] [tI 352 i], fun i => i ≤ List.length N, fun i => List.length N - i⟩
    | _ => none
  | _, _ => none, 0⟩
def sp30n : FSpec := ⟨fun vs => match vs with
  | [.one (.sl (.pair .str (.pair (.int .i64) (.pair (.int .i64) (.pair (.int .i64) (.int .i64))))) L)] => some ([List.length L ≤ 1000000], .val (.one (.sl edT L)))
  | _ => none, false⟩
end Go.Sx

/- What the engine asks, written out (printed by a program). -/
namespace Go.Sx
open U
theorem vc30n (L : List Ed) : exF (env false [] []) h30 0 30 Proofs.Tryd.f30 [.one (.sl edT L)] (.val (.one (.sl edT L))) = (let q0 := (↑(List.length L) : Int); (∃ (g : Nat), Nat.le g (List.length L) ∧ (0 : Int) = (↑g : Int) ∧ q0 = q0 ∧ L = L ∧ List.take g L = [] ∧ True) ∧ ∀ (g : Nat), let q1 := (List.getD L g e0); Nat.le g (List.length L) → splitB (decide ((↑g : Int) < q0)) (((0 : Int) ≤ (↑g : Int) ∧ (↑g : Int) < q0) ∧ room (List.length (List.take g L) + (1 : Nat)) (48 : Nat) ∧ fits IntKind.i64 ((↑g : Int) + (1 : Int)) ∧ ∃ (g' : Nat), Nat.le g' (List.length L) ∧ List.length L - g' < List.length L - g ∧ (↑g : Int) + (1 : Int) = (↑g' : Int) ∧ q0 = q0 ∧ L = L ∧ List.take g L ++ [(q1.1, q1.2.1, q1.2.2.1, q1.2.2.2.1, q1.2.2.2.2)] = List.take g' L ∧ True) (List.take g L = L ∧ True)) := by
  kernel_rfl
theorem vc7 (R : List Rl) (L : List Ed) (b : List Int) : exF (env false [(24, sp24), (25, sp25), (27, sp27), (29, sp29), (30, sp30n), (21, sp21), (22, sp22), (42, sp42), (43, sp43), (39, sp39), (33, sp33), (17, sp17)] []) h7 0 7 Proofs.Tryd.f7 [.one (.sl rlT R), .one (.sl edT L), .agg [.arr 2 (.int .u8) b]] (.val (bV true)) = (let q2 := (↑(List.length R) : Int); let q12 := (Int.toNat (List.getD b (0 : Nat) (0 : Int) % q2)); let q1 := (List.getD R q12 r0); let q7 := (↑(List.length (stream q1.1 q1.2.1 q1.2.2)) : Int); let q35 := (q7 + (1 : Int)); let q0 := (List.take (Int.toNat (List.getD b (1 : Nat) (0 : Int) % q35)) (stream q1.1 q1.2.1 q1.2.2)); let q18 := (↑(List.length q1.2.2) : Int); let q4 := (↑(List.length (rebuilt q0).1.2.2) : Int); let q3 := (bif bif bif bif (rebuilt q0).2.2 != (0 : Int) then true else (rebuilt q0).1.1 != q1.1 then true else (rebuilt q0).1.2.1 != q1.2.1 then true else decide (q4 < (1 : Int)) then true else decide (q18 < q4)); let q6 := (1000000 : Nat); let q8 := (1000000000 : Nat); let q9 := (bif (0 : Int) != (0 : Int) then true else chkEds R L != (0 : Int)); let q13 := ([], (0 : Int), (0 : Int)); let q16 := (bif !shortB R L then true else q2 == (0 : Int)); let q20 := ((rebuilt q0).1.1, (rebuilt q0).1.2.1, (rebuilt q0).1.2.2); let q21 := (q9 = false → (0 : Int) ≤ List.getD b (0 : Nat) (0 : Int) % q2 ∧ List.getD b (0 : Nat) (0 : Int) % q2 < q2); let q22 := (false = true ∧ True); let q23 := ((0 : Int) ≤ List.getD b (0 : Nat) (0 : Int) % q2 ∧ List.getD b (0 : Nat) (0 : Int) % q2 < q2); let q24 := (q1.1, q1.2.1, (rebuilt q0).1.2.2); let q25 := (Ty.int IntKind.i64); let q26 := (↑(List.length (confN R L)) : Int); let q36 := (↑(List.length q1.1) : Int); List.length R ≤ (9223372036854775807 : Nat) ∧ List.length L ≤ (9223372036854775807 : Nat) ∧ (q16 = false → List.length R ≤ q8) ∧ (q16 = false → ∀ (r : Rl), r ∈ R → List.length r.2.2 ≤ q6 ∧ List.length r.1 ≤ q8) ∧ (q16 = false → List.length L ≤ q8) ∧ (q16 = false → ∀ (x : Ed), x ∈ L → fits IntKind.i64 x.2.2.1) ∧ splitB (bif bif !shortB R L then true else q2 == (0 : Int) then true else chkEds R L != (0 : Int)) (true = true ∧ True) (((0 : Int) ≤ (0 : Int) ∧ (0 : Int) < (2 : Int)) ∧ (0 : Nat) < List.length b ∧ fits IntKind.i64 (List.getD b (0 : Nat) (0 : Int)) ∧ ((0 : Int) ≤ List.getD b (0 : Nat) (0 : Int) ∧ (0 : Int) < q2) ∧ List.length R ≤ q6 ∧ (∀ (r : Rl), r ∈ R → List.length r.2.2 ≤ q6) ∧ q23 ∧ ReelOk q1.1 q1.2.1 q1.2.2 ∧ List.length R ≤ q6 ∧ (∀ (r : Rl), r ∈ R → List.length r.2.2 ≤ q6) ∧ List.length L ≤ q6 ∧ List.length R ≤ q8 ∧ (∀ (r : Rl), r ∈ R → List.length r.2.2 ≤ q6) ∧ List.length L ≤ q8 ∧ q21 ∧ (q9 = false → fits IntKind.i64 ((14 : Int) + q36)) ∧ q21 ∧ (q9 = false → fits IntKind.i64 ((5 : Int) * q18)) ∧ (q9 = false → fits IntKind.i64 ((14 : Int) + q36 + (5 : Int) * q18)) ∧ splitB (bif bif (0 : Int) != (0 : Int) then true else chkEds R L != (0 : Int) then true else q7 != (14 : Int) + q36 + (5 : Int) * q18) q22 (((0 : Int) ≤ (1 : Int) ∧ (1 : Int) < (2 : Int)) ∧ (1 : Nat) < List.length b ∧ fits IntKind.i64 (List.getD b (1 : Nat) (0 : Int)) ∧ fits IntKind.i64 q35 ∧ ((0 : Int) ≤ List.getD b (1 : Nat) (0 : Int) ∧ (0 : Int) < q7 + (1 : Int)) ∧ ((0 : Int) ≤ (0 : Int) ∧ (0 : Int) ≤ List.getD b (1 : Nat) (0 : Int) % q35 ∧ List.getD b (1 : Nat) (0 : Int) % q35 ≤ q7) ∧ List.length q0 = Int.toNat (List.getD b (1 : Nat) (0 : Int) % q35) ∧ room ((0 : Nat) + List.length q0) (1 : Nat) ∧ (List.length q0 ≤ q6 ∧ Bytes q0) ∧ splitB (bif (rebuilt q0).2.2 == (28 : Int) then true else (rebuilt q0).2.2 == (12 : Int)) ((bif !(rebuilt q0).2.1 then true else false) = true ∧ True) ((((rebuilt q0).2.2 != (0 : Int)) = false → (0 : Int) ≤ List.getD b (0 : Nat) (0 : Int) % q2 ∧ List.getD b (0 : Nat) (0 : Int) % q2 < q2) ∧ ((bif (rebuilt q0).2.2 != (0 : Int) then true else (rebuilt q0).1.1 != q1.1) = false → (0 : Int) ≤ List.getD b (0 : Nat) (0 : Int) % q2 ∧ List.getD b (0 : Nat) (0 : Int) % q2 < q2) ∧ ((bif bif bif (rebuilt q0).2.2 != (0 : Int) then true else (rebuilt q0).1.1 != q1.1 then true else (rebuilt q0).1.2.1 != q1.2.1 then true else decide (q4 < (1 : Int))) = false → (0 : Int) ≤ List.getD b (0 : Nat) (0 : Int) % q2 ∧ List.getD b (0 : Nat) (0 : Int) % q2 < q2) ∧ (q3 = false → (0 : Int) ≤ List.getD b (0 : Nat) (0 : Int) % q2 ∧ List.getD b (0 : Nat) (0 : Int) % q2 < q2) ∧ (q3 = false → (0 : Int) ≤ (0 : Int) ∧ (0 : Int) ≤ q4 ∧ q4 ≤ q18) ∧ (q3 = false → List.length (rebuilt q0).1.2.2 ≤ q8) ∧ splitB (bif bif bif bif bif (rebuilt q0).2.2 != (0 : Int) then true else (rebuilt q0).1.1 != q1.1 then true else (rebuilt q0).1.2.1 != q1.2.1 then true else decide (q4 < (1 : Int)) then true else decide (q18 < q4) then true else !decide ((rebuilt q0).1.2.2 = List.take (List.length (rebuilt q0).1.2.2) q1.2.2)) q22 (room ((0 : Nat) + List.length R) (48 : Nat) ∧ room ((0 : Nat) + List.length (rebuilt q0).1.2.2) (8 : Nat) ∧ q23 ∧ Int.toNat (List.getD b (0 : Nat) (0 : Int) % q2) < List.length R ∧ (∃ (g : Nat × Rl × Int × List Rl × List Nd), (g.1 ≤ List.length (needN R L) ∧ g.2.1 = q20 ∧ g.2.2.1 = q4 ∧ g.2.2.2.1 = List.set R q12 q24 ∧ g.2.2.2.2 = needN R L) ∧ (0 : Int) = (↑g.1 : Int) ∧ (↑(List.length (needN R L)) : Int) = (↑(List.length g.2.2.2.2) : Int) ∧ false = byTo g.2.1.1 (g.2.1.2.1 + g.2.2.1) g.2.2.2.2 g.1 ∧ q4 = g.2.2.1 ∧ List.set R q12 q24 = g.2.2.2.1 ∧ R = R ∧ L = L ∧ (rebuilt q0).1.1 = g.2.1.1 ∧ (rebuilt q0).1.2.1 = g.2.1.2.1 ∧ (rebuilt q0).1.2.2 = g.2.1.2.2 ∧ needN R L = g.2.2.2.2 ∧ True) ∧ ∀ (g : Nat × Rl × Int × List Rl × List Nd), let q19 := (↑(List.length g.2.2.2.2) : Int); let q30 := (g.2.1.2.1 + g.2.2.1); let q31 := (List.getD g.2.2.2.2 g.1 q13); g.1 ≤ List.length (needN R L) ∧ g.2.1 = q20 ∧ g.2.2.1 = q4 ∧ g.2.2.2.1 = List.set R q12 q24 ∧ g.2.2.2.2 = needN R L → splitB (decide ((↑g.1 : Int) < q19)) (((0 : Int) ≤ (↑g.1 : Int) ∧ (↑g.1 : Int) < q19) ∧ g.1 < List.length g.2.2.2.2 ∧ (byTo g.2.1.1 q30 g.2.2.2.2 g.1 = false → (q31.1 == g.2.1.1) = true → fits IntKind.i64 q30) ∧ fits IntKind.i64 ((↑g.1 : Int) + (1 : Int)) ∧ ∃ (g' : Nat × Rl × Int × List Rl × List Nd), (g'.1 ≤ List.length (needN R L) ∧ g'.2.1 = q20 ∧ g'.2.2.1 = q4 ∧ g'.2.2.2.1 = List.set R q12 q24 ∧ g'.2.2.2.2 = needN R L) ∧ List.length (needN R L) - g'.1 < List.length (needN R L) - g.1 ∧ (↑g.1 : Int) + (1 : Int) = (↑g'.1 : Int) ∧ q19 = (↑(List.length g'.2.2.2.2) : Int) ∧ (bif byTo g.2.1.1 q30 g.2.2.2.2 g.1 then true else bif q31.1 == g.2.1.1 then decide (g.2.1.2.1 + g.2.2.1 < q31.2.2) else false) = byTo g'.2.1.1 (g'.2.1.2.1 + g'.2.2.1) g'.2.2.2.2 g'.1 ∧ g.2.2.1 = g'.2.2.1 ∧ g.2.2.2.1 = g'.2.2.2.1 ∧ R = R ∧ L = L ∧ g.2.1.1 = g'.2.1.1 ∧ g.2.1.2.1 = g'.2.1.2.1 ∧ g.2.1.2.2 = g'.2.1.2.2 ∧ g.2.2.2.2 = g'.2.2.2.2 ∧ True) (List.length g.2.2.2.1 ≤ q6 ∧ (∀ (r : Rl), r ∈ g.2.2.2.1 → List.length r.2.2 ≤ q6) ∧ List.length L ≤ q6 ∧ List.length g.2.2.2.1 ≤ q8 ∧ (∀ (r : Rl), r ∈ g.2.2.2.1 → List.length r.2.2 ≤ q6) ∧ List.length L ≤ q8 ∧ splitB (byTo g.2.1.1 q30 g.2.2.2.2 g.1) ((bif bif chkEds g.2.2.2.1 L == (14 : Int) then true else chkEds g.2.2.2.1 L == (16 : Int) then true else false) = true ∧ True) (splitB (chkEds g.2.2.2.1 L != (0 : Int)) q22 (List.length R ≤ q6 ∧ (∀ (r : Rl), r ∈ R → List.length r.2.2 ≤ q6) ∧ List.length L ≤ q6 ∧ List.length R ≤ q8 ∧ (∀ (r : Rl), r ∈ R → List.length r.2.2 ≤ q6) ∧ List.length L ≤ q8 ∧ List.length g.2.2.2.1 ≤ q6 ∧ (∀ (r : Rl), r ∈ g.2.2.2.1 → List.length r.2.2 ≤ q6) ∧ List.length L ≤ q6 ∧ List.length g.2.2.2.1 ≤ q8 ∧ (∀ (r : Rl), r ∈ g.2.2.2.1 → List.length r.2.2 ≤ q6) ∧ List.length L ≤ q8 ∧ List.length R ≤ q6 ∧ (∀ (r : Rl), r ∈ R → List.length r.2.2 ≤ q6) ∧ List.length L ≤ q6 ∧ List.length R ≤ q8 ∧ (∀ (r : Rl), r ∈ R → List.length r.2.2 ≤ q6) ∧ List.length L ≤ q8 ∧ List.length g.2.2.2.1 ≤ q6 ∧ (∀ (r : Rl), r ∈ g.2.2.2.1 → List.length r.2.2 ≤ q6) ∧ List.length L ≤ q6 ∧ List.length g.2.2.2.1 ≤ q8 ∧ (∀ (r : Rl), r ∈ g.2.2.2.1 → List.length r.2.2 ≤ q6) ∧ List.length L ≤ q8 ∧ List.length g.2.2.2.1 ≤ q6 ∧ (∀ (r : Rl), r ∈ g.2.2.2.1 → List.length r.2.2 ≤ q6) ∧ List.length L ≤ q6 ∧ List.length g.2.2.2.1 ≤ q8 ∧ (∀ (r : Rl), r ∈ g.2.2.2.1 → List.length r.2.2 ≤ q6) ∧ List.length L ≤ q8 ∧ ((bif bif bif bif bif bif chkEds R L != (0 : Int) then true else chkEds g.2.2.2.1 L != (0 : Int) then true else chkEds R L != (0 : Int) then true else chkEds g.2.2.2.1 L != (0 : Int) then true else chkEds g.2.2.2.1 L != (0 : Int) then true else q26 != (↑(List.length (confN g.2.2.2.1 L)) : Int) then true else (↑(List.length (needN g.2.2.2.1 L)) : Int) != q19) = false → List.length (playN R L) ≤ q8) ∧ splitB (bif bif bif bif bif bif bif chkEds R L != (0 : Int) then true else chkEds g.2.2.2.1 L != (0 : Int) then true else chkEds R L != (0 : Int) then true else chkEds g.2.2.2.1 L != (0 : Int) then true else chkEds g.2.2.2.1 L != (0 : Int) then true else q26 != (↑(List.length (confN g.2.2.2.1 L)) : Int) then true else (↑(List.length (needN g.2.2.2.1 L)) : Int) != q19 then true else !decide (playN R L = playN g.2.2.2.1 L)) q22 ((∃ (g_1 : Nat × List (List Tk) × List (List Tk) × List Nd × List Nd), (g_1.1 ≤ List.length (confN R L) ∧ g_1.2.1 = confN R L ∧ g_1.2.2.1 = confN g.2.2.2.1 L ∧ g_1.2.2.2.1 = g.2.2.2.2 ∧ g_1.2.2.2.2 = needN g.2.2.2.1 L) ∧ (0 : Int) = (↑g_1.1 : Int) ∧ q26 = (↑(List.length g_1.2.1) : Int) ∧ confN R L = g_1.2.1 ∧ confN R L = g_1.2.1 ∧ confN g.2.2.2.1 L = g_1.2.2.1 ∧ g.2.2.2.2 = g_1.2.2.2.1 ∧ needN g.2.2.2.1 L = g_1.2.2.2.2 ∧ True) ∧ ∀ (g_1 : Nat × List (List Tk) × List (List Tk) × List Nd × List Nd), let q5 := (List.getD g_1.2.1 g_1.1 []); let q10 := (↑(List.length g_1.2.1) : Int); let q11 := (↑g_1.1 : Int); let q14 := (List.length g_1.2.2.2.1); let q17 := (↑(List.length q5) : Int); let q27 := ((0 : Int) ≤ q11 ∧ q11 < (↑(List.length g_1.2.2.1) : Int)); let q29 := (List.getD g_1.2.2.1 g_1.1 []); let q32 := ((0 : Int) ≤ q11 ∧ q11 < q10); g_1.1 ≤ List.length (confN R L) ∧ g_1.2.1 = confN R L ∧ g_1.2.2.1 = confN g.2.2.2.1 L ∧ g_1.2.2.2.1 = g.2.2.2.2 ∧ g_1.2.2.2.2 = needN g.2.2.2.1 L → splitB (decide (q11 < q10)) (q32 ∧ q27 ∧ splitB (q17 != (↑(List.length q29) : Int)) q22 (q32 ∧ (∃ (g : Nat), Nat.le g (List.length q5) ∧ (0 : Int) = (↑g : Int) ∧ q17 = q17 ∧ q11 = q11 ∧ q11 = q11 ∧ q10 = q10 ∧ g_1.2.1 = g_1.2.1 ∧ g_1.2.1 = g_1.2.1 ∧ g_1.2.2.1 = g_1.2.2.1 ∧ g_1.2.2.2.1 = g_1.2.2.2.1 ∧ g_1.2.2.2.2 = g_1.2.2.2.2 ∧ True) ∧ ∀ (g_2 : Nat), let q15 := (List.getD q29 g_2 tk0); let q28 := (List.getD q5 g_2 tk0); Nat.le g_2 (List.length q5) → splitB (decide ((↑g_2 : Int) < q17)) (q32 ∧ ((0 : Int) ≤ (↑g_2 : Int) ∧ (↑g_2 : Int) < q17) ∧ q27 ∧ ((0 : Int) ≤ (↑g_2 : Int) ∧ (↑g_2 : Int) < (↑(List.length q29) : Int)) ∧ splitB (!eqT (Ty.pair Ty.str (Ty.pair q25 (Ty.pair q25 q25))) (q28.1, q28.2.1, q28.2.2.1, q28.2.2.2) (q15.1, q15.2.1, q15.2.2.1, q15.2.2.2)) q22 (fits IntKind.i64 ((↑g_2 : Int) + (1 : Int)) ∧ ∃ (g' : Nat), Nat.le g' (List.length q5) ∧ List.length q5 - g' < List.length q5 - g_2 ∧ (↑g_2 : Int) + (1 : Int) = (↑g' : Int) ∧ q17 = q17 ∧ q11 = q11 ∧ q11 = q11 ∧ q10 = q10 ∧ g_1.2.1 = g_1.2.1 ∧ g_1.2.1 = g_1.2.1 ∧ g_1.2.2.1 = g_1.2.2.1 ∧ g_1.2.2.2.1 = g_1.2.2.2.1 ∧ g_1.2.2.2.2 = g_1.2.2.2.2 ∧ True)) (fits IntKind.i64 (q11 + (1 : Int)) ∧ ∃ (g' : Nat × List (List Tk) × List (List Tk) × List Nd × List Nd), (g'.1 ≤ List.length (confN R L) ∧ g'.2.1 = confN R L ∧ g'.2.2.1 = confN g.2.2.2.1 L ∧ g'.2.2.2.1 = g.2.2.2.2 ∧ g'.2.2.2.2 = needN g.2.2.2.1 L) ∧ List.length (confN R L) - g'.1 < List.length (confN R L) - g_1.1 ∧ q11 + (1 : Int) = (↑g'.1 : Int) ∧ q10 = (↑(List.length g'.2.1) : Int) ∧ g_1.2.1 = g'.2.1 ∧ g_1.2.1 = g'.2.1 ∧ g_1.2.2.1 = g'.2.2.1 ∧ g_1.2.2.2.1 = g'.2.2.2.1 ∧ g_1.2.2.2.2 = g'.2.2.2.2 ∧ True))) ((∃ (g : Nat), Nat.le g q14 ∧ (0 : Int) = (↑g : Int) ∧ (↑q14 : Int) = (↑q14 : Int) ∧ g_1.2.2.2.1 = g_1.2.2.2.1 ∧ g_1.2.2.2.1 = g_1.2.2.2.1 ∧ g_1.2.2.2.2 = g_1.2.2.2.2 ∧ True) ∧ ∀ (g : Nat), let q33 := (List.getD g_1.2.2.2.1 g q13); let q34 := (List.getD g_1.2.2.2.2 g q13); Nat.le g q14 → splitB (decide ((↑g : Int) < (↑q14 : Int))) (((0 : Int) ≤ (↑g : Int) ∧ (↑g : Int) < (↑q14 : Int)) ∧ ((0 : Int) ≤ (↑g : Int) ∧ (↑g : Int) < (↑(List.length g_1.2.2.2.2) : Int)) ∧ splitB (!eqT (Ty.pair Ty.str (Ty.pair q25 q25)) (q33.1, q33.2.1, q33.2.2) (q34.1, q34.2.1, q34.2.2)) q22 (fits IntKind.i64 ((↑g : Int) + (1 : Int)) ∧ ∃ (g' : Nat), Nat.le g' q14 ∧ List.length g_1.2.2.2.1 - g' < List.length g_1.2.2.2.1 - g ∧ (↑g : Int) + (1 : Int) = (↑g' : Int) ∧ (↑q14 : Int) = (↑q14 : Int) ∧ g_1.2.2.2.1 = g_1.2.2.2.1 ∧ g_1.2.2.2.1 = g_1.2.2.2.1 ∧ g_1.2.2.2.2 = g_1.2.2.2.2 ∧ True)) (true = true ∧ True))))))))))) := by
  kernel_rfl
end Go.Sx

/- Plain laws of reels of which one is cut. -/
namespace Go.Sx
open U

/-- A reel's first checks. -/
def cutL (r : Rl) (c : Nat) : Rl := (r.1, r.2.1, r.2.2.take c)
def cutR (R : List Rl) (k c : Nat) : List Rl := R.set k (cutL (R.getD k r0) c)

theorem cutR_len (R : List Rl) (k c : Nat) : (cutR R k c).length = R.length := by simp [cutR]
theorem cutR_get {R : List Rl} {k c : Nat} (hk : k < R.length) (i : Nat) : (cutR R k c).getD i r0 = if i = k then cutL (R.getD k r0) c else R.getD i r0 := by
  unfold cutR
  rw [setD_get]
  by_cases e : i = k
  · subst e; rw [if_pos ⟨rfl, hk⟩, if_pos rfl]
  · rw [if_neg (fun h => e h.1.symm), if_neg e]
theorem cutR_name {R : List Rl} {k c : Nat} (hk : k < R.length) (i : Nat) : ((cutR R k c).getD i r0).1 = (R.getD i r0).1 := by
  rw [cutR_get hk]
  split
  · rename_i e; subst e; rfl
  · rfl
theorem cutR_names {R : List Rl} {k c : Nat} (hk : k < R.length) : (cutR R k c).map (fun r => r.1) = R.map (fun r => r.1) := by
  apply List.ext_getElem
  · simp [cutR]
  · intro i h1 h2
    have h1' : i < (cutR R k c).length := by simpa using h1
    have h2' : i < R.length := by simpa using h2
    have := cutR_name (c := c) hk i
    rw [getD_of h1', getD_of h2'] at this
    rw [List.getElem_map, List.getElem_map]
    exact this
theorem idxN_map (nm : List UInt8) (R : List Rl) : idxN nm R = (R.map fun r => r.1).findIdx fun x => decide (x = nm) := by
  unfold idxN
  rw [List.findIdx_map]
  rfl
theorem cutR_idx {R : List Rl} {k c : Nat} (hk : k < R.length) (nm : List UInt8) : idxN nm (cutR R k c) = idxN nm R := by
  rw [idxN_map, idxN_map, cutR_names hk]
theorem cutR_rl {R : List Rl} {k c : Nat} (hk : k < R.length) (nm : List UInt8) : rlOf (cutR R k c) nm = if idxN nm R = k then cutL (R.getD k r0) c else rlOf R nm := by
  unfold rlOf
  rw [cutR_idx hk, cutR_get hk]
theorem cutR_end {R : List Rl} {k c : Nat} (hk : k < R.length) (hc : c ≤ (R.getD k r0).2.2.length) (nm : List UInt8) : (rlOf (cutR R k c) nm).2.1 = (rlOf R nm).2.1 ∧ endR (rlOf (cutR R k c) nm) = if idxN nm R = k then (R.getD k r0).2.1 + (c : Int) else endR (rlOf R nm) := by
  rw [cutR_rl hk]
  by_cases e : idxN nm R = k
  · rw [if_pos e, if_pos e]
    refine ⟨by unfold rlOf; rw [e]; rfl, ?_⟩
    unfold endR cutL
    rw [List.length_take]
    dsimp only
    omega
  · rw [if_neg e, if_neg e]
    exact ⟨rfl, rfl⟩
theorem cutR_ok {R : List Rl} {k c : Nat} (hr : chkRs R = 0) (hk : k < R.length) (h1 : 1 ≤ c) (hc : c ≤ (R.getD k r0).2.2.length) : chkRs (cutR R k c) = 0 := by
  have h8 := rs_at hr
  have hd := rs_nodup hr
  unfold chkRs
  rw [if_neg (by rw [cutR_len]; omega), upTo_zero]
  intro i hi
  rw [cutR_len] at hi
  unfold chkRl
  rw [first_zero_iff]
  have hro := h8.2 _ (getD_mem (d := r0) hi)
  intro x hx
  simp only [List.mem_cons, List.not_mem_nil, or_false] at hx
  rcases hx with rfl | rfl
  · rw [checkReel_zero, cutR_get hk]
    split
    · rename_i e
      subst e
      refine ⟨hro.name, hro.start, ?_, ?_, ?_, ?_⟩
      · unfold cutL; rw [List.length_take]; omega
      · unfold cutL; rw [List.length_take]; have := hro.len; omega
      · intro x hx; exact hro.w x (List.mem_of_mem_take hx)
      · unfold cutL; rw [List.length_take]; have := hro.fin; dsimp only; omega
    · exact hro
  · rw [whenE_zero (by decide)]
    unfold dupR
    rw [decide_eq_false_iff_not]
    intro hlt
    rw [cutR_name hk] at hlt
    have hm : (cutR R k c).take i = cutR (R.take i) k c ∨ i ≤ k := by
      by_cases e : i ≤ k
      · exact .inr e
      · left
        unfold cutR
        rw [List.take_set]
        congr 1
        rw [List.getD_eq_getElem?_getD, List.getD_eq_getElem?_getD, List.getElem?_take, if_pos (by omega)]
    have hidx : idxN (R.getD i r0).1 ((cutR R k c).take i) = idxN (R.getD i r0).1 (R.take i) := by
      rw [idxN_map, idxN_map, List.map_take, List.map_take, cutR_names hk]
    rw [hidx] at hlt
    have h0 := upTo_zero.1 (by have h := hr; unfold chkRs at h; rw [if_neg (by omega)] at h; exact h) i hi
    unfold chkRl at h0
    have h2 := (first_zero_iff _).1 h0 _ (List.mem_cons_of_mem _ List.mem_cons_self)
    rw [whenE_zero (by decide)] at h2
    unfold dupR at h2
    exact (of_decide_eq_false h2) hlt

/-! ### Spans. -/
theorem addSp_past (o : List (Int × Int)) (n e : Int) : (∃ s ∈ addSp o n, e < s.2) ↔ (∃ s ∈ o, e < s.2) ∨ e ≤ n := by
  unfold addSp
  split
  · rename_i h
    obtain ⟨h1, h2⟩ := h
    have hl : o.length - 1 < o.length := by omega
    constructor
    · rintro ⟨s, hs, he⟩
      rcases List.mem_or_eq_of_mem_set hs with hs | rfl
      · exact .inl ⟨s, hs, he⟩
      · right
        dsimp only at he
        omega
    · rintro (⟨s, hs, he⟩ | he)
      · obtain ⟨i, hi, rfl⟩ := List.mem_iff_getElem.1 hs
        by_cases e1 : i = o.length - 1
        · refine ⟨_, List.mem_set hl _, ?_⟩
          subst e1
          rw [getD_of hl]
          dsimp only
          omega
        · exact ⟨o[i], List.mem_of_getElem? (i := i) (by rw [List.getElem?_set_ne (by omega), List.getElem?_eq_getElem hi]), he⟩
      · refine ⟨_, List.mem_set hl _, ?_⟩
        dsimp only
        omega
  · constructor
    · rintro ⟨s, hs, he⟩
      rcases List.mem_append.1 hs with hs | hs
      · exact .inl ⟨s, hs, he⟩
      · rw [List.mem_singleton] at hs
        subst hs
        dsimp only at he
        exact .inr (by omega)
    · rintro (⟨s, hs, he⟩ | he)
      · exact ⟨s, List.mem_append_left _ hs, he⟩
      · exact ⟨_, List.mem_append_right _ (List.mem_singleton.2 rfl), by dsimp only; omega⟩
theorem spTo_past (is : Int → Bool) (a e : Int) : ∀ i, (∃ s ∈ spTo is a i, e < s.2) ↔ ∃ j : Nat, j < i ∧ is (a + (j : Int)) = true ∧ e ≤ a + (j : Int)
  | 0 => by simp [spTo]
  | i + 1 => by
    have ih := spTo_past is a e i
    simp only [spTo]
    split
    · rename_i h
      rw [addSp_past, ih]
      constructor
      · rintro (⟨j, h1, h2, h3⟩ | h1)
        · exact ⟨j, by omega, h2, h3⟩
        · exact ⟨i, by omega, h, h1⟩
      · rintro ⟨j, h1, h2, h3⟩
        by_cases e1 : j = i
        · subst e1; exact .inr h3
        · exact .inl ⟨j, by omega, h2, h3⟩
    · rename_i h
      rw [ih]
      constructor
      · rintro ⟨j, h1, h2, h3⟩; exact ⟨j, by omega, h2, h3⟩
      · rintro ⟨j, h1, h2, h3⟩
        by_cases e1 : j = i
        · subst e1; exact absurd h2 h
        · exact ⟨j, by omega, h2, h3⟩
/-- Frames behind which none is used change no spans. -/
theorem spTo_less (is : Int → Bool) (a : Int) (c : Nat) : ∀ i, c ≤ i → (∀ j, c ≤ j → j < i → is (a + (j : Int)) = false) → spTo is a i = spTo is a c
  | 0, h, _ => by have : c = 0 := by omega
                  subst this; rfl
  | i + 1, h, hn => by
    by_cases e : c = i + 1
    · subst e; rfl
    · have ih := spTo_less is a c i (by omega) (fun j h1 h2 => hn j h1 (by omega))
      simp only [spTo, hn i (by omega) (by omega)]
      exact ih

/-! ### Frames that are used. -/
theorem mapGet_putK {k t : Ty} (heq : ∀ a b : k.T, eqT k a b = true ↔ a = b) : ∀ (l : List (k.T × t.T)) (x : k.T) (y : t.T) (z : k.T),
    U.mapGet k t (U.mapPut k t l x y) z = if eqT k x z = true then some y else U.mapGet k t l z
  | [], x, y, z => by
    simp only [U.mapPut, U.mapGet]
    by_cases h : x = z
    · rw [if_pos ((heq _ _).2 h.symm), if_pos ((heq _ _).2 h)]
    · rw [if_neg (fun e => h ((heq _ _).1 e).symm), if_neg (fun e => h ((heq _ _).1 e))]
  | p :: r, x, y, z => by
    have ih := mapGet_putK heq r x y z
    simp only [U.mapPut]
    by_cases hx : x = p.1
    · rw [if_pos ((heq _ _).2 hx)]
      simp only [U.mapGet]
      by_cases h : z = p.1
      · rw [if_pos ((heq _ _).2 (by rw [h]; try exact hx.symm)), if_pos ((heq _ _).2 (by rw [hx, h]))]
      · rw [if_neg (fun e => h (by have := (heq _ _).1 e; first | exact this | rw [this, hx])), if_neg (fun e => h (by rw [← (heq _ _).1 e]; exact hx)), if_neg (fun e => h ((heq _ _).1 e))]
    · rw [if_neg (fun e => hx ((heq _ _).1 e))]
      simp only [U.mapGet]
      by_cases h : z = p.1
      · rw [if_pos ((heq _ _).2 h), if_pos ((heq _ _).2 h), if_neg (fun e => hx (by rw [(heq _ _).1 e, h]))]
      · rw [if_neg (fun e => h ((heq _ _).1 e)), if_neg (fun e => h ((heq _ _).1 e))]; exact ih
theorem eq_key (a b : List UInt8 × Int × Int × Int) : eqT (.pair .str (.pair (.int .i64) (.pair (.int .i64) (.int .i64)))) a b = true ↔ a = b := by
  obtain ⟨a1, a2, a3, a4⟩ := a
  obtain ⟨b1, b2, b3, b4⟩ := b
  simp [eqT]
theorem used_put (m : Mu) (x : Tk) (nm : List UInt8) (n : Int) : usedB (useTk m x) nm n = (decide (x.1 = nm ∧ x.2.1 = n) || usedB m nm n) := by
  unfold usedB useTk
  rw [mapGet_putK eq_key]
  by_cases h : x.1 = nm ∧ x.2.1 = n
  · rw [if_pos ((eq_key _ _).2 (by rw [h.1, h.2])), decide_eq_true h]
    rfl
  · rw [if_neg, decide_eq_false h]
    · rfl
    · intro e
      have := (eq_key _ _).1 e
      simp only [Prod.mk.injEq] at this
      exact h ⟨this.1, this.2.1⟩
theorem used_take (m : Mu) (ts : List Tk) (nm : List UInt8) (n : Int) : ∀ j, j ≤ ts.length → (usedB (useTo m ts j) nm n = true ↔ usedB m nm n = true ∨ ∃ i, i < j ∧ (ts.getD i tk0).1 = nm ∧ (ts.getD i tk0).2.1 = n)
  | 0, _ => by simp [useTo]
  | j + 1, hj => by
    have ih := used_take m ts nm n j (by omega)
    simp only [useTo]
    rw [used_put, Bool.or_eq_true, decide_eq_true_eq, ih]
    constructor
    · rintro (h | h | ⟨i, h1, h2⟩)
      · exact .inr ⟨j, by omega, h⟩
      · exact .inl h
      · exact .inr ⟨i, by omega, h2⟩
    · rintro (h | ⟨i, h1, h2⟩)
      · exact .inr (.inl h)
      · by_cases e : i = j
        · subst e; exact .inl h2
        · exact .inr (.inr ⟨i, by omega, h2⟩)
theorem used_at (p : List Pl) (nm : List UInt8) (n : Int) : ∀ t, usedB (usedTo p t) nm n = true ↔ ∃ u, u < t ∧ ∃ x ∈ allN p u, x.1 = nm ∧ x.2.1 = n
  | 0 => by simp [usedTo, usedB, U.mapGet]
  | t + 1 => by
    have ih := used_at p nm n t
    simp only [usedTo]
    rw [used_take _ _ _ _ _ (Nat.le_refl _), ih]
    constructor
    · rintro (⟨u, h1, h2⟩ | ⟨i, h1, h2⟩)
      · exact ⟨u, by omega, h2⟩
      · exact ⟨t, by omega, _, getD_mem h1, h2⟩
    · rintro ⟨u, h1, x, hx, h2⟩
      by_cases e : u = t
      · subst e
        obtain ⟨i, hi, rfl⟩ := mem_getD tk0 hx
        exact .inr ⟨i, hi, h2⟩
      · exact .inl ⟨u, by omega, x, hx, h2⟩

theorem byTo_iff (nm : List UInt8) (e : Int) (nd : List Nd) : ∀ i, i ≤ nd.length → (byTo nm e nd i = true ↔ ∃ j, j < i ∧ (nd.getD j nd0).1 = nm ∧ e < (nd.getD j nd0).2.2)
  | 0, _ => by simp [byTo]
  | i + 1, h => by
    have ih := byTo_iff nm e nd i (by omega)
    simp only [byTo, Bool.or_eq_true, Bool.and_eq_true, decide_eq_true_eq, ih]
    constructor
    · rintro (⟨j, h1, h2⟩ | h2)
      · exact ⟨j, by omega, h2⟩
      · exact ⟨i, by omega, h2⟩
    · rintro ⟨j, h1, h2⟩
      by_cases e1 : j = i
      · subst e1; exact .inr h2
      · exact .inl ⟨j, by omega, h2⟩
theorem need_mem (m : Mu) (R : List Rl) (x : Nd) : ∀ n, x ∈ needTo m R n ↔ ∃ i, i < n ∧ ∃ s ∈ reelSp m (R.getD i r0), x = ((R.getD i r0).1, s.1, s.2)
  | 0 => by simp [needTo]
  | n + 1 => by
    have ih := need_mem m R x n
    simp only [needTo, List.mem_append, ih, List.mem_map]
    constructor
    · rintro (⟨i, h1, h2⟩ | ⟨s, h1, h2⟩)
      · exact ⟨i, by omega, h2⟩
      · exact ⟨n, by omega, s, h1, h2.symm⟩
    · rintro ⟨i, h1, s, h2, h3⟩
      by_cases e : i = n
      · subst e; exact .inr ⟨s, h2, h3.symm⟩
      · exact .inl ⟨i, by omega, s, h2, h3⟩
/-- Some needed span of a reel ends past a frame iff a frame of the reel at or past it is used. -/
theorem past_iff {R : List Rl} (hd : NoDup R) {k : Nat} (hk : k < R.length) (m : Mu) (e : Int) :
    byTo (R.getD k r0).1 e (needTo m R R.length) (needTo m R R.length).length = true ↔ ∃ j : Nat, j < (R.getD k r0).2.2.length ∧ usedB m (R.getD k r0).1 ((R.getD k r0).2.1 + (j : Int)) = true ∧ e ≤ (R.getD k r0).2.1 + (j : Int) := by
  rw [byTo_iff _ _ _ _ (Nat.le_refl _), ← spTo_past]
  constructor
  · rintro ⟨j, h1, h2, h3⟩
    obtain ⟨i, hi, s, hs, hx⟩ := (need_mem m R _ _).1 (getD_mem (d := nd0) h1)
    rw [hx] at h2 h3
    have : i = k := by
      have h4 := idx_reel hd hi
      rw [show (R.getD i r0).1 = (R.getD k r0).1 from h2, idx_reel hd hk] at h4
      exact h4.symm
    subst this
    exact ⟨s, hs, h3⟩
  · rintro ⟨s, hs, h⟩
    have := (need_mem m R ((R.getD k r0).1, s.1, s.2) R.length).2 ⟨k, hk, s, hs, rfl⟩
    obtain ⟨j, hj, hx⟩ := mem_getD nd0 this
    exact ⟨j, hj, by rw [hx], by rw [hx]; exact h⟩

/-! ### The checks of a list over reels of which one is cut. -/
theorem cut_chkEd {R : List Rl} {L : List Ed} {k c i : Nat} (hk : k < R.length) (hc : c ≤ (R.getD k r0).2.2.length) (h : chkEd R L i = 0) :
    chkEd (cutR R k c) L i = if idxN (L.getD i e0).1 R = k ∧ (R.getD k r0).2.1 + (c : Int) < (L.getD i e0).2.2.1 then 14 else
      if 0 < i ∧ idxN (L.getD (i - 1) e0).1 R = k ∧ (R.getD k r0).2.1 + (c : Int) < (L.getD (i - 1) e0).2.2.1 + (L.getD i e0).2.2.2.1 then 16 else 0 := by
  have hE := chkEd_ok h
  have hx := cutR_end hk hc (L.getD i e0).1
  have hb := cutR_end hk hc (L.getD (i - 1) e0).1
  have e1 := hE.idx
  have e2 := hE.lo
  have e3 := hE.lt
  have e4 := hE.hi
  have hp : prs (L.getD i e0) = 0 := by
    unfold chkEd chkE at h
    rw [if_neg (by omega), if_neg (by omega)] at h
    split at h
    · rename_i hp; exact absurd h hp
    · rename_i hp; simpa using hp
  unfold chkEd chkE
  rw [if_neg (by rw [cutR_idx hk, cutR_len]; omega), hx.1, hx.2]
  by_cases a1 : idxN (L.getD i e0).1 R = k ∧ (R.getD k r0).2.1 + (c : Int) < (L.getD i e0).2.2.1
  · rw [if_pos a1, if_pos (by rw [if_pos a1.1]; omega)]
  · rw [if_neg a1, if_neg (by
      split
      · rename_i a2
        have : ¬ (R.getD k r0).2.1 + (c : Int) < (L.getD i e0).2.2.1 := fun h => a1 ⟨a2, h⟩
        omega
      · omega), if_neg (by simpa using hp)]
    by_cases i0 : i = 0
    · subst i0
      rw [if_pos rfl, if_neg (by omega)]
      have hf := hE.first rfl
      dsimp only
      rw [whenE_zero (by decide), decide_eq_false_iff_not, Classical.not_not]
      exact Prod.ext rfl (Prod.ext rfl (Prod.ext rfl (Prod.ext hf.1 hf.2)))
    · rw [if_neg i0]
      dsimp only
      have e5 := hE.prev (by omega)
      rw [hb.2]
      by_cases a2 : idxN (L.getD (i - 1) e0).1 R = k ∧ (R.getD k r0).2.1 + (c : Int) < (L.getD (i - 1) e0).2.2.1 + (L.getD i e0).2.2.2.1
      · rw [if_pos a2.1, decide_eq_true a2.2, if_pos ⟨by omega, a2⟩]
        rfl
      · rw [if_neg (c := 0 < i ∧ _) (fun h => a2 h.2), whenE_zero (by decide), decide_eq_false_iff_not]
        split
        · rename_i a3
          exact fun h => a2 ⟨a3, h⟩
        · omega

theorem cut_spE {R : List Rl} {p : List Pl} {n : Int} {k c i : Nat} (hr : chkRs R = 0) (hk : k < R.length) (h1 : 1 ≤ c) (hc : c ≤ (R.getD k r0).2.2.length) (h : spE (mapR R R.length) p n i = 0) :
    spE (mapR (cutR R k c) (cutR R k c).length) p n i = if idxN (p.getD i pl0).1.1 R = k ∧ (R.getD k r0).2.1 + (c : Int) < (p.getD i pl0).1.2.1 + (heardN p n i).2 - (p.getD i pl0).2 then 16 else 0 := by
  have hx := cutR_end hk hc (p.getD i pl0).1.1
  unfold spE at h ⊢
  rw [rlM_eq (rs_nodup hr), whenE_zero (by decide), decide_eq_false_iff_not] at h
  rw [rlM_eq (rs_nodup (cutR_ok hr hk h1 hc)), hx.1, hx.2]
  by_cases a1 : idxN (p.getD i pl0).1.1 R = k ∧ (R.getD k r0).2.1 + (c : Int) < (p.getD i pl0).1.2.1 + (heardN p n i).2 - (p.getD i pl0).2
  · rw [if_pos a1, if_pos a1.1, decide_eq_true (.inr a1.2)]
    rfl
  · rw [if_neg a1, whenE_zero (by decide), decide_eq_false_iff_not]
    intro h2
    split at h2
    · rename_i a2
      rcases h2 with h2 | h2
      · exact h (.inl h2)
      · exact a1 ⟨a2, h2⟩
    · exact h h2
theorem upTo_in {f : Nat → Int} {P : Int → Prop} (h0 : P 0) : ∀ n, (∀ i, i < n → P (f i)) → P (upTo f n)
  | 0, _ => h0
  | n + 1, h => by
    have ih := upTo_in h0 n fun i hi => h i (by omega)
    simp only [upTo]
    split
    · exact h n (by omega)
    · exact ih
/-- What the checks answer over reels of which one is cut. -/
theorem cut_chkEds {R : List Rl} {L : List Ed} {k c : Nat} (h : ListOk R L) (hk : k < R.length) (h1 : 1 ≤ c) (hc : c ≤ (R.getD k r0).2.2.length) :
    chkEds (cutR R k c) L = 0 ∨ chkEds (cutR R k c) L = 14 ∨ chkEds (cutR R k c) L = 16 := by
  have he := upTo_in (P := fun x : Int => x = 0 ∨ x = 14 ∨ x = 16) (f := chkEd (cutR R k c) L) (.inl rfl) L.length fun i hi => by
    rw [cut_chkEd hk hc (h.ed i hi)]
    split
    · exact Or.inr (Or.inl rfl)
    · split
      · exact Or.inr (Or.inr rfl)
      · exact Or.inl rfl
  have hs := upTo_in (P := fun x : Int => x = 0 ∨ x = 14 ∨ x = 16) (f := spE (mapR (cutR R k c) (cutR R k c).length) (ls L) (lenL L)) (.inl rfl) L.length fun i hi => by
    rw [cut_spE h.rs hk h1 hc (h.sp i hi)]
    split
    · exact Or.inr (Or.inr rfl)
    · exact Or.inl rfl
  have ho := upTo_zero.2 h.ord
  have hb := h.big
  have hl := h.len
  unfold chkEds
  rw [if_neg (by rw [cutR_ok h.rs hk h1 hc]; simp), if_neg (by omega)]
  split
  · exact he
  · rw [if_neg (by omega), if_neg (by simpa using ho)]
    exact hs

/-- The edit that is heard at a frame. -/
theorem heard_at {R : List Rl} {L : List Ed} (h : ListOk R L) {t : Int} (h0 : 0 ≤ t) (ht : t < lenL L) :
    ∃ i, i < L.length ∧ lastTo sndN (ls L) t (ls L).length = i ∧ sndN ((ls L).getD i pl0) ≤ t ∧ t < (heardN (ls L) (lenL L) i).2 := by
  obtain ⟨k, hk, _⟩ := seen_at h h0 ht
  have hn : 0 < L.length := by omega
  have hf := (chkEd_ok (h.ed 0 hn)).first rfl
  have hz : sndN ((ls L).getD 0 pl0) = 0 := by
    rw [ls_get L hn]
    unfold sndN
    dsimp only
    rw [hf.2]
    rfl
  have hl := lastTo_lt sndN (ls L) t (ls L).length (by rw [ls_len]; exact hn)
  have hle : sndN ((ls L).getD (lastTo sndN (ls L) t (ls L).length) pl0) ≤ t := lastTo_le (by rw [hz]; exact h0) _
  have hgt := lastTo_gt sndN (ls L) t (ls L).length (lastTo sndN (ls L) t (ls L).length + 1) (by omega)
  refine ⟨_, by rw [ls_len] at hl; rw [ls_len]; exact hl, rfl, hle, ?_⟩
  unfold heardN
  dsimp only
  split
  · rename_i e; exact hgt e
  · exact ht
theorem sound_ok {R : List Rl} {L : List Ed} (h : ListOk R L) {t : Int} (h0 : 0 ≤ t) (ht : t < lenL L) : TkOk R (soundN (ls L) t) := by
  obtain ⟨i, hi, e, h1, h2⟩ := heard_at h h0 ht
  have hs := h.sp i hi
  have hE := chkEd_ok (h.ed i hi)
  unfold spE at hs
  rw [rlM_eq (rs_nodup h.rs), whenE_zero (by decide), decide_eq_false_iff_not] at hs
  have hx : (ls L).getD i pl0 = (L.getD i e0, begN L i) := ls_get L hi
  have h3 : (heardN (ls L) (lenL L) i).1 = sndN ((ls L).getD i pl0) := rfl
  rw [h3] at hs
  unfold soundN
  rw [e]
  rw [hx] at h1 hs ⊢
  dsimp only at hs ⊢
  refine ⟨hE.idx, ?_, ?_, ?_, ?_⟩
  · dsimp only; omega
  · dsimp only; omega
  · dsimp only; omega
  · dsimp only; omega
theorem all_ok {R : List Rl} {L : List Ed} (h : ListOk R L) {t : Nat} (ht : (t : Int) < lenL L) : ∀ x ∈ allN (ls L) t, TkOk R x := by
  intro x hx
  unfold allN at hx
  rcases List.mem_append.1 hx with hx | hx
  · exact (takes_ok h (by omega) ht).2 x hx
  · rw [List.mem_singleton] at hx
    subst hx
    exact sound_ok h (by omega) ht
/-- Where a frame past the cut is used, the checks fail. -/
theorem cut_bad {R : List Rl} {L : List Ed} {k c : Nat} (h : ListOk R L) (hk : k < R.length) (hc : c ≤ (R.getD k r0).2.2.length) {f : Int} (hu : usedB (usedTo (ls L) (lenL L).toNat) (R.getD k r0).1 f = true) (hf : (R.getD k r0).2.1 + (c : Int) ≤ f) :
    chkEds (cutR R k c) L ≠ 0 := by
  intro h2
  have hk2 := chkEds_zero.1 h2
  obtain ⟨u, hu1, x, hx, hx1, hx2⟩ := (used_at _ _ _ _).1 hu
  have := (all_ok hk2 (t := u) (by omega) x hx).hi
  rw [hx1, (cutR_end hk hc _).2, if_pos (idx_reel (rs_nodup h.rs) hk)] at this
  omega

theorem used_of {L : List Ed} {t : Int} (h0 : 0 ≤ t) (ht : t < lenL L) {x : Tk} (hx : x ∈ allN (ls L) t.toNat) : usedB (usedTo (ls L) (lenL L).toNat) x.1 x.2.1 = true :=
  (used_at _ _ _ _).2 ⟨t.toNat, by omega, x, hx, rfl, rfl⟩
/-- The edit that is seen at a frame between its ends. -/
theorem seen_is {R : List Rl} {L : List Ed} (h : ListOk R L) {i : Nat} (hi : i < L.length) {t : Int} (h1 : begN L i ≤ t) (h2 : t < begN L (i + 1)) : 0 ≤ t ∧ t < lenL L ∧ lastTo begP (ls L) t (ls L).length = i := by
  have hb := begN_mono h.eds (show i + 1 ≤ L.length by omega) (Nat.le_refl _)
  have h0 := begN_mono h.eds (show 0 ≤ i by omega) (by omega)
  have h0' : begN L 0 = 0 := rfl
  have ht : t < lenL L := by unfold lenL; omega
  obtain ⟨k', hk', e, b1, b2⟩ := seen_at h (show 0 ≤ t by omega) ht
  refine ⟨by omega, ht, ?_⟩
  rw [e]
  apply Classical.byContradiction
  intro hc
  by_cases hl : k' < i
  · have := begN_mono h.eds (show k' + 1 ≤ i by omega) (by omega)
    omega
  · have := begN_mono h.eds (show i + 1 ≤ k' by omega) (by omega)
    omega
theorem take_own {R : List Rl} {L : List Ed} (h : ListOk R L) {i : Nat} (hi : i < L.length) {t : Int} (h1 : begN L i ≤ t) (h2 : t < begN L (i + 1)) : usedB (usedTo (ls L) (lenL L).toNat) (L.getD i e0).1 ((L.getD i e0).2.1 + (t - begN L i)) = true := by
  obtain ⟨h0, ht, e⟩ := seen_is h hi h1 h2
  have hx : ∃ x ∈ allN (ls L) t.toNat, x.1 = (L.getD i e0).1 ∧ x.2.1 = (L.getD i e0).2.1 + (t - begN L i) := by
    have et : ((t.toNat : Nat) : Int) = t := by omega
    unfold allN takesN
    rw [et, e, ls_get L hi]
    unfold takesE
    dsimp only
    split
    · exact ⟨_, List.mem_append_left _ List.mem_cons_self, rfl, rfl⟩
    · exact ⟨_, List.mem_append_left _ (List.mem_cons_of_mem _ List.mem_cons_self), rfl, rfl⟩
  obtain ⟨x, hx, e1, e2⟩ := hx
  have := used_of h0 ht hx
  rwa [e1, e2] at this
theorem take_prev {R : List Rl} {L : List Ed} (h : ListOk R L) {i : Nat} (hi : i < L.length) {t : Int} (h1 : begN L i ≤ t) (h2 : t < begN L (i + 1)) (h3 : t - begN L i < (L.getD i e0).2.2.2.1) : usedB (usedTo (ls L) (lenL L).toNat) (L.getD (i - 1) e0).1 ((L.getD (i - 1) e0).2.2.1 + (t - begN L i)) = true := by
  obtain ⟨h0, ht, e⟩ := seen_is h hi h1 h2
  have hx : ∃ x ∈ allN (ls L) t.toNat, x.1 = (L.getD (i - 1) e0).1 ∧ x.2.1 = (L.getD (i - 1) e0).2.2.1 + (t - begN L i) := by
    have et : ((t.toNat : Nat) : Int) = t := by omega
    unfold allN takesN
    rw [et, e, ls_get L hi, ls_get L (show i - 1 < L.length by omega)]
    unfold takesE
    dsimp only
    rw [if_neg (by omega)]
    exact ⟨_, List.mem_append_left _ List.mem_cons_self, rfl, rfl⟩
  obtain ⟨x, hx, e1, e2⟩ := hx
  have := used_of h0 ht hx
  rwa [e1, e2] at this

theorem sN_mono {L : List Ed} (h : SndOk L) : ∀ {i j : Nat}, i ≤ j → j < L.length → sN L i ≤ sN L j := by
  intro i j hij hj
  induction j with
  | zero => rw [Nat.le_zero.1 hij]; exact Int.le_refl _
  | succ j ih =>
    by_cases e : i = j + 1
    · subst e; exact Int.le_refl _
    · have := ih (by omega) (by omega)
      have := h.mono j hj
      omega
theorem take_heard {R : List Rl} {L : List Ed} (h : ListOk R L) {i : Nat} (hi : i < L.length) {t : Int} (h1 : sN L i ≤ t) (h2 : t < (heardN (ls L) (lenL L) i).2) : usedB (usedTo (ls L) (lenL L).toNat) (L.getD i e0).1 ((L.getD i e0).2.1 + t - begN L i) = true := by
  have hs : SndOk L := sndOk_of h.rs (by have := h.len; omega) h.ed h.ord
  have hz := hs.first (by omega)
  have h00 := sN_mono hs (show 0 ≤ i by omega) hi
  have ht : t < lenL L := by
    unfold heardN at h2
    dsimp only at h2
    split at h2
    · rename_i e
      rw [ls_len] at e
      rw [sndN_ls e] at h2
      have := hs.lt (i + 1) e
      omega
    · exact h2
  obtain ⟨k, hk, e, b1, b2⟩ := heard_at h (show 0 ≤ t by omega) ht
  have ek : k = i := by
    rw [sndN_ls hk] at b1
    apply Classical.byContradiction
    intro hc
    by_cases hl : k < i
    · unfold heardN at b2
      dsimp only at b2
      rw [if_pos (by rw [ls_len]; omega), sndN_ls (show k + 1 < L.length by omega)] at b2
      have := sN_mono hs (show k + 1 ≤ i by omega) hi
      omega
    · unfold heardN at h2
      dsimp only at h2
      rw [if_pos (by rw [ls_len]; omega), sndN_ls (show i + 1 < L.length by omega)] at h2
      have := sN_mono hs (show i + 1 ≤ k by omega) hk
      omega
  subst ek
  have hx : soundN (ls L) t = ((L.getD k e0).1, (L.getD k e0).2.1 + t - begN L k, 1, 1) := by
    unfold soundN
    rw [e, ls_get L hk]
  have et : ((t.toNat : Nat) : Int) = t := by omega
  have := used_of (show (0 : Int) ≤ t by omega) ht (x := soundN (ls L) t) (by unfold allN; rw [et]; exact List.mem_append_right _ (List.mem_singleton.2 rfl))
  rw [hx] at this
  exact this
/-- Where no frame past the cut is used, the checks hold. -/
theorem cut_good {R : List Rl} {L : List Ed} {k c : Nat} (h : ListOk R L) (hk : k < R.length) (h1 : 1 ≤ c) (hc : c ≤ (R.getD k r0).2.2.length) (hq : ∀ f, usedB (usedTo (ls L) (lenL L).toNat) (R.getD k r0).1 f = true → f < (R.getD k r0).2.1 + (c : Int)) :
    ListOk (cutR R k c) L := by
  have hnm : ∀ nm, idxN nm R = k → nm = (R.getD k r0).1 := by
    intro nm e
    have := idxN_name (R := R) (nm := nm) (by omega)
    unfold rlOf at this
    rw [e] at this
    exact this.symm
  have hout : ∀ i, i < L.length → idxN (L.getD i e0).1 R = k → (L.getD i e0).2.2.1 ≤ (R.getD k r0).2.1 + (c : Int) := by
    intro i hi e
    have hlt := begN_lt h.eds hi
    have eb : begN L (i + 1) = begN L i + ((L.getD i e0).2.2.1 - (L.getD i e0).2.1) := rfl
    have := take_own h hi (t := begN L (i + 1) - 1) (by omega) (by omega)
    rw [hnm _ e] at this
    have := hq _ this
    omega
  refine ⟨cutR_ok h.rs hk h1 hc, h.len, fun i hi => ?_, h.big, h.ord, fun i hi => ?_⟩
  · rw [cut_chkEd hk hc (h.ed i hi)]
    have hE := chkEd_ok (h.ed i hi)
    rw [if_neg (fun hh => by have := hout i hi hh.1; omega), if_neg]
    rintro ⟨i0, e, hh⟩
    have eb : begN L (i + 1) = begN L i + ((L.getD i e0).2.2.1 - (L.getD i e0).2.1) := rfl
    have hf := hE.fade
    by_cases hz : (L.getD i e0).2.2.2.1 = 0
    · have := hout (i - 1) (by omega) e
      omega
    · have := take_prev h hi (t := begN L i + (L.getD i e0).2.2.2.1 - 1) (by omega) (by omega) (by omega)
      rw [hnm _ e] at this
      have := hq _ this
      omega
  · rw [cut_spE h.rs hk h1 hc (h.sp i hi), if_neg]
    rintro ⟨e, hh⟩
    have hs : SndOk L := sndOk_of h.rs (by have := h.len; omega) h.ed h.ord
    rw [ls_get L hi] at e hh
    dsimp only at e hh
    have hlt : sN L i < (heardN (ls L) (lenL L) i).2 := by
      unfold heardN
      dsimp only
      split
      · rename_i e2
        rw [ls_len] at e2
        rw [sndN_ls e2]
        exact hs.mono i e2
      · exact hs.lt i hi
    have := take_heard h hi (t := (heardN (ls L) (lenL L) i).2 - 1) (by omega) (by omega)
    rw [hnm _ e] at this
    have := hq _ this
    omega

/-! ### What is played and needed over a cut reel. -/
theorem cut_check {R : List Rl} {k c : Nat} (_hr : chkRs R = 0) (hk : k < R.length) (h1 : 1 ≤ c) (hc : c ≤ (R.getD k r0).2.2.length) {x : Tk} (hx : TkOk (cutR R k c) x) :
    (rlOf (cutR R k c) x.1).2.1 = (rlOf R x.1).2.1 ∧ (rlOf (cutR R k c) x.1).2.2.getD (x.2.1 - (rlOf R x.1).2.1).toNat 0 = (rlOf R x.1).2.2.getD (x.2.1 - (rlOf R x.1).2.1).toNat 0 := by
  have he := cutR_end hk hc x.1
  refine ⟨he.1, ?_⟩
  have h2 := hx.hi
  have h3 := hx.lo
  rw [he.1] at h3
  rw [he.2] at h2
  rw [cutR_rl hk]
  by_cases e : idxN x.1 R = k
  · rw [if_pos e] at h2 ⊢
    have hrl : rlOf R x.1 = R.getD k r0 := by unfold rlOf; rw [e]
    rw [hrl] at h3 ⊢
    unfold cutL
    dsimp only
    have hi : (x.2.1 - (R.getD k r0).2.1).toNat < c := by omega
    rw [List.getD_eq_getElem?_getD, List.getElem?_take, if_pos hi, ← List.getD_eq_getElem?_getD]
  · rw [if_neg e]
theorem cut_mix {R : List Rl} {k c : Nat} (hr : chkRs R = 0) (hk : k < R.length) (h1 : 1 ≤ c) (hc : c ≤ (R.getD k r0).2.2.length) {ts : List Tk} (hx : ∀ x ∈ ts, TkOk (cutR R k c) x) : ∀ j, j ≤ ts.length → mixTo (mapR (cutR R k c) (cutR R k c).length) ts j = mixTo (mapR R R.length) ts j
  | 0, _ => rfl
  | j + 1, hj => by
    have ih := cut_mix hr hk h1 hc hx j (by omega)
    have hxj := cut_check hr hk h1 hc (hx _ (getD_mem (d := tk0) (show j < ts.length by omega)))
    rw [mixTo_succ (rs_nodup hr), mixTo_succ (rs_nodup (cutR_ok hr hk h1 hc)), ih, hxj.1, hxj.2]
theorem cut_play {R : List Rl} {L : List Ed} {k c : Nat} (h : ListOk R L) (hk : k < R.length) (h1 : 1 ≤ c) (hc : c ≤ (R.getD k r0).2.2.length) (h2 : ListOk (cutR R k c) L) : playN (cutR R k c) L = playN R L := by
  unfold playN
  rw [if_pos (chkEds_zero.2 h), if_pos (chkEds_zero.2 h2)]
  apply List.map_congr_left
  intro t ht
  rw [List.mem_range] at ht
  have hok := (takes_ok h2 (t := (t : Int)) (by omega) (by omega)).2
  unfold mixN
  rw [cut_mix h.rs hk h1 hc hok _ (Nat.le_refl _)]
theorem cut_conf {R : List Rl} {L : List Ed} {k c : Nat} (h : ListOk R L) (h2 : ListOk (cutR R k c) L) : confN (cutR R k c) L = confN R L := by
  unfold confN
  rw [if_pos (chkEds_zero.2 h), if_pos (chkEds_zero.2 h2)]
theorem cut_need {R : List Rl} {L : List Ed} {k c : Nat} (h : ListOk R L) (hk : k < R.length) (hc : c ≤ (R.getD k r0).2.2.length) (h2 : ListOk (cutR R k c) L)
    (hq : ∀ f, usedB (usedTo (ls L) (lenL L).toNat) (R.getD k r0).1 f = true → f < (R.getD k r0).2.1 + (c : Int)) : needN (cutR R k c) L = needN R L := by
  unfold needN
  rw [if_pos (chkEds_zero.2 h), if_pos (chkEds_zero.2 h2), cutR_len]
  generalize usedTo (ls L) (lenL L).toNat = m at *
  have key : ∀ n, needTo m (cutR R k c) n = needTo m R n := by
    intro n
    induction n with
    | zero => rfl
    | succ n ih =>
      simp only [needTo]
      rw [ih, cutR_name hk]
      have hsp : reelSp m ((cutR R k c).getD n r0) = reelSp m (R.getD n r0) := by
        rw [cutR_get hk]
        split
        · rename_i e
          subst e
          unfold reelSp cutL
          dsimp only
          have hlen : (List.take c (R.getD n r0).2.2).length = c := by rw [List.length_take]; omega
          rw [hlen]
          refine (spTo_less _ _ c _ hc fun j h3 h4 => ?_).symm
          cases hb : usedB m (R.getD n r0).1 ((R.getD n r0).2.1 + (j : Int)) with
          | false => rfl
          | true => have := hq _ hb; omega
        · rfl
      rw [hsp]
  exact key _
end Go.Sx

/- The plain law: streams of reels, whatever the name. -/
namespace Go.Sx
open U

theorem rdRec_frame {l t : List Int} {c : Int} (hl : l.length < 256) (hc : 0 ≤ c ∧ c ≤ 65535) : rdRec (tframe l.length c ++ t) l = (0, false, c) := by
  have hn : number (((tframe l.length c ++ t).drop 1).take 2) = c := by
    show 256 * (256 * 0 + c / 256 % 256) + c % 256 = c
    omega
  have h0 : (tframe l.length c ++ t).getD 0 0 = 70 := rfl
  have he : recErr ((tframe l.length c ++ t).getD 0 0) l.length = 0 := by
    rw [h0]
    have : (((l.length : Nat) : Int) == 256) = false := by simp; omega
    unfold recErr
    rw [this]
    rfl
  rw [rdRec_full he (by simp [tframe_len]), hn, h0]
  have ht : List.take 5 (tframe l.length c ++ t) = tframe l.length c := rfl
  rw [ht]
  rw [if_neg (by decide)]
  simp [whenE]

theorem rdRec_last {l t : List Int} (hl : l.length ≤ 256) : rdRec (tlast l ++ t) l = (0, true, (l.length : Int)) := by
  have hn : number (((tlast l ++ t).drop 1).take 2) = l.length := by
    show 256 * (256 * 0 + (l.length : Int) / 256 % 256) + (l.length : Int) % 256 = l.length
    omega
  have h0 : (tlast l ++ t).getD 0 0 = 69 := rfl
  have he : recErr ((tlast l ++ t).getD 0 0) l.length = 0 := by rw [h0]; rfl
  rw [rdRec_full he (by simp [tlast_len]), hn, h0]
  have ht : List.take 5 (tlast l ++ t) = tlast l := rfl
  rw [ht, if_pos (by decide)]
  simp [whenE]

theorem rdRec_part {l t : List Int} (hl : t.length = 0 ∨ l.length < 256 ∨ t.getD 0 0 = 69) (ht : t.length < 5) (h0 : t.length = 0 ∨ t.getD 0 0 = 69 ∨ t.getD 0 0 = 70) : rdRec t l = (28, false, 0) := by
  by_cases h1 : t.length < 1
  · exact rdRec_none h1
  · refine rdRec_torn h1 ?_ ht
    rcases h0 with h0 | h0 | h0
    · omega
    · rw [h0]; rfl
    · rw [h0] at hl ⊢
      have hl' : l.length < 256 := by
        rcases hl with h | h | h
        · omega
        · exact h
        · cases h
      have : (((l.length : Nat) : Int) == 256) = false := by simp; omega
      unfold recErr
      rw [this]
      rfl

/-- Some frames' records. -/
def recsF (l : List Int) : Nat → Nat → List Int
  | _, 0 => []
  | i, k + 1 => tframe i (l.getD i 0) ++ recsF l (i + 1) k

theorem recs_recsF (l : List Int) : ∀ k i, recs l i ++ recsF l i k = recs l (i + k)
  | 0, i => by simp [recsF]
  | k + 1, i => by
    have := recs_recsF l k (i + 1)
    rw [show i + (k + 1) = (i + 1) + k by omega, ← this]
    simp [recsF, recs]

theorem recsF_len (l : List Int) : ∀ k i, (recsF l i k).length = 5 * k
  | 0, _ => rfl
  | k + 1, i => by simp only [recsF, List.length_append, recsF_len l k, tframe_len]; omega

theorem take_succ' {l : List Int} {i : Nat} (h : i < l.length) : l.take i ++ [l.getD i 0] = l.take (i + 1) := by
  rw [getD_of h, List.take_succ_eq_append_getElem h]

theorem rdAll_recs {l : List Int} (hw : W16 l) (h256 : l.length ≤ 256) (t : List Int) (m : Nat) : ∀ k i, i + k ≤ l.length → rdAll (m + k) (recsF l i k ++ t) (l.take i) = rdAll m t (l.take (i + k))
  | 0, i, _ => rfl
  | k + 1, i, h => by
    have hi : i < l.length := by omega
    have hlen : (l.take i).length = i := by rw [List.length_take]; omega
    have hc := hw _ (List.getElem_mem hi)
    have hr := rdRec_frame (l := l.take i) (t := recsF l (i + 1) k ++ t) (c := l.getD i 0) (by omega) (by rw [getD_of hi]; exact hc)
    rw [hlen] at hr
    have e : recsF l i (k + 1) ++ t = tframe i (l.getD i 0) ++ (recsF l (i + 1) k ++ t) := by simp [recsF]
    rw [e, show m + (k + 1) = (m + k) + 1 by omega, rdAll_more (by rw [hr]) (by rw [hr]), hr]
    have hd : List.drop 5 (tframe i (l.getD i 0) ++ (recsF l (i + 1) k ++ t)) = recsF l (i + 1) k ++ t := rfl
    rw [hd]
    simp only []
    rw [take_succ' hi, rdAll_recs hw h256 t m k (i + 1) (by omega)]
    congr 1
    congr 1
    omega

theorem rbAll_recs {f : Int} {l : List Int} (hw : W16 l) (h256 : l.length ≤ 256) (hf : f + (l.length : Int) ≤ 10000000) (t : List Int) (m : Nat) : ∀ k i, i + k ≤ l.length → rbAll f (m + k) (recsF l i k ++ t) (l.take i) = rbAll f m t (l.take (i + k))
  | 0, i, _ => rfl
  | k + 1, i, h => by
    have hi : i < l.length := by omega
    have hlen : (l.take i).length = i := by rw [List.length_take]; omega
    have hc := hw _ (List.getElem_mem hi)
    have hr := rdRec_frame (l := l.take i) (t := recsF l (i + 1) k ++ t) (c := l.getD i 0) (by omega) (by rw [getD_of hi]; exact hc)
    rw [hlen] at hr
    have e : recsF l i (k + 1) ++ t = tframe i (l.getD i 0) ++ (recsF l (i + 1) k ++ t) := by simp [recsF]
    rw [e, show m + (k + 1) = (m + k) + 1 by omega, rbAll_more (by rw [hr]; exact ⟨rfl, rfl, by rw [hlen]; omega⟩), hr]
    have hd : List.drop 5 (tframe i (l.getD i 0) ++ (recsF l (i + 1) k ++ t)) = recsF l (i + 1) k ++ t := rfl
    rw [hd]
    simp only []
    rw [take_succ' hi, rbAll_recs hw h256 hf t m k (i + 1) (by omega)]
    congr 1
    congr 1
    omega

/-- What is left of a record that is cut off. -/
theorem tail_head {l : List Int} {k n q : Nat} (hn : k + n = l.length) : ((recsF l k n ++ tlast l).take q).length = 0 ∨ ((recsF l k n ++ tlast l).take q).getD 0 0 = 69 ∧ n = 0 ∨ ((recsF l k n ++ tlast l).take q).getD 0 0 = 70 ∧ n ≠ 0 := by
  cases q with
  | zero => exact .inl rfl
  | succ q =>
    cases n with
    | zero => exact .inr (.inl ⟨rfl, rfl⟩)
    | succ n => exact .inr (.inr ⟨rfl, by omega⟩)

theorem record_bytes {k a b : Int} (hk : 0 ≤ k ∧ k ≤ 255) : Bytes (record k a b) := by
  intro x hx
  simp only [record, List.mem_cons, List.not_mem_nil, or_false] at hx
  rcases hx with rfl | rfl | rfl | rfl | rfl <;> omega


theorem isName_byte {nm : List UInt8} (h : isName nm = true) : ∀ b ∈ nm, b.toNat < 128 := by
  unfold isName at h
  simp only [Bool.and_eq_true, List.all_eq_true] at h
  intro b hb
  obtain ⟨i, hi, rfl⟩ := List.mem_iff_getElem.1 hb
  have := h.1 i (List.mem_range.2 hi)
  unfold nameAt at this
  rw [getD_of hi] at this
  simp only [Bool.or_eq_true, Bool.and_eq_true, decide_eq_true_eq, beq_iff_eq] at this
  omega
theorem plain_name {nm : List UInt8} (h : isName nm = true) : plain nm = true := by
  unfold plain
  rw [List.all_eq_true]
  exact fun b hb => decide_eq_true (isName_byte h b hb)
theorem bytesOf_strNs (nm : List UInt8) : bytesOf (strNs nm) = nm := by
  unfold bytesOf strNs
  rw [List.map_map]
  have : ((fun n : Int => UInt8.ofNat n.toNat) ∘ fun c : UInt8 => (c.toNat : Int)) = id := by
    funext c
    simp
  rw [this, List.map_id]
theorem head_len (nm : List UInt8) (f : Int) : (head nm f).length = 9 + nm.length := by
  simp only [head, List.length_append, strNs_len, four, List.length_cons, List.length_nil]; omega
theorem four_num {f : Int} (hf : 0 ≤ f ∧ f ≤ 10000000) : number (four f) = f := by
  show 256 * (256 * (256 * (256 * 0 + f / 16777216 % 256) + f / 65536 % 256) + f / 256 % 256) + f % 256 = f
  omega

theorem begin_nm {nm : List UInt8} {f : Int} (hn : isName nm = true) (hf : 0 ≤ f ∧ f ≤ 10000000) (r : List Int) : rdBegin (head nm f ++ r) = (0, nm, f, r) := by
  obtain ⟨l1, l2⟩ := isName_len hn
  have e : head nm f ++ r = [82, 69, 69, 76] ++ ([((nm.length : Int)) % 256] ++ (strNs nm ++ (four f ++ r))) := by
    simp only [head, List.append_assoc]
  rw [e]
  have d4 : List.drop 4 ([82, 69, 69, 76] ++ ([((nm.length : Int)) % 256] ++ (strNs nm ++ (four f ++ r)))) = [((nm.length : Int)) % 256] ++ (strNs nm ++ (four f ++ r)) := rfl
  have t4 : List.take 4 ([82, 69, 69, 76] ++ ([((nm.length : Int)) % 256] ++ (strNs nm ++ (four f ++ r)))) = [82, 69, 69, 76] := rfl
  have g0 : (([((nm.length : Int)) % 256] ++ (strNs nm ++ (four f ++ r))).getD 0 0).toNat = nm.length := by
    show ((nm.length : Int) % 256).toNat = nm.length
    omega
  have d1 : List.drop 1 ([((nm.length : Int)) % 256] ++ (strNs nm ++ (four f ++ r))) = strNs nm ++ (four f ++ r) := rfl
  have tk : List.take nm.length (strNs nm ++ (four f ++ r)) = strNs nm := by rw [List.take_append_of_le_length (by rw [strNs_len]; exact Nat.le_refl _), List.take_of_length_le (by rw [strNs_len]; exact Nat.le_refl _)]
  have dk : List.drop nm.length (strNs nm ++ (four f ++ r)) = four f ++ r := by rw [List.drop_append_of_le_length (by rw [strNs_len]; exact Nat.le_refl _), List.drop_of_length_le (by rw [strNs_len]; exact Nat.le_refl _)]; rfl
  have t5 : List.take 4 (four f ++ r) = four f := rfl
  have d5 : List.drop 4 (four f ++ r) = r := rfl
  unfold rdBegin
  rw [if_neg (by simp), t4, if_pos rfl, d4, g0, d1, tk, dk, t5, d5, bytesOf_strNs, plain_name hn, hn, four_num hf, if_neg (by simp), if_neg (by simp [strNs_len]), if_pos (show (true && true) = true from rfl), if_neg (by simp [four]), decide_eq_false (by omega)]
  rfl

section
variable {nm : List UInt8} {f : Int} {l : List Int}

theorem stream_eq : stream nm f l = head nm f ++ (recsF l 0 l.length ++ tlast l) := by
  unfold stream
  have a := recs_recsF l l.length 0
  rw [Nat.zero_add] at a
  rw [← a, List.append_assoc]
  rfl
theorem stream_length : (stream nm f l).length = 9 + nm.length + 5 * l.length + 5 := by
  rw [stream_eq]
  simp only [List.length_append, recsF_len, tlast_len, head_len]; omega

theorem cut_eqN (k q : Nat) (hk : k ≤ l.length) : (stream nm f l).take (9 + nm.length + 5 * k + q) = head nm f ++ (recsF l 0 k ++ (recsF l k (l.length - k) ++ tlast l).take q) := by
  have e1 : recsF l 0 l.length = recsF l 0 k ++ recsF l k (l.length - k) := by
    have a := recs_recsF l k 0
    have b := recs_recsF l (l.length - k) k
    have c := recs_recsF l l.length 0
    rw [show k + (l.length - k) = l.length by omega] at b
    have e0 : recs l 0 = [] := rfl
    rw [e0, List.nil_append, Nat.zero_add] at a c
    rw [c, ← b, a]
  have e2 : stream nm f l = (head nm f ++ recsF l 0 k) ++ (recsF l k (l.length - k) ++ tlast l) := by
    rw [stream_eq, e1]
    simp only [List.append_assoc]
  have hl : (head nm f ++ recsF l 0 k).length = 9 + nm.length + 5 * k := by rw [List.length_append, recsF_len, head_len]
  rw [e2, List.take_append, List.take_of_length_le (by omega), hl, show 9 + nm.length + 5 * k + q - (9 + nm.length + 5 * k) = q by omega, List.append_assoc]

theorem cut_lenN (k q : Nat) (hk : k ≤ l.length) (hq : q < 5) : ((stream nm f l).take (9 + nm.length + 5 * k + q)).length = 9 + nm.length + 5 * k + q := by
  rw [List.length_take, stream_length]; omega

variable (h : ReelOk nm f l)
include h
theorem tail_recN (k q : Nat) (hk : k ≤ l.length) (hq : q < 5) : rdRec ((recsF l k (l.length - k) ++ tlast l).take q) (l.take k) = (28, false, 0) := by
  have ht := tail_head (l := l) (k := k) (n := l.length - k) (q := q) (by omega)
  have hlt : (l.take k).length = k := by rw [List.length_take]; omega
  have h2 := h.len
  refine rdRec_part ?_ (by rw [List.length_take]; omega) ?_
  · rcases ht with ht | ht | ht
    · exact .inl ht
    · exact .inr (.inr ht.1)
    · exact .inr (.inl (by omega))
  · rcases ht with ht | ht | ht
    · exact .inl ht
    · exact .inr (.inl ht.1)
    · exact .inr (.inr ht.1)

theorem read_cutN (k q : Nat) (hk : k ≤ l.length) (hq : q < 5) : readS ((stream nm f l).take (9 + nm.length + 5 * k + q)) = (([], 0, []), 28) := by
  have hlen := cut_lenN (nm := nm) (f := f) k q hk hq
  rw [cut_eqN k q hk] at *
  have hb := begin_nm h.name h.start (recsF l 0 k ++ (recsF l k (l.length - k) ++ tlast l).take q)
  refine readS_err hb (l := l.take k) (q := (recsF l k (l.length - k) ++ tlast l).take q) ?_ (by decide)
  rw [hlen, show 9 + nm.length + 5 * k + q + 1 = (9 + nm.length + 4 * k + q + 1) + k by omega]
  have := rdAll_recs h.w h.len ((recsF l k (l.length - k) ++ tlast l).take q) (9 + nm.length + 4 * k + q + 1) k 0 (by omega)
  rw [Nat.zero_add, List.take_zero] at this
  rw [this]
  have hp := tail_recN h k q hk hq
  rw [rdAll_stop (by rw [hp]; decide), hp]

theorem rebuilt_cutN (k q : Nat) (h1 : 1 ≤ k) (hk : k ≤ l.length) (hq : q < 5) : rebuilt ((stream nm f l).take (9 + nm.length + 5 * k + q)) = ((nm, f, l.take k), false, 0) := by
  have hlen := cut_lenN (nm := nm) (f := f) k q hk hq
  have hrd := read_cutN h k q hk hq
  rw [cut_eqN k q hk] at *
  have hb := begin_nm h.name h.start (recsF l 0 k ++ (recsF l k (l.length - k) ++ tlast l).take q)
  have hlt : (l.take k).length = k := by rw [List.length_take]; omega
  have hx := rebuilt_some hb (l := l.take k) ?_ (by omega)
  · rw [hx, hrd]; rfl
  rw [hlen, show 9 + nm.length + 5 * k + q + 1 = (9 + nm.length + 4 * k + q + 1) + k by omega]
  have := rbAll_recs h.w h.len h.fin ((recsF l k (l.length - k) ++ tlast l).take q) (9 + nm.length + 4 * k + q + 1) k 0 (by omega)
  rw [Nat.zero_add, List.take_zero] at this
  rw [this]
  have hp := tail_recN h k q hk hq
  exact rbAll_stop (by rw [hp]; simp)

theorem read_allN : readS (stream nm f l) = ((nm, f, l), 0) := by
  have hb := begin_nm h.name h.start (recsF l 0 l.length ++ tlast l)
  rw [← stream_eq] at hb
  refine readS_ok hb (l := l) (q := []) ?_ ?_
  · rw [stream_length, show 9 + nm.length + 5 * l.length + 5 + 1 = (9 + nm.length + 4 * l.length + 5 + 1) + l.length by omega]
    have := rdAll_recs h.w h.len (tlast l) (9 + nm.length + 4 * l.length + 5 + 1) l.length 0 (by omega)
    rw [Nat.zero_add, List.take_zero, List.take_length] at this
    rw [this]
    have hr := rdRec_last (l := l) (t := []) h.len
    rw [List.append_nil] at hr
    rw [rdAll_last (by rw [hr]) (by rw [hr])]
    rfl
  · rw [checkReel_zero.2 h]; rfl

omit h in
theorem stream_byte : Bytes (stream nm f l) := by
  unfold stream
  refine Bytes.app (Bytes.app ?_ ?_) ?_
  · intro x hx
    simp only [head, four, List.mem_append, List.mem_cons, List.not_mem_nil, or_false] at hx
    rcases hx with ((hx | hx) | hx) | hx
    · rcases hx with rfl | rfl | rfl | rfl <;> omega
    · omega
    · unfold strNs at hx
      obtain ⟨c, _, rfl⟩ := List.mem_map.1 hx
      have := c.toNat_lt
      omega
    · rcases hx with rfl | rfl | rfl | rfl <;> omega
  · have key : ∀ i, Bytes (recs l i) := by
      intro i
      induction i with
      | zero => intro x hx; cases hx
      | succ i ih => exact Bytes.app ih (record_bytes (by omega))
    exact key _
  · exact record_bytes (by omega)
end
end Go.Sx

/- Plain laws of streams of reels that are cut before a frame's record, and of whole ones. -/
namespace Go.Sx
open U
section
variable {nm : List UInt8} {f : Int} {l : List Int}

theorem begin_torn (hn : isName nm = true) (hp : plain nm = true) (m : Nat) (hm : m < 9 + nm.length) : rdBegin ((stream nm f l).take m) = (28, [], 0, []) := by
  obtain ⟨l1, l2⟩ := isName_len hn
  have hS : stream nm f l = [82, 69, 69, 76] ++ ([((nm.length : Int)) % 256] ++ (strNs nm ++ (four f ++ (recsF l 0 l.length ++ tlast l)))) := by
    rw [stream_eq]
    simp only [head, List.append_assoc]
  have hL : ((stream nm f l).take m).length = m := by rw [List.length_take, stream_length]; omega
  by_cases h4 : m < 4
  · unfold rdBegin
    rw [if_pos (by omega)]
  · obtain ⟨m1, rfl⟩ : ∃ m1, m = 4 + m1 := ⟨m - 4, by omega⟩
    have e4 : (stream nm f l).take (4 + m1) = [82, 69, 69, 76] ++ ([((nm.length : Int)) % 256] ++ (strNs nm ++ (four f ++ (recsF l 0 l.length ++ tlast l)))).take m1 := by
      rw [hS, List.take_append, List.take_of_length_le (by simp only [List.length_cons, List.length_nil]; omega)]
      simp
    rw [e4] at hL ⊢
    generalize hx : ([((nm.length : Int)) % 256] ++ (strNs nm ++ (four f ++ (recsF l 0 l.length ++ tlast l)))).take m1 = X at *
    have d4 : List.drop 4 ([82, 69, 69, 76] ++ X) = X := rfl
    have t4 : List.take 4 ([82, 69, 69, 76] ++ X) = [82, 69, 69, 76] := rfl
    have hXl : X.length = m1 := by simpa [List.length_append] using (by rw [List.length_append] at hL; simp only [List.length_cons, List.length_nil] at hL; omega : X.length = m1)
    unfold rdBegin
    rw [if_neg (by omega), t4, if_pos rfl, d4]
    by_cases h5 : m1 < 1
    · rw [if_pos (by omega)]
    · obtain ⟨m2, rfl⟩ : ∃ m2, m1 = 1 + m2 := ⟨m1 - 1, by omega⟩
      have e5 : X = [((nm.length : Int)) % 256] ++ (strNs nm ++ (four f ++ (recsF l 0 l.length ++ tlast l))).take m2 := by
        rw [← hx, List.take_append, List.take_of_length_le (by simp)]
        simp
      generalize hy : (strNs nm ++ (four f ++ (recsF l 0 l.length ++ tlast l))).take m2 = Y at *
      subst e5
      have d1 : List.drop 1 ([((nm.length : Int)) % 256] ++ Y) = Y := rfl
      have g0 : (([((nm.length : Int)) % 256] ++ Y).getD 0 0).toNat = nm.length := by
        show ((nm.length : Int) % 256).toNat = nm.length
        omega
      have hYl : Y.length = m2 := by simp only [List.length_append, List.length_cons, List.length_nil] at hXl; omega
      rw [if_neg (by omega), d1, g0]
      by_cases h6 : m2 < nm.length
      · rw [if_pos (by omega)]
      · obtain ⟨m3, rfl⟩ : ∃ m3, m2 = nm.length + m3 := ⟨m2 - nm.length, by omega⟩
        have e6 : Y = strNs nm ++ (four f ++ (recsF l 0 l.length ++ tlast l)).take m3 := by
          rw [← hy, List.take_append, List.take_of_length_le (by rw [strNs_len]; omega), strNs_len]
          simp
        generalize hz : (four f ++ (recsF l 0 l.length ++ tlast l)).take m3 = Z at *
        subst e6
        have tk : List.take nm.length (strNs nm ++ Z) = strNs nm := by rw [List.take_append_of_le_length (by rw [strNs_len]; exact Nat.le_refl _), List.take_of_length_le (by rw [strNs_len]; exact Nat.le_refl _)]
        have dk : List.drop nm.length (strNs nm ++ Z) = Z := by rw [List.drop_append_of_le_length (by rw [strNs_len]; exact Nat.le_refl _), List.drop_of_length_le (by rw [strNs_len]; exact Nat.le_refl _)]; rfl
        have hZl : Z.length = m3 := by simp only [List.length_append, strNs_len] at hYl; omega
        rw [if_neg (by omega), tk, dk, bytesOf_strNs, hp, hn, if_pos (show (true && true) = true from rfl), if_pos (by omega)]

theorem rebuilt_torn (hn : isName nm = true) (m : Nat) (hm : m < 9 + nm.length) : rebuilt ((stream nm f l).take m) = (([], 0, []), false, 28) := by
  have hb := begin_torn (f := f) (l := l) hn (plain_name hn) m hm
  rw [rebuilt_begin (by rw [hb]; decide), hb]
theorem read_torn (hn : isName nm = true) (m : Nat) (hm : m < 9 + nm.length) : readS ((stream nm f l).take m) = (([], 0, []), 28) := by
  have hb := begin_torn (f := f) (l := l) hn (plain_name hn) m hm
  unfold readS
  rw [if_neg (by rw [hb]; decide), hb]

variable (h : ReelOk nm f l)
include h
theorem rebuilt_zeroN (q : Nat) (hq : q < 5) : rebuilt ((stream nm f l).take (9 + nm.length + 5 * 0 + q)) = (([], 0, []), false, 12) := by
  have hlen := cut_lenN (nm := nm) (f := f) (l := l) 0 q (Nat.zero_le _) hq
  rw [cut_eqN 0 q (Nat.zero_le _)] at *
  have hb := begin_nm h.name h.start (recsF l 0 0 ++ (recsF l 0 (l.length - 0) ++ tlast l).take q)
  refine rebuilt_none hb (l := []) ?_ rfl
  have hp := tail_recN h 0 q (Nat.zero_le _) hq
  rw [List.take_zero] at hp
  exact rbAll_stop (by rw [show recsF l 0 0 = [] from rfl, List.nil_append, hp]; simp)

theorem rebuilt_allN : rebuilt (stream nm f l) = ((nm, f, l), true, 0) := by
  have hb := begin_nm h.name h.start (recsF l 0 l.length ++ tlast l)
  rw [← stream_eq] at hb
  have hpos : 0 < l.length := Nat.pos_of_ne_zero h.ne
  have hx := rebuilt_some hb (l := l) ?_ (by omega)
  · rw [hx, read_allN h]; rfl
  rw [stream_length, show 9 + nm.length + 5 * l.length + 5 + 1 = (9 + nm.length + 4 * l.length + 5 + 1) + l.length by omega]
  have := rbAll_recs h.w h.len h.fin (tlast l) (9 + nm.length + 4 * l.length + 5 + 1) l.length 0 (by omega)
  rw [Nat.zero_add, List.take_zero, List.take_length] at this
  rw [this]
  have hr := rdRec_last (l := l) (t := []) h.len
  rw [List.append_nil] at hr
  exact rbAll_stop (by rw [hr]; simp)

/-- What is rebuilt of a stream's first bytes. -/
theorem rebuilt_pre (m : Nat) (hm : m ≤ (stream nm f l).length) :
    (m < 9 + nm.length ∧ rebuilt ((stream nm f l).take m) = (([], 0, []), false, 28)) ∨ (9 + nm.length ≤ m ∧ min l.length ((m - (9 + nm.length)) / 5) = 0 ∧ rebuilt ((stream nm f l).take m) = (([], 0, []), false, 12)) ∨
      ∃ k w, k = min l.length ((m - (9 + nm.length)) / 5) ∧ 9 + nm.length ≤ m ∧ 1 ≤ k ∧ k ≤ l.length ∧ rebuilt ((stream nm f l).take m) = ((nm, f, l.take k), w, 0) ∧ (m < (stream nm f l).length → w = false) := by
  have hl : 0 < l.length := Nat.pos_of_ne_zero h.ne
  rw [stream_length] at hm ⊢
  by_cases h1 : m < 9 + nm.length
  · exact .inl ⟨h1, rebuilt_torn h.name m h1⟩
  right
  by_cases h2 : m = 9 + nm.length + 5 * l.length + 5
  · right
    refine ⟨l.length, true, by omega, by omega, by omega, Nat.le_refl _, ?_, fun hh => absurd hh (by omega)⟩
    rw [List.take_of_length_le (by rw [stream_length]; omega), List.take_length, rebuilt_allN h]
  · have hdm := Nat.div_add_mod (m - (9 + nm.length)) 5
    have hml := Nat.mod_lt (m - (9 + nm.length)) (show 0 < 5 by decide)
    have hk : (m - (9 + nm.length)) / 5 ≤ l.length := by omega
    have e : m = 9 + nm.length + 5 * ((m - (9 + nm.length)) / 5) + (m - (9 + nm.length)) % 5 := by omega
    by_cases h3 : (m - (9 + nm.length)) / 5 = 0
    · left
      refine ⟨by omega, by omega, ?_⟩
      rw [h3] at e
      rw [e]
      exact rebuilt_zeroN h _ hml
    · right
      refine ⟨(m - (9 + nm.length)) / 5, false, by omega, by omega, by omega, hk, ?_, fun _ => rfl⟩
      have := rebuilt_cutN h ((m - (9 + nm.length)) / 5) ((m - (9 + nm.length)) % 5) (by omega) hk hml
      rw [← e] at this
      exact this
end
end Go.Sx
