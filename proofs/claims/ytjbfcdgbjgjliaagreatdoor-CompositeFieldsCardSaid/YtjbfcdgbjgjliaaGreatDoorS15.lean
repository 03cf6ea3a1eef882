/- A verified symbolic run of functions, part 15: lemmas, no claim of their own. -/
import Derived.Test.YtjbfcdgbjgjliaaGreatDoorS14
/- Contracts. -/
namespace Go.Sx
open U
theorem fn38 (l : Fld)  : Fn P1 gl1 38 [fldV l] (.val (iV (chkFld l))) true := by
  refine Fn.flat ?_ rfl
  refine fn_of false [(41, sp41), (104, sp104), (95, sp95)] [] h38 0 Proofs.Tryz.f38 ⟨so41, so104, so95, trivial⟩ trivial (by kernel_rfl) rfl (by kernel_rfl) rfl rfl rfl ?_
  rw [vc38]
  try simp only [splitB_iff, -eq_self]
  simp only [ln_first, -eq_self]
  refine ⟨fun h => ?_, fun h => ⟨⟨0, ⟨by omega, rfl⟩, rfl, rfl, rfl, rfl, trivial⟩, fun g hg => ⟨fun hlt => ?_, fun hge => ?_⟩⟩⟩
  · have h : (32 : Int) < (l.length : Int) := of_decide_eq_true h
    unfold chkFld
    rw [if_pos (by omega)]
    exact ⟨rfl, trivial⟩
  · have h : ¬ (32 : Int) < (l.length : Int) := of_decide_eq_false h
    have hlt : g < l.length := by simpa using hlt
    refine ⟨by omega, by omega, by decide, fun k => ?_, fun k => ⟨by simp only [fits]; omega, g + 1, ⟨by omega, upTo_next hg.2 (bneF.1 k)⟩, by omega, by simp, rfl, rfl, rfl, trivial⟩⟩
    unfold chkFld
    rw [if_neg (by omega), upTo_stop hg.2 (bneZ.1 k) hlt]
    exact ⟨rfl, trivial⟩
  · have h : ¬ (32 : Int) < (l.length : Int) := of_decide_eq_false h
    have hge : ¬ g < l.length := by simpa using hge
    have e : g = l.length := by omega
    subst e
    unfold chkFld
    rw [if_neg (by omega), hg.2]
    exact ⟨rfl, trivial⟩
theorem so38_ : SpecOk P1 gl1 38 sp38 := by
  intro vs ps r h _
  simp only [sp38] at h
  split at h
  · cases h; exact fn38 _ 
  · cases h
theorem so38 : Sp1 38 sp38 := ⟨so38_, Proofs.Tryz.f38, _, by kernel_rfl, rfl, by kernel_rfl⟩
theorem fn40 (l : Fld)  : Fn P1 gl1 40 [fldV l] (.val (iV (chkFld l))) true := by
  refine Fn.flat ?_ rfl
  refine fn_of false [(36, sp36)] [] h38 0 Proofs.Tryz.f40 ⟨so36, trivial⟩ trivial (by kernel_rfl) rfl (by kernel_rfl) rfl rfl rfl ?_
  rw [vc40]
  try simp only [splitB_iff, -eq_self]
  refine ⟨fun h => ?_, fun h => ⟨⟨0, ⟨by omega, rfl⟩, rfl, rfl, trivial⟩, fun g hg => ⟨fun hlt => ?_, fun hge => ?_⟩⟩⟩
  · have h : (32 : Int) < (l.length : Int) := of_decide_eq_true h
    unfold chkFld
    rw [if_pos (by omega)]
    exact ⟨rfl, trivial⟩
  · have h : ¬ (32 : Int) < (l.length : Int) := of_decide_eq_false h
    have hlt : g < l.length := by simpa using hlt
    refine ⟨by omega, fun k => ?_, fun k => ⟨by omega, by omega, fun k2 => ?_, fun k2 => ⟨by simp only [fits]; omega, g + 1, ⟨by omega, ?_⟩, by omega, by simp, rfl, trivial⟩⟩⟩
    · have k := bneZ.1 k
      have e : chkLn l g = chkSig (List.getD l g []) := by unfold chkLn; rw [if_neg k]
      unfold chkFld
      rw [if_neg (by omega), upTo_stop hg.2 (by rw [e]; exact k) hlt, e]
      exact ⟨rfl, trivial⟩
    · have k := bneF.1 k
      have k2 : ¬ ((List.getD l g []).length : Int) = ((List.getD l 0 []).length : Int) := bne_iff_ne.1 k2
      have e : chkLn l g = 2 := by unfold chkLn; rw [if_pos k, if_neg (by omega)]
      unfold chkFld
      rw [if_neg (by omega), upTo_stop hg.2 (by rw [e]; decide) hlt, e]
      exact ⟨rfl, trivial⟩
    · have k := bneF.1 k
      have k2 : ((List.getD l g []).length : Int) = ((List.getD l 0 []).length : Int) := bne_eq_false_iff_eq.1 k2
      exact upTo_next hg.2 (chkLn_zero.2 ⟨k, by omega⟩)
  · have h : ¬ (32 : Int) < (l.length : Int) := of_decide_eq_false h
    have hge : ¬ g < l.length := by simpa using hge
    have e : g = l.length := by omega
    subst e
    unfold chkFld
    rw [if_neg (by omega), hg.2]
    exact ⟨rfl, trivial⟩
theorem so40_ : SpecOk P1 gl1 40 sp40 := by
  intro vs ps r h _
  simp only [sp40] at h
  split at h
  · cases h; exact fn40 _ 
  · cases h
theorem so40 : Sp1 40 sp40 := ⟨so40_, Proofs.Tryz.f40, _, by kernel_rfl, rfl, by kernel_rfl⟩
theorem fn115 (l : Fld) (line : Int)  : Fn P1 gl1 115 [fldV l, iV line] (.val (iV (chkLine l line))) true := by
  refine Fn.flat ?_ rfl
  refine fn_of false [(38, sp38), (104, sp104), (95, sp95)] [] h0 0 Proofs.Tryz.f115 ⟨so38, so104, so95, trivial⟩ trivial (by kernel_rfl) rfl (by kernel_rfl) rfl rfl rfl ?_
  rw [vc115]
  try simp only [splitB_iff, -eq_self]
  exact ⟨by decide, line_first l line, trivial⟩
theorem so115_ : SpecOk P1 gl1 115 sp115 := by
  intro vs ps r h _
  simp only [sp115] at h
  split at h
  · cases h; exact fn115 _ _ 
  · cases h
theorem so115 : Sp1 115 sp115 := ⟨so115_, Proofs.Tryz.f115, _, by kernel_rfl, rfl, by kernel_rfl⟩
theorem fn123 (l : Fld) (hf : chkFld l = 0) : Fn P1 gl1 123 [fldV l, .one (.fn 108 [] [])] (.val (.one (.sl (.sl (.int .i64)) (l.map sixs)))) false := by
  refine fn_of false [(108, sp108)] [] h38 0 Proofs.Tryz.f123 ⟨so108, trivial⟩ trivial (by kernel_rfl) rfl (by kernel_rfl) rfl rfl rfl ?_
  rw [vc123]
  try simp only [splitB_iff, -eq_self]
  have hq := chkFld_zero.1 hf
  refine ⟨⟨0, Nat.zero_le _, rfl, rfl, rfl, by simp⟩, fun g hg => ⟨fun hlt => ?_, fun hge => ?_⟩⟩
  · have hlt' : g < l.length := by simpa using hlt
    obtain ⟨a1, a2, _⟩ := fld_line hf hlt'
    refine ⟨by omega, by omega, a1, by simp only [room, List.length_map, List.length_take]; omega, by simp only [fits]; omega, g + 1, hlt', by omega, by simp, rfl, rfl, ?_, trivial⟩
    rw [getD_of hlt', List.take_succ_eq_append_getElem hlt', List.map_append]
    rfl
  · have hge' : ¬ g < l.length := by simpa using hge
    rw [List.take_of_length_le (by omega)]
    exact ⟨rfl, trivial⟩
theorem so123_ : SpecOk P1 gl1 123 sp123 := by
  intro vs ps r h hp
  simp only [sp123] at h
  split at h
  · cases h; exact fn123 _ (hp _ (.head _))
  · cases h
theorem so123 : Sp1 123 sp123 := ⟨so123_, Proofs.Tryz.f123, _, by kernel_rfl, rfl, by kernel_rfl⟩
theorem fn121 (n line : Int) (hn : 0 ≤ n ∧ n ≤ 1000000000) : Fn P1 gl1 121 [iV n, iV line] (.val (bV (decide (0 < line) && decide (line < n - 1)))) true := by
  refine Fn.flat ?_ rfl
  refine fn_of false [] [] h0 0 Proofs.Tryz.f121 trivial trivial (by kernel_rfl) rfl (by kernel_rfl) rfl rfl rfl ?_
  rw [vc121]
  try simp only [splitB_iff, -eq_self]
  rw [bcond_r]
  exact ⟨fun _ => by simp only [fits]; omega, rfl, trivial⟩
theorem so121_ : SpecOk P1 gl1 121 sp121 := by
  intro vs ps r h hp
  simp only [sp121] at h
  split at h
  · cases h; exact fn121 _ _ (hp _ (.head _))
  · cases h
theorem so121 : Sp1 121 sp121 := ⟨so121_, Proofs.Tryz.f121, _, by kernel_rfl, rfl, by kernel_rfl⟩
theorem fn47 (l : Fld) (line : Int)  : Fn P1 gl1 47 [fldV l, iV line] (.tup [pV (errP (twoE l line) (twoI l line)), iV (errE (twoE l line) (twoI l line))]) true := by
  refine fn_ofr false [(115, sp115), (104, sp104), (95, sp95), (108, sp108), (117, sp117), (118, sp118), (119, sp119), (116, sp116), (138, sp138)] [fb112] h0 3 Proofs.Tryz.f47 ⟨so115, so104, so95, so108, so117, so118, so119, so116, so138, trivial⟩ ⟨⟨by kernel_rfl, by kernel_rfl, _, rfl, by kernel_rfl⟩, trivial⟩ (by kernel_rfl) rfl (by kernel_rfl) rfl rfl rfl ?_
  rw [vc47]
  try simp only [splitB_iff, -eq_self]
  rw [two_first]
  refine ⟨by decide, fun h => ?_, fun h => ?_⟩
  · have h := bneZ.1 h
    unfold errP errE
    rw [if_neg h, if_neg h]
    exact ⟨rfl, rfl, rfl, rfl, trivial⟩
  · have h := bneF.1 h
    obtain ⟨c1, c2, c3, c4⟩ := twoE_zero.1 h
    have c0 := (chkFld_zero.1 c1).1
    unfold errP errE
    rw [if_pos h, if_pos h]
    unfold twoI lnI nextL
    obtain ⟨a1, a2, a3, a4⟩ := fld_line c1 (i := line.toNat) (by omega)
    refine ⟨by simp only [fits]; omega, fun k => ?_, fun k => ?_⟩
    · have k : line + 1 = (l.length : Int) := by simpa using k
      obtain ⟨b1, b2, b3, b4⟩ := fld_line c1 (i := (line - 1).toNat) (by omega)
      have hb : 0 ≤ line - 1 ∧ line - 1 < (l.length : Int) := by omega
      rw [if_pos k]
      generalize List.getD l (line - 1).toNat [] = o at *
      generalize List.getD l line.toNat [] = s at *
      have z1 := bd_sixs a1
      have z2 := bd_sixs b1
      have z3 : Bd 32768 (combI minusI (sixs s) (sixs o)) := bd_comb (A := 16384) (B := 16384) z1 z2 (by omega) (by omega) fun x y hx hy => by unfold minusI; omega
      simp only [sixs_len, combI_len, diffN_len, -eq_self]
      refine ⟨by simp only [fits]; omega, by omega, by omega, a1, by omega, by omega, b1, by omega, by omega, bd_le z1 (by omega), bd_le z2 (by omega), by omega, bd_le z3 (by omega), c2, by omega, by omega, by omega, bd_le z1 (by omega), bd_le z2 (by omega), by omega, by omega, by omega, by decide, fun h => ?_, fun h => ?_⟩
      · have h : ¬ partsE (combI midI (sixs s) (sixs o), diffN 0 (combI minusI (sixs s) (sixs o)) line 4, diffN 1 (combI minusI (sixs s) (sixs o)) line 4) = 0 := bneZ.1 h
        unfold partsP
        rw [if_neg h]
        exact ⟨rfl, rfl, rfl, rfl, trivial⟩
      · have h : partsE (combI midI (sixs s) (sixs o), diffN 0 (combI minusI (sixs s) (sixs o)) line 4, diffN 1 (combI minusI (sixs s) (sixs o)) line 4) = 0 := bneF.1 h
        unfold partsP
        rw [if_pos h]
        exact ⟨rfl, rfl, rfl, h.symm, trivial⟩
    · have k : ¬ line + 1 = (l.length : Int) := by simpa using k
      obtain ⟨b1, b2, b3, b4⟩ := fld_line c1 (i := (line + 1).toNat) (by omega)
      have hb : 0 ≤ line + 1 ∧ line + 1 < (l.length : Int) := by omega
      rw [if_neg k]
      generalize List.getD l (line + 1).toNat [] = o at *
      generalize List.getD l line.toNat [] = s at *
      have z1 := bd_sixs a1
      have z2 := bd_sixs b1
      have z3 : Bd 32768 (combI minusI (sixs s) (sixs o)) := bd_comb (A := 16384) (B := 16384) z1 z2 (by omega) (by omega) fun x y hx hy => by unfold minusI; omega
      simp only [sixs_len, combI_len, diffN_len, -eq_self]
      refine ⟨by omega, by omega, a1, by omega, by omega, b1, by omega, by omega, bd_le z1 (by omega), bd_le z2 (by omega), by omega, bd_le z3 (by omega), c2, by omega, by omega, by omega, bd_le z1 (by omega), bd_le z2 (by omega), by omega, by omega, by omega, by decide, fun h => ?_, fun h => ?_⟩
      · have h : ¬ partsE (combI midI (sixs s) (sixs o), diffN 0 (combI minusI (sixs s) (sixs o)) line 4, diffN 1 (combI minusI (sixs s) (sixs o)) line 4) = 0 := bneZ.1 h
        unfold partsP
        rw [if_neg h]
        exact ⟨rfl, rfl, rfl, rfl, trivial⟩
      · have h : partsE (combI midI (sixs s) (sixs o), diffN 0 (combI minusI (sixs s) (sixs o)) line 4, diffN 1 (combI minusI (sixs s) (sixs o)) line 4) = 0 := bneF.1 h
        unfold partsP
        rw [if_pos h]
        exact ⟨rfl, rfl, rfl, h.symm, trivial⟩
theorem so47_ : SpecOk P1 gl1 47 sp47 := by
  intro vs ps r h _
  simp only [sp47] at h
  split at h
  · cases h; exact fn47 _ _ 
  · cases h
theorem so47 : Sp1 47 sp47 := ⟨so47_, Proofs.Tryz.f47, _, by kernel_rfl, rfl, by kernel_rfl⟩
theorem fn48 (l : Fld) (line : Int)  : Fn P1 gl1 48 [fldV l, iV line] (.tup [pV (errP (threeE l line) (threeL l line)), iV (errE (threeE l line) (threeL l line))]) true := by
  refine fn_ofr false [(115, sp115), (95, sp95), (121, sp121), (123, sp123), (108, sp108), (117, sp117), (118, sp118), (164, sp164), (171, sp171), (116, sp116), (163, sp163), (138, sp138)] [fb112, fb122, fb168] h0 3 Proofs.Tryz.f48 ⟨so115, so95, so121, so123, so108, so117, so118, so164, so171, so116, so163, so138, trivial⟩ ⟨⟨by kernel_rfl, by kernel_rfl, _, rfl, by kernel_rfl⟩, ⟨by kernel_rfl, by kernel_rfl, _, rfl, by kernel_rfl⟩, ⟨by kernel_rfl, by kernel_rfl, _, rfl, by kernel_rfl⟩, trivial⟩ (by kernel_rfl) rfl (by kernel_rfl) rfl rfl rfl ?_
  rw [vc48]
  try simp only [splitB_iff, -eq_self]
  simp only [map_get, List.length_map, -eq_self]
  refine ⟨fun h => ?_, fun h => ⟨⟨by omega, by have := (chkFld_zero.1 (chkLine_zero.1 (bneF.1 h)).1).1; omega⟩, fun h2 => ?_, fun h2 => ?_⟩⟩
  · have h := bneZ.1 h
    have e : threeE l line = chkLine l line := by unfold threeE; rw [if_neg h]
    unfold errP errE
    rw [e, if_neg h, if_neg h]
    exact ⟨rfl, rfl, rfl, rfl, trivial⟩
  · have h := bneF.1 h
    have e : threeE l line = 14 := by
      unfold threeE
      rw [if_pos h, if_neg (by simp at h2; omega)]
    rw [e]
    exact ⟨rfl, rfl, rfl, rfl, trivial⟩
  · have h := bneF.1 h
    have h2 : 0 < line ∧ line < (l.length : Int) - 1 := by simpa using h2
    obtain ⟨c1, c2, c3⟩ := chkLine_zero.1 h
    have c0 := (chkFld_zero.1 c1).1
    have e : threeE l line = 0 := threeE_zero.2 ⟨c1, h2⟩
    unfold errP errE threeL threeI apartI lnI
    rw [if_pos e, if_pos e]
    obtain ⟨a1, a2, a3, a4⟩ := fld_line c1 (i := line.toNat) (by omega)
    obtain ⟨b1, b2, b3, b4⟩ := fld_line c1 (i := (line - 1).toNat) (by omega)
    obtain ⟨d1, d2, d3, d4⟩ := fld_line c1 (i := (line + 1).toNat) (by omega)
    generalize List.getD l (line - 1).toNat [] = o at *
    generalize List.getD l (line + 1).toNat [] = p at *
    generalize List.getD l line.toNat [] = s at *
    have z0 : Bd 1000000 (combI plusI (sixs o) (sixs p)) := bd_comb (A := 16384) (B := 16384) (bd_sixs b1) (bd_sixs d1) (by omega) (by omega) fun x y hx hy => by unfold plusI; omega
    have z1 : Bd 65536 (thrD (sixs o) (sixs s) (sixs p)) := bd_thrD (bd_sixs b1) (bd_sixs a1) (bd_sixs d1)
    have z2 : Bd 1000000 (diffN 0 (thrD (sixs o) (sixs s) (sixs p)) line 8) := bd_le (bd_diff (by omega) (by omega) z1) (by omega)
    have z3 : Bd 1000000 (diffN 1 (thrD (sixs o) (sixs s) (sixs p)) line 8) := bd_le (bd_diff (by omega) (by omega) z1) (by omega)
    have eD : combI lessI (sixs s) (combI plusI (sixs o) (sixs p)) = thrD (sixs o) (sixs s) (sixs p) := rfl
    rw [eD]
    have eL : (thrD (sixs o) (sixs s) (sixs p)).length = s.length := by rw [thrD_len, sixs_len]
    generalize thrD (sixs o) (sixs s) (sixs p) = T at *
    simp only [sixs_len, combI_len, diffN_len, carI_len, eL, fits, -eq_self]
    refine ⟨c1, by omega, by omega, by omega, by omega, by omega, by omega, bd_le (bd_sixs b1) (by omega), bd_le (bd_sixs d1) (by omega), by omega, by omega, by omega, by omega, bd_le (bd_sixs a1) (by omega), z0, by omega, bd_le z1 (by omega), c2, by omega, by omega, by omega, z2, z3, c2, by omega, by omega, bd_le (bd_sixs a1) (by omega), bd_car (signI_cases _) (by omega) z2 z3, by omega, by omega, by omega, by decide, fun h => ?_, fun h => ?_⟩
    · have h : ¬ partsE (combI minusI (sixs s) (carI (diffN 0 T line 8) (diffN 1 T line 8) (signI line)), diffN 0 T line 8, diffN 1 T line 8) = 0 := bneZ.1 h
      unfold partsP
      rw [if_neg h]
      exact ⟨rfl, rfl, rfl, rfl, trivial⟩
    · have h : partsE (combI minusI (sixs s) (carI (diffN 0 T line 8) (diffN 1 T line 8) (signI line)), diffN 0 T line 8, diffN 1 T line 8) = 0 := bneF.1 h
      unfold partsP
      rw [if_pos h]
      exact ⟨rfl, rfl, rfl, h.symm, trivial⟩
theorem so48_ : SpecOk P1 gl1 48 sp48 := by
  intro vs ps r h _
  simp only [sp48] at h
  split at h
  · cases h; exact fn48 _ _ 
  · cases h
theorem so48 : Sp1 48 sp48 := ⟨so48_, Proofs.Tryz.f48, _, by kernel_rfl, rfl, by kernel_rfl⟩
theorem fn50 (l : Fld) (line : Int) (h : chkLine l line = 0) : Fn P1 gl1 50 [fldV l, iV line] (.tup [pV (errP (twoE l line) (twoI l line)), iV (errE (twoE l line) (twoI l line))]) true := by
  refine fn_ofr false [(100, sp100), (87, sp87), (125, sp125), (102, sp102), (22, sp22)] [fb114] h50 3 Proofs.Tryz.f50 ⟨so100, so87, so125, so102, so22, trivial⟩ ⟨⟨by kernel_rfl, by kernel_rfl, _, rfl, by kernel_rfl⟩, trivial⟩ (by kernel_rfl) rfl (by kernel_rfl) rfl rfl rfl ?_
  rw [vc50]
  try simp only [splitB_iff, -eq_self]
  obtain ⟨c1, c2, c3⟩ := chkLine_zero.1 h
  have c0 := (chkFld_zero.1 c1).1
  have hE : twoE l line = if l.length = 1 then 16 else 0 := by unfold twoE; rw [if_pos h]
  refine ⟨fun h => ?_, fun h => ?_⟩
  · have h : (l.length : Int) < 2 := of_decide_eq_true h
    rw [hE, if_pos (by omega)]
    exact ⟨rfl, rfl, rfl, rfl, trivial⟩
  · have h : ¬ (l.length : Int) < 2 := of_decide_eq_false h
    have h : twoE l line = 0 := by rw [hE, if_neg (by omega)]
    unfold errP errE
    rw [if_pos h, if_pos h]
    unfold twoI lnI nextL
    obtain ⟨a1, a2, a3, a4⟩ := fld_line c1 (i := line.toNat) (by omega)
    refine ⟨by simp only [fits]; omega, fun k => ?_, fun k => ?_⟩
    · have k : line + 1 = (l.length : Int) := by simpa using k
      obtain ⟨b1, b2, b3, b4⟩ := fld_line c1 (i := (line - 1).toNat) (by omega)
      have hb : 0 ≤ line - 1 ∧ line - 1 < (l.length : Int) := by omega
      rw [if_pos k]
      generalize List.getD l (line - 1).toNat [] = o at *
      generalize List.getD l line.toNat [] = s at *
      have z1 := bd_sixs a1
      have z2 := bd_sixs b1
      have z3 : Bd 32768 (combI minusI (sixs s) (sixs o)) := bd_comb (A := 16384) (B := 16384) z1 z2 (by omega) (by omega) fun x y hx hy => by unfold minusI; omega
      unfold combI
      simp only [sixs_len, tab_len, room, fits, -eq_self]
      refine ⟨by omega, by omega, by omega, a1, by omega, by omega, b1, ⟨0, Nat.zero_le _, rfl, rfl, rfl, rfl, rfl, rfl, trivial⟩, fun g hg => ⟨fun hlt => ?_, fun hge => ?_⟩⟩
      · have hlt : g < s.length := by simpa using hlt
        have k1 := bd_get z1 (i := g) (by omega)
        have k2 := bd_get z2 (i := g) (by omega)
        exact ⟨by omega, by omega, by omega, by omega, by omega, by omega, by omega, by omega, by omega, by omega, by omega, by omega, by omega, by omega, by omega, g + 1, hlt, by omega, by simp, rfl, (tab_succ _ _).symm, (tab_succ _ _).symm, rfl, rfl, trivial⟩
      · have hg : g ≤ s.length := hg
        have hge : ¬ g < s.length := by simpa using hge
        have e : g = s.length := by omega
        subst e
        have z4 : Bd 1000000 (tab s.length fun n => minusI (List.getD (sixs s) n 0) (List.getD (sixs o) n 0)) := bd_tab fun i _ => by
          have k1 := bd_get z1 (i := i) (by omega)
          have k2 := bd_get z2 (i := i) (by omega)
          unfold minusI; omega
        refine ⟨⟨0, Nat.zero_le _, rfl, rfl, rfl, rfl, rfl, rfl, rfl, rfl, trivial⟩, fun g hg => ⟨by omega, fun hlt => ?_, fun hge => ?_⟩⟩
        · have hlt : (g : Int) < (s.length : Int) / 4 := by simpa using hlt
          exact ⟨z4, by omega, by omega, c2, by omega, by omega, by omega, by omega, g + 1, show g + 1 ≤ _ by omega, by omega, by simp, rfl, (tab_succ _ _).symm, (tab_succ _ _).symm, rfl, rfl, rfl, rfl, trivial⟩
        · have hg : g ≤ s.length / 4 := hg
          have hge : ¬ (g : Int) < (s.length : Int) / 4 := by simpa using hge
          have e : g = s.length / 4 := by omega
          subst e
          unfold diffN
          rw [tab_len]
          refine ⟨by omega, by omega, by omega, by decide, fun h => ?_, fun h => ?_⟩
          · have h : ¬ partsE (tab s.length (fun n => midI (List.getD (sixs s) n 0) (List.getD (sixs o) n 0)), tab (s.length / 4) (fun c => diffAt 0 (tab s.length fun n => minusI (List.getD (sixs s) n 0) (List.getD (sixs o) n 0)) c line 4), tab (s.length / 4) fun c => diffAt 1 (tab s.length fun n => minusI (List.getD (sixs s) n 0) (List.getD (sixs o) n 0)) c line 4) = 0 := bneZ.1 h
            unfold partsP
            rw [if_neg h]
            exact ⟨rfl, rfl, rfl, rfl, trivial⟩
          · have h : partsE (tab s.length (fun n => midI (List.getD (sixs s) n 0) (List.getD (sixs o) n 0)), tab (s.length / 4) (fun c => diffAt 0 (tab s.length fun n => minusI (List.getD (sixs s) n 0) (List.getD (sixs o) n 0)) c line 4), tab (s.length / 4) fun c => diffAt 1 (tab s.length fun n => minusI (List.getD (sixs s) n 0) (List.getD (sixs o) n 0)) c line 4) = 0 := bneF.1 h
            unfold partsP
            rw [if_pos h]
            exact ⟨rfl, rfl, rfl, h.symm, trivial⟩
    · have k : ¬ line + 1 = (l.length : Int) := by simpa using k
      obtain ⟨b1, b2, b3, b4⟩ := fld_line c1 (i := (line + 1).toNat) (by omega)
      have hb : 0 ≤ line + 1 ∧ line + 1 < (l.length : Int) := by omega
      rw [if_neg k]
      generalize List.getD l (line + 1).toNat [] = o at *
      generalize List.getD l line.toNat [] = s at *
      have z1 := bd_sixs a1
      have z2 := bd_sixs b1
      have z3 : Bd 32768 (combI minusI (sixs s) (sixs o)) := bd_comb (A := 16384) (B := 16384) z1 z2 (by omega) (by omega) fun x y hx hy => by unfold minusI; omega
      unfold combI
      simp only [sixs_len, tab_len, room, fits, -eq_self]
      refine ⟨by omega, by omega, a1, by omega, by omega, b1, ⟨0, Nat.zero_le _, rfl, rfl, rfl, rfl, rfl, rfl, trivial⟩, fun g hg => ⟨fun hlt => ?_, fun hge => ?_⟩⟩
      · have hlt : g < s.length := by simpa using hlt
        have k1 := bd_get z1 (i := g) (by omega)
        have k2 := bd_get z2 (i := g) (by omega)
        exact ⟨by omega, by omega, by omega, by omega, by omega, by omega, by omega, by omega, by omega, by omega, by omega, by omega, by omega, by omega, by omega, g + 1, hlt, by omega, by simp, rfl, (tab_succ _ _).symm, (tab_succ _ _).symm, rfl, rfl, trivial⟩
      · have hg : g ≤ s.length := hg
        have hge : ¬ g < s.length := by simpa using hge
        have e : g = s.length := by omega
        subst e
        have z4 : Bd 1000000 (tab s.length fun n => minusI (List.getD (sixs s) n 0) (List.getD (sixs o) n 0)) := bd_tab fun i _ => by
          have k1 := bd_get z1 (i := i) (by omega)
          have k2 := bd_get z2 (i := i) (by omega)
          unfold minusI; omega
        refine ⟨⟨0, Nat.zero_le _, rfl, rfl, rfl, rfl, rfl, rfl, rfl, rfl, trivial⟩, fun g hg => ⟨by omega, fun hlt => ?_, fun hge => ?_⟩⟩
        · have hlt : (g : Int) < (s.length : Int) / 4 := by simpa using hlt
          exact ⟨z4, by omega, by omega, c2, by omega, by omega, by omega, by omega, g + 1, show g + 1 ≤ _ by omega, by omega, by simp, rfl, (tab_succ _ _).symm, (tab_succ _ _).symm, rfl, rfl, rfl, rfl, trivial⟩
        · have hg : g ≤ s.length / 4 := hg
          have hge : ¬ (g : Int) < (s.length : Int) / 4 := by simpa using hge
          have e : g = s.length / 4 := by omega
          subst e
          unfold diffN
          rw [tab_len]
          refine ⟨by omega, by omega, by omega, by decide, fun h => ?_, fun h => ?_⟩
          · have h : ¬ partsE (tab s.length (fun n => midI (List.getD (sixs s) n 0) (List.getD (sixs o) n 0)), tab (s.length / 4) (fun c => diffAt 0 (tab s.length fun n => minusI (List.getD (sixs s) n 0) (List.getD (sixs o) n 0)) c line 4), tab (s.length / 4) fun c => diffAt 1 (tab s.length fun n => minusI (List.getD (sixs s) n 0) (List.getD (sixs o) n 0)) c line 4) = 0 := bneZ.1 h
            unfold partsP
            rw [if_neg h]
            exact ⟨rfl, rfl, rfl, rfl, trivial⟩
          · have h : partsE (tab s.length (fun n => midI (List.getD (sixs s) n 0) (List.getD (sixs o) n 0)), tab (s.length / 4) (fun c => diffAt 0 (tab s.length fun n => minusI (List.getD (sixs s) n 0) (List.getD (sixs o) n 0)) c line 4), tab (s.length / 4) fun c => diffAt 1 (tab s.length fun n => minusI (List.getD (sixs s) n 0) (List.getD (sixs o) n 0)) c line 4) = 0 := bneF.1 h
            unfold partsP
            rw [if_pos h]
            exact ⟨rfl, rfl, rfl, h.symm, trivial⟩
theorem so50_ : SpecOk P1 gl1 50 sp50 := by
  intro vs ps r h hp
  simp only [sp50] at h
  split at h
  · cases h; exact fn50 _ _ (hp _ (.head _))
  · cases h
theorem so50 : Sp1 50 sp50 := ⟨so50_, Proofs.Tryz.f50, _, by kernel_rfl, rfl, by kernel_rfl⟩
theorem fn126 (b s a : List Int) (c line : Int) (h1 : Bd 16384 b) (h2 : Bd 16384 s) (h3 : Bd 16384 a) (hb : b.length = s.length) (ha : a.length = s.length) (hc : 0 ≤ c ∧ 4 * c + 4 ≤ (s.length : Int)) (hl : s.length ≤ 100000) (hn : 0 ≤ line) : Fn P1 gl1 126 [.one (.sl (.int .i64) b), .one (.sl (.int .i64) s), .one (.sl (.int .i64) a), iV c, iV line] (.tup [.one (.frs (.int .i64) (withN s c.toNat (diffAt 0 (thrD b s a) c.toNat line 8) (diffAt 1 (thrD b s a) c.toNat line 8) line)), iV (diffAt 0 (thrD b s a) c.toNat line 8), iV (diffAt 1 (thrD b s a) c.toNat line 8)]) true := by
  refine Fn.flat ?_ rfl
  refine fn_of false [(125, sp125), (169, sp169)] [] h50 0 Proofs.Tryz.f126 ⟨so125, so169, trivial⟩ trivial (by kernel_rfl) rfl (by kernel_rfl) rfl rfl rfl ?_
  rw [vc126]
  try simp only [splitB_iff, -eq_self]
  rw [thrD_tab hb]
  simp only [room, fits, tab_len, -eq_self]
  refine ⟨⟨0, Nat.zero_le _, rfl, rfl, rfl, rfl, rfl, rfl, rfl, trivial⟩, fun g hg => ⟨fun hlt => ?_, fun hge => ?_⟩⟩
  · have hlt : g < s.length := by simpa using hlt
    have k1 := bd_get h1 (i := g) (by omega)
    have k2 := bd_get h2 (i := g) (by omega)
    have k3 := bd_get h3 (i := g) (by omega)
    exact ⟨by omega, by omega, by omega, by omega, by omega, by omega, by omega, by omega, g + 1, hlt, by omega, by simp, rfl, rfl, rfl, rfl, rfl, (tab_succ _ _).symm, trivial⟩
  · have hg : g ≤ s.length := hg
    have hge : ¬ g < s.length := by simpa using hge
    have e : g = s.length := by omega
    subst e
    have z : Bd 65536 (tab s.length fun n => 2 * List.getD s n 0 - List.getD b n 0 - List.getD a n 0) := by
      rw [← thrD_tab hb]; exact bd_thrD h1 h2 h3
    have k0 := diffAt_bd (j := 0) (c := c.toNat) (line := line) (den := 8) (by omega) (by omega) z
    have k1 := diffAt_bd (j := 1) (c := c.toNat) (line := line) (den := 8) (by omega) (by omega) z
    exact ⟨bd_le z (by omega), by omega, by omega, hn, by omega, bd_le h2 (by omega), by omega, by omega, by omega, by omega, hn, rfl, rfl, rfl, trivial⟩
theorem so126_ : SpecOk P1 gl1 126 sp126 := by
  intro vs ps r h hp
  simp only [sp126] at h
  split at h
  · cases h; exact fn126 _ _ _ _ _ (hp _ (.head _)) (hp _ (.tail _ (.head _))) (hp _ (.tail _ (.tail _ (.head _)))) (hp _ (.tail _ (.tail _ (.tail _ (.head _))))) (hp _ (.tail _ (.tail _ (.tail _ (.tail _ (.head _)))))) (hp _ (.tail _ (.tail _ (.tail _ (.tail _ (.tail _ (.head _))))))) (hp _ (.tail _ (.tail _ (.tail _ (.tail _ (.tail _ (.tail _ (.head _)))))))) (hp _ (.tail _ (.tail _ (.tail _ (.tail _ (.tail _ (.tail _ (.tail _ (.head _)))))))))
  · cases h
theorem so126 : Sp1 126 sp126 := ⟨so126_, Proofs.Tryz.f126, _, by kernel_rfl, rfl, by kernel_rfl⟩
theorem fn51 (l : Fld) (line : Int) (h : chkLine l line = 0) : Fn P1 gl1 51 [fldV l, iV line] (.tup [pV (errP (threeE l line) (threeL l line)), iV (errE (threeE l line) (threeL l line))]) true := by
  refine fn_ofr false [(100, sp100), (126, sp126), (102, sp102), (22, sp22)] [fb114] h50 3 Proofs.Tryz.f51 ⟨so100, so126, so102, so22, trivial⟩ ⟨⟨by kernel_rfl, by kernel_rfl, _, rfl, by kernel_rfl⟩, trivial⟩ (by kernel_rfl) rfl (by kernel_rfl) rfl rfl rfl ?_
  rw [vc51]
  try simp only [splitB_iff, -eq_self]
  obtain ⟨c1, c2, c3⟩ := chkLine_zero.1 h
  have c0 := (chkFld_zero.1 c1).1
  simp only [bcond_l, -eq_self]
  refine ⟨fun _ => by simp only [fits]; omega, fun k => ?_, fun k => ?_⟩
  · have e : threeE l line = 14 := by
      unfold threeE
      rw [if_pos h, if_neg (by simp only [Bool.or_eq_true, beq_iff_eq] at k; omega)]
    rw [e]
    exact ⟨rfl, rfl, rfl, rfl, trivial⟩
  · have k : ¬ line = 0 ∧ ¬ line = (l.length : Int) - 1 := by simpa using k
    have e : threeE l line = 0 := threeE_zero.2 ⟨c1, by omega, by omega⟩
    unfold errP errE threeL threeI lnI
    rw [if_pos e, if_pos e]
    obtain ⟨a1, a2, a3, a4⟩ := fld_line c1 (i := line.toNat) (by omega)
    obtain ⟨b1, b2, b3, b4⟩ := fld_line c1 (i := (line - 1).toNat) (by omega)
    obtain ⟨d1, d2, d3, d4⟩ := fld_line c1 (i := (line + 1).toNat) (by omega)
    generalize List.getD l (line - 1).toNat [] = o at *
    generalize List.getD l (line + 1).toNat [] = p at *
    generalize List.getD l line.toNat [] = s at *
    have eL : (thrD (sixs o) (sixs s) (sixs p)).length = s.length := by rw [thrD_len, sixs_len]
    rw [apartI_eq (by rw [eL, sixs_len]) (by rw [sixs_len]; exact a3)]
    generalize hD : thrD (sixs o) (sixs s) (sixs p) = D at *
    simp only [tab_len, sixs_len, room, fits, withN, -eq_self]
    refine ⟨by omega, by omega, a1, ⟨0, Nat.zero_le _, rfl, rfl, rfl, rfl, rfl, rfl, rfl, trivial⟩, fun g hg => ⟨by omega, fun hlt => ?_, fun hge => ?_⟩⟩
    · have hlt : (g : Int) < (s.length : Int) / 4 := by simpa using hlt
      exact ⟨by omega, by omega, by omega, b1, by omega, by omega, by omega, d1, bd_sixs b1, bd_sixs a1, bd_sixs d1, by omega, by omega, by omega, by omega, c2, by omega, by omega, by omega, by omega, g + 1, show g + 1 ≤ _ by omega, by omega, by simp, rfl, rfl, with_step _ _ _ _ _, (tab_succ _ _).symm, (tab_succ _ _).symm, rfl, trivial⟩
    · have hg : g ≤ s.length / 4 := hg
      have hge : ¬ (g : Int) < (s.length : Int) / 4 := by simpa using hge
      have e : g = s.length / 4 := by omega
      subst e
      rw [show 4 * (s.length / 4) = s.length by omega]
      unfold diffN
      rw [eL]
      refine ⟨by omega, by omega, by omega, by decide, fun h => ?_, fun h => ?_⟩
      · have h : ¬ partsE (tab s.length (apAt (sixs s) D line 8), tab (s.length / 4) (fun c => diffAt 0 D c line 8), tab (s.length / 4) fun c => diffAt 1 D c line 8) = 0 := bneZ.1 h
        unfold partsP
        rw [if_neg h]
        exact ⟨rfl, rfl, rfl, rfl, trivial⟩
      · have h : partsE (tab s.length (apAt (sixs s) D line 8), tab (s.length / 4) (fun c => diffAt 0 D c line 8), tab (s.length / 4) fun c => diffAt 1 D c line 8) = 0 := bneF.1 h
        unfold partsP
        rw [if_pos h]
        exact ⟨rfl, rfl, rfl, h.symm, trivial⟩
theorem so51_ : SpecOk P1 gl1 51 sp51 := by
  intro vs ps r h hp
  simp only [sp51] at h
  split at h
  · cases h; exact fn51 _ _ (hp _ (.head _))
  · cases h
theorem so51 : Sp1 51 sp51 := ⟨so51_, Proofs.Tryz.f51, _, by kernel_rfl, rfl, by kernel_rfl⟩
end Go.Sx

/- Plain functions of composite: sums by the powers of -i, greatest values. -/
namespace Go.Sx.U
def pw (n : Nat) : Int × Int := List.getD [(1, 0), (0, -1), (-1, 0), (0, 1)] (n % 4) (0, 0)
def quTo (l : List Int) (k : Nat) : Nat → Int × Int
  | 0 => (0, 0)
  | i + 1 => ((quTo l k i).1 + List.getD l i 0 * (pw (k * i)).1, (quTo l k i).2 + List.getD l i 0 * (pw (k * i)).2)
def qu (l : List Int) (k : Nat) : Int × Int := quTo l k l.length
def quSt (l : List Int) (k j : Nat) : List (Int × Int) := tab 4 fun q => if q < k then qu l q else if q = k then quTo l k j else (0, 0)
theorem pw_cases (n : Nat) : pw n = (1, 0) ∨ pw n = (0, -1) ∨ pw n = (-1, 0) ∨ pw n = (0, 1) := by
  unfold pw
  have h : n % 4 < 4 := Nat.mod_lt _ (by decide)
  generalize n % 4 = m at h
  match m, h with
  | 0, _ => exact .inl rfl
  | 1, _ => exact .inr (.inl rfl)
  | 2, _ => exact .inr (.inr (.inl rfl))
  | 3, _ => exact .inr (.inr (.inr rfl))
theorem pw_bd (n : Nat) {x B : Int} (h : -B ≤ x ∧ x ≤ B) : (-B ≤ x * (pw n).1 ∧ x * (pw n).1 ≤ B) ∧ (-B ≤ x * (pw n).2 ∧ x * (pw n).2 ≤ B) := by
  rcases pw_cases n with e | e | e | e <;> rw [e] <;> simp <;> omega
theorem pw_bd' (n : Nat) {x B : Int} (h : -B ≤ x ∧ x ≤ B) : (-B ≤ (pw n).1 * x ∧ (pw n).1 * x ≤ B) ∧ (-B ≤ (pw n).2 * x ∧ (pw n).2 * x ≤ B) := by
  rw [Int.mul_comm, Int.mul_comm (pw n).2]
  exact pw_bd n h
theorem quTo_bd {l : List Int} {B : Int} (h : Bd B l) (hB : 0 ≤ B) (k : Nat) : ∀ i : Nat, (-((i : Int) * B) ≤ (quTo l k i).1 ∧ (quTo l k i).1 ≤ (i : Int) * B) ∧ (-((i : Int) * B) ≤ (quTo l k i).2 ∧ (quTo l k i).2 ≤ (i : Int) * B)
  | 0 => by simp [quTo]
  | i + 1 => by
    have ih := quTo_bd h hB k i
    have hb := pw_bd (k * i) (bd_get h (i := i) hB)
    have e : ((i + 1 : Nat) : Int) * B = (i : Int) * B + B := by
      rw [Int.natCast_add, Int.add_mul]; simp
    rw [e]
    unfold quTo
    generalize (i : Int) * B = m at *
    simp only
    omega
theorem quSt_zero (l : List Int) (k : Nat) : quSt l k 0 = fillTo (0, 0) 4 (qu l) k := by
  unfold quSt fillTo
  refine tab_ext fun q _ => ?_
  by_cases h : q < k
  · rw [if_pos h, if_pos h]
  · rw [if_neg h, if_neg h]
    by_cases h2 : q = k
    · rw [if_pos h2]; rfl
    · rw [if_neg h2]
theorem quSt_get {l : List Int} {k j : Nat} (hk : k < 4) : List.getD (quSt l k j) k (0, 0) = quTo l k j := by
  unfold quSt
  rw [tab_get hk, if_neg (by omega), if_pos rfl]
theorem quSt_set (l : List Int) (k j : Nat) : (quSt l k j).set k (quTo l k (j + 1)) = quSt l k (j + 1) := by
  unfold quSt
  rw [tab_set]
  refine tab_ext fun q _ => ?_
  by_cases h : q = k
  · subst h; rw [if_pos rfl, if_neg (by omega), if_pos rfl]
  · rw [if_neg h]
    by_cases h2 : q < k
    · rw [if_pos h2, if_pos h2]
    · rw [if_neg h2, if_neg h2, if_neg h, if_neg h]
theorem quSt_all (l : List Int) (k : Nat) : quSt l k l.length = fillTo (0, 0) 4 (qu l) (k + 1) := by
  unfold quSt fillTo
  refine tab_ext fun q _ => ?_
  by_cases h : q < k
  · rw [if_pos h, if_pos (by omega)]
  · rw [if_neg h]
    by_cases h2 : q = k
    · subst h2; rw [if_pos rfl, if_pos (by omega)]; rfl
    · rw [if_neg h2, if_neg (by omega)]
theorem quSt_len (l : List Int) (k j : Nat) : (quSt l k j).length = 4 := by unfold quSt; rw [tab_len]
def panI (l : List Int) (c : Nat) : List (Nat × Nat) := tab 4 fun k => (smp (qu (List.take 4 (List.drop (4 * c) l)) k).1, smp (qu (List.take 4 (List.drop (4 * c) l)) k).2)
def panE (l : List Nat) : Int := chkSig l
def panN (l : List Nat) : List (List (Nat × Nat)) := if chkSig l = 0 then tab (l.length / 4) (panI (sixs l)) else []
def maxTo (f : Nat → Int) : Nat → Int
  | 0 => 0
  | i + 1 => max (maxTo f i) (f i)
theorem maxTo_nonneg (f : Nat → Int) : ∀ i, 0 ≤ maxTo f i
  | 0 => Int.le_refl 0
  | i + 1 => by
    have := maxTo_nonneg f i
    unfold maxTo
    omega
theorem maxTo_bd {f : Nat → Int} {B : Int} (hB : 0 ≤ B) : ∀ {i : Nat}, (∀ j, j < i → f j ≤ B) → maxTo f i ≤ B
  | 0, _ => hB
  | i + 1, h => by
    have h1 := maxTo_bd hB (i := i) fun j hj => h j (by omega)
    have h2 := h i (by omega)
    unfold maxTo
    omega
theorem maxTo_zero {f : Nat → Int} (hf : ∀ j, 0 ≤ f j) : ∀ {i : Nat}, maxTo f i = 0 ↔ ∀ j, j < i → f j = 0
  | 0 => by simp [maxTo]
  | i + 1 => by
    have h0 := maxTo_nonneg f i
    have hi := hf i
    unfold maxTo
    constructor
    · intro h j hj
      have h1 : maxTo f i = 0 := by omega
      by_cases e : j = i
      · subst e; omega
      · exact (maxTo_zero hf).1 h1 j (by omega)
    · intro h
      have h1 : maxTo f i = 0 := (maxTo_zero hf).2 fun j hj => h j (by omega)
      have h2 := h i (by omega)
      omega
theorem maxTo_ge {f : Nat → Int} : ∀ {i j : Nat}, j < i → f j ≤ maxTo f i
  | 0, j, h => absurd h (by omega)
  | i + 1, j, h => by
    unfold maxTo
    by_cases e : j = i
    · subst e; omega
    · have := maxTo_ge (f := f) (i := i) (j := j) (by omega)
      omega
theorem farI_nonneg (x y : Int) : 0 ≤ farI x y := by unfold farI; omega
def unAt (l : List Int) (n : Nat) : Int := if n % 4 < 2 then farI (List.getD l n 0) (List.getD l (n + 2) 0) else 0
def unevI (l : List Int) : Int := maxTo (unAt l) l.length
theorem unAt_nonneg (l : List Int) (n : Nat) : 0 ≤ unAt l n := by
  unfold unAt
  split
  · exact farI_nonneg _ _
  · omega
theorem unAt_bd {l : List Int} {B : Int} (h : Bd B l) (hB : 0 ≤ B) (n : Nat) : unAt l n ≤ 2 * B := by
  have h1 := bd_get h (i := n) hB
  have h2 := bd_get h (i := n + 2) hB
  unfold unAt farI
  split <;> omega
theorem unAt_step (l : List Int) (g : Nat) (m : Int) (hm : m = maxTo (unAt l) (4 * g)) :
    max (max (max (max m (List.getD l (4 * g) 0 - List.getD l (4 * g + 2) 0)) (List.getD l (4 * g + 2) 0 - List.getD l (4 * g) 0)) (List.getD l (4 * g + 1) 0 - List.getD l (4 * g + 3) 0)) (List.getD l (4 * g + 3) 0 - List.getD l (4 * g + 1) 0) = maxTo (unAt l) (4 * (g + 1)) := by
  have h0 := maxTo_nonneg (unAt l) (4 * g)
  rw [show 4 * (g + 1) = 4 * g + 1 + 1 + 1 + 1 by omega]
  simp only [maxTo]
  rw [← hm] at *
  have e0 : unAt l (4 * g) = farI (List.getD l (4 * g) 0) (List.getD l (4 * g + 2) 0) := by unfold unAt; rw [if_pos (by omega)]
  have e1 : unAt l (4 * g + 1) = farI (List.getD l (4 * g + 1) 0) (List.getD l (4 * g + 3) 0) := by unfold unAt; rw [if_pos (by omega)]
  have e2 : unAt l (4 * g + 1 + 1) = 0 := by unfold unAt; rw [if_neg (by omega)]
  have e3 : unAt l (4 * g + 1 + 1 + 1) = 0 := by unfold unAt; rw [if_neg (by omega)]
  rw [e0, e1, e2, e3]
  unfold farI
  omega
theorem unevI_bd {l : List Int} (h : Bd 16384 l) : 0 ≤ unevI l ∧ unevI l ≤ 32768 := ⟨maxTo_nonneg _ _, maxTo_bd (by omega) fun j _ => by have := unAt_bd h (by omega) j; omega⟩
def farN (a b : List Int) : Int := maxTo (fun i => farI (List.getD a i 0) (List.getD b i 0)) a.length
theorem farN_bd {a b : List Int} (ha : Bd 16384 a) (hb : Bd 16384 b) : 0 ≤ farN a b ∧ farN a b ≤ 32768 := ⟨maxTo_nonneg _ _, maxTo_bd (by omega) fun j _ => by
  have h1 := bd_get ha (i := j) (by omega)
  have h2 := bd_get hb (i := j) (by omega)
  unfold farI; omega⟩
def mxTo (l : List Int) : Nat → Int
  | 0 => List.getD l 0 0
  | i + 1 => max (mxTo l i) (List.getD l i 0)
theorem mxTo_far (f : Nat → Int) (hf : ∀ j, 0 ≤ f j) (n : Nat) : ∀ i, i ≤ n → 0 < i → mxTo (tab n f ++ [0]) i = maxTo f i
  | 0, _, h => absurd h (by omega)
  | i + 1, hi, _ => by
    have hg : List.getD (tab n f ++ [0]) i 0 = f i := by
      rw [List.getD_eq_getElem?_getD, List.getElem?_append_left (by rw [tab_len]; omega), ← List.getD_eq_getElem?_getD, tab_get (by omega)]
    unfold mxTo maxTo
    rw [hg]
    by_cases h0 : i = 0
    · subst h0
      have hg0 : mxTo (tab n f ++ [0]) 0 = f 0 := hg
      rw [hg0]
      have := hf 0
      unfold maxTo
      omega
    · rw [mxTo_far f hf n i (by omega) (by omega)]
theorem mxTo_comb (a b : List Int) : mxTo (combI farI a b ++ [0]) (combI farI a b ++ [0]).length = farN a b := by
  unfold combI farN
  rw [List.length_append, tab_len]
  show mxTo _ (a.length + 1) = _
  have hl : List.getD (tab a.length (fun i => farI (List.getD a i 0) (List.getD b i 0)) ++ [0]) a.length 0 = 0 := by
    rw [List.getD_eq_getElem?_getD, List.getElem?_append_right (by rw [tab_len]; omega), tab_len]
    simp
  unfold mxTo
  rw [hl]
  by_cases h : a.length = 0
  · rw [h]; simp [mxTo, maxTo, tab]
  · rw [mxTo_far _ (fun j => farI_nonneg _ _) _ _ (Nat.le_refl _) (by omega)]
    have := maxTo_nonneg (fun i => farI (List.getD a i 0) (List.getD b i 0)) a.length
    omega
def difE (y u v y' u' v' : List Nat) : Int :=
  if first [chkPt y u v, chkPt y' u' v'] = 0 then (if y.length = y'.length then (if farN (sixs y) (sixs y') ≤ 16384 ∧ max (farN (sixs u) (sixs u')) (farN (sixs v) (sixs v')) ≤ 16384 then 0 else 4) else 2)
  else first [chkPt y u v, chkPt y' u' v']
def difP (y u v y' u' v' : List Nat) : List Nat := if difE y u v y' u' v' = 0 then [smp (farN (sixs y) (sixs y')), smp (max (farN (sixs u) (sixs u')) (farN (sixs v) (sixs v')))] else [0, 0]
end Go.Sx.U

/- Plain functions and hints. -/
namespace Go.Sx
open U
abbrev panT : Ty := .arr 4 (.cpx .f32)
@[reducible] def gsV (z : Int × Int) : V := .agg [.one (.int .i64 z.1), .one (.int .i64 z.2)]
def ptrId (s : St) (t : Nat) : Option Nat := match lookT s.tm t with
  | some (.val (.one (.ptr id 0))) => some id
  | _ => none
def rowC (s : St) : List Ch → Option (List Int)
  | [.one c] => rowAs (lookO s.ob) (.int .i64) c
  | _ => none
def h33 : Hints := ⟨fun f k s => match f, k with
  | 109, 3 => match listAs s 0 (.int .i64), ptrId s 3 with
    | some l, some b => some ⟨Nat, fun i => ⟨tI 8 i :: keepT [0, 2, 3] s.tm, (b, some (.box [.arr 4 gsT (fillTo (0, 0) 4 (qu l) i)])) :: dropO s [b], s.nx, s.lr⟩, fun i => i ≤ 4, fun i => 4 - i⟩
    | _, _ => none
  | 109, 6 => match listAs s 0 (.int .i64), ptrId s 3, intOfT s 4 with
    | some l, some b, some k => some ⟨Nat, fun j => ⟨tI 13 j :: keepT [0, 2, 3, 4, 8, 11, 12] s.tm, (b, some (.box [.arr 4 gsT (quSt l k.toNat j)])) :: dropO s [b], s.nx, s.lr⟩, fun j => j ≤ List.length l, fun j => List.length l - j⟩
    | _, _, _ => none
  | 167, 1 => match boxS s with
    | [(bo, co), (_, cl)] => match rowC s cl with
      | some l => some ⟨Nat, fun i => ⟨tI 7 i :: keepT [0, 1, 6] s.tm, (bo, some (.box [.one (.own s.nx)])) :: (s.nx, some (.row panT (tab i (panI l)))) :: dropO s ([bo] ++ ownC co), s.nx + 1, s.lr⟩, fun i => i ≤ List.length l / 4, fun i => List.length l / 4 - i⟩
      | none => none
    | _ => none
  | 77, 3 => match listAs s 0 (.int .i64), ptrId s 5, intOfT s 1 with
    | some l, some b, some k => some ⟨Nat, fun j => ⟨tI 6 j :: keepT [0, 1, 4, 5] s.tm, (b, some (.box [.one (.int .i64 (quTo l k.toNat j).1), .one (.int .i64 (quTo l k.toNat j).2)])) :: dropO s [b], s.nx, s.lr⟩, fun j => j ≤ List.length l, fun j => List.length l - j⟩
    | _, _, _ => none
  | _, _ => none, 6⟩
def h128 : Hints := ⟨fun f k s => match f, k with
  | 167, 1 => match boxS s with
    | [_, (bo, _), (_, cl)] => match rowC s cl with
      | some l => some ⟨Nat, fun i => ⟨tI 7 i :: keepT [0, 1, 6] s.tm, (bo, some (.box [.one (.int .i64 (maxTo (unAt l) (4 * i)))])) :: dropO s [bo], s.nx, s.lr⟩, fun i => i ≤ List.length l / 4, fun i => List.length l / 4 - i⟩
      | none => none
    | _ => none
  | 134, 5 => match listAs s 0 (.int .i64) with
    | some l => some ⟨Nat, fun i => s.at [0] [tI 4 i, tI 3 (mxTo l i)], fun i => 1 ≤ i ∧ i ≤ List.length l, fun i => List.length l - i⟩
    | none => none
  | 59, 2 => match boxS s with
    | (_, .one (.sl (.flt .f32) y) :: _) :: _ => some ⟨Nat, fun i => s.at [1] [tI 3 i], fun i => i ≤ List.length y ∧ ∀ j, j < i → unAt (sixs y) j = 0, fun i => List.length y - i⟩
    | _ => none
  | 60, 3 => match listAs s 3 (.int .i64) with
    | some l => some ⟨Nat, fun i => s.at [1, 3] [tI 5 i, tI 4 (maxTo (unAt l) i)], fun i => i ≤ List.length l, fun i => List.length l - i⟩
    | _ => none
  | 132, 3 => match listAs s 5 (.int .i64), listAs s 6 (.int .i64) with
    | some a, some b => some ⟨Nat, fun i => s.at [5, 6] [tI 8 i, tI 7 (maxTo (fun i => farI (List.getD a i 0) (List.getD b i 0)) i)], fun i => i ≤ List.length a, fun i => List.length a - i⟩
    | _, _ => none
  | _, _ => none, 0⟩
end Go.Sx
namespace Go.Sx
open U
def sp109 : FSpec := ⟨fun vs => match vs with
  | [.one (.sl (.int .i64) l)] => some ([List.length l ≤ 1000, Bd 1000000 l], .val (.agg [.arr 4 gsT (tab 4 (qu l))]))
  | _ => none, true⟩
def sp33 : FSpec := ⟨fun vs => match vs with
  | [.one (.sl (.flt .f32) l)] => some ([], .tup [.one (.frs panT (panN l)), iV (chkSig l)])
  | _ => none, true⟩
def sp143 : FSpec := ⟨fun vs => match vs with
  | [.one (.int .i64 k)] => some ([0 ≤ k], .val (gsV (pw k.toNat)))
  | _ => none, true⟩
def sp144 : FSpec := ⟨fun vs => match vs with
  | [.agg [.one (.int .i64 a), .one (.int .i64 b)], .agg [.one (.int .i64 c), .one (.int .i64 d)]] => some ([-4000000000 ≤ a ∧ a ≤ 4000000000, -4000000000 ≤ b ∧ b ≤ 4000000000, -4000000000 ≤ c ∧ c ≤ 4000000000, -4000000000 ≤ d ∧ d ≤ 4000000000], .val (gsV (a + c, b + d)))
  | _ => none, true⟩
def sp77 : FSpec := ⟨fun vs => match vs with
  | [.one (.sl (.int .i64) l), .one (.int .i64 k)] => some ([List.length l ≤ 1000, Bd 1000000 l, 0 ≤ k ∧ k ≤ 3], .val (gsV (qu l k.toNat)))
  | _ => none, true⟩
def sp37 : FSpec := ⟨fun vs => match vs with
  | [.one (.sl (.flt .f32) l), .one (.int .i64 c), .one (.int .i64 k)] => some ([chkSig l = 0, 0 ≤ c ∧ 4 * c + 4 ≤ ((List.length l : Nat) : Int), 0 ≤ k ∧ k ≤ 3], .val (gsV (qu (List.take 4 (List.drop (4 * c.toNat) (sixs l))) k.toNat)))
  | _ => none, true⟩
def sp128 : FSpec := ⟨fun vs => match vs with
  | [.agg [.one (.sl (.flt .f32) y), .one (.sl (.flt .f32) _u), .one (.sl (.flt .f32) _v)]] => some ([chkSig y = 0], .val (iV (unevI (sixs y))))
  | _ => none, true⟩
def sp56 : FSpec := ⟨fun vs => match vs with
  | [.agg [.one (.sl (.flt .f32) y), .one (.sl (.flt .f32) u), .one (.sl (.flt .f32) v)]] => some ([List.length y ≤ 1000000000], .tup [bV (decide (chkPt y u v = 0 ∧ unevI (sixs y) = 0)), iV (chkPt y u v)])
  | _ => none, true⟩
def sp57 : FSpec := ⟨fun vs => match vs with
  | [.agg [.one (.sl (.flt .f32) y), .one (.sl (.flt .f32) u), .one (.sl (.flt .f32) v)]] => some ([List.length y ≤ 1000000000], .tup [fV (if chkPt y u v = 0 then smp ((unevI (sixs y) + 1) / 2) else 0), iV (chkPt y u v)])
  | _ => none, true⟩
def sp134 : FSpec := ⟨fun vs => match vs with
  | [.one (.sl (.int .i64) l)] => some ([0 < List.length l ∧ List.length l ≤ 1000000000], .val (iV (mxTo l (List.length l))))
  | _ => none, true⟩
def sp129 : FSpec := ⟨fun vs => match vs with
  | [.one (.sl (.flt .f32) a), .one (.sl (.flt .f32) b)] => some ([OkS a, OkS b, List.length a ≤ 1000, List.length b = List.length a], .val (iV (farN (sixs a) (sixs b))))
  | _ => none, true⟩
def sp58 : FSpec := ⟨fun vs => match vs with
  | [.agg [.one (.sl (.flt .f32) y), .one (.sl (.flt .f32) u), .one (.sl (.flt .f32) v)], .agg [.one (.sl (.flt .f32) y'), .one (.sl (.flt .f32) u'), .one (.sl (.flt .f32) v')]] => some ([List.length y ≤ 1000000000, List.length y' ≤ 1000000000], .tup [.agg [.arr 2 (.flt .f32) (difP y u v y' u' v')], iV (difE y u v y' u' v')])
  | _ => none, true⟩
def sp59 : FSpec := ⟨fun vs => match vs with
  | [.agg [.one (.sl (.flt .f32) y), .one (.sl (.flt .f32) _u), .one (.sl (.flt .f32) _v)]] => some ([chkSig y = 0], .val (bV (decide (unevI (sixs y) = 0))))
  | _ => none, true⟩
def sp60 : FSpec := ⟨fun vs => match vs with
  | [.agg [.one (.sl (.flt .f32) y), .one (.sl (.flt .f32) _u), .one (.sl (.flt .f32) _v)]] => some ([chkSig y = 0], .val (fV (smp ((unevI (sixs y) + 1) / 2))))
  | _ => none, true⟩
def sp132 : FSpec := ⟨fun vs => match vs with
  | [.one (.sl (.flt .f32) a), .one (.sl (.flt .f32) b)] => some ([OkS a, OkS b, List.length a ≤ 1000, List.length b = List.length a], .val (iV (farN (sixs a) (sixs b))))
  | _ => none, true⟩
def sp61 : FSpec := ⟨fun vs => match vs with
  | [.agg [.one (.sl (.flt .f32) y), .one (.sl (.flt .f32) u), .one (.sl (.flt .f32) v)], .agg [.one (.sl (.flt .f32) y'), .one (.sl (.flt .f32) u'), .one (.sl (.flt .f32) v')]] => some ([chkPt y u v = 0, chkPt y' u' v' = 0], .tup [.agg [.arr 2 (.flt .f32) (difP y u v y' u' v')], iV (difE y u v y' u' v')])
  | _ => none, true⟩
end Go.Sx

/- What the engine asks, written out (printed by a program). -/
namespace Go.Sx
open U
theorem vc109 (l : List Int) : exF (env false [] []) h33 0 109 Proofs.Tryz.f109 [.one (.sl (.int .i64) l)] (.val (.agg [.arr 4 gsT (tab 4 (qu l))])) = (let q1 := ((0 : Int), (0 : Int)); let q2 := (↑(List.length l) : Int); (∃ (g : Nat), Nat.le g (4 : Nat) ∧ (0 : Int) = (↑g : Int) ∧ l = l ∧ List.replicate (4 : Nat) q1 = fillTo q1 (4 : Nat) (qu l) g ∧ List.replicate (4 : Nat) q1 = List.replicate (4 : Nat) q1 ∧ True) ∧ ∀ (g : Nat), let q3 := ((0 : Int) ≤ (↑g : Int) ∧ (↑g : Int) < (4 : Int)); Nat.le g (4 : Nat) → splitB (decide ((↑g : Int) < (4 : Int))) ((∃ (g_1 : Nat), Nat.le g_1 (List.length l) ∧ (0 : Int) = (↑g_1 : Int) ∧ q2 = q2 ∧ l = l ∧ (↑g : Int) = (↑g : Int) ∧ (↑g : Int) = (↑g : Int) ∧ l = l ∧ fillTo q1 (4 : Nat) (qu l) g = quSt l g g_1 ∧ List.replicate (4 : Nat) q1 = List.replicate (4 : Nat) q1 ∧ True) ∧ ∀ (g_1 : Nat), let q0 := (List.getD [((1 : Int), (0 : Int)), ((0 : Int), (-1 : Int)), ((-1 : Int), (0 : Int)), ((0 : Int), (1 : Int))] (Int.toNat ((↑g : Int) * (↑g_1 : Int) % (4 : Int))) q1); let q4 := (List.getD (quSt l g g_1) g q1); Nat.le g_1 (List.length l) → splitB (decide ((↑g_1 : Int) < q2)) (((0 : Int) ≤ (↑g_1 : Int) ∧ (↑g_1 : Int) < q2) ∧ fits IntKind.i64 ((↑g : Int) * (↑g_1 : Int)) ∧ ((0 : Int) ≤ (↑g : Int) * (↑g_1 : Int) ∧ (0 : Int) < (4 : Int)) ∧ ((0 : Int) ≤ (↑g : Int) * (↑g_1 : Int) % (4 : Int) ∧ (↑g : Int) * (↑g_1 : Int) % (4 : Int) < (4 : Int)) ∧ q3 ∧ g < List.length (quSt l g g_1) ∧ fits IntKind.i64 (List.getD l g_1 (0 : Int) * q0.1) ∧ fits IntKind.i64 (q4.1 + List.getD l g_1 (0 : Int) * q0.1) ∧ q3 ∧ g < List.length (quSt l g g_1) ∧ fits IntKind.i64 (List.getD l g_1 (0 : Int) * q0.2) ∧ fits IntKind.i64 (q4.2 + List.getD l g_1 (0 : Int) * q0.2) ∧ q3 ∧ g < List.length (quSt l g g_1) ∧ fits IntKind.i64 ((↑g_1 : Int) + (1 : Int)) ∧ ∃ (g' : Nat), Nat.le g' (List.length l) ∧ List.length l - g' < List.length l - g_1 ∧ (↑g_1 : Int) + (1 : Int) = (↑g' : Int) ∧ q2 = q2 ∧ l = l ∧ (↑g : Int) = (↑g : Int) ∧ (↑g : Int) = (↑g : Int) ∧ l = l ∧ List.set (quSt l g g_1) g (q4.1 + List.getD l g_1 (0 : Int) * q0.1, q4.2 + List.getD l g_1 (0 : Int) * q0.2) = quSt l g g' ∧ List.replicate (4 : Nat) q1 = List.replicate (4 : Nat) q1 ∧ True) (fits IntKind.i64 ((↑g : Int) + (1 : Int)) ∧ ∃ (g' : Nat), Nat.le g' (4 : Nat) ∧ (4 : Nat) - g' < (4 : Nat) - g ∧ (↑g : Int) + (1 : Int) = (↑g' : Int) ∧ l = l ∧ quSt l g g_1 = fillTo q1 (4 : Nat) (qu l) g' ∧ List.replicate (4 : Nat) q1 = List.replicate (4 : Nat) q1 ∧ True)) (fillTo q1 (4 : Nat) (qu l) g = tab (4 : Nat) (qu l) ∧ True)) := by
  kernel_rfl
theorem vc33 (l : List Nat) : exF (env false [(41, sp41), (108, sp108), (109, sp109), (110, sp110)] [fb107, fb167]) h33 3 33 Proofs.Tryz.f33 [.one (.sl (.flt .f32) l)] (.tup [.one (.frs panT (panN l)), iV (chkSig l)]) = (let q1 := ((0 : Int), (0 : Int)); let q3 := (↑(List.length (sixs l)) : Int); let q8 := (-8388608 : Int); let q9 := (8388608 : Int); let q10 := (List.length (sixs l) / (4 : Nat)); let q13 := (panI (sixs l)); let q14 := ((0 : Int) ≤ (0 : Int) ∧ (0 : Int) < (4 : Int)); let q15 := ((0 : Int) ≤ (1 : Int) ∧ (1 : Int) < (4 : Int)); let q16 := ((0 : Int) ≤ (2 : Int) ∧ (2 : Int) < (4 : Int)); let q17 := ((0 : Int) ≤ (3 : Int) ∧ (3 : Int) < (4 : Int)); splitB (chkSig l != (0 : Int)) (panN l = [] ∧ chkSig l = chkSig l ∧ True) (List.length l ≤ (1000000 : Nat) ∧ OkS l ∧ ((0 : Int) ≤ q3 ∧ (0 : Int) < (4 : Int) ∧ fits IntKind.i64 (q3 / (4 : Int))) ∧ (∃ (g : Nat), Nat.le g q10 ∧ (0 : Int) = (↑g : Int) ∧ q3 / (4 : Int) = q3 / (4 : Int) ∧ tab g q13 = [] ∧ sixs l = sixs l ∧ True) ∧ ∀ (g : Nat), let q11 := ((4 : Int) * (↑g : Int)); let q2 := (List.take (4 : Nat) (List.drop (Int.toNat q11) (sixs l))); let q12 := (List.take (4 : Nat) q2); let q0 := (tab (4 : Nat) (qu q12)); let q4 := (List.getD q0 (0 : Nat) q1); let q5 := (List.getD q0 (1 : Nat) q1); let q6 := (List.getD q0 (2 : Nat) q1); let q7 := (List.getD q0 (3 : Nat) q1); Nat.le g q10 → splitB (decide ((↑g : Int) < q3 / (4 : Int))) (fits IntKind.i64 q11 ∧ fits IntKind.i64 q11 ∧ fits IntKind.i64 ((4 : Int) * (↑g : Int) + (4 : Int)) ∧ ((0 : Int) ≤ (4 : Int) * (↑g : Int) ∧ (4 : Int) * (↑g : Int) ≤ (4 : Int) * (↑g : Int) + (4 : Int) ∧ (4 : Int) * (↑g : Int) + (4 : Int) ≤ q3) ∧ (4 : Nat) ≤ Int.toNat ((4 : Int) * (↑g : Int) + (4 : Int)) - Int.toNat q11 ∧ List.length q2 = (4 : Nat) ∧ ((0 : Int) ≤ (0 : Int) ∧ (0 : Int) ≤ (4 : Int) ∧ (4 : Int) ≤ (4 : Int)) ∧ List.length q12 = (4 : Nat) ∧ List.length q12 ≤ (1000 : Nat) ∧ Bd (1000000 : Int) q12 ∧ q14 ∧ (q8 ≤ q4.1 ∧ q4.1 ≤ q9) ∧ (q8 ≤ q4.2 ∧ q4.2 ≤ q9) ∧ q14 ∧ (0 : Nat) < (4 : Nat) ∧ fits IntKind.i64 (1 : Int) ∧ q15 ∧ (q8 ≤ q5.1 ∧ q5.1 ≤ q9) ∧ (q8 ≤ q5.2 ∧ q5.2 ≤ q9) ∧ q15 ∧ (1 : Nat) < (4 : Nat) ∧ fits IntKind.i64 (2 : Int) ∧ q16 ∧ (q8 ≤ q6.1 ∧ q6.1 ≤ q9) ∧ (q8 ≤ q6.2 ∧ q6.2 ≤ q9) ∧ q16 ∧ (2 : Nat) < (4 : Nat) ∧ fits IntKind.i64 (3 : Int) ∧ q17 ∧ (q8 ≤ q7.1 ∧ q7.1 ≤ q9) ∧ (q8 ≤ q7.2 ∧ q7.2 ≤ q9) ∧ q17 ∧ (3 : Nat) < (4 : Nat) ∧ fits IntKind.i64 (4 : Int) ∧ room (List.length (tab g q13) + (1 : Nat)) (32 : Nat) ∧ fits IntKind.i64 ((↑g : Int) + (1 : Int)) ∧ ∃ (g' : Nat), Nat.le g' q10 ∧ List.length (sixs l) / (4 : Nat) - g' < List.length (sixs l) / (4 : Nat) - g ∧ (↑g : Int) + (1 : Int) = (↑g' : Int) ∧ q3 / (4 : Int) = q3 / (4 : Int) ∧ tab g q13 ++ [[(smp q4.1, smp q4.2), (smp q5.1, smp q5.2), (smp q6.1, smp q6.2), (smp q7.1, smp q7.2)]] = tab g' q13 ∧ sixs l = sixs l ∧ True) (tab g q13 = panN l ∧ (0 : Int) = chkSig l ∧ True))) := by
  kernel_rfl
theorem vc143 (k : Int) : exF (env false [] []) h0 0 143 Proofs.Tryz.f143 [iV k] (.val (gsV (pw k.toNat))) = (let q0 := (pw (Int.toNat k)); ((0 : Int) ≤ k ∧ (0 : Int) < (4 : Int)) ∧ splitB (k % (4 : Int) == (1 : Int)) ((0 : Int) = q0.1 ∧ (-1 : Int) = q0.2 ∧ True) (splitB (k % (4 : Int) == (2 : Int)) ((-1 : Int) = q0.1 ∧ (0 : Int) = q0.2 ∧ True) (splitB (k % (4 : Int) == (3 : Int)) ((0 : Int) = q0.1 ∧ (1 : Int) = q0.2 ∧ True) ((1 : Int) = q0.1 ∧ (0 : Int) = q0.2 ∧ True)))) := by
  kernel_rfl
theorem vc144 (a b c d : Int) : exF (env false [] []) h0 0 144 Proofs.Tryz.f144 [gsV (a, b), gsV (c, d)] (.val (gsV (a + c, b + d))) = (fits IntKind.i64 (a + c) ∧ fits IntKind.i64 (b + d) ∧ a + c = a + c ∧ b + d = b + d ∧ True) := by
  kernel_rfl
theorem vc77 (l : List Int) (k : Int) : exF (env false [(143, sp143), (144, sp144)] []) h33 0 77 Proofs.Tryz.f77 [.one (.sl (.int .i64) l), iV k] (.val (gsV (qu l k.toNat))) = (let q3 := (-4000000000 : Int); let q4 := (List.length l); let q5 := (4000000000 : Int); (∃ (g : Nat), Nat.le g q4 ∧ (0 : Int) = (↑g : Int) ∧ l = l ∧ k = k ∧ (0 : Int) = (quTo l (Int.toNat k) g).1 ∧ (0 : Int) = (quTo l (Int.toNat k) g).2 ∧ (0 : Int) = (0 : Int) ∧ (0 : Int) = (0 : Int) ∧ True) ∧ ∀ (g : Nat), let q0 := (pw (Int.toNat (k * (↑g : Int)))); let q1 := (quTo l (Int.toNat k) g); let q2 := ((0 : Int) ≤ (↑g : Int) ∧ (↑g : Int) < (↑q4 : Int)); Nat.le g q4 → splitB (decide ((↑g : Int) < (↑q4 : Int))) (fits IntKind.i64 (k * (↑g : Int)) ∧ (0 : Int) ≤ k * (↑g : Int) ∧ q2 ∧ fits IntKind.i64 (q0.1 * List.getD l g (0 : Int)) ∧ q2 ∧ fits IntKind.i64 (q0.2 * List.getD l g (0 : Int)) ∧ (q3 ≤ q1.1 ∧ q1.1 ≤ q5) ∧ (q3 ≤ q1.2 ∧ q1.2 ≤ q5) ∧ (q3 ≤ q0.1 * List.getD l g (0 : Int) ∧ q0.1 * List.getD l g (0 : Int) ≤ q5) ∧ (q3 ≤ q0.2 * List.getD l g (0 : Int) ∧ q0.2 * List.getD l g (0 : Int) ≤ q5) ∧ fits IntKind.i64 ((↑g : Int) + (1 : Int)) ∧ ∃ (g' : Nat), Nat.le g' q4 ∧ List.length l - g' < List.length l - g ∧ (↑g : Int) + (1 : Int) = (↑g' : Int) ∧ l = l ∧ k = k ∧ q1.1 + q0.1 * List.getD l g (0 : Int) = (quTo l (Int.toNat k) g').1 ∧ q1.2 + q0.2 * List.getD l g (0 : Int) = (quTo l (Int.toNat k) g').2 ∧ (0 : Int) = (0 : Int) ∧ (0 : Int) = (0 : Int) ∧ True) (q1.1 = (qu l (Int.toNat k)).1 ∧ q1.2 = (qu l (Int.toNat k)).2 ∧ True)) := by
  kernel_rfl
theorem vc37 (l : List Nat) (c k : Int) : exF (env false [(100, sp100), (77, sp77)] []) h0 0 37 Proofs.Tryz.f37 [.one (.sl (.flt .f32) l), iV c, iV k] (.val (gsV (qu (List.take 4 (List.drop (4 * c.toNat) (sixs l))) k.toNat))) = (fits IntKind.i64 ((4 : Int) * c) ∧ fits IntKind.i64 ((4 : Int) * c) ∧ fits IntKind.i64 ((4 : Int) * c + (4 : Int)) ∧ ((0 : Int) ≤ (4 : Int) * c ∧ (4 : Int) * c ≤ (4 : Int) * c + (4 : Int) ∧ (4 : Int) * c + (4 : Int) ≤ (↑(List.length l) : Int)) ∧ List.length (List.take (Int.toNat ((4 : Int) * c + (4 : Int)) - Int.toNat ((4 : Int) * c)) (List.drop (Int.toNat ((4 : Int) * c)) l)) ≤ (1000000 : Nat) ∧ OkS (List.take (Int.toNat ((4 : Int) * c + (4 : Int)) - Int.toNat ((4 : Int) * c)) (List.drop (Int.toNat ((4 : Int) * c)) l)) ∧ List.length (sixs (List.take (Int.toNat ((4 : Int) * c + (4 : Int)) - Int.toNat ((4 : Int) * c)) (List.drop (Int.toNat ((4 : Int) * c)) l))) ≤ (1000 : Nat) ∧ Bd (1000000 : Int) (sixs (List.take (Int.toNat ((4 : Int) * c + (4 : Int)) - Int.toNat ((4 : Int) * c)) (List.drop (Int.toNat ((4 : Int) * c)) l))) ∧ ((0 : Int) ≤ k ∧ k ≤ (3 : Int)) ∧ Prod.fst (qu (sixs (List.take (Int.toNat ((4 : Int) * c + (4 : Int)) - Int.toNat ((4 : Int) * c)) (List.drop (Int.toNat ((4 : Int) * c)) l))) (Int.toNat k)) = Prod.fst (qu (List.take (4 : Nat) (List.drop ((4 : Nat) * Int.toNat c) (sixs l))) (Int.toNat k)) ∧ Prod.snd (qu (sixs (List.take (Int.toNat ((4 : Int) * c + (4 : Int)) - Int.toNat ((4 : Int) * c)) (List.drop (Int.toNat ((4 : Int) * c)) l))) (Int.toNat k)) = Prod.snd (qu (List.take (4 : Nat) (List.drop ((4 : Nat) * Int.toNat c) (sixs l))) (Int.toNat k)) ∧ True) := by
  kernel_rfl
theorem vc128 (y u v : List Nat) : exF (env false [(108, sp108)] [fb107, fb167]) h128 3 128 Proofs.Tryz.f128 [ptV y u v] (.val (iV (unevI (sixs y)))) = (let q1 := (↑(List.length (sixs y)) : Int); let q2 := (List.length (sixs y) / (4 : Nat)); let q4 := ((0 : Int) ≤ (0 : Int) ∧ (0 : Int) < (4 : Int)); let q5 := ((0 : Int) ≤ (2 : Int) ∧ (2 : Int) < (4 : Int)); let q6 := ((0 : Int) ≤ (1 : Int) ∧ (1 : Int) < (4 : Int)); let q7 := ((0 : Int) ≤ (3 : Int) ∧ (3 : Int) < (4 : Int)); List.length y ≤ (1000000 : Nat) ∧ OkS y ∧ ((0 : Int) ≤ q1 ∧ (0 : Int) < (4 : Int) ∧ fits IntKind.i64 (q1 / (4 : Int))) ∧ (∃ (g : Nat), Nat.le g q2 ∧ (0 : Int) = (↑g : Int) ∧ q1 / (4 : Int) = q1 / (4 : Int) ∧ (0 : Int) = maxTo (unAt (sixs y)) ((4 : Nat) * g) ∧ sixs y = sixs y ∧ y = y ∧ u = u ∧ v = v ∧ True) ∧ ∀ (g : Nat), let q3 := ((4 : Int) * (↑g : Int)); let q0 := (List.take (4 : Nat) (List.drop (Int.toNat q3) (sixs y))); Nat.le g q2 → splitB (decide ((↑g : Int) < q1 / (4 : Int))) (fits IntKind.i64 q3 ∧ fits IntKind.i64 q3 ∧ fits IntKind.i64 ((4 : Int) * (↑g : Int) + (4 : Int)) ∧ ((0 : Int) ≤ (4 : Int) * (↑g : Int) ∧ (4 : Int) * (↑g : Int) ≤ (4 : Int) * (↑g : Int) + (4 : Int) ∧ (4 : Int) * (↑g : Int) + (4 : Int) ≤ q1) ∧ (4 : Nat) ≤ Int.toNat ((4 : Int) * (↑g : Int) + (4 : Int)) - Int.toNat q3 ∧ List.length q0 = (4 : Nat) ∧ q4 ∧ (0 : Nat) < List.length q0 ∧ q5 ∧ (2 : Nat) < List.length q0 ∧ fits IntKind.i64 (List.getD q0 (0 : Nat) (0 : Int) - List.getD q0 (2 : Nat) (0 : Int)) ∧ q5 ∧ (2 : Nat) < List.length q0 ∧ q4 ∧ (0 : Nat) < List.length q0 ∧ fits IntKind.i64 (List.getD q0 (2 : Nat) (0 : Int) - List.getD q0 (0 : Nat) (0 : Int)) ∧ q6 ∧ (1 : Nat) < List.length q0 ∧ q7 ∧ (3 : Nat) < List.length q0 ∧ fits IntKind.i64 (List.getD q0 (1 : Nat) (0 : Int) - List.getD q0 (3 : Nat) (0 : Int)) ∧ q7 ∧ (3 : Nat) < List.length q0 ∧ q6 ∧ (1 : Nat) < List.length q0 ∧ fits IntKind.i64 (List.getD q0 (3 : Nat) (0 : Int) - List.getD q0 (1 : Nat) (0 : Int)) ∧ fits IntKind.i64 ((↑g : Int) + (1 : Int)) ∧ ∃ (g' : Nat), Nat.le g' q2 ∧ List.length (sixs y) / (4 : Nat) - g' < List.length (sixs y) / (4 : Nat) - g ∧ (↑g : Int) + (1 : Int) = (↑g' : Int) ∧ q1 / (4 : Int) = q1 / (4 : Int) ∧ List.foldl max (maxTo (unAt (sixs y)) ((4 : Nat) * g)) [List.getD q0 (0 : Nat) (0 : Int) - List.getD q0 (2 : Nat) (0 : Int), List.getD q0 (2 : Nat) (0 : Int) - List.getD q0 (0 : Nat) (0 : Int), List.getD q0 (1 : Nat) (0 : Int) - List.getD q0 (3 : Nat) (0 : Int), List.getD q0 (3 : Nat) (0 : Int) - List.getD q0 (1 : Nat) (0 : Int)] = maxTo (unAt (sixs y)) ((4 : Nat) * g') ∧ sixs y = sixs y ∧ y = y ∧ u = u ∧ v = v ∧ True) (maxTo (unAt (sixs y)) ((4 : Nat) * g) = unevI (sixs y) ∧ True)) := by
  kernel_rfl
theorem vc56 (y u v : List Nat) : exF (env false [(26, sp26), (128, sp128)] []) h0 0 56 Proofs.Tryz.f56 [ptV y u v] (.tup [bV (decide (chkPt y u v = 0 ∧ unevI (sixs y) = 0)), iV (chkPt y u v)]) = (List.length y ≤ (1000000000 : Nat) ∧ splitB (chkPt y u v != (0 : Int)) (false = decide (chkPt y u v = (0 : Int) ∧ unevI (sixs y) = (0 : Int)) ∧ chkPt y u v = chkPt y u v ∧ True) (chkSig y = (0 : Int) ∧ (unevI (sixs y) == (0 : Int)) = decide (chkPt y u v = (0 : Int) ∧ unevI (sixs y) = (0 : Int)) ∧ (0 : Int) = chkPt y u v ∧ True)) := by
  kernel_rfl
theorem vc57 (y u v : List Nat) : exF (env false [(26, sp26), (128, sp128), (110, sp110)] []) h0 0 57 Proofs.Tryz.f57 [ptV y u v] (.tup [fV (if chkPt y u v = 0 then smp ((unevI (sixs y) + 1) / 2) else 0), iV (chkPt y u v)]) = (let q0 := (unevI (sixs y) + (1 : Int)); List.length y ≤ (1000000000 : Nat) ∧ splitB (chkPt y u v != (0 : Int)) (((0 : Nat) = if chkPt y u v = (0 : Int) then smp (q0 / (2 : Int)) else (0 : Nat)) ∧ chkPt y u v = chkPt y u v ∧ True) (chkSig y = (0 : Int) ∧ fits IntKind.i64 q0 ∧ ((0 : Int) ≤ unevI (sixs y) + (1 : Int) ∧ (0 : Int) < (2 : Int) ∧ fits IntKind.i64 (q0 / (2 : Int))) ∧ ((-8388608 : Int) ≤ q0 / (2 : Int) ∧ q0 / (2 : Int) ≤ (8388608 : Int)) ∧ (smp (q0 / (2 : Int)) = if chkPt y u v = (0 : Int) then smp (q0 / (2 : Int)) else (0 : Nat)) ∧ (0 : Int) = chkPt y u v ∧ True)) := by
  kernel_rfl
theorem vc134 (l : List Int) : exF (env false [] []) h128 0 134 Proofs.Tryz.f134 [.one (.sl (.int .i64) l)] (.val (iV (mxTo l l.length))) = (let q0 := (↑(List.length l) : Int); splitB (decide (q0 < (1 : Int))) False (((0 : Int) ≤ (0 : Int) ∧ (0 : Int) < q0) ∧ (∃ (g : Nat), ((1 : Nat) ≤ g ∧ g ≤ List.length l) ∧ (1 : Int) = (↑g : Int) ∧ List.getD l (0 : Nat) (0 : Int) = mxTo l g ∧ l = l ∧ True) ∧ ∀ (g : Nat), (1 : Nat) ≤ g ∧ g ≤ List.length l → splitB (decide ((↑g : Int) < q0)) (((0 : Int) ≤ (↑g : Int) ∧ (↑g : Int) < q0) ∧ fits IntKind.i64 ((↑g : Int) + (1 : Int)) ∧ ∃ (g' : Nat), ((1 : Nat) ≤ g' ∧ g' ≤ List.length l) ∧ List.length l - g' < List.length l - g ∧ (↑g : Int) + (1 : Int) = (↑g' : Int) ∧ max (mxTo l g) (List.getD l g (0 : Int)) = mxTo l g' ∧ l = l ∧ True) (mxTo l g = mxTo l (List.length l) ∧ True))) := by
  kernel_rfl
theorem vc129 (a b : List Nat) : exF (env false [(108, sp108), (117, sp117), (173, sp173), (134, sp134)] []) h0 0 129 Proofs.Tryz.f129 [.one (.sl (.flt .f32) a), .one (.sl (.flt .f32) b)] (.val (iV (farN (sixs a) (sixs b)))) = (List.length a ≤ (1000000 : Nat) ∧ OkS a ∧ List.length b ≤ (1000000 : Nat) ∧ OkS b ∧ List.length (sixs a) ≤ (100000 : Nat) ∧ List.length (sixs b) = List.length (sixs a) ∧ Bd (1000000 : Int) (sixs a) ∧ Bd (1000000 : Int) (sixs b) ∧ room (List.length (combI farI (sixs a) (sixs b)) + (1 : Nat)) (8 : Nat) ∧ ((0 : Nat) < List.length (combI farI (sixs a) (sixs b) ++ [(0 : Int)]) ∧ List.length (combI farI (sixs a) (sixs b) ++ [(0 : Int)]) ≤ (1000000000 : Nat)) ∧ mxTo (combI farI (sixs a) (sixs b) ++ [(0 : Int)]) (List.length (combI farI (sixs a) (sixs b) ++ [(0 : Int)])) = farN (sixs a) (sixs b) ∧ True) := by
  kernel_rfl
theorem vc58 (y u v y' u' v' : List Nat) : exF (env false [(26, sp26), (95, sp95), (103, sp103), (129, sp129), (130, sp130), (110, sp110)] []) h0 0 58 Proofs.Tryz.f58 [ptV y u v, ptV y' u' v'] (.tup [.agg [.arr 2 (.flt .f32) (difP y u v y' u' v')], iV (difE y u v y' u' v')]) = (let q0 := (farN (sixs u) (sixs u')); let q1 := (farN (sixs v) (sixs v')); List.length y ≤ (1000000000 : Nat) ∧ List.length y' ≤ (1000000000 : Nat) ∧ (2 : Nat) ≤ (1000000000 : Nat) ∧ splitB (first [chkPt y u v, chkPt y' u' v'] != (0 : Int)) (List.replicate (2 : Nat) (0 : Nat) = difP y u v y' u' v' ∧ first [chkPt y u v, chkPt y' u' v'] = difE y u v y' u' v' ∧ True) (splitB ((↑(List.length y) : Int) != (↑(List.length y') : Int)) (List.replicate (2 : Nat) (0 : Nat) = difP y u v y' u' v' ∧ (2 : Int) = difE y u v y' u' v' ∧ True) (OkS y ∧ OkS y' ∧ List.length y ≤ (1000 : Nat) ∧ List.length y' = List.length y ∧ OkS u ∧ OkS u' ∧ List.length u ≤ (1000 : Nat) ∧ List.length u' = List.length u ∧ OkS v ∧ OkS v' ∧ List.length v ≤ (1000 : Nat) ∧ List.length v' = List.length v ∧ splitB (bif lgI (farN (sixs y) (sixs y')) then true else lgI (max q0 q1)) (List.replicate (2 : Nat) (0 : Nat) = difP y u v y' u' v' ∧ (4 : Int) = difE y u v y' u' v' ∧ True) (((-8388608 : Int) ≤ farN (sixs y) (sixs y') ∧ farN (sixs y) (sixs y') ≤ (8388608 : Int)) ∧ ((-8388608 : Int) ≤ max q0 q1 ∧ max q0 q1 ≤ (8388608 : Int)) ∧ [smp (farN (sixs y) (sixs y')), smp (max q0 q1)] = difP y u v y' u' v' ∧ (0 : Int) = difE y u v y' u' v' ∧ True)))) := by
  kernel_rfl
theorem vc59 (y u v : List Nat) : exF (env false [] []) h128 0 59 Proofs.Tryz.f59 [ptV y u v] (.val (bV (decide (unevI (sixs y) = 0)))) = ((∃ (g : Nat), (g ≤ List.length y ∧ ∀ (j : Nat), j < g → unAt (sixs y) j = (0 : Int)) ∧ (0 : Int) = (↑g : Int) ∧ y = y ∧ u = u ∧ v = v ∧ True) ∧ ∀ (g : Nat), let q0 := ((↑g : Int) % (4 : Int) < (2 : Int)); (g ≤ List.length y ∧ ∀ (j : Nat), j < g → unAt (sixs y) j = (0 : Int)) → splitB (decide ((↑g : Int) < (↑(List.length y) : Int))) (((0 : Int) ≤ (↑g : Int) ∧ (0 : Int) < (4 : Int)) ∧ (decide q0 = true → (0 : Int) ≤ (↑g : Int) ∧ (↑g : Int) < (↑(List.length y) : Int)) ∧ (decide q0 = true → fits IntKind.i64 ((↑g : Int) + (2 : Int))) ∧ (decide q0 = true → (0 : Int) ≤ (↑g : Int) + (2 : Int) ∧ (↑g : Int) + (2 : Int) < (↑(List.length y) : Int)) ∧ splitB (bif decide q0 then Ieee.Format.order (FloatKind.format FloatKind.f32) (List.getD y g (0 : Nat)) (List.getD y (Int.toNat ((↑g : Int) + (2 : Int))) (0 : Nat)) != some Ordering.eq else false) (false = decide (unevI (sixs y) = (0 : Int)) ∧ True) (fits IntKind.i64 ((↑g : Int) + (1 : Int)) ∧ ∃ (g' : Nat), (g' ≤ List.length y ∧ ∀ (j : Nat), j < g' → unAt (sixs y) j = (0 : Int)) ∧ List.length y - g' < List.length y - g ∧ (↑g : Int) + (1 : Int) = (↑g' : Int) ∧ y = y ∧ u = u ∧ v = v ∧ True)) (true = decide (unevI (sixs y) = (0 : Int)) ∧ True)) := by
  kernel_rfl
theorem vc60 (y u v : List Nat) : exF (env false [(100, sp100), (131, sp131)] []) h128 0 60 Proofs.Tryz.f60 [ptV y u v] (.val (fV (smp ((unevI (sixs y) + 1) / 2)))) = (let q0 := (List.length (sixs y)); let q4 := (unAt (sixs y)); List.length y ≤ (1000000 : Nat) ∧ OkS y ∧ (∃ (g : Nat), Nat.le g q0 ∧ (0 : Int) = (↑g : Int) ∧ (0 : Int) = maxTo q4 g ∧ sixs y = sixs y ∧ y = y ∧ u = u ∧ v = v ∧ True) ∧ ∀ (g : Nat), let q1 := ((↑g : Int) + (2 : Int)); let q2 := (maxTo q4 g + (1 : Int)); let q3 := ((0 : Int) ≤ (↑g : Int) + (2 : Int) ∧ (↑g : Int) + (2 : Int) < (↑q0 : Int)); let q5 := ((0 : Int) ≤ (↑g : Int) ∧ (↑g : Int) < (↑q0 : Int)); Nat.le g q0 → splitB (decide ((↑g : Int) < (↑q0 : Int))) (((0 : Int) ≤ (↑g : Int) ∧ (0 : Int) < (4 : Int)) ∧ splitB (decide ((↑g : Int) % (4 : Int) < (2 : Int))) (q5 ∧ g < List.length (sixs y) ∧ fits IntKind.i64 q1 ∧ q3 ∧ Int.toNat q1 < List.length (sixs y) ∧ fits IntKind.i64 (List.getD (sixs y) g (0 : Int) - List.getD (sixs y) (Int.toNat q1) (0 : Int)) ∧ fits IntKind.i64 q1 ∧ q3 ∧ Int.toNat q1 < List.length (sixs y) ∧ q5 ∧ g < List.length (sixs y) ∧ fits IntKind.i64 (List.getD (sixs y) (Int.toNat q1) (0 : Int) - List.getD (sixs y) g (0 : Int)) ∧ fits IntKind.i64 ((↑g : Int) + (1 : Int)) ∧ ∃ (g' : Nat), Nat.le g' q0 ∧ List.length (sixs y) - g' < List.length (sixs y) - g ∧ (↑g : Int) + (1 : Int) = (↑g' : Int) ∧ List.foldl max (maxTo q4 g) [List.getD (sixs y) g (0 : Int) - List.getD (sixs y) (Int.toNat q1) (0 : Int), List.getD (sixs y) (Int.toNat q1) (0 : Int) - List.getD (sixs y) g (0 : Int)] = maxTo q4 g' ∧ sixs y = sixs y ∧ y = y ∧ u = u ∧ v = v ∧ True) (fits IntKind.i64 ((↑g : Int) + (1 : Int)) ∧ ∃ (g' : Nat), Nat.le g' q0 ∧ List.length (sixs y) - g' < List.length (sixs y) - g ∧ (↑g : Int) + (1 : Int) = (↑g' : Int) ∧ maxTo q4 g = maxTo q4 g' ∧ sixs y = sixs y ∧ y = y ∧ u = u ∧ v = v ∧ True)) (fits IntKind.i64 q2 ∧ ((0 : Int) ≤ maxTo q4 g + (1 : Int) ∧ (0 : Int) < (2 : Int) ∧ fits IntKind.i64 (q2 / (2 : Int))) ∧ ((-8388608 : Int) ≤ q2 / (2 : Int) ∧ q2 / (2 : Int) ≤ (8388608 : Int)) ∧ smp (q2 / (2 : Int)) = smp ((unevI (sixs y) + (1 : Int)) / (2 : Int)) ∧ True)) := by
  kernel_rfl
theorem vc132 (a b : List Nat) : exF (env false [(100, sp100)] []) h128 0 132 Proofs.Tryz.f132 [.one (.sl (.flt .f32) a), .one (.sl (.flt .f32) b)] (.val (iV (farN (sixs a) (sixs b)))) = (let q0 := (List.length (sixs a)); List.length a ≤ (1000000 : Nat) ∧ OkS a ∧ List.length b ≤ (1000000 : Nat) ∧ OkS b ∧ (∃ (g : Nat), Nat.le g q0 ∧ (0 : Int) = (↑g : Int) ∧ (0 : Int) = maxTo (fun (i : Nat) => farI (List.getD (sixs a) i (0 : Int)) (List.getD (sixs b) i (0 : Int))) g ∧ sixs b = sixs b ∧ sixs a = sixs a ∧ True) ∧ ∀ (g : Nat), let q1 := ((0 : Int) ≤ (↑g : Int) ∧ (↑g : Int) < (↑(List.length (sixs b)) : Int)); let q2 := ((0 : Int) ≤ (↑g : Int) ∧ (↑g : Int) < (↑q0 : Int)); Nat.le g q0 → splitB (decide ((↑g : Int) < (↑q0 : Int))) (q2 ∧ g < List.length (sixs a) ∧ q1 ∧ g < List.length (sixs b) ∧ fits IntKind.i64 (List.getD (sixs a) g (0 : Int) - List.getD (sixs b) g (0 : Int)) ∧ q1 ∧ g < List.length (sixs b) ∧ q2 ∧ g < List.length (sixs a) ∧ fits IntKind.i64 (List.getD (sixs b) g (0 : Int) - List.getD (sixs a) g (0 : Int)) ∧ fits IntKind.i64 ((↑g : Int) + (1 : Int)) ∧ ∃ (g' : Nat), Nat.le g' q0 ∧ List.length (sixs a) - g' < List.length (sixs a) - g ∧ (↑g : Int) + (1 : Int) = (↑g' : Int) ∧ List.foldl max (maxTo (fun (i : Nat) => farI (List.getD (sixs a) i (0 : Int)) (List.getD (sixs b) i (0 : Int))) g) [List.getD (sixs a) g (0 : Int) - List.getD (sixs b) g (0 : Int), List.getD (sixs b) g (0 : Int) - List.getD (sixs a) g (0 : Int)] = maxTo (fun (i : Nat) => farI (List.getD (sixs a) i (0 : Int)) (List.getD (sixs b) i (0 : Int))) g' ∧ sixs b = sixs b ∧ sixs a = sixs a ∧ True) (maxTo (fun (i : Nat) => farI (List.getD (sixs a) i (0 : Int)) (List.getD (sixs b) i (0 : Int))) g = farN (sixs a) (sixs b) ∧ True)) := by
  kernel_rfl
theorem vc61 (y u v y' u' v' : List Nat) : exF (env false [(132, sp132), (131, sp131)] []) h0 0 61 Proofs.Tryz.f61 [ptV y u v, ptV y' u' v'] (.tup [.agg [.arr 2 (.flt .f32) (difP y u v y' u' v')], iV (difE y u v y' u' v')]) = (let q0 := (farN (sixs u) (sixs u')); let q1 := (farN (sixs v) (sixs v')); splitB ((↑(List.length y) : Int) != (↑(List.length y') : Int)) (List.replicate (2 : Nat) (0 : Nat) = difP y u v y' u' v' ∧ (2 : Int) = difE y u v y' u' v' ∧ True) (OkS y ∧ OkS y' ∧ List.length y ≤ (1000 : Nat) ∧ List.length y' = List.length y ∧ OkS u ∧ OkS u' ∧ List.length u ≤ (1000 : Nat) ∧ List.length u' = List.length u ∧ OkS v ∧ OkS v' ∧ List.length v ≤ (1000 : Nat) ∧ List.length v' = List.length v ∧ splitB (bif decide ((16384 : Int) < farN (sixs y) (sixs y')) then true else decide ((16384 : Int) < max q0 q1)) (List.replicate (2 : Nat) (0 : Nat) = difP y u v y' u' v' ∧ (4 : Int) = difE y u v y' u' v' ∧ True) (((-8388608 : Int) ≤ farN (sixs y) (sixs y') ∧ farN (sixs y) (sixs y') ≤ (8388608 : Int)) ∧ ((-8388608 : Int) ≤ max q0 q1 ∧ max q0 q1 ≤ (8388608 : Int)) ∧ [smp (farN (sixs y) (sixs y')), smp (max q0 q1)] = difP y u v y' u' v' ∧ (0 : Int) = difE y u v y' u' v' ∧ True))) := by
  kernel_rfl
end Go.Sx
