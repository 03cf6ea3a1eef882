/- A verified symbolic run of functions, part 13: lemmas, no claim of their own. -/
import Derived.Test.YtpbipfdpoijgoaaGreatDoorS12
/- Contracts. -/
namespace Go.Sx
open U
theorem fn43 (R : List Rl) (L : List Ed) (hl : R.length ≤ 1000000000) (hR : ∀ r ∈ R, r.2.2.length ≤ 1000000) (hL : L.length ≤ 1000000000) : Fn P1 gl1 43 [.one (.sl rlT R), .one (.sl edT L)] (.val (iV (chkEds R L))) true := by
  refine Fn.flat ?_ rfl
  refine fn_of false [(24, sp24), (107, sp107), (106, sp106), (129, sp129), (120, sp120), (130, sp130), (131, sp131), (112, sp112)] [] h43 0 Proofs.Tryz.f43 ⟨so24, so107, so106, so129, so120, so130, so131, so112, trivial⟩ trivial (by kernel_rfl) rfl (by kernel_rfl) rfl rfl rfl ?_
  rw [vc43]
  try simp only [splitB_iff, -eq_self]
  refine ⟨hl, hR, by decide, fun h => ?_, fun h => ?_⟩
  · have h' : first [chkRs R, whenE (decide ((16 : Int) < (L.length : Int))) 5] ≠ 0 := by simpa using h
    refine ⟨?_, trivial⟩
    unfold chkEds
    by_cases h1 : chkRs R = 0
    · rw [if_neg (by simpa using h1)]
      have h16 : 16 < L.length := by
        apply Classical.byContradiction
        intro hn
        apply h'
        have : decide ((16 : Int) < (L.length : Int)) = false := by rw [decide_eq_false_iff_not]; omega
        rw [h1, this]; rfl
      have : decide ((16 : Int) < (L.length : Int)) = true := by rw [decide_eq_true_eq]; omega
      rw [if_pos h16, h1, this]; rfl
    · rw [if_pos h1]
      simp [first, h1]
  · have hz := (first_zero_iff _).1 (show first [chkRs R, whenE (decide ((16 : Int) < (L.length : Int))) 5] = 0 by simpa using h)
    have h1 := hz (chkRs R) (by simp)
    have h16 : ¬ 16 < L.length := by
      have := hz _ (List.mem_cons_of_mem _ (List.mem_singleton.2 rfl))
      have := of_decide_eq_false ((whenE_zero (by decide)).1 this)
      omega
    have hc : chkEds R L = if upTo (chkEd R L) L.length ≠ 0 then upTo (chkEd R L) L.length else if 1024 < lenL L then 4 else if upTo (ordE (ls L) (lenL L)) L.length ≠ 0 then 11 else upTo (spE (mapR R R.length) (ls L) (lenL L)) L.length := by
      conv => lhs; unfold chkEds
      rw [if_neg (by simpa using h1), if_neg h16]
    have hN : begN L L.length = lenL L := rfl
    have hP : plTo L L.length = ls L := rfl
    have hrl : ∀ nm : List UInt8, Option.getD (U.mapGet .str (.pair .str (.pair (.int .i64) (.sl (.int .i64)))) (mapR R R.length) nm) r0 = rlOf R nm := rlM_eq (rs_nodup h1)
    simp only [hc, hN, hP, hrl, ls_len]
    refine ⟨⟨0, ⟨Nat.zero_le _, rfl⟩, rfl, trivial, trivial, trivial, trivial, trivial⟩, fun g hg => ⟨fun hlt => ?_, fun hge => ?_⟩⟩
    · have hlt' : g < L.length := by simpa using hlt
      refine ⟨h1, trivial, hlt', by omega, fun h0 => upTo_zero.1 hg.2 _ (by omega), fun h2 => ⟨?_, trivial⟩, fun h2 => ⟨by simp only [fits]; omega, g + 1, ⟨hlt', upTo_succ hg.2 (by simpa using h2)⟩, by omega, by simp, trivial, trivial, trivial, trivial, trivial⟩⟩
      have hne : chkEd R L g ≠ 0 := by simpa using h2
      have := upTo_eq hg.2 hne hlt'
      rw [if_pos (by rw [this]; exact hne), this]
    · have hge' : ¬ g < L.length := by simpa using hge
      have hgl : g = L.length := by omega
      subst hgl
      have he := upTo_zero.1 hg.2
      have hE : EdsIn L := EdsIn_of h1 (by omega) he
      rw [if_neg (by simpa using hg.2)]
      refine ⟨hl, hE, fun h3 => ⟨by rw [if_pos (of_decide_eq_true h3)], trivial⟩, fun h3 => ?_⟩
      have h3' : ¬ 1024 < lenL L := of_decide_eq_false h3
      rw [if_neg h3']
      have hb := pl_bd h1 (by omega) he (by omega)
      have hn := begN_bd hE L.length (Nat.le_refl _)
      rw [hN] at hn
      have hs : ∀ x ∈ ls L, fits .i64 (sndN x) := fun x hx => by have := hb x hx; simp only [fits, sndN]; omega
      have hs' : ∀ i, i < L.length → fits .i64 (sndN ((ls L).getD i pl0)) := fun i hi => hs _ (getD_mem (by rw [ls_len]; exact hi))
      refine ⟨⟨0, ⟨Nat.zero_le _, rfl⟩, rfl, trivial, trivial, trivial, trivial, trivial, trivial, trivial, trivial, trivial⟩, fun i hi => ⟨fun hlt => ?_, fun hge => ?_⟩⟩
      · have hlt' : i < L.length := by simpa using hlt
        have e1 : ((i : Int) - 1).toNat = i - 1 := by omega
        rw [e1]
        refine ⟨by omega, fun _ => hs' i hlt', fun _ => by simp only [fits]; omega, fun h0 => by have := of_decide_eq_true h0; omega, fun _ => hs' (i - 1) (by omega), fun _ => hs' i hlt', fun h4 => ⟨?_, trivial⟩, fun h4 => ⟨by simp only [fits]; omega, i + 1, ⟨hlt', upTo_succ hi.2 ?_⟩, by omega, by simp, trivial, trivial, trivial, trivial, trivial, trivial, trivial, trivial, trivial⟩⟩
        · simp only [bcond_l, bcond_r, Bool.and_eq_true, Bool.or_eq_true, decide_eq_true_eq] at h4
          have hne : ordE (ls L) (lenL L) i ≠ 0 := by
            unfold ordE
            rw [show decide (0 < i ∧ (sndN ((ls L).getD i pl0) ≤ sndN ((ls L).getD (i - 1) pl0) ∨ lenL L ≤ sndN ((ls L).getD i pl0))) = true from decide_eq_true ⟨by omega, h4.2⟩]
            decide
          have := upTo_eq hi.2 hne hlt'
          rw [if_pos (by rw [this]; exact hne)]
        · unfold ordE
          rw [whenE_zero (by decide), decide_eq_false_iff_not]
          rintro ⟨k1, k2⟩
          rw [← Bool.not_eq_true] at h4
          apply h4
          simp only [bcond_l, bcond_r, Bool.and_eq_true, Bool.or_eq_true, decide_eq_true_eq]
          exact ⟨by omega, k2⟩
      · have hge' : ¬ i < L.length := by simpa using hge
        have hil : i = L.length := by omega
        subst hil
        rw [if_neg (by simpa using hi.2)]
        refine ⟨⟨0, ⟨Nat.zero_le _, rfl⟩, rfl, trivial, trivial, trivial, trivial, trivial, trivial, trivial, trivial, trivial⟩, fun j hj => ⟨fun hlt => ?_, fun hge => ?_⟩⟩
        · have hlt' : j < L.length := by simpa using hlt
          have hx := hb _ (getD_mem (d := pl0) (show j < (ls L).length by rw [ls_len]; exact hlt'))
          have hh := heard_bd (fun x hx => (hb x hx).2.2.2) (n := lenL L) (by omega) (show j < (ls L).length by rw [ls_len]; exact hlt')
          have hr := reel_bd h1 ((ls L).getD j pl0).1.1
          have hrl2 := hr.2.2.2
          have hsp : spE (mapR R R.length) (ls L) (lenL L) j = whenE (decide (((ls L).getD j pl0).1.2.1 + (heardN (ls L) (lenL L) j).1 - ((ls L).getD j pl0).2 < (rlOf R ((ls L).getD j pl0).1.1).2.1 ∨ endR (rlOf R ((ls L).getD j pl0).1.1) < ((ls L).getD j pl0).1.2.1 + (heardN (ls L) (lenL L) j).2 - ((ls L).getD j pl0).2)) 16 := by
            simp only [spE, rlM_eq (rs_nodup h1)]
          refine ⟨by omega, trivial, hlt', hs, by omega, by simp only [fits]; omega, by simp only [fits]; omega, fun _ => by simp only [fits]; omega, fun _ => by simp only [fits]; omega, fun _ => by simp only [fits]; omega, fun h4 => ⟨?_, trivial⟩, fun h4 => ⟨by simp only [fits]; omega, j + 1, ⟨hlt', upTo_succ hj.2 ?_⟩, by omega, by simp, trivial, trivial, trivial, trivial, trivial, trivial, trivial, trivial, trivial⟩⟩
          · simp only [bcond_l, Bool.or_eq_true, decide_eq_true_eq] at h4
            have h16 : spE (mapR R R.length) (ls L) (lenL L) j = 16 := by
              exact hsp.trans (congrArg (fun b => whenE b 16) (decide_eq_true h4))
            have := upTo_eq hj.2 (by rw [h16]; decide) hlt'
            rw [this, h16]
          · rw [hsp, whenE_zero (by decide), decide_eq_false_iff_not]
            intro hk
            rw [← Bool.not_eq_true] at h4
            apply h4
            simp only [bcond_l, Bool.or_eq_true, decide_eq_true_eq]
            exact hk
        · have hge' : ¬ j < L.length := by simpa using hge
          have hjl : j = L.length := by omega
          subst hjl
          rw [hj.2]
          exact ⟨rfl, trivial⟩
theorem so43_ : SpecOk P1 gl1 43 sp43 := by
  intro vs ps r h hp
  simp only [sp43] at h
  split at h
  · cases h; exact fn43 _ _ (hp _ (.head _)) (hp _ (.tail _ (.head _))) (hp _ (.tail _ (.tail _ (.head _))))
  · cases h
theorem so43 : Sp1 43 sp43 := ⟨so43_, Proofs.Tryz.f43, _, by kernel_rfl, rfl, by kernel_rfl⟩
theorem fn121 (p : List Pl) (hl : p.length ≤ 1000000) : Fn P1 gl1 121 [.one (.sl plT p), .one (.fn 122 [] [])] (.val (.one (.frs (.int .i64) (p.map fun x => x.2)))) true := by
  refine Fn.flat ?_ rfl
  refine fn_of false [] [fb122] h121 3 Proofs.Tryz.f121 trivial ⟨⟨by kernel_rfl, by kernel_rfl, _, rfl, by kernel_rfl⟩, trivial⟩ (by kernel_rfl) rfl (by kernel_rfl) rfl rfl rfl ?_
  rw [vc121]
  try simp only [splitB_iff, -eq_self]
  refine ⟨⟨0, Nat.zero_le _, rfl, rfl, rfl, by simp⟩, fun g hg => ⟨fun hlt => ?_, fun hge => ?_⟩⟩
  · have hlt' : g < p.length := by simpa using hlt
    refine ⟨by omega, by simp only [room, List.length_map, List.length_take]; omega, by simp only [fits]; omega, g + 1, hlt', by omega, by simp, rfl, rfl, ?_, trivial⟩
    rw [getD_of hlt', List.take_succ_eq_append_getElem hlt', List.map_append]
    rfl
  · have hge' : ¬ g < p.length := by simpa using hge
    rw [List.take_of_length_le (by omega)]
    exact ⟨rfl, trivial⟩
theorem so121_ : SpecOk P1 gl1 121 sp121 := by
  intro vs ps r h hp
  simp only [sp121] at h
  split at h
  · cases h; exact fn121 _ (hp _ (.head _))
  · cases h
theorem so121 : Sp1 121 sp121 := ⟨so121_, Proofs.Tryz.f121, _, by kernel_rfl, rfl, by kernel_rfl⟩
theorem fn33 (R : List Rl) (L : List Ed) (hl : R.length ≤ 1000000000) (hR : ∀ r ∈ R, r.2.2.length ≤ 1000000) (hL : L.length ≤ 1000000000) : Fn P1 gl1 33 [.one (.sl rlT R), .one (.sl edT L)] (.tup [.one (.frs (.int .i64) (startsN R L)), iV (lenN R L), iV (chkEds R L)]) true := by
  refine Fn.flat ?_ rfl
  refine fn_of false [(43, sp43), (120, sp120), (121, sp121)] [] h0 0 Proofs.Tryz.f33 ⟨so43, so120, so121, trivial⟩ trivial (by kernel_rfl) rfl (by kernel_rfl) rfl rfl rfl ?_
  rw [vc33]
  try simp only [splitB_iff, -eq_self]
  refine ⟨hl, hR, hL, fun h => ?_, fun h => ?_⟩
  · have h' : chkEds R L ≠ 0 := by simpa using h
    unfold startsN lenN
    rw [if_neg h', if_neg h']
    exact ⟨rfl, rfl, rfl, trivial⟩
  · have h' : chkEds R L = 0 := by simpa using h
    have hk := chkEds_zero.1 h'
    have := hk.len
    unfold startsN lenN
    rw [if_pos h', if_pos h', h']
    exact ⟨hl, hk.eds, by rw [plTo_len]; omega, rfl, rfl, rfl, trivial⟩
theorem so33_ : SpecOk P1 gl1 33 sp33 := by
  intro vs ps r h hp
  simp only [sp33] at h
  split at h
  · cases h; exact fn33 _ _ (hp _ (.head _)) (hp _ (.tail _ (.head _))) (hp _ (.tail _ (.tail _ (.head _))))
  · cases h
theorem so33 : Sp1 33 sp33 := ⟨so33_, Proofs.Tryz.f33, _, by kernel_rfl, rfl, by kernel_rfl⟩
theorem fn36 (R : List Rl) (L : List Ed) (hl : R.length ≤ 1000000000) (hR : ∀ r ∈ R, r.2.2.length ≤ 1000000) (hL : L.length ≤ 1000000000) : Fn P1 gl1 36 [.one (.sl rlT R), .one (.sl edT L)] (.tup [.one (.frs tkT (soundsN R L)), iV (chkEds R L)]) true := by
  refine Fn.flat ?_ rfl
  refine fn_of false [(43, sp43), (120, sp120), (124, sp124)] [] h36 0 Proofs.Tryz.f36 ⟨so43, so120, so124, trivial⟩ trivial (by kernel_rfl) rfl (by kernel_rfl) rfl rfl rfl ?_
  rw [vc36]
  try simp only [splitB_iff, -eq_self]
  refine ⟨hl, hR, hL, fun h => ?_, fun h => ?_⟩
  · have h' : chkEds R L ≠ 0 := by simpa using h
    unfold soundsN
    rw [if_neg h']
    exact ⟨rfl, rfl, trivial⟩
  · have h' : chkEds R L = 0 := by simpa using h
    have hk := chkEds_zero.1 h'
    have hn := lenL_nn hk
    have hbig := hk.big
    have hN : begN L L.length = lenL L := rfl
    rw [hN]
    refine ⟨hl, hk.eds, ⟨0, Nat.zero_le _, rfl, rfl, rfl, rfl, rfl, rfl, rfl, rfl, trivial⟩, fun g hg => ⟨fun hlt => ?_, fun hge => ?_⟩⟩
    · have hlt' : (g : Int) < lenL L := of_decide_eq_true hlt
      refine ⟨hk.pls' (by omega) hlt', ⟨by omega, hk.frame hlt'⟩, by simp only [room, List.length_map, List.length_range]; omega, by simp only [fits]; omega, g + 1, by show g + 1 ≤ _; omega, by omega, by simp, rfl, rfl, rfl, ?_, rfl, rfl, rfl, trivial⟩
      rw [map_range]
    · have hge' : ¬ (g : Int) < lenL L := of_decide_eq_false hge
      have : g = (lenL L).toNat := by have : g ≤ (lenL L).toNat := hg
                                      omega
      subst this
      unfold soundsN
      rw [if_pos h', h']
      exact ⟨rfl, rfl, trivial⟩
theorem so36_ : SpecOk P1 gl1 36 sp36 := by
  intro vs ps r h hp
  simp only [sp36] at h
  split at h
  · cases h; exact fn36 _ _ (hp _ (.head _)) (hp _ (.tail _ (.head _))) (hp _ (.tail _ (.tail _ (.head _))))
  · cases h
theorem so36 : Sp1 36 sp36 := ⟨so36_, Proofs.Tryz.f36, _, by kernel_rfl, rfl, by kernel_rfl⟩
theorem fn35 (R : List Rl) (L : List Ed) (hl : R.length ≤ 1000000000) (hR : ∀ r ∈ R, r.2.2.length ≤ 1000000) (hL : L.length ≤ 1000000000) : Fn P1 gl1 35 [.one (.sl rlT R), .one (.sl edT L)] (.tup [.one (.frs (.sl tkT) (confN R L)), iV (chkEds R L)]) false := by
  refine fn_of false [(43, sp43), (120, sp120), (155, sp155)] [fb123, fb174] h35 3 Proofs.Tryz.f35 ⟨so43, so120, so155, trivial⟩ ⟨⟨by kernel_rfl, by kernel_rfl, _, rfl, by kernel_rfl⟩, ⟨by kernel_rfl, by kernel_rfl, _, rfl, by kernel_rfl⟩, trivial⟩ (by kernel_rfl) rfl (by kernel_rfl) rfl rfl rfl ?_
  rw [vc35]
  try simp only [splitB_iff, -eq_self]
  refine ⟨hl, hR, hL, fun h => ?_, fun h => ?_⟩
  · have h' : chkEds R L ≠ 0 := by simpa using h
    unfold confN
    rw [if_neg h']
    exact ⟨rfl, rfl, trivial⟩
  · have h' : chkEds R L = 0 := by simpa using h
    have hk := chkEds_zero.1 h'
    have hn := lenL_nn hk
    have hbig := hk.big
    have hN : begN L L.length = lenL L := rfl
    rw [hN]
    refine ⟨hl, hk.eds, ⟨0, Nat.zero_le _, rfl, rfl, rfl, rfl, rfl, rfl, trivial⟩, fun g hg => ⟨fun hlt => ?_, fun hge => ?_⟩⟩
    · have hlt' : (g : Int) < lenL L := of_decide_eq_true hlt
      refine ⟨hk.pls' (by omega) hlt', ⟨by omega, hk.frame hlt'⟩, by simp only [room, List.length_map, List.length_range]; omega, by simp only [fits]; omega, g + 1, by show g + 1 ≤ _; omega, by omega, by simp, rfl, ?_, rfl, rfl, rfl, trivial⟩
      rw [map_range]
    · have hge' : ¬ (g : Int) < lenL L := of_decide_eq_false hge
      have : g = (lenL L).toNat := by have : g ≤ (lenL L).toNat := hg
                                      omega
      subst this
      unfold confN
      rw [if_pos h', h']
      exact ⟨rfl, rfl, trivial⟩
theorem so35_ : SpecOk P1 gl1 35 sp35 := by
  intro vs ps r h hp
  simp only [sp35] at h
  split at h
  · cases h; exact fn35 _ _ (hp _ (.head _)) (hp _ (.tail _ (.head _))) (hp _ (.tail _ (.tail _ (.head _))))
  · cases h
theorem so35 : Sp1 35 sp35 := ⟨so35_, Proofs.Tryz.f35, _, by kernel_rfl, rfl, by kernel_rfl⟩
theorem fn37 (R : List Rl) (L : List Ed) (hl : R.length ≤ 1000000000) (hR : ∀ r ∈ R, r.2.2.length ≤ 1000000) (hL : L.length ≤ 1000000000) : Fn P1 gl1 37 [.one (.sl rlT R), .one (.sl edT L)] (.tup [.one (.frs (.int .i64) (playN R L)), iV (chkEds R L)]) true := by
  refine Fn.flat ?_ rfl
  refine fn_of false [(43, sp43), (120, sp120), (155, sp155)] [fb123, fb174] h37 3 Proofs.Tryz.f37 ⟨so43, so120, so155, trivial⟩ ⟨⟨by kernel_rfl, by kernel_rfl, _, rfl, by kernel_rfl⟩, ⟨by kernel_rfl, by kernel_rfl, _, rfl, by kernel_rfl⟩, trivial⟩ (by kernel_rfl) rfl (by kernel_rfl) rfl rfl rfl ?_
  rw [vc37]
  try simp only [splitB_iff, -eq_self]
  refine ⟨hl, hR, hL, fun h => ?_, fun h => ?_⟩
  · have h' : chkEds R L ≠ 0 := by simpa using h
    unfold playN
    rw [if_neg h']
    exact ⟨rfl, rfl, trivial⟩
  · have h' : chkEds R L = 0 := by simpa using h
    have hk := chkEds_zero.1 h'
    have hn := lenL_nn hk
    have hbig := hk.big
    have hN : begN L L.length = lenL L := rfl
    have hP : plTo L L.length = ls L := rfl
    have hrl : ∀ nm : List UInt8, Option.getD (U.mapGet .str (.pair .str (.pair (.int .i64) (.sl (.int .i64)))) (mapR R R.length) nm) r0 = rlOf R nm := rlM_eq (rs_nodup hk.rs)
    simp only [hN, hP, hrl]
    refine ⟨hl, hk.eds, ⟨0, Nat.zero_le _, rfl, trivial, rfl, trivial, trivial, trivial, trivial, trivial, trivial, trivial⟩, fun g hg => ⟨fun hlt => ?_, fun hge => ?_⟩⟩
    · have hlt' : (g : Int) < lenL L := of_decide_eq_true hlt
      have ht := takes_ok hk (show (0 : Int) ≤ g by omega) hlt'
      generalize hts : takesN (ls L) (g : Int) = ts at *
      refine ⟨hk.pls' (by omega) hlt', ⟨by omega, hk.frame hlt'⟩, ⟨0, Nat.zero_le _, rfl, rfl, rfl, trivial, trivial, trivial, trivial, trivial, trivial, trivial, trivial, trivial, trivial⟩, fun j hj => ⟨fun hjl => ?_, fun hjg => ?_⟩⟩
      · have hjl' : j < ts.length := by simpa using hjl
        have hm := mix_bd hk.rs ht.2 j (by omega) (by omega)
        have hx := ht.2 _ (getD_mem (d := tk0) hjl')
        have hs := mixTo_succ (rs_nodup hk.rs) ts j
        have hB : nB j ≤ 131070000 ∧ dB j ≤ 2000 := by
          have : j = 0 ∨ j = 1 := by omega
          rcases this with rfl | rfl <;> decide
        have hc := take_check hk.rs hx
        have hst := mix_step hB.1 hB.2 ⟨hm.n0, hm.n1⟩ ⟨hm.d0, hm.d1⟩ hc.2 hx.num hx.den
        have hr := reel_bd hk.rs (ts.getD j tk0).1
        have h1 := hx.lo
        have h2 := hx.hi
        refine ⟨by omega, hst.1, by simp only [fits]; omega, hc.1, hst.2.1, hst.2.2.1, hst.2.2.2.1, hst.2.2.2.2.1, by simp only [fits]; omega, j + 1, hjl', by omega, by simp, ?_, ?_, trivial, trivial, trivial, trivial, trivial, trivial, trivial, trivial, trivial, trivial⟩
        · rw [hs]
        · rw [hs]
      · have hjg' : ¬ j < ts.length := by simpa using hjg
        have hjj : j = ts.length := by have : j ≤ ts.length := hj
                                       omega
        have hm := mix_bd hk.rs ht.2 j (by omega) (by omega)
        have hB : nB j ≤ 524280000000 ∧ dB j ≤ 4000000 := by
          have : j = 0 ∨ j = 1 ∨ j = 2 := by omega
          rcases this with rfl | rfl | rfl <;> decide
        have n0 := hm.n0
        have n1 := hm.n1
        have d0 := hm.d0
        have d1 := hm.d1
        have q1 := Int.ediv_nonneg (a := 2 * (mixTo (mapR R R.length) ts j).1 + (mixTo (mapR R R.length) ts j).2) (b := 2 * (mixTo (mapR R R.length) ts j).2) (by omega) (by omega)
        have q2 := Int.ediv_le_self (a := 2 * (mixTo (mapR R R.length) ts j).1 + (mixTo (mapR R R.length) ts j).2) (2 * (mixTo (mapR R R.length) ts j).2) (by omega)
        refine ⟨by simp only [fits]; omega, by simp only [fits]; omega, by simp only [fits]; omega, ⟨by omega, by omega, by simp only [fits]; omega⟩, by simp only [room, List.length_map, List.length_range]; omega, by simp only [fits]; omega, g + 1, by show g + 1 ≤ _; omega, by omega, by simp, trivial, ?_, trivial, trivial, trivial, trivial, trivial, trivial, trivial⟩
        rw [map_range, hts, hjj]
        rfl
    · have hge' : ¬ (g : Int) < lenL L := of_decide_eq_false hge
      have : g = (lenL L).toNat := by have : g ≤ (lenL L).toNat := hg
                                      omega
      subst this
      unfold playN
      rw [if_pos h', h']
      exact ⟨rfl, rfl, trivial⟩
theorem so37_ : SpecOk P1 gl1 37 sp37 := by
  intro vs ps r h hp
  simp only [sp37] at h
  split at h
  · cases h; exact fn37 _ _ (hp _ (.head _)) (hp _ (.tail _ (.head _))) (hp _ (.tail _ (.tail _ (.head _))))
  · cases h
theorem so37 : Sp1 37 sp37 := ⟨so37_, Proofs.Tryz.f37, _, by kernel_rfl, rfl, by kernel_rfl⟩
theorem fn50 (R : List Rl) (L : List Ed) (i by_ : Int) (hl : R.length ≤ 1000000000) (hR : ∀ r ∈ R, r.2.2.length ≤ 1000000) (hL : L.length ≤ 1000000000) : Fn P1 gl1 50 [.one (.sl rlT R), .one (.sl edT L), iV i, iV by_] (.tup [.one (.frs edT (chgL R L i by_ 1 rollL)), iV (chgE R L i by_ 1 rollL)]) true := by
  refine Fn.flat ?_ rfl
  refine fn_of false [(43, sp43), (107, sp107), (109, sp109), (106, sp106)] [fb132, fb134, fb180, fb156] h0 3 Proofs.Tryz.f50 ⟨so43, so107, so109, so106, trivial⟩ ⟨⟨by kernel_rfl, by kernel_rfl, _, rfl, by kernel_rfl⟩, ⟨by kernel_rfl, by kernel_rfl, _, rfl, by kernel_rfl⟩, ⟨by kernel_rfl, by kernel_rfl, _, rfl, by kernel_rfl⟩, ⟨by kernel_rfl, by kernel_rfl, _, rfl, by kernel_rfl⟩, trivial⟩ (by kernel_rfl) rfl (by kernel_rfl) rfl rfl rfl ?_
  rw [vc50]
  try simp only [splitB_iff, -eq_self]
  simp only [U.copyL_all (show L.length = L.length from rfl)]
  simp only [trim_fold, front_fold]
  refine ⟨hl, hR, hL, fun h => ?_, fun h => ?_⟩
  · have := chg_bad (i := i) (b := by_) (least := 1) (g := rollL) (show chkEds R L ≠ 0 by simpa using h)
    exact ⟨this.1, this.2, trivial⟩
  · have h' : chkEds R L = 0 := by simpa using h
    rw [chkCh_eq h']
    refine ⟨by decide, fun h2 => ?_, fun h2 => ?_⟩
    · have := chg_err (g := rollL) (show chkCh R L i by_ 1 ≠ 0 by simpa using h2)
      exact ⟨this.1, this.2, trivial⟩
    · have h2' : chkCh R L i by_ 1 = 0 := by simpa using h2
      obtain ⟨hk, hi, hb⟩ := chkCh_zero (by decide) h2'
      obtain ⟨k1, k2⟩ := chg_ok (g := rollL) h2'
      have hlen := hk.len
      have e1 : (i - 1).toNat = i.toNat - 1 := by omega
      have g1 := hk.eds.2 _ (getD_mem (d := e0) (show i.toNat - 1 < L.length by omega))
      have g2 := hk.eds.2 _ (getD_mem (d := e0) (show i.toNat < L.length by omega))
      have g3 : ((trimL L (i.toNat - 1) by_).getD i.toNat e0) = L.getD i.toNat e0 := by
        rw [trimL_get _ _ _ _ (by omega), if_neg (by omega)]
      rw [e1]
      simp only [roll_fold, trimL_len, rollL_len, g3]
      refine ⟨by omega, by simp only [room]; omega, by omega, by simp only [fits]; omega, by omega, by omega, by simp only [fits]; omega, by omega, by omega, by omega, by omega, by simp only [fits]; omega, by omega, by omega, hl, hR, hL, fun h3 => ?_, fun h3 => ?_⟩
      · have := k1 (by simpa using h3)
        exact ⟨this.1, this.2, trivial⟩
      · have := k2 (by simpa using h3)
        exact ⟨this.1, this.2, trivial⟩
theorem so50_ : SpecOk P1 gl1 50 sp50 := by
  intro vs ps r h hp
  simp only [sp50] at h
  split at h
  · cases h; exact fn50 _ _ _ _ (hp _ (.head _)) (hp _ (.tail _ (.head _))) (hp _ (.tail _ (.tail _ (.head _))))
  · cases h
theorem so50 : Sp1 50 sp50 := ⟨so50_, Proofs.Tryz.f50, _, by kernel_rfl, rfl, by kernel_rfl⟩
end Go.Sx

/- Plain functions and hints. -/
namespace Go.Sx.U
def letB (n : Int) : Bool := bif (bif decide (65 ≤ n) then decide (n ≤ 90) else false) then true else (bif decide (97 ≤ n) then decide (n ≤ 122) else false)
def digB (n : Int) : Bool := bif decide (48 ≤ n) then decide (n ≤ 57) else false
def hasB (r : Rl) (f : Int) : Bool := bif decide (r.2.1 ≤ f) then decide (f < r.2.1 + (r.2.2.length : Int)) else false
def findN (R : List Rl) (nm : List UInt8) : Int := if idxN nm R < R.length then (idxN nm R : Int) else -1
def startsL (L : List Ed) : List Int := (List.range L.length).map (begN L)
def sndI (L : List Ed) (fr : Int) : Nat → Int
  | 0 => -1
  | i + 1 => if begN L i + (L.getD i e0).2.2.2.2 ≤ fr then (i : Int) else sndI L fr i
def shortR (r : Rl) : Bool := decide (r.1.length ≤ 40) && (decide (r.2.2.length ≤ 20) || decide (r.2.2.length = 257))
def shortE (L : List Ed) : Bool := (L.all fun x => decide (x.1.length ≤ 40)) && (decide (L.length ≤ 6) || decide (L.length = 17))
def shortB (R : List Rl) (L : List Ed) : Bool := (R.all shortR) && ((decide (R.length ≤ 4) || decide (R.length = 9)) && shortE L)
def badH (R : List Rl) (L : List Ed) (k t : Nat) : Prop := sndI L t L.length = (k : Int) ∧ hasB (rlOf R (L.getD k e0).1) ((L.getD k e0).2.1 + (t : Int) - begN L k) = false
end Go.Sx.U
namespace Go.Sx
open U
def strOf (s : St) (t : Nat) : Option (List UInt8) := match lookT s.tm t with
  | some (.val (.one (.str l))) => some l
  | _ => none
def hCt (s : St) (keep : List Nat) (ti n : Nat) (J : Nat → Prop) : Option LInv := some ⟨Nat, fun i => s.at keep [tI ti i], fun i => i ≤ n ∧ J i, fun i => n - i⟩
def rlAt (s : St) (t : Nat) : Option Rl := match ptrId s t with
  | some b => match lookO s.ob b with
    | some (.box [.one (.str nm), .one (.int .i64 f), .one (.sl (.int .i64) l)]) => some (nm, f, l)
    | _ => none
  | none => none
def h169 : Hints := ⟨fun f k s => match f, k with
  | 169, 4 => match strOf s 0 with
    | some l => hCt s [0] 3 (List.length l) fun i => 1 ≤ i ∧ ∀ j, j < i → nameAt l j = true
    | _ => none
  | _, _ => none, 0⟩
def h21 : Hints := ⟨fun f k s => match f, k with
  | 21, 9 => match rlAt s 1 with
    | some (_, _, l) => hCt s [1] 4 (List.length l) fun i => upTo (fun j => within (List.getD l j 0) 0 65535) i = 0
    | _ => none
  | _, _ => none, 0⟩
def h115 : Hints := ⟨fun f k s => match f, k with
  | 115, 2 => match listAs s 0 rlT, strOf s 1 with
    | some R, some nm => hCt s [0, 1] 5 (List.length R) fun i => i ≤ idxN nm R
    | _, _ => none
  | _, _ => none, 0⟩
def h26 : Hints := ⟨fun f k s => match f, k with
  | 26, 4 => match listAs s 0 rlT with
    | some R => hCt s [0] 3 (List.length R) fun i => upTo (chkRl R) i = 0
    | _ => none
  | _, _ => none, 0⟩
def h39 : Hints := ⟨fun f k s => match f, k with
  | 39, 4 => match listAs s 0 edT with
    | some L => some ⟨Nat, fun i => ⟨[tI 6 i, tI 5 (begN L i), (4, .val (.one (.own s.nx)))] ++ keepT [0] s.tm, (s.nx, some (.row (.int .i64) ((List.range i).map (begN L)))) :: lessO s [4], s.nx + 1, s.lr⟩, fun i => i ≤ List.length L, fun i => List.length L - i⟩
    | _ => none
  | _, _ => none, 0⟩
def h126 : Hints := ⟨fun f k s => match f, k with
  | 126, 4 => match listAs s 0 edT, intOfT s 1 with
    | some L, some fr => some ⟨Nat, fun i => s.at [0, 1, 5] [tI 8 i, tI 7 (sndI L fr i)], fun i => i ≤ List.length L, fun i => List.length L - i⟩
    | _, _ => none
  | _, _ => none, 0⟩
def h82 : Hints := ⟨fun f k s => match f, k with
  | 82, 2 => match listAs s 0 edT with
    | some L => hCt s [0] 3 (List.length L) fun i => ∀ j, j < i → (List.getD L j e0).1.length ≤ 40
    | _ => none
  | _, _ => none, 0⟩
def h17 : Hints := ⟨fun f k s => match f, k with
  | 17, 2 => match listAs s 0 rlT with
    | some R => hCt s [0, 1] 5 (List.length R) fun i => ∀ j, j < i → shortR (List.getD R j r0) = true
    | _ => none
  | _, _ => none, 0⟩
def h38 : Hints := ⟨fun f k s => match f, k with
  | 38, 7 => match listAs s 0 rlT, listAs s 1 edT with
    | some R, some L => hCt s [0, 1] 6 (List.length L) fun i => upTo (chkEd R L) i = 0
    | _, _ => none
  | 38, 26 => match listAs s 1 edT with
    | some L => some ⟨Nat, fun i => s.at [0, 1, 10, 11] [tI 12 i], fun i => 1 ≤ i ∧ (i = 1 ∨ i ≤ List.length L) ∧ ∀ k, k < i → k < List.length L → ordE (ls L) (lenL L) k = 0, fun i => List.length L - i⟩
    | _ => none
  | 38, 31 => match listAs s 0 rlT, listAs s 1 edT with
    | some R, some L => hCt s [0, 1, 10, 11] 13 (List.length L) fun i => ∀ k t : Nat, k < i → (t : Int) < lenL L → ¬ badH R L k t
    | _, _ => none
  | 38, 34 => match listAs s 0 rlT, listAs s 1 edT, intOfT s 13 with
    | some R, some L, some i => hCt s [0, 1, 10, 11, 13] 14 (lenL L).toNat fun n => ∀ t : Nat, t < n → ¬ badH R L i.toNat t
    | _, _, _ => none
  | _, _ => none, 0⟩
end Go.Sx
namespace Go.Sx
open U
def sp210 : FSpec := ⟨fun vs => match vs with
  | [.one (.int .u8 n)] => some ([], .val (bV (letB n)))
  | _ => none, true⟩
def sp211 : FSpec := ⟨fun vs => match vs with
  | [.one (.int .u8 n)] => some ([], .val (bV (digB n)))
  | _ => none, true⟩
def sp169 : FSpec := ⟨fun vs => match vs with
  | [.one (.str l)] => some ([List.length l ≤ 1000000000], .val (bV (isName l)))
  | _ => none, true⟩
def sp102 : FSpec := ⟨fun vs => match vs with
  | [.one (.str l)] => some ([List.length l ≤ 1000000000], .val (iV (whenE (!isName l) 8)))
  | _ => none, true⟩
def sp21 : FSpec := ⟨fun vs => match vs with
  | [.agg [.one (.str nm), .one (.int .i64 f), .one (.sl (.int .i64) l)]] => some ([List.length nm ≤ 1000000000, List.length l ≤ 1000000], .val (iV (checkReel nm f l)))
  | _ => none, true⟩
def sp115 : FSpec := ⟨fun vs => match vs with
  | [.one (.sl (.pair .str (.pair (.int .i64) (.sl (.int .i64)))) R), .one (.str nm)] => some ([List.length R ≤ 1000000000], .val (iV (findN R nm)))
  | _ => none, true⟩
def sp26 : FSpec := ⟨fun vs => match vs with
  | [.one (.sl (.pair .str (.pair (.int .i64) (.sl (.int .i64)))) R)] => some ([List.length R ≤ 1000000000, ∀ r ∈ (show List Rl from R), List.length r.2.2 ≤ 1000000 ∧ List.length r.1 ≤ 1000000000], .val (iV (chkRs R)))
  | _ => none, true⟩
def sp125 : FSpec := ⟨fun vs => match vs with
  | [.agg [.one (.str nm), .one (.int .i64 f), .one (.sl (.int .i64) l)], .one (.int .i64 n)] => some ([fits .i64 (f + (List.length l : Int))], .val (bV (hasB (nm, f, l) n)))
  | _ => none, true⟩
def sp39 : FSpec := ⟨fun vs => match vs with
  | [.one (.sl (.pair .str (.pair (.int .i64) (.pair (.int .i64) (.pair (.int .i64) (.int .i64))))) L)] => some ([EdsIn L], .tup [.one (.frs (.int .i64) (startsL L)), iV (lenL L)])
  | _ => none, true⟩
def sp126 : FSpec := ⟨fun vs => match vs with
  | [.one (.sl (.pair .str (.pair (.int .i64) (.pair (.int .i64) (.pair (.int .i64) (.int .i64))))) L), .one (.int .i64 fr)] => some ([EdsIn L, ∀ x ∈ (show List Ed from L), -100 ≤ x.2.2.2.2 ∧ x.2.2.2.2 ≤ 100], .val (iV (sndI L fr (List.length L))))
  | _ => none, true⟩
def sp16 : FSpec := ⟨fun vs => match vs with
  | [.agg [.one (.str nm), .one (.int .i64 f), .one (.sl (.int .i64) l)]] => some ([], .val (bV (shortR (nm, f, l))))
  | _ => none, true⟩
def sp82 : FSpec := ⟨fun vs => match vs with
  | [.one (.sl (.pair .str (.pair (.int .i64) (.pair (.int .i64) (.pair (.int .i64) (.int .i64))))) L)] => some ([List.length L ≤ 9223372036854775807], .val (bV (shortE L)))
  | _ => none, true⟩
def sp17 : FSpec := ⟨fun vs => match vs with
  | [.one (.sl (.pair .str (.pair (.int .i64) (.sl (.int .i64)))) R), .one (.sl (.pair .str (.pair (.int .i64) (.pair (.int .i64) (.pair (.int .i64) (.int .i64))))) L)] => some ([List.length R ≤ 9223372036854775807, List.length L ≤ 9223372036854775807], .val (bV (shortB R L)))
  | [.one (.sl (.pair .str (.pair (.int .i64) (.sl (.int .i64)))) R), .one .nils] => some ([List.length R ≤ 9223372036854775807, List.length ([] : List Ed) ≤ 9223372036854775807], .val (bV (shortB R ([] : List Ed))))
  | _ => none, true⟩
def sp38 : FSpec := ⟨fun vs => match vs with
  | [.one (.sl (.pair .str (.pair (.int .i64) (.sl (.int .i64)))) R), .one (.sl (.pair .str (.pair (.int .i64) (.pair (.int .i64) (.pair (.int .i64) (.int .i64))))) L)] => some ([List.length R ≤ 1000000000, ∀ r ∈ (show List Rl from R), List.length r.2.2 ≤ 1000000 ∧ List.length r.1 ≤ 1000000000, List.length L ≤ 1000000000, ∀ x ∈ (show List Ed from L), fits .i64 x.2.2.1], .val (iV (chkEds R L)))
  | _ => none, true⟩
end Go.Sx

/- Plain laws: the reference's checks of lists of edits. -/
namespace Go.Sx
open U
theorem findN_some {R : List Rl} {nm : List UInt8} (h : idxN nm R < R.length) : findN R nm = (idxN nm R : Int) ∧ R.getD (findN R nm).toNat r0 = rlOf R nm := by
  have e : findN R nm = (idxN nm R : Int) := by unfold findN; rw [if_pos h]
  exact ⟨e, by rw [e]; rfl⟩
theorem findN_none {R : List Rl} {nm : List UInt8} (h : ¬ idxN nm R < R.length) : findN R nm = -1 := by unfold findN; rw [if_neg h]
theorem hasB_iff (r : Rl) (f : Int) : hasB r f = true ↔ r.2.1 ≤ f ∧ f < endR r := by
  unfold hasB endR
  rw [bcond_r]
  simp only [Bool.and_eq_true, decide_eq_true_eq]
theorem hasB_not (r : Rl) (f : Int) : hasB r f = false ↔ ¬ (r.2.1 ≤ f ∧ f < endR r) := by
  rw [← Bool.not_eq_true, hasB_iff]
theorem chkEds_rs {R : List Rl} {L : List Ed} (h : chkRs R ≠ 0) : chkRs R = chkEds R L := by
  unfold chkEds; rw [if_pos h]
theorem chkEds_many {R : List Rl} {L : List Ed} (h : chkRs R = 0) (h2 : 16 < L.length) : 5 = chkEds R L := by
  unfold chkEds; rw [if_neg (by simpa using h), if_pos h2]
theorem chkEds_at {R : List Rl} {L : List Ed} {g : Nat} {e : Int} (h : chkRs R = 0) (h2 : ¬ 16 < L.length) (h3 : upTo (chkEd R L) g = 0) (hg : g < L.length) (he : chkEd R L g = e) (h0 : e ≠ 0) : e = chkEds R L := by
  have := upTo_eq h3 (by rw [he]; exact h0) hg
  unfold chkEds
  rw [if_neg (by simpa using h), if_neg h2, if_pos (by rw [this, he]; exact h0), this, he]
theorem chkEds_big {R : List Rl} {L : List Ed} (h : chkRs R = 0) (h2 : ¬ 16 < L.length) (h3 : upTo (chkEd R L) L.length = 0) (h4 : 1024 < lenL L) : 4 = chkEds R L := by
  unfold chkEds
  rw [if_neg (by simpa using h), if_neg h2, if_neg (by simpa using h3), if_pos h4]
theorem chkEds_ord {R : List Rl} {L : List Ed} {g : Nat} (h : chkRs R = 0) (h2 : ¬ 16 < L.length) (h3 : upTo (chkEd R L) L.length = 0) (h4 : ¬ 1024 < lenL L) (hg : g < L.length) (h5 : ordE (ls L) (lenL L) g ≠ 0) : 11 = chkEds R L := by
  unfold chkEds
  rw [if_neg (by simpa using h), if_neg h2, if_neg (by simpa using h3), if_neg h4, if_pos (fun e => h5 (upTo_zero.1 e g hg))]
theorem chkEds_sp {R : List Rl} {L : List Ed} {g : Nat} (h : chkRs R = 0) (h2 : ¬ 16 < L.length) (h3 : upTo (chkEd R L) L.length = 0) (h4 : ¬ 1024 < lenL L) (h5 : ∀ g, g < L.length → ordE (ls L) (lenL L) g = 0) (hg : g < L.length) (h6 : spE (mapR R R.length) (ls L) (lenL L) g ≠ 0) : 16 = chkEds R L := by
  have key : ∀ n, upTo (spE (mapR R R.length) (ls L) (lenL L)) n = 0 ∨ upTo (spE (mapR R R.length) (ls L) (lenL L)) n = 16 := by
    intro n
    induction n with
    | zero => exact .inl rfl
    | succ n ih =>
      simp only [upTo]
      split
      · unfold spE whenE
        split
        · exact .inr rfl
        · exact .inl rfl
      · exact ih
  unfold chkEds
  rw [if_neg (by simpa using h), if_neg h2, if_neg (by simpa using h3), if_neg h4, if_neg (by simpa using upTo_zero.2 h5)]
  rcases key L.length with k | k
  · exact absurd (upTo_zero.1 k g hg) h6
  · exact k.symm
theorem chkEds_good {R : List Rl} {L : List Ed} (h : chkRs R = 0) (h2 : ¬ 16 < L.length) (h3 : upTo (chkEd R L) L.length = 0) (h4 : ¬ 1024 < lenL L) (h5 : ∀ g, g < L.length → ordE (ls L) (lenL L) g = 0) (h6 : ∀ g, g < L.length → spE (mapR R R.length) (ls L) (lenL L) g = 0) : 0 = chkEds R L :=
  (chkEds_zero.2 ⟨h, by omega, upTo_zero.1 h3, by omega, h5, h6⟩).symm
theorem chkEd_unknown {R : List Rl} {L : List Ed} {g : Nat} (h : ¬ idxN (L.getD g e0).1 R < R.length) : chkEd R L g = 10 := by
  unfold chkEd chkE; rw [if_pos (by omega)]
theorem chkEd_span {R : List Rl} {L : List Ed} {g : Nat} (h : idxN (L.getD g e0).1 R < R.length) (h2 : (L.getD g e0).2.2.1 ≤ (L.getD g e0).2.1 ∨ (L.getD g e0).2.1 < (rlOf R (L.getD g e0).1).2.1 ∨ endR (rlOf R (L.getD g e0).1) < (L.getD g e0).2.2.1) : chkEd R L g = 14 := by
  unfold chkEd chkE; rw [if_neg (by omega), if_pos h2]
theorem chkEd_prs {R : List Rl} {L : List Ed} {g : Nat} (h : idxN (L.getD g e0).1 R < R.length) (h2 : ¬ ((L.getD g e0).2.2.1 ≤ (L.getD g e0).2.1 ∨ (L.getD g e0).2.1 < (rlOf R (L.getD g e0).1).2.1 ∨ endR (rlOf R (L.getD g e0).1) < (L.getD g e0).2.2.1)) (h3 : prs (L.getD g e0) ≠ 0) : chkEd R L g = prs (L.getD g e0) := by
  unfold chkEd chkE; rw [if_neg (by omega), if_neg h2, if_pos h3]
theorem chkEd_first {R : List Rl} {L : List Ed} (h : idxN (L.getD 0 e0).1 R < R.length) (h2 : ¬ ((L.getD 0 e0).2.2.1 ≤ (L.getD 0 e0).2.1 ∨ (L.getD 0 e0).2.1 < (rlOf R (L.getD 0 e0).1).2.1 ∨ endR (rlOf R (L.getD 0 e0).1) < (L.getD 0 e0).2.2.1)) (h3 : prs (L.getD 0 e0) = 0) :
    chkEd R L 0 = whenE (decide ((L.getD 0 e0).2.2.2.1 ≠ 0 ∨ (L.getD 0 e0).2.2.2.2 ≠ 0)) 21 := by
  unfold chkEd chkE; rw [if_neg (by omega), if_neg h2, if_neg (by simpa using h3)]
  generalize L.getD 0 e0 = x
  obtain ⟨a, b, c, d, e⟩ := x
  simp only [if_true]
  congr 1
  rw [decide_eq_decide]
  simp only [ne_eq, Prod.mk.injEq, true_and]
  omega
theorem chkEd_later {R : List Rl} {L : List Ed} {g : Nat} (hg : 0 < g) (h : idxN (L.getD g e0).1 R < R.length) (h2 : ¬ ((L.getD g e0).2.2.1 ≤ (L.getD g e0).2.1 ∨ (L.getD g e0).2.1 < (rlOf R (L.getD g e0).1).2.1 ∨ endR (rlOf R (L.getD g e0).1) < (L.getD g e0).2.2.1)) (h3 : prs (L.getD g e0) = 0) :
    chkEd R L g = whenE (decide (endR (rlOf R (L.getD (g - 1) e0).1) < (L.getD (g - 1) e0).2.2.1 + (L.getD g e0).2.2.2.1)) 16 := by
  unfold chkEd chkE; rw [if_neg (by omega), if_neg h2, if_neg (by simpa using h3), if_neg (by omega)]
def sN (L : List Ed) (i : Nat) : Int := begN L i + (L.getD i e0).2.2.2.2
theorem sndN_ls {L : List Ed} {i : Nat} (h : i < L.length) : sndN ((ls L).getD i pl0) = sN L i := by rw [ls_get L h]; rfl
theorem sndI_of {L : List Ed} {t : Int} {k : Nat} : ∀ {n : Nat}, k < n → sN L k ≤ t → (∀ j, k < j → j < n → t < sN L j) → sndI L t n = (k : Int)
  | 0, h, _, _ => by omega
  | n + 1, h, h1, h2 => by
    simp only [sndI]
    by_cases e : k = n
    · subst e; exact if_pos h1
    · rw [if_neg (by have := h2 n (by omega) (by omega); unfold sN at this; omega)]
      exact sndI_of (by omega) h1 fun j hj hjn => h2 j hj (by omega)
theorem sndI_at {L : List Ed} {t : Int} {k : Nat} : ∀ {n : Nat}, sndI L t n = (k : Int) → k < n ∧ sN L k ≤ t ∧ ∀ j, k < j → j < n → t < sN L j
  | 0, h => by simp [sndI] at h
  | n + 1, h => by
    simp only [sndI] at h
    split at h
    · rename_i h1
      have : n = k := by omega
      subst this
      exact ⟨by omega, h1, fun j _ _ => by omega⟩
    · rename_i h1
      obtain ⟨a, b, c⟩ := sndI_at h
      refine ⟨by omega, b, fun j hj hjn => ?_⟩
      by_cases e : j = n
      · subst e; unfold sN; omega
      · exact c j hj (by omega)
structure SndOk (L : List Ed) : Prop where
  first : 0 < L.length → sN L 0 = 0
  mono : ∀ i, i + 1 < L.length → sN L i < sN L (i + 1)
  lt : ∀ i, i < L.length → sN L i < lenL L
theorem sndOk_of {R : List Rl} {L : List Ed} (h : chkRs R = 0) (h2 : ¬ 16 < L.length) (h3 : ∀ i, i < L.length → chkEd R L i = 0) (h5 : ∀ g, g < L.length → ordE (ls L) (lenL L) g = 0) : SndOk L := by
  have hE := EdsIn_of h (by omega) h3
  have ho : ∀ g, 0 < g → g < L.length → sN L (g - 1) < sN L g ∧ sN L g < lenL L := by
    intro g h0 hg
    have := h5 g hg
    unfold ordE at this
    have := of_decide_eq_false ((whenE_zero (by decide)).1 this)
    rw [sndN_ls hg, sndN_ls (show g - 1 < L.length by omega)] at this
    constructor
    · apply Classical.byContradiction; intro hc; exact this ⟨h0, .inl (by omega)⟩
    · apply Classical.byContradiction; intro hc; exact this ⟨h0, .inr (by omega)⟩
  have h0 : 0 < L.length → sN L 0 = 0 := fun hn => by
    have := (chkEd_ok (h3 0 hn)).first rfl
    unfold sN
    rw [this.2]; rfl
  refine ⟨h0, fun i hi => ?_, fun i hi => ?_⟩
  · exact (ho (i + 1) (by omega) hi).1
  · by_cases e : i = 0
    · subst e
      rw [h0 hi]
      have h1 := begN_bd hE L.length (Nat.le_refl _)
      unfold lenL
      omega
    · exact (ho i (by omega) hi).2
theorem SndOk.le {L : List Ed} (h : SndOk L) : ∀ {i j : Nat}, i ≤ j → j < L.length → sN L i ≤ sN L j := by
  intro i j hij hj
  induction j with
  | zero => rw [Nat.le_zero.1 hij]; exact Int.le_refl _
  | succ j ih =>
    by_cases e : i = j + 1
    · subst e; exact Int.le_refl _
    · have := ih (by omega) (by omega)
      have := h.mono j hj
      omega
theorem heardN_ls {L : List Ed} {k : Nat} (hk : k < L.length) : heardN (ls L) (lenL L) k = (sN L k, if k + 1 < L.length then sN L (k + 1) else lenL L) := by
  unfold heardN
  rw [ls_len, sndN_ls hk]
  split
  · rename_i h; rw [sndN_ls h]
  · rfl
theorem SndOk.at_ {L : List Ed} (h : SndOk L) {k : Nat} {t : Int} (hk : k < L.length) : sndI L t L.length = (k : Int) ↔ sN L k ≤ t ∧ (k + 1 < L.length → t < sN L (k + 1)) := by
  constructor
  · intro e
    obtain ⟨_, b, c⟩ := sndI_at e
    exact ⟨b, fun h1 => c _ (by omega) h1⟩
  · rintro ⟨b, c⟩
    refine sndI_of hk b fun j hj hjn => ?_
    have := c (by omega)
    have := h.le (show k + 1 ≤ j by omega) hjn
    omega
theorem bad_iff {R : List Rl} {L : List Ed} (hr : chkRs R = 0) (h : SndOk L) {k : Nat} (hk : k < L.length) : spE (mapR R R.length) (ls L) (lenL L) k ≠ 0 ↔ ∃ t : Nat, (t : Int) < lenL L ∧ badH R L k t := by
  have hto : ∃ b, (heardN (ls L) (lenL L) k).2 = b ∧ sN L k < b ∧ b ≤ lenL L ∧ ∀ t : Int, t < lenL L → (sndI L t L.length = (k : Int) ↔ sN L k ≤ t ∧ t < b) := by
    rw [heardN_ls hk]
    dsimp only
    split
    · rename_i h1
      exact ⟨_, rfl, h.mono k h1, Int.le_of_lt (h.lt _ h1), fun t _ => by rw [h.at_ hk]; exact ⟨fun ⟨a, b⟩ => ⟨a, b h1⟩, fun ⟨a, b⟩ => ⟨a, fun _ => b⟩⟩⟩
    · rename_i h1
      exact ⟨_, rfl, h.lt k hk, Int.le_refl _, fun t ht => by rw [h.at_ hk]; exact ⟨fun ⟨a, b⟩ => ⟨a, ht⟩, fun ⟨a, b⟩ => ⟨a, fun h2 => absurd h2 h1⟩⟩⟩
  obtain ⟨b, hb, hlt, hle, hs⟩ := hto
  have h0 : 0 ≤ sN L k := by
    have := h.le (Nat.zero_le k) hk
    rw [h.first (by omega)] at this
    exact this
  have hsp : spE (mapR R R.length) (ls L) (lenL L) k ≠ 0 ↔ ((L.getD k e0).2.1 + sN L k - begN L k < (rlOf R (L.getD k e0).1).2.1 ∨ endR (rlOf R (L.getD k e0).1) < (L.getD k e0).2.1 + b - begN L k) := by
    unfold spE
    rw [Ne, whenE_zero (by decide), decide_eq_false_iff_not, Classical.not_not, hb, heardN_ls hk, ls_get L hk, rlM_eq (rs_nodup hr)]
  rw [hsp]
  constructor
  · intro hc
    rcases hc with hc | hc
    · refine ⟨(sN L k).toNat, by omega, ?_, ?_⟩
      · rw [hs _ (by omega)]; omega
      · rw [hasB_not]; omega
    · refine ⟨(b - 1).toNat, by omega, ?_, ?_⟩
      · rw [hs _ (by omega)]; omega
      · rw [hasB_not]; omega
  · rintro ⟨t, ht, h1, h2⟩
    rw [hs _ ht] at h1
    rw [hasB_not] at h2
    omega
end Go.Sx

/- What the engine asks, written out (printed by a program). -/
namespace Go.Sx
open U
theorem vc210 (n : Int) : exF (env false [] []) h0 0 210 Proofs.Tryz.f210 [uV n] (.val (bV (letB n))) = ((bif bif decide ((65 : Int) ≤ n) then decide (n ≤ (90 : Int)) else false then true else bif decide ((97 : Int) ≤ n) then decide (n ≤ (122 : Int)) else false) = letB n ∧ True) := by
  kernel_rfl
theorem vc211 (n : Int) : exF (env false [] []) h0 0 211 Proofs.Tryz.f211 [uV n] (.val (bV (digB n))) = ((bif decide ((48 : Int) ≤ n) then decide (n ≤ (57 : Int)) else false) = digB n ∧ True) := by
  kernel_rfl
theorem vc169 (l : List UInt8) : exF (env false [(210, sp210), (211, sp211)] []) h169 0 169 Proofs.Tryz.f169 [sV l] (.val (bV (isName l))) = (let q1 := (↑(List.length l) : Int); ((bif q1 == (0 : Int) then true else decide ((24 : Int) < q1)) = false → (0 : Int) ≤ (0 : Int) ∧ (0 : Int) < q1) ∧ splitB (bif bif q1 == (0 : Int) then true else decide ((24 : Int) < q1) then true else !letB (↑(UInt8.toNat (List.getD l (0 : Nat) (0 : UInt8))) : Int)) (false = isName l ∧ True) ((∃ (g : Nat), (g ≤ List.length l ∧ (1 : Nat) ≤ g ∧ ∀ (j : Nat), j < g → nameAt l j = true) ∧ (1 : Int) = (↑g : Int) ∧ l = l ∧ True) ∧ ∀ (g : Nat), let q0 := (↑(UInt8.toNat (List.getD l g (0 : UInt8))) : Int); (g ≤ List.length l ∧ (1 : Nat) ≤ g ∧ ∀ (j : Nat), j < g → nameAt l j = true) → splitB (decide ((↑g : Int) < q1)) (((0 : Int) ≤ (↑g : Int) ∧ (↑g : Int) < q1) ∧ ((!letB q0) = true → (0 : Int) ≤ (↑g : Int) ∧ (↑g : Int) < q1) ∧ ((bif !letB q0 then !digB q0 else false) = true → (0 : Int) ≤ (↑g : Int) ∧ (↑g : Int) < q1) ∧ splitB (bif bif !letB q0 then !digB q0 else false then q0 != (95 : Int) else false) (false = isName l ∧ True) (fits IntKind.i64 ((↑g : Int) + (1 : Int)) ∧ ∃ (g' : Nat), (g' ≤ List.length l ∧ (1 : Nat) ≤ g' ∧ ∀ (j : Nat), j < g' → nameAt l j = true) ∧ List.length l - g' < List.length l - g ∧ (↑g : Int) + (1 : Int) = (↑g' : Int) ∧ l = l ∧ True)) (true = isName l ∧ True))) := by
  kernel_rfl
theorem vc102 (l : List UInt8) : exF (env false [(169, sp169), (70, sp70)] []) h0 0 102 Proofs.Tryz.f102 [sV l] (.val (iV (whenE (!isName l) 8))) = (List.length l ≤ (1000000000 : Nat) ∧ whenE (!isName l) (8 : Int) = whenE (!isName l) (8 : Int) ∧ True) := by
  kernel_rfl
theorem vc21 (nm : List UInt8) (f : Int) (l : List Int) : exF (env false [(102, sp102), (87, sp87), (61, sp61), (70, sp70)] []) h21 0 21 Proofs.Tryz.f21 [rV nm f l] (.val (iV (checkReel nm f l))) = (let q0 := (↑(List.length l) : Int); let q1 := (10000000 : Int); List.length nm ≤ (1000000000 : Nat) ∧ (2 : Nat) ≤ (1000000000 : Nat) ∧ splitB (first [whenE (!isName nm) (8 : Int), within f (0 : Int) q1] != (0 : Int)) (first [whenE (!isName nm) (8 : Int), within f (0 : Int) q1] = checkReel nm f l ∧ True) (splitB (q0 == (0 : Int)) ((12 : Int) = checkReel nm f l ∧ True) (splitB (decide ((256 : Int) < q0)) ((5 : Int) = checkReel nm f l ∧ True) ((∃ (g : Nat), (g ≤ List.length l ∧ upTo (fun (j : Nat) => within (List.getD l j (0 : Int)) (0 : Int) (65535 : Int)) g = (0 : Int)) ∧ (0 : Int) = (↑g : Int) ∧ [whenE (!isName nm) (8 : Int), within f (0 : Int) q1] = [whenE (!isName nm) (8 : Int), within f (0 : Int) q1] ∧ nm = nm ∧ f = f ∧ l = l ∧ True) ∧ ∀ (g : Nat), g ≤ List.length l ∧ upTo (fun (j : Nat) => within (List.getD l j (0 : Int)) (0 : Int) (65535 : Int)) g = (0 : Int) → splitB (decide ((↑g : Int) < q0)) (((0 : Int) ≤ (↑g : Int) ∧ (↑g : Int) < q0) ∧ splitB (within (List.getD l g (0 : Int)) (0 : Int) (65535 : Int) != (0 : Int)) (within (List.getD l g (0 : Int)) (0 : Int) (65535 : Int) = checkReel nm f l ∧ True) (fits IntKind.i64 ((↑g : Int) + (1 : Int)) ∧ ∃ (g' : Nat), (g' ≤ List.length l ∧ upTo (fun (j : Nat) => within (List.getD l j (0 : Int)) (0 : Int) (65535 : Int)) g' = (0 : Int)) ∧ List.length l - g' < List.length l - g ∧ (↑g : Int) + (1 : Int) = (↑g' : Int) ∧ [whenE (!isName nm) (8 : Int), within f (0 : Int) q1] = [whenE (!isName nm) (8 : Int), within f (0 : Int) q1] ∧ nm = nm ∧ f = f ∧ l = l ∧ True)) (fits IntKind.i64 (f + q0) ∧ whenE (decide (q1 < f + q0)) (4 : Int) = checkReel nm f l ∧ True))))) := by
  kernel_rfl
theorem vc115 (R : List Rl) (nm : List UInt8) : exF (env false [] []) h115 0 115 Proofs.Tryz.f115 [.one (.sl rlT R), sV nm] (.val (iV (findN R nm))) = ((∃ (g : Nat), (g ≤ List.length R ∧ g ≤ idxN nm R) ∧ (0 : Int) = (↑g : Int) ∧ R = R ∧ nm = nm ∧ True) ∧ ∀ (g : Nat), g ≤ List.length R ∧ g ≤ idxN nm R → splitB (decide ((↑g : Int) < (↑(List.length R) : Int))) (((0 : Int) ≤ (↑g : Int) ∧ (↑g : Int) < (↑(List.length R) : Int)) ∧ splitB ((List.getD R g r0).1 == nm) ((↑g : Int) = findN R nm ∧ True) (fits IntKind.i64 ((↑g : Int) + (1 : Int)) ∧ ∃ (g' : Nat), (g' ≤ List.length R ∧ g' ≤ idxN nm R) ∧ List.length R - g' < List.length R - g ∧ (↑g : Int) + (1 : Int) = (↑g' : Int) ∧ R = R ∧ nm = nm ∧ True)) ((-1 : Int) = findN R nm ∧ True)) := by
  kernel_rfl
theorem vc26 (R : List Rl) : exF (env false [(21, sp21), (115, sp115)] []) h26 0 26 Proofs.Tryz.f26 [.one (.sl rlT R)] (.val (iV (chkRs R))) = (let q1 := (↑(List.length R) : Int); splitB (decide ((8 : Int) < q1)) ((5 : Int) = chkRs R ∧ True) ((∃ (g : Nat), (g ≤ List.length R ∧ upTo (chkRl R) g = (0 : Int)) ∧ (0 : Int) = (↑g : Int) ∧ R = R ∧ True) ∧ ∀ (g : Nat), let q0 := (List.getD R g r0); g ≤ List.length R ∧ upTo (chkRl R) g = (0 : Int) → splitB (decide ((↑g : Int) < q1)) (((0 : Int) ≤ (↑g : Int) ∧ (↑g : Int) < q1) ∧ List.length q0.1 ≤ (1000000000 : Nat) ∧ List.length q0.2.2 ≤ (1000000 : Nat) ∧ splitB (checkReel q0.1 q0.2.1 q0.2.2 != (0 : Int)) (checkReel q0.1 q0.2.1 q0.2.2 = chkRs R ∧ True) (((0 : Int) ≤ (↑g : Int) ∧ (↑g : Int) < q1) ∧ List.length R ≤ (1000000000 : Nat) ∧ splitB (findN R q0.1 != (↑g : Int)) ((9 : Int) = chkRs R ∧ True) (fits IntKind.i64 ((↑g : Int) + (1 : Int)) ∧ ∃ (g' : Nat), (g' ≤ List.length R ∧ upTo (chkRl R) g' = (0 : Int)) ∧ List.length R - g' < List.length R - g ∧ (↑g : Int) + (1 : Int) = (↑g' : Int) ∧ R = R ∧ True))) ((0 : Int) = chkRs R ∧ True))) := by
  kernel_rfl
theorem vc125 (nm : List UInt8) (f : Int) (l : List Int) (n : Int) : exF (env false [] []) h0 0 125 Proofs.Tryz.f125 [rV nm f l, iV n] (.val (bV (hasB (nm, f, l) n))) = ((decide (f ≤ n) = true → fits IntKind.i64 (f + (↑(List.length l) : Int))) ∧ (bif decide (f ≤ n) then decide (n < f + (↑(List.length l) : Int)) else false) = hasB (nm, f, l) n ∧ True) := by
  kernel_rfl
theorem vc39 (L : List Ed) : exF (env false [] []) h39 0 39 Proofs.Tryz.f39 [.one (.sl edT L)] (.tup [.one (.frs (.int .i64) (startsL L)), iV (lenL L)]) = (let q2 := (List.length L); (∃ (g : Nat), Nat.le g q2 ∧ (0 : Int) = (↑g : Int) ∧ (0 : Int) = begN L g ∧ L = L ∧ List.map (begN L) (List.range g) = [] ∧ True) ∧ ∀ (g : Nat), let q0 := ((0 : Int) ≤ (↑g : Int) ∧ (↑g : Int) < (↑q2 : Int)); let q1 := (List.getD L g e0); Nat.le g q2 → splitB (decide ((↑g : Int) < (↑q2 : Int))) (room (List.length (List.map (begN L) (List.range g)) + (1 : Nat)) (8 : Nat) ∧ q0 ∧ fits IntKind.i64 (begN L g + q1.2.2.1) ∧ q0 ∧ fits IntKind.i64 (begN L g + q1.2.2.1 - q1.2.1) ∧ fits IntKind.i64 ((↑g : Int) + (1 : Int)) ∧ ∃ (g' : Nat), Nat.le g' q2 ∧ List.length L - g' < List.length L - g ∧ (↑g : Int) + (1 : Int) = (↑g' : Int) ∧ begN L g + q1.2.2.1 - q1.2.1 = begN L g' ∧ L = L ∧ List.map (begN L) (List.range g) ++ [begN L g] = List.map (begN L) (List.range g') ∧ True) (List.map (begN L) (List.range g) = startsL L ∧ begN L g = lenL L ∧ True)) := by
  kernel_rfl
theorem vc126 (L : List Ed) (fr : Int) : exF (env false [(39, sp39)] []) h126 0 126 Proofs.Tryz.f126 [.one (.sl edT L), iV fr] (.val (iV (sndI L fr L.length))) = (let q0 := (List.length L); EdsIn L ∧ (∃ (g : Nat), Nat.le g q0 ∧ (0 : Int) = (↑g : Int) ∧ (-1 : Int) = sndI L fr g ∧ L = L ∧ fr = fr ∧ startsL L = startsL L ∧ True) ∧ ∀ (g : Nat), Nat.le g q0 → splitB (decide ((↑g : Int) < (↑q0 : Int))) (((0 : Int) ≤ (↑g : Int) ∧ (↑g : Int) < (↑(List.length (startsL L)) : Int)) ∧ g < List.length (startsL L) ∧ ((0 : Int) ≤ (↑g : Int) ∧ (↑g : Int) < (↑q0 : Int)) ∧ fits IntKind.i64 (List.getD (startsL L) g (0 : Int) + (List.getD L g e0).2.2.2.2) ∧ splitB (decide (List.getD (startsL L) g (0 : Int) + (List.getD L g e0).2.2.2.2 ≤ fr)) (fits IntKind.i64 ((↑g : Int) + (1 : Int)) ∧ ∃ (g' : Nat), Nat.le g' q0 ∧ List.length L - g' < List.length L - g ∧ (↑g : Int) + (1 : Int) = (↑g' : Int) ∧ (↑g : Int) = sndI L fr g' ∧ L = L ∧ fr = fr ∧ startsL L = startsL L ∧ True) (fits IntKind.i64 ((↑g : Int) + (1 : Int)) ∧ ∃ (g' : Nat), Nat.le g' q0 ∧ List.length L - g' < List.length L - g ∧ (↑g : Int) + (1 : Int) = (↑g' : Int) ∧ sndI L fr g = sndI L fr g' ∧ L = L ∧ fr = fr ∧ startsL L = startsL L ∧ True)) (sndI L fr g = sndI L fr q0 ∧ True)) := by
  kernel_rfl
theorem vc16 (nm : List UInt8) (f : Int) (l : List Int) : exF (env false [] []) h0 0 16 Proofs.Tryz.f16 [rV nm f l] (.val (bV (shortR (nm, f, l)))) = ((bif decide ((↑(List.length nm) : Int) ≤ (40 : Int)) then bif decide ((↑(List.length l) : Int) ≤ (20 : Int)) then true else (↑(List.length l) : Int) == (257 : Int) else false) = shortR (nm, f, l) ∧ True) := by
  kernel_rfl
theorem vc82 (L : List Ed) : exF (env false [] []) h82 0 82 Proofs.Tryz.f82 [.one (.sl edT L)] (.val (bV (shortE L))) = (let q0 := (↑(List.length L) : Int); (∃ (g : Nat), (g ≤ List.length L ∧ ∀ (j : Nat), j < g → List.length (List.getD L j e0).1 ≤ (40 : Nat)) ∧ (0 : Int) = (↑g : Int) ∧ L = L ∧ True) ∧ ∀ (g : Nat), (g ≤ List.length L ∧ ∀ (j : Nat), j < g → List.length (List.getD L j e0).1 ≤ (40 : Nat)) → splitB (decide ((↑g : Int) < q0)) (((0 : Int) ≤ (↑g : Int) ∧ (↑g : Int) < q0) ∧ splitB (decide ((40 : Int) < (↑(List.length (List.getD L g e0).1) : Int))) (false = shortE L ∧ True) (fits IntKind.i64 ((↑g : Int) + (1 : Int)) ∧ ∃ (g' : Nat), (g' ≤ List.length L ∧ ∀ (j : Nat), j < g' → List.length (List.getD L j e0).1 ≤ (40 : Nat)) ∧ List.length L - g' < List.length L - g ∧ (↑g : Int) + (1 : Int) = (↑g' : Int) ∧ L = L ∧ True)) ((bif decide (q0 ≤ (6 : Int)) then true else q0 == (17 : Int)) = shortE L ∧ True)) := by
  kernel_rfl
theorem vc17 (R : List Rl) (L : List Ed) : exF (env false [(16, sp16), (82, sp82)] []) h17 0 17 Proofs.Tryz.f17 [.one (.sl rlT R), .one (.sl edT L)] (.val (bV (shortB R L))) = (let q0 := (↑(List.length R) : Int); (∃ (g : Nat), (g ≤ List.length R ∧ ∀ (j : Nat), j < g → shortR (List.getD R j r0) = true) ∧ (0 : Int) = (↑g : Int) ∧ R = R ∧ L = L ∧ True) ∧ ∀ (g : Nat), (g ≤ List.length R ∧ ∀ (j : Nat), j < g → shortR (List.getD R j r0) = true) → splitB (decide ((↑g : Int) < q0)) (((0 : Int) ≤ (↑g : Int) ∧ (↑g : Int) < q0) ∧ splitB (!shortR ((List.getD R g r0).1, (List.getD R g r0).2.1, (List.getD R g r0).2.2)) (false = shortB R L ∧ True) (fits IntKind.i64 ((↑g : Int) + (1 : Int)) ∧ ∃ (g' : Nat), (g' ≤ List.length R ∧ ∀ (j : Nat), j < g' → shortR (List.getD R j r0) = true) ∧ List.length R - g' < List.length R - g ∧ (↑g : Int) + (1 : Int) = (↑g' : Int) ∧ R = R ∧ L = L ∧ True)) (((bif decide (q0 ≤ (4 : Int)) then true else q0 == (9 : Int)) = true → List.length L ≤ (9223372036854775807 : Nat)) ∧ (bif bif decide (q0 ≤ (4 : Int)) then true else q0 == (9 : Int) then shortE L else false) = shortB R L ∧ True)) := by
  kernel_rfl
theorem vc38 (R : List Rl) (L : List Ed) : exF (env false [(26, sp26), (115, sp115), (125, sp125), (39, sp39), (126, sp126), (87, sp87), (61, sp61)] []) h38 0 38 Proofs.Tryz.f38 [.one (.sl rlT R), .one (.sl edT L)] (.val (iV (chkEds R L))) = (let q6 := (↑(List.length L) : Int); let q11 := (↑(List.length (startsL L)) : Int); let q14 := (1000000000 : Nat); let q15 := (↑(List.length R) : Int); List.length R ≤ q14 ∧ (∀ (r : Rl), r ∈ R → List.length r.2.2 ≤ (1000000 : Nat) ∧ List.length r.1 ≤ q14) ∧ splitB (chkRs R != (0 : Int)) (chkRs R = chkEds R L ∧ True) (splitB (decide ((16 : Int) < q6)) ((5 : Int) = chkEds R L ∧ True) ((∃ (g : Nat), (g ≤ List.length L ∧ upTo (chkEd R L) g = (0 : Int)) ∧ (0 : Int) = (↑g : Int) ∧ R = R ∧ L = L ∧ True) ∧ ∀ (g : Nat), let q3 := (List.getD L g e0); let q0 := (List.getD R (Int.toNat (findN R q3.1)) r0); let q2 := (bif decide ((0 : Int) < (↑g : Int)) then decide ((0 : Int) < q3.2.2.2.1) else false); let q4 := (List.getD L (Int.toNat ((↑g : Int) - (1 : Int))) e0); let q20 := (q3.2.2.1 ≤ q3.2.1); let q8 := (bif decide q20 then true else !hasB (q0.1, q0.2.1, q0.2.2) q3.2.1); let q9 := (List.getD R (Int.toNat (findN R q4.1)) r0); let q12 := (q2 = true → (0 : Int) ≤ (↑g : Int) - (1 : Int) ∧ (↑g : Int) - (1 : Int) < q6); let q18 := (q2 = true → fits IntKind.i64 ((↑g : Int) - (1 : Int))); g ≤ List.length L ∧ upTo (chkEd R L) g = (0 : Int) → splitB (decide ((↑g : Int) < q6)) (((0 : Int) ≤ (↑g : Int) ∧ (↑g : Int) < q6) ∧ List.length R ≤ q14 ∧ splitB (decide (findN R q3.1 < (0 : Int))) ((10 : Int) = chkEds R L ∧ True) ((decide q20 = false → (0 : Int) ≤ findN R q3.1 ∧ findN R q3.1 < q15) ∧ (decide q20 = false → fits IntKind.i64 (q0.2.1 + (↑(List.length q0.2.2) : Int))) ∧ (q8 = false → (0 : Int) ≤ findN R q3.1 ∧ findN R q3.1 < q15) ∧ (q8 = false → fits IntKind.i64 (q3.2.2.1 - (1 : Int))) ∧ (q8 = false → fits IntKind.i64 (q0.2.1 + (↑(List.length q0.2.2) : Int))) ∧ splitB (bif bif decide q20 then true else !hasB (q0.1, q0.2.1, q0.2.2) q3.2.1 then true else !hasB (q0.1, q0.2.1, q0.2.2) (q3.2.2.1 - (1 : Int))) ((14 : Int) = chkEds R L ∧ True) (fits IntKind.i64 (q3.2.2.1 - q3.2.1) ∧ (2 : Nat) ≤ q14 ∧ splitB (first [within q3.2.2.2.1 (0 : Int) (q3.2.2.1 - q3.2.1), within q3.2.2.2.2 (-100 : Int) (100 : Int)] != (0 : Int)) (first [within q3.2.2.2.1 (0 : Int) (q3.2.2.1 - q3.2.1), within q3.2.2.2.2 (-100 : Int) (100 : Int)] = chkEds R L ∧ True) (splitB (bif (↑g : Int) == (0 : Int) then bif q3.2.2.2.1 != (0 : Int) then true else q3.2.2.2.2 != (0 : Int) else false) ((21 : Int) = chkEds R L ∧ True) (q18 ∧ q12 ∧ (q2 = true → List.length R ≤ q14) ∧ (q2 = true → (0 : Int) ≤ findN R q4.1 ∧ findN R q4.1 < q15) ∧ q18 ∧ q12 ∧ (q2 = true → fits IntKind.i64 (q4.2.2.1 + q3.2.2.2.1)) ∧ (q2 = true → fits IntKind.i64 (q4.2.2.1 + q3.2.2.2.1 - (1 : Int))) ∧ (q2 = true → fits IntKind.i64 (q9.2.1 + (↑(List.length q9.2.2) : Int))) ∧ splitB (bif bif decide ((0 : Int) < (↑g : Int)) then decide ((0 : Int) < q3.2.2.2.1) else false then !hasB (q9.1, q9.2.1, q9.2.2) (q4.2.2.1 + q3.2.2.2.1 - (1 : Int)) else false) ((16 : Int) = chkEds R L ∧ True) (fits IntKind.i64 ((↑g : Int) + (1 : Int)) ∧ ∃ (g' : Nat), (g' ≤ List.length L ∧ upTo (chkEd R L) g' = (0 : Int)) ∧ List.length L - g' < List.length L - g ∧ (↑g : Int) + (1 : Int) = (↑g' : Int) ∧ R = R ∧ L = L ∧ True)))))) (EdsIn L ∧ splitB (decide ((1024 : Int) < lenL L)) ((4 : Int) = chkEds R L ∧ True) ((∃ (g : Nat), ((1 : Nat) ≤ g ∧ (g = (1 : Nat) ∨ g ≤ List.length L) ∧ ∀ (k : Nat), k < g → k < List.length L → ordE (ls L) (lenL L) k = (0 : Int)) ∧ (1 : Int) = (↑g : Int) ∧ lenL L = lenL L ∧ R = R ∧ L = L ∧ startsL L = startsL L ∧ True) ∧ ∀ (g : Nat), let q10 := ((↑g : Int) - (1 : Int)); let q1 := (List.getD (startsL L) g (0 : Int) + (List.getD L g e0).2.2.2.2 ≤ List.getD (startsL L) (Int.toNat q10) (0 : Int) + (List.getD L (Int.toNat q10) e0).2.2.2.2); let q16 := (List.getD (startsL L) g (0 : Int) + (List.getD L g e0).2.2.2.2); ((1 : Nat) ≤ g ∧ (g = (1 : Nat) ∨ g ≤ List.length L) ∧ ∀ (k : Nat), k < g → k < List.length L → ordE (ls L) (lenL L) k = (0 : Int)) → splitB (decide ((↑g : Int) < q6)) (((0 : Int) ≤ (↑g : Int) ∧ (↑g : Int) < q11) ∧ g < List.length (startsL L) ∧ ((0 : Int) ≤ (↑g : Int) ∧ (↑g : Int) < q6) ∧ fits IntKind.i64 q16 ∧ fits IntKind.i64 q10 ∧ ((0 : Int) ≤ (↑g : Int) - (1 : Int) ∧ (↑g : Int) - (1 : Int) < q11) ∧ Int.toNat q10 < List.length (startsL L) ∧ fits IntKind.i64 q10 ∧ ((0 : Int) ≤ (↑g : Int) - (1 : Int) ∧ (↑g : Int) - (1 : Int) < q6) ∧ fits IntKind.i64 (List.getD (startsL L) (Int.toNat q10) (0 : Int) + (List.getD L (Int.toNat q10) e0).2.2.2.2) ∧ (decide q1 = false → (0 : Int) ≤ (↑g : Int) ∧ (↑g : Int) < q11) ∧ (decide q1 = false → g < List.length (startsL L)) ∧ (decide q1 = false → (0 : Int) ≤ (↑g : Int) ∧ (↑g : Int) < q6) ∧ (decide q1 = false → fits IntKind.i64 q16) ∧ splitB (bif decide q1 then true else decide (lenL L ≤ List.getD (startsL L) g (0 : Int) + (List.getD L g e0).2.2.2.2)) ((11 : Int) = chkEds R L ∧ True) (fits IntKind.i64 ((↑g : Int) + (1 : Int)) ∧ ∃ (g' : Nat), ((1 : Nat) ≤ g' ∧ (g' = (1 : Nat) ∨ g' ≤ List.length L) ∧ ∀ (k : Nat), k < g' → k < List.length L → ordE (ls L) (lenL L) k = (0 : Int)) ∧ List.length L - g' < List.length L - g ∧ (↑g : Int) + (1 : Int) = (↑g' : Int) ∧ lenL L = lenL L ∧ R = R ∧ L = L ∧ startsL L = startsL L ∧ True)) ((∃ (g : Nat), (g ≤ List.length L ∧ ∀ (k t : Nat), k < g → (↑t : Int) < lenL L → ¬badH R L k t) ∧ (0 : Int) = (↑g : Int) ∧ lenL L = lenL L ∧ R = R ∧ L = L ∧ startsL L = startsL L ∧ True) ∧ ∀ (g : Nat), let q17 := (List.getD L g e0); let q7 := (List.getD R (Int.toNat (findN R q17.1)) r0); (g ≤ List.length L ∧ ∀ (k t : Nat), k < g → (↑t : Int) < lenL L → ¬badH R L k t) → splitB (decide ((↑g : Int) < q6)) ((∃ (g_1 : Nat), (g_1 ≤ Int.toNat (lenL L) ∧ ∀ (t : Nat), t < g_1 → ¬badH R L g t) ∧ (0 : Int) = (↑g_1 : Int) ∧ (↑g : Int) = (↑g : Int) ∧ lenL L = lenL L ∧ R = R ∧ L = L ∧ startsL L = startsL L ∧ True) ∧ ∀ (g_1 : Nat), let q5 := (sndI L (↑g_1 : Int) (List.length L) == (↑g : Int)); let q13 := (q17.2.1 + (↑g_1 : Int) - List.getD (startsL L) g (0 : Int)); let q19 := (q5 = true → (0 : Int) ≤ (↑g : Int) ∧ (↑g : Int) < q6); (g_1 ≤ Int.toNat (lenL L) ∧ ∀ (t : Nat), t < g_1 → ¬badH R L g t) → splitB (decide ((↑g_1 : Int) < lenL L)) (EdsIn L ∧ (∀ (x : Ed), x ∈ L → (-100 : Int) ≤ x.2.2.2.2 ∧ x.2.2.2.2 ≤ (100 : Int)) ∧ q19 ∧ (q5 = true → List.length R ≤ q14) ∧ (q5 = true → (0 : Int) ≤ findN R q17.1 ∧ findN R q17.1 < q15) ∧ q19 ∧ (q5 = true → fits IntKind.i64 (q17.2.1 + (↑g_1 : Int))) ∧ (q5 = true → (0 : Int) ≤ (↑g : Int) ∧ (↑g : Int) < q11) ∧ (q5 = true → g < List.length (startsL L)) ∧ (q5 = true → fits IntKind.i64 q13) ∧ (q5 = true → fits IntKind.i64 (q7.2.1 + (↑(List.length q7.2.2) : Int))) ∧ splitB (bif sndI L (↑g_1 : Int) (List.length L) == (↑g : Int) then !hasB (q7.1, q7.2.1, q7.2.2) q13 else false) ((16 : Int) = chkEds R L ∧ True) (fits IntKind.i64 ((↑g_1 : Int) + (1 : Int)) ∧ ∃ (g' : Nat), (g' ≤ Int.toNat (lenL L) ∧ ∀ (t : Nat), t < g' → ¬badH R L g t) ∧ Int.toNat (lenL L) - g' < Int.toNat (lenL L) - g_1 ∧ (↑g_1 : Int) + (1 : Int) = (↑g' : Int) ∧ (↑g : Int) = (↑g : Int) ∧ lenL L = lenL L ∧ R = R ∧ L = L ∧ startsL L = startsL L ∧ True)) (fits IntKind.i64 ((↑g : Int) + (1 : Int)) ∧ ∃ (g' : Nat), (g' ≤ List.length L ∧ ∀ (k t : Nat), k < g' → (↑t : Int) < lenL L → ¬badH R L k t) ∧ List.length L - g' < List.length L - g ∧ (↑g : Int) + (1 : Int) = (↑g' : Int) ∧ lenL L = lenL L ∧ R = R ∧ L = L ∧ startsL L = startsL L ∧ True)) ((0 : Int) = chkEds R L ∧ True))))))) := by
  kernel_rfl
end Go.Sx
