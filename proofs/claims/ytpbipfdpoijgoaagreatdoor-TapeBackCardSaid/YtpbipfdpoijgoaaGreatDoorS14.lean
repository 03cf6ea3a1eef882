/- A verified symbolic run of functions, part 14: lemmas, no claim of their own. -/
import Derived.Test.YtpbipfdpoijgoaaGreatDoorS13
namespace Go.Sx
open U
theorem fn43 (R : List Rl) (L : List Ed) (hl : R.length ≤ 1000000000) (hR : ∀ r ∈ R, r.2.2.length ≤ 1000000) (hL : L.length ≤ 1000000000) : Fn P1 gl1 43 [.one (.sl rlT R), .one (.sl edT L)] (.val (iV (chkEds R L))) true := by
  refine Fn.flat ?_ rfl
  refine fn_of false [(24, sp24), (107, sp107), (106, sp106), (129, sp129), (120, sp120), (130, sp130), (131, sp131), (112, sp112)] [] h43 0 Proofs.Tryz.f43 ⟨so24, so107, so106, so129, so120, so130, so131, so112, trivial⟩ trivial (by kernel_rfl) rfl (by kernel_rfl) rfl rfl rfl ?_
  rw [vc43]
  try simp only [splitB_iff, -eq_self]
  refine ⟨hl, hR, by decide, fun h => ?_, fun h => ?_⟩
  · have h' : first [chkRs R, whenE (decide ((16 : Int) < (L.length : Int))) 5] ≠ 0 := by simpa using h
    refine ⟨?_, trivial⟩
    unfold chkEds
    by_cases h1 : chkRs R = 0
    · rw [if_neg (by simpa using h1)]
      have h16 : 16 < L.length := by
        apply Classical.byContradiction
        intro hn
        apply h'
        have : decide ((16 : Int) < (L.length : Int)) = false := by rw [decide_eq_false_iff_not]; omega
        rw [h1, this]; rfl
      have : decide ((16 : Int) < (L.length : Int)) = true := by rw [decide_eq_true_eq]; omega
      rw [if_pos h16, h1, this]; rfl
    · rw [if_pos h1]
      simp [first, h1]
  · have hz := (first_zero_iff _).1 (show first [chkRs R, whenE (decide ((16 : Int) < (L.length : Int))) 5] = 0 by simpa using h)
    have h1 := hz (chkRs R) (by simp)
    have h16 : ¬ 16 < L.length := by
      have := hz _ (List.mem_cons_of_mem _ (List.mem_singleton.2 rfl))
      have := of_decide_eq_false ((whenE_zero (by decide)).1 this)
      omega
    have hc : chkEds R L = if upTo (chkEd R L) L.length ≠ 0 then upTo (chkEd R L) L.length else if 1024 < lenL L then 4 else if upTo (ordE (ls L) (lenL L)) L.length ≠ 0 then 11 else upTo (spE (mapR R R.length) (ls L) (lenL L)) L.length := by
      conv => lhs; unfold chkEds
      rw [if_neg (by simpa using h1), if_neg h16]
    have hN : begN L L.length = lenL L := rfl
    have hP : plTo L L.length = ls L := rfl
    have hrl : ∀ nm : List UInt8, Option.getD (U.mapGet .str (.pair .str (.pair (.int .i64) (.sl (.int .i64)))) (mapR R R.length) nm) r0 = rlOf R nm := rlM_eq (rs_nodup h1)
    simp only [hc, hN, hP, hrl, ls_len]
    refine ⟨⟨0, ⟨Nat.zero_le _, rfl⟩, rfl, trivial, trivial, trivial, trivial, trivial⟩, fun g hg => ⟨fun hlt => ?_, fun hge => ?_⟩⟩
    · have hlt' : g < L.length := by simpa using hlt
      refine ⟨h1, trivial, hlt', by omega, fun h0 => upTo_zero.1 hg.2 _ (by omega), fun h2 => ⟨?_, trivial⟩, fun h2 => ⟨by simp only [fits]; omega, g + 1, ⟨hlt', upTo_succ hg.2 (by simpa using h2)⟩, by omega, by simp, trivial, trivial, trivial, trivial, trivial⟩⟩
      have hne : chkEd R L g ≠ 0 := by simpa using h2
      have := upTo_eq hg.2 hne hlt'
      rw [if_pos (by rw [this]; exact hne), this]
    · have hge' : ¬ g < L.length := by simpa using hge
      have hgl : g = L.length := by omega
      subst hgl
      have he := upTo_zero.1 hg.2
      have hE : EdsIn L := EdsIn_of h1 (by omega) he
      rw [if_neg (by simpa using hg.2)]
      refine ⟨hl, hE, fun h3 => ⟨by rw [if_pos (of_decide_eq_true h3)], trivial⟩, fun h3 => ?_⟩
      have h3' : ¬ 1024 < lenL L := of_decide_eq_false h3
      rw [if_neg h3']
      have hb := pl_bd h1 (by omega) he (by omega)
      have hn := begN_bd hE L.length (Nat.le_refl _)
      rw [hN] at hn
      have hs : ∀ x ∈ ls L, fits .i64 (sndN x) := fun x hx => by have := hb x hx; simp only [fits, sndN]; omega
      have hs' : ∀ i, i < L.length → fits .i64 (sndN ((ls L).getD i pl0)) := fun i hi => hs _ (getD_mem (by rw [ls_len]; exact hi))
      refine ⟨⟨0, ⟨Nat.zero_le _, rfl⟩, rfl, trivial, trivial, trivial, trivial, trivial, trivial, trivial, trivial, trivial⟩, fun i hi => ⟨fun hlt => ?_, fun hge => ?_⟩⟩
      · have hlt' : i < L.length := by simpa using hlt
        have e1 : ((i : Int) - 1).toNat = i - 1 := by omega
        rw [e1]
        refine ⟨by omega, fun _ => hs' i hlt', fun _ => by simp only [fits]; omega, fun h0 => by have := of_decide_eq_true h0; omega, fun _ => hs' (i - 1) (by omega), fun _ => hs' i hlt', fun h4 => ⟨?_, trivial⟩, fun h4 => ⟨by simp only [fits]; omega, i + 1, ⟨hlt', upTo_succ hi.2 ?_⟩, by omega, by simp, trivial, trivial, trivial, trivial, trivial, trivial, trivial, trivial, trivial⟩⟩
        · simp only [bcond_l, bcond_r, Bool.and_eq_true, Bool.or_eq_true, decide_eq_true_eq] at h4
          have hne : ordE (ls L) (lenL L) i ≠ 0 := by
            unfold ordE
            rw [show decide (0 < i ∧ (sndN ((ls L).getD i pl0) ≤ sndN ((ls L).getD (i - 1) pl0) ∨ lenL L ≤ sndN ((ls L).getD i pl0))) = true from decide_eq_true ⟨by omega, h4.2⟩]
            decide
          have := upTo_eq hi.2 hne hlt'
          rw [if_pos (by rw [this]; exact hne)]
        · unfold ordE
          rw [whenE_zero (by decide), decide_eq_false_iff_not]
          rintro ⟨k1, k2⟩
          rw [← Bool.not_eq_true] at h4
          apply h4
          simp only [bcond_l, bcond_r, Bool.and_eq_true, Bool.or_eq_true, decide_eq_true_eq]
          exact ⟨by omega, k2⟩
      · have hge' : ¬ i < L.length := by simpa using hge
        have hil : i = L.length := by omega
        subst hil
        rw [if_neg (by simpa using hi.2)]
        refine ⟨⟨0, ⟨Nat.zero_le _, rfl⟩, rfl, trivial, trivial, trivial, trivial, trivial, trivial, trivial, trivial, trivial⟩, fun j hj => ⟨fun hlt => ?_, fun hge => ?_⟩⟩
        · have hlt' : j < L.length := by simpa using hlt
          have hx := hb _ (getD_mem (d := pl0) (show j < (ls L).length by rw [ls_len]; exact hlt'))
          have hh := heard_bd (fun x hx => (hb x hx).2.2.2) (n := lenL L) (by omega) (show j < (ls L).length by rw [ls_len]; exact hlt')
          have hr := reel_bd h1 ((ls L).getD j pl0).1.1
          have hrl2 := hr.2.2.2
          have hsp : spE (mapR R R.length) (ls L) (lenL L) j = whenE (decide (((ls L).getD j pl0).1.2.1 + (heardN (ls L) (lenL L) j).1 - ((ls L).getD j pl0).2 < (rlOf R ((ls L).getD j pl0).1.1).2.1 ∨ endR (rlOf R ((ls L).getD j pl0).1.1) < ((ls L).getD j pl0).1.2.1 + (heardN (ls L) (lenL L) j).2 - ((ls L).getD j pl0).2)) 16 := by
            simp only [spE, rlM_eq (rs_nodup h1)]
          refine ⟨by omega, trivial, hlt', hs, by omega, by simp only [fits]; omega, by simp only [fits]; omega, fun _ => by simp only [fits]; omega, fun _ => by simp only [fits]; omega, fun _ => by simp only [fits]; omega, fun h4 => ⟨?_, trivial⟩, fun h4 => ⟨by simp only [fits]; omega, j + 1, ⟨hlt', upTo_succ hj.2 ?_⟩, by omega, by simp, trivial, trivial, trivial, trivial, trivial, trivial, trivial, trivial, trivial⟩⟩
          · simp only [bcond_l, Bool.or_eq_true, decide_eq_true_eq] at h4
            have h16 : spE (mapR R R.length) (ls L) (lenL L) j = 16 := by
              exact hsp.trans (congrArg (fun b => whenE b 16) (decide_eq_true h4))
            have := upTo_eq hj.2 (by rw [h16]; decide) hlt'
            rw [this, h16]
          · rw [hsp, whenE_zero (by decide), decide_eq_false_iff_not]
            intro hk
            rw [← Bool.not_eq_true] at h4
            apply h4
            simp only [bcond_l, Bool.or_eq_true, decide_eq_true_eq]
            exact hk
        · have hge' : ¬ j < L.length := by simpa using hge
          have hjl : j = L.length := by omega
          subst hjl
          rw [hj.2]
          exact ⟨rfl, trivial⟩
theorem so43_ : SpecOk P1 gl1 43 sp43 := by
  intro vs ps r h hp
  simp only [sp43] at h
  split at h
  · cases h; exact fn43 _ _ (hp _ (.head _)) (hp _ (.tail _ (.head _))) (hp _ (.tail _ (.tail _ (.head _))))
  · cases h
theorem so43 : Sp1 43 sp43 := ⟨so43_, Proofs.Tryz.f43, _, by kernel_rfl, rfl, by kernel_rfl⟩
theorem fn121 (p : List Pl) (hl : p.length ≤ 1000000) : Fn P1 gl1 121 [.one (.sl plT p), .one (.fn 122 [] [])] (.val (.one (.frs (.int .i64) (p.map fun x => x.2)))) true := by
  refine Fn.flat ?_ rfl
  refine fn_of false [] [fb122] h121 3 Proofs.Tryz.f121 trivial ⟨⟨by kernel_rfl, by kernel_rfl, _, rfl, by kernel_rfl⟩, trivial⟩ (by kernel_rfl) rfl (by kernel_rfl) rfl rfl rfl ?_
  rw [vc121]
  try simp only [splitB_iff, -eq_self]
  refine ⟨⟨0, Nat.zero_le _, rfl, rfl, rfl, by simp⟩, fun g hg => ⟨fun hlt => ?_, fun hge => ?_⟩⟩
  · have hlt' : g < p.length := by simpa using hlt
    refine ⟨by omega, by simp only [room, List.length_map, List.length_take]; omega, by simp only [fits]; omega, g + 1, hlt', by omega, by simp, rfl, rfl, ?_, trivial⟩
    rw [getD_of hlt', List.take_succ_eq_append_getElem hlt', List.map_append]
    rfl
  · have hge' : ¬ g < p.length := by simpa using hge
    rw [List.take_of_length_le (by omega)]
    exact ⟨rfl, trivial⟩
theorem so121_ : SpecOk P1 gl1 121 sp121 := by
  intro vs ps r h hp
  simp only [sp121] at h
  split at h
  · cases h; exact fn121 _ (hp _ (.head _))
  · cases h
theorem so121 : Sp1 121 sp121 := ⟨so121_, Proofs.Tryz.f121, _, by kernel_rfl, rfl, by kernel_rfl⟩
theorem fn33 (R : List Rl) (L : List Ed) (hl : R.length ≤ 1000000000) (hR : ∀ r ∈ R, r.2.2.length ≤ 1000000) (hL : L.length ≤ 1000000000) : Fn P1 gl1 33 [.one (.sl rlT R), .one (.sl edT L)] (.tup [.one (.frs (.int .i64) (startsN R L)), iV (lenN R L), iV (chkEds R L)]) true := by
  refine Fn.flat ?_ rfl
  refine fn_of false [(43, sp43), (120, sp120), (121, sp121)] [] h0 0 Proofs.Tryz.f33 ⟨so43, so120, so121, trivial⟩ trivial (by kernel_rfl) rfl (by kernel_rfl) rfl rfl rfl ?_
  rw [vc33]
  try simp only [splitB_iff, -eq_self]
  refine ⟨hl, hR, hL, fun h => ?_, fun h => ?_⟩
  · have h' : chkEds R L ≠ 0 := by simpa using h
    unfold startsN lenN
    rw [if_neg h', if_neg h']
    exact ⟨rfl, rfl, rfl, trivial⟩
  · have h' : chkEds R L = 0 := by simpa using h
    have hk := chkEds_zero.1 h'
    have := hk.len
    unfold startsN lenN
    rw [if_pos h', if_pos h', h']
    exact ⟨hl, hk.eds, by rw [plTo_len]; omega, rfl, rfl, rfl, trivial⟩
theorem so33_ : SpecOk P1 gl1 33 sp33 := by
  intro vs ps r h hp
  simp only [sp33] at h
  split at h
  · cases h; exact fn33 _ _ (hp _ (.head _)) (hp _ (.tail _ (.head _))) (hp _ (.tail _ (.tail _ (.head _))))
  · cases h
theorem so33 : Sp1 33 sp33 := ⟨so33_, Proofs.Tryz.f33, _, by kernel_rfl, rfl, by kernel_rfl⟩
theorem fn36 (R : List Rl) (L : List Ed) (hl : R.length ≤ 1000000000) (hR : ∀ r ∈ R, r.2.2.length ≤ 1000000) (hL : L.length ≤ 1000000000) : Fn P1 gl1 36 [.one (.sl rlT R), .one (.sl edT L)] (.tup [.one (.frs tkT (soundsN R L)), iV (chkEds R L)]) true := by
  refine Fn.flat ?_ rfl
  refine fn_of false [(43, sp43), (120, sp120), (124, sp124)] [] h36 0 Proofs.Tryz.f36 ⟨so43, so120, so124, trivial⟩ trivial (by kernel_rfl) rfl (by kernel_rfl) rfl rfl rfl ?_
  rw [vc36]
  try simp only [splitB_iff, -eq_self]
  refine ⟨hl, hR, hL, fun h => ?_, fun h => ?_⟩
  · have h' : chkEds R L ≠ 0 := by simpa using h
    unfold soundsN
    rw [if_neg h']
    exact ⟨rfl, rfl, trivial⟩
  · have h' : chkEds R L = 0 := by simpa using h
    have hk := chkEds_zero.1 h'
    have hn := lenL_nn hk
    have hbig := hk.big
    have hN : begN L L.length = lenL L := rfl
    rw [hN]
    refine ⟨hl, hk.eds, ⟨0, Nat.zero_le _, rfl, rfl, rfl, rfl, rfl, rfl, rfl, rfl, trivial⟩, fun g hg => ⟨fun hlt => ?_, fun hge => ?_⟩⟩
    · have hlt' : (g : Int) < lenL L := of_decide_eq_true hlt
      refine ⟨hk.pls' (by omega) hlt', ⟨by omega, hk.frame hlt'⟩, by simp only [room, List.length_map, List.length_range]; omega, by simp only [fits]; omega, g + 1, by show g + 1 ≤ _; omega, by omega, by simp, rfl, rfl, rfl, ?_, rfl, rfl, rfl, trivial⟩
      rw [map_range]
    · have hge' : ¬ (g : Int) < lenL L := of_decide_eq_false hge
      have : g = (lenL L).toNat := by have : g ≤ (lenL L).toNat := hg
                                      omega
      subst this
      unfold soundsN
      rw [if_pos h', h']
      exact ⟨rfl, rfl, trivial⟩
theorem so36_ : SpecOk P1 gl1 36 sp36 := by
  intro vs ps r h hp
  simp only [sp36] at h
  split at h
  · cases h; exact fn36 _ _ (hp _ (.head _)) (hp _ (.tail _ (.head _))) (hp _ (.tail _ (.tail _ (.head _))))
  · cases h
theorem so36 : Sp1 36 sp36 := ⟨so36_, Proofs.Tryz.f36, _, by kernel_rfl, rfl, by kernel_rfl⟩
theorem fn35 (R : List Rl) (L : List Ed) (hl : R.length ≤ 1000000000) (hR : ∀ r ∈ R, r.2.2.length ≤ 1000000) (hL : L.length ≤ 1000000000) : Fn P1 gl1 35 [.one (.sl rlT R), .one (.sl edT L)] (.tup [.one (.frs (.sl tkT) (confN R L)), iV (chkEds R L)]) false := by
  refine fn_of false [(43, sp43), (120, sp120), (155, sp155)] [fb123, fb174] h35 3 Proofs.Tryz.f35 ⟨so43, so120, so155, trivial⟩ ⟨⟨by kernel_rfl, by kernel_rfl, _, rfl, by kernel_rfl⟩, ⟨by kernel_rfl, by kernel_rfl, _, rfl, by kernel_rfl⟩, trivial⟩ (by kernel_rfl) rfl (by kernel_rfl) rfl rfl rfl ?_
  rw [vc35]
  try simp only [splitB_iff, -eq_self]
  refine ⟨hl, hR, hL, fun h => ?_, fun h => ?_⟩
  · have h' : chkEds R L ≠ 0 := by simpa using h
    unfold confN
    rw [if_neg h']
    exact ⟨rfl, rfl, trivial⟩
  · have h' : chkEds R L = 0 := by simpa using h
    have hk := chkEds_zero.1 h'
    have hn := lenL_nn hk
    have hbig := hk.big
    have hN : begN L L.length = lenL L := rfl
    rw [hN]
    refine ⟨hl, hk.eds, ⟨0, Nat.zero_le _, rfl, rfl, rfl, rfl, rfl, rfl, trivial⟩, fun g hg => ⟨fun hlt => ?_, fun hge => ?_⟩⟩
    · have hlt' : (g : Int) < lenL L := of_decide_eq_true hlt
      refine ⟨hk.pls' (by omega) hlt', ⟨by omega, hk.frame hlt'⟩, by simp only [room, List.length_map, List.length_range]; omega, by simp only [fits]; omega, g + 1, by show g + 1 ≤ _; omega, by omega, by simp, rfl, ?_, rfl, rfl, rfl, trivial⟩
      rw [map_range]
    · have hge' : ¬ (g : Int) < lenL L := of_decide_eq_false hge
      have : g = (lenL L).toNat := by have : g ≤ (lenL L).toNat := hg
                                      omega
      subst this
      unfold confN
      rw [if_pos h', h']
      exact ⟨rfl, rfl, trivial⟩
theorem so35_ : SpecOk P1 gl1 35 sp35 := by
  intro vs ps r h hp
  simp only [sp35] at h
  split at h
  · cases h; exact fn35 _ _ (hp _ (.head _)) (hp _ (.tail _ (.head _))) (hp _ (.tail _ (.tail _ (.head _))))
  · cases h
theorem so35 : Sp1 35 sp35 := ⟨so35_, Proofs.Tryz.f35, _, by kernel_rfl, rfl, by kernel_rfl⟩
theorem fn37 (R : List Rl) (L : List Ed) (hl : R.length ≤ 1000000000) (hR : ∀ r ∈ R, r.2.2.length ≤ 1000000) (hL : L.length ≤ 1000000000) : Fn P1 gl1 37 [.one (.sl rlT R), .one (.sl edT L)] (.tup [.one (.frs (.int .i64) (playN R L)), iV (chkEds R L)]) true := by
  refine Fn.flat ?_ rfl
  refine fn_of false [(43, sp43), (120, sp120), (155, sp155)] [fb123, fb174] h37 3 Proofs.Tryz.f37 ⟨so43, so120, so155, trivial⟩ ⟨⟨by kernel_rfl, by kernel_rfl, _, rfl, by kernel_rfl⟩, ⟨by kernel_rfl, by kernel_rfl, _, rfl, by kernel_rfl⟩, trivial⟩ (by kernel_rfl) rfl (by kernel_rfl) rfl rfl rfl ?_
  rw [vc37]
  try simp only [splitB_iff, -eq_self]
  refine ⟨hl, hR, hL, fun h => ?_, fun h => ?_⟩
  · have h' : chkEds R L ≠ 0 := by simpa using h
    unfold playN
    rw [if_neg h']
    exact ⟨rfl, rfl, trivial⟩
  · have h' : chkEds R L = 0 := by simpa using h
    have hk := chkEds_zero.1 h'
    have hn := lenL_nn hk
    have hbig := hk.big
    have hN : begN L L.length = lenL L := rfl
    have hP : plTo L L.length = ls L := rfl
    have hrl : ∀ nm : List UInt8, Option.getD (U.mapGet .str (.pair .str (.pair (.int .i64) (.sl (.int .i64)))) (mapR R R.length) nm) r0 = rlOf R nm := rlM_eq (rs_nodup hk.rs)
    simp only [hN, hP, hrl]
    refine ⟨hl, hk.eds, ⟨0, Nat.zero_le _, rfl, trivial, rfl, trivial, trivial, trivial, trivial, trivial, trivial, trivial⟩, fun g hg => ⟨fun hlt => ?_, fun hge => ?_⟩⟩
    · have hlt' : (g : Int) < lenL L := of_decide_eq_true hlt
      have ht := takes_ok hk (show (0 : Int) ≤ g by omega) hlt'
      generalize hts : takesN (ls L) (g : Int) = ts at *
      refine ⟨hk.pls' (by omega) hlt', ⟨by omega, hk.frame hlt'⟩, ⟨0, Nat.zero_le _, rfl, rfl, rfl, trivial, trivial, trivial, trivial, trivial, trivial, trivial, trivial, trivial, trivial⟩, fun j hj => ⟨fun hjl => ?_, fun hjg => ?_⟩⟩
      · have hjl' : j < ts.length := by simpa using hjl
        have hm := mix_bd hk.rs ht.2 j (by omega) (by omega)
        have hx := ht.2 _ (getD_mem (d := tk0) hjl')
        have hs := mixTo_succ (rs_nodup hk.rs) ts j
        have hB : nB j ≤ 131070000 ∧ dB j ≤ 2000 := by
          have : j = 0 ∨ j = 1 := by omega
          rcases this with rfl | rfl <;> decide
        have hc := take_check hk.rs hx
        have hst := mix_step hB.1 hB.2 ⟨hm.n0, hm.n1⟩ ⟨hm.d0, hm.d1⟩ hc.2 hx.num hx.den
        have hr := reel_bd hk.rs (ts.getD j tk0).1
        have h1 := hx.lo
        have h2 := hx.hi
        refine ⟨by omega, hst.1, by simp only [fits]; omega, hc.1, hst.2.1, hst.2.2.1, hst.2.2.2.1, hst.2.2.2.2.1, by simp only [fits]; omega, j + 1, hjl', by omega, by simp, ?_, ?_, trivial, trivial, trivial, trivial, trivial, trivial, trivial, trivial, trivial, trivial⟩
        · rw [hs]
        · rw [hs]
      · have hjg' : ¬ j < ts.length := by simpa using hjg
        have hjj : j = ts.length := by have : j ≤ ts.length := hj
                                       omega
        have hm := mix_bd hk.rs ht.2 j (by omega) (by omega)
        have hB : nB j ≤ 524280000000 ∧ dB j ≤ 4000000 := by
          have : j = 0 ∨ j = 1 ∨ j = 2 := by omega
          rcases this with rfl | rfl | rfl <;> decide
        have n0 := hm.n0
        have n1 := hm.n1
        have d0 := hm.d0
        have d1 := hm.d1
        have q1 := Int.ediv_nonneg (a := 2 * (mixTo (mapR R R.length) ts j).1 + (mixTo (mapR R R.length) ts j).2) (b := 2 * (mixTo (mapR R R.length) ts j).2) (by omega) (by omega)
        have q2 := Int.ediv_le_self (a := 2 * (mixTo (mapR R R.length) ts j).1 + (mixTo (mapR R R.length) ts j).2) (2 * (mixTo (mapR R R.length) ts j).2) (by omega)
        refine ⟨by simp only [fits]; omega, by simp only [fits]; omega, by simp only [fits]; omega, ⟨by omega, by omega, by simp only [fits]; omega⟩, by simp only [room, List.length_map, List.length_range]; omega, by simp only [fits]; omega, g + 1, by show g + 1 ≤ _; omega, by omega, by simp, trivial, ?_, trivial, trivial, trivial, trivial, trivial, trivial, trivial⟩
        rw [map_range, hts, hjj]
        rfl
    · have hge' : ¬ (g : Int) < lenL L := of_decide_eq_false hge
      have : g = (lenL L).toNat := by have : g ≤ (lenL L).toNat := hg
                                      omega
      subst this
      unfold playN
      rw [if_pos h', h']
      exact ⟨rfl, rfl, trivial⟩
theorem so37_ : SpecOk P1 gl1 37 sp37 := by
  intro vs ps r h hp
  simp only [sp37] at h
  split at h
  · cases h; exact fn37 _ _ (hp _ (.head _)) (hp _ (.tail _ (.head _))) (hp _ (.tail _ (.tail _ (.head _))))
  · cases h
theorem so37 : Sp1 37 sp37 := ⟨so37_, Proofs.Tryz.f37, _, by kernel_rfl, rfl, by kernel_rfl⟩
theorem fn50 (R : List Rl) (L : List Ed) (i by_ : Int) (hl : R.length ≤ 1000000000) (hR : ∀ r ∈ R, r.2.2.length ≤ 1000000) (hL : L.length ≤ 1000000000) : Fn P1 gl1 50 [.one (.sl rlT R), .one (.sl edT L), iV i, iV by_] (.tup [.one (.frs edT (chgL R L i by_ 1 rollL)), iV (chgE R L i by_ 1 rollL)]) true := by
  refine Fn.flat ?_ rfl
  refine fn_of false [(43, sp43), (107, sp107), (109, sp109), (106, sp106)] [fb132, fb134, fb180, fb156] h0 3 Proofs.Tryz.f50 ⟨so43, so107, so109, so106, trivial⟩ ⟨⟨by kernel_rfl, by kernel_rfl, _, rfl, by kernel_rfl⟩, ⟨by kernel_rfl, by kernel_rfl, _, rfl, by kernel_rfl⟩, ⟨by kernel_rfl, by kernel_rfl, _, rfl, by kernel_rfl⟩, ⟨by kernel_rfl, by kernel_rfl, _, rfl, by kernel_rfl⟩, trivial⟩ (by kernel_rfl) rfl (by kernel_rfl) rfl rfl rfl ?_
  rw [vc50]
  try simp only [splitB_iff, -eq_self]
  simp only [U.copyL_all (show L.length = L.length from rfl)]
  simp only [trim_fold, front_fold]
  refine ⟨hl, hR, hL, fun h => ?_, fun h => ?_⟩
  · have := chg_bad (i := i) (b := by_) (least := 1) (g := rollL) (show chkEds R L ≠ 0 by simpa using h)
    exact ⟨this.1, this.2, trivial⟩
  · have h' : chkEds R L = 0 := by simpa using h
    rw [chkCh_eq h']
    refine ⟨by decide, fun h2 => ?_, fun h2 => ?_⟩
    · have := chg_err (g := rollL) (show chkCh R L i by_ 1 ≠ 0 by simpa using h2)
      exact ⟨this.1, this.2, trivial⟩
    · have h2' : chkCh R L i by_ 1 = 0 := by simpa using h2
      obtain ⟨hk, hi, hb⟩ := chkCh_zero (by decide) h2'
      obtain ⟨k1, k2⟩ := chg_ok (g := rollL) h2'
      have hlen := hk.len
      have e1 : (i - 1).toNat = i.toNat - 1 := by omega
      have g1 := hk.eds.2 _ (getD_mem (d := e0) (show i.toNat - 1 < L.length by omega))
      have g2 := hk.eds.2 _ (getD_mem (d := e0) (show i.toNat < L.length by omega))
      have g3 : ((trimL L (i.toNat - 1) by_).getD i.toNat e0) = L.getD i.toNat e0 := by
        rw [trimL_get _ _ _ _ (by omega), if_neg (by omega)]
      rw [e1]
      simp only [roll_fold, trimL_len, rollL_len, g3]
      refine ⟨by omega, by simp only [room]; omega, by omega, by simp only [fits]; omega, by omega, by omega, by simp only [fits]; omega, by omega, by omega, by omega, by omega, by simp only [fits]; omega, by omega, by omega, hl, hR, hL, fun h3 => ?_, fun h3 => ?_⟩
      · have := k1 (by simpa using h3)
        exact ⟨this.1, this.2, trivial⟩
      · have := k2 (by simpa using h3)
        exact ⟨this.1, this.2, trivial⟩
theorem so50_ : SpecOk P1 gl1 50 sp50 := by
  intro vs ps r h hp
  simp only [sp50] at h
  split at h
  · cases h; exact fn50 _ _ _ _ (hp _ (.head _)) (hp _ (.tail _ (.head _))) (hp _ (.tail _ (.tail _ (.head _))))
  · cases h
theorem so50 : Sp1 50 sp50 := ⟨so50_, Proofs.Tryz.f50, _, by kernel_rfl, rfl, by kernel_rfl⟩
end Go.Sx

namespace Go.Sx.U
def letB (n : Int) : Bool := bif (bif decide (65 ≤ n) then decide (n ≤ 90) else false) then true else (bif decide (97 ≤ n) then decide (n ≤ 122) else false)
def digB (n : Int) : Bool := bif decide (48 ≤ n) then decide (n ≤ 57) else false
def shortR (r : Rl) : Bool := decide (r.1.length ≤ 40) && (decide (r.2.2.length ≤ 20) || decide (r.2.2.length = 257))
def shortE (L : List Ed) : Bool := (L.all fun x => decide (x.1.length ≤ 40)) && (decide (L.length ≤ 6) || decide (L.length = 17))
end Go.Sx.U
namespace Go.Sx
open U
def strOf (s : St) (t : Nat) : Option (List UInt8) := match lookT s.tm t with
  | some (.val (.one (.str l))) => some l
  | _ => none
def hCt (s : St) (keep : List Nat) (ti n : Nat) (J : Nat → Prop) : Option LInv := some ⟨Nat, fun i => s.at keep [tI ti i], fun i => i ≤ n ∧ J i, fun i => n - i⟩
def rlAt (s : St) (t : Nat) : Option Rl := match ptrId s t with
  | some b => match lookO s.ob b with
    | some (.box [.one (.str nm), .one (.int .i64 f), .one (.sl (.int .i64) l)]) => some (nm, f, l)
    | _ => none
  | none => none
def h169 : Hints := ⟨fun f k s => match f, k with
  | 169, 4 => match strOf s 0 with
    | some l => hCt s [0] 3 (List.length l) fun i => 1 ≤ i ∧ ∀ j, j < i → nameAt l j = true
    | _ => none
  | _, _ => none, 0⟩
def h82 : Hints := ⟨fun f k s => match f, k with
  | 82, 2 => match listAs s 0 edT with
    | some L => hCt s [0] 3 (List.length L) fun i => ∀ j, j < i → (List.getD L j e0).1.length ≤ 40
    | _ => none
  | _, _ => none, 0⟩
def h17 : Hints := ⟨fun f k s => match f, k with
  | 17, 2 => match listAs s 0 rlT with
    | some R => hCt s [0, 1] 5 (List.length R) fun i => ∀ j, j < i → shortR (List.getD R j r0) = true
    | _ => none
  | _, _ => none, 0⟩
end Go.Sx
namespace Go.Sx
open U
def sp210 : FSpec := ⟨fun vs => match vs with
  | [.one (.int .u8 n)] => some ([], .val (bV (letB n)))
  | _ => none, true⟩
def sp211 : FSpec := ⟨fun vs => match vs with
  | [.one (.int .u8 n)] => some ([], .val (bV (digB n)))
  | _ => none, true⟩
def sp169 : FSpec := ⟨fun vs => match vs with
  | [.one (.str l)] => some ([List.length l ≤ 1000000000], .val (bV (isName l)))
  | _ => none, true⟩
def sp102 : FSpec := ⟨fun vs => match vs with
  | [.one (.str l)] => some ([List.length l ≤ 1000000000], .val (iV (whenE (!isName l) 8)))
  | _ => none, true⟩
def sp82 : FSpec := ⟨fun vs => match vs with
  | [.one (.sl (.pair .str (.pair (.int .i64) (.pair (.int .i64) (.pair (.int .i64) (.int .i64))))) L)] => some ([List.length L ≤ 9223372036854775807], .val (bV (shortE L)))
  | _ => none, true⟩
end Go.Sx

namespace Go.Sx
open U
def sN (L : List Ed) (i : Nat) : Int := begN L i + (L.getD i e0).2.2.2.2
structure SndOk (L : List Ed) : Prop where
  first : 0 < L.length → sN L 0 = 0
  mono : ∀ i, i + 1 < L.length → sN L i < sN L (i + 1)
  lt : ∀ i, i < L.length → sN L i < lenL L
theorem SndOk.le {L : List Ed} (h : SndOk L) : ∀ {i j : Nat}, i ≤ j → j < L.length → sN L i ≤ sN L j := by
  intro i j hij hj
  induction j with
  | zero => rw [Nat.le_zero.1 hij]; exact Int.le_refl _
  | succ j ih =>
    by_cases e : i = j + 1
    · subst e; exact Int.le_refl _
    · have := ih (by omega) (by omega)
      have := h.mono j hj
      omega
end Go.Sx

namespace Go.Sx
open U
theorem vc210 (n : Int) : exF (env false [] []) h0 0 210 Proofs.Tryz.f210 [uV n] (.val (bV (letB n))) = ((bif bif decide ((65 : Int) ≤ n) then decide (n ≤ (90 : Int)) else false then true else bif decide ((97 : Int) ≤ n) then decide (n ≤ (122 : Int)) else false) = letB n ∧ True) := by
  kernel_rfl
theorem vc211 (n : Int) : exF (env false [] []) h0 0 211 Proofs.Tryz.f211 [uV n] (.val (bV (digB n))) = ((bif decide ((48 : Int) ≤ n) then decide (n ≤ (57 : Int)) else false) = digB n ∧ True) := by
  kernel_rfl
theorem vc169 (l : List UInt8) : exF (env false [(210, sp210), (211, sp211)] []) h169 0 169 Proofs.Tryz.f169 [sV l] (.val (bV (isName l))) = (let q1 := (↑(List.length l) : Int); ((bif q1 == (0 : Int) then true else decide ((24 : Int) < q1)) = false → (0 : Int) ≤ (0 : Int) ∧ (0 : Int) < q1) ∧ splitB (bif bif q1 == (0 : Int) then true else decide ((24 : Int) < q1) then true else !letB (↑(UInt8.toNat (List.getD l (0 : Nat) (0 : UInt8))) : Int)) (false = isName l ∧ True) ((∃ (g : Nat), (g ≤ List.length l ∧ (1 : Nat) ≤ g ∧ ∀ (j : Nat), j < g → nameAt l j = true) ∧ (1 : Int) = (↑g : Int) ∧ l = l ∧ True) ∧ ∀ (g : Nat), let q0 := (↑(UInt8.toNat (List.getD l g (0 : UInt8))) : Int); (g ≤ List.length l ∧ (1 : Nat) ≤ g ∧ ∀ (j : Nat), j < g → nameAt l j = true) → splitB (decide ((↑g : Int) < q1)) (((0 : Int) ≤ (↑g : Int) ∧ (↑g : Int) < q1) ∧ ((!letB q0) = true → (0 : Int) ≤ (↑g : Int) ∧ (↑g : Int) < q1) ∧ ((bif !letB q0 then !digB q0 else false) = true → (0 : Int) ≤ (↑g : Int) ∧ (↑g : Int) < q1) ∧ splitB (bif bif !letB q0 then !digB q0 else false then q0 != (95 : Int) else false) (false = isName l ∧ True) (fits IntKind.i64 ((↑g : Int) + (1 : Int)) ∧ ∃ (g' : Nat), (g' ≤ List.length l ∧ (1 : Nat) ≤ g' ∧ ∀ (j : Nat), j < g' → nameAt l j = true) ∧ List.length l - g' < List.length l - g ∧ (↑g : Int) + (1 : Int) = (↑g' : Int) ∧ l = l ∧ True)) (true = isName l ∧ True))) := by
  kernel_rfl
theorem vc102 (l : List UInt8) : exF (env false [(169, sp169), (70, sp70)] []) h0 0 102 Proofs.Tryz.f102 [sV l] (.val (iV (whenE (!isName l) 8))) = (List.length l ≤ (1000000000 : Nat) ∧ whenE (!isName l) (8 : Int) = whenE (!isName l) (8 : Int) ∧ True) := by
  kernel_rfl
theorem vc82 (L : List Ed) : exF (env false [] []) h82 0 82 Proofs.Tryz.f82 [.one (.sl edT L)] (.val (bV (shortE L))) = (let q0 := (↑(List.length L) : Int); (∃ (g : Nat), (g ≤ List.length L ∧ ∀ (j : Nat), j < g → List.length (List.getD L j e0).1 ≤ (40 : Nat)) ∧ (0 : Int) = (↑g : Int) ∧ L = L ∧ True) ∧ ∀ (g : Nat), (g ≤ List.length L ∧ ∀ (j : Nat), j < g → List.length (List.getD L j e0).1 ≤ (40 : Nat)) → splitB (decide ((↑g : Int) < q0)) (((0 : Int) ≤ (↑g : Int) ∧ (↑g : Int) < q0) ∧ splitB (decide ((40 : Int) < (↑(List.length (List.getD L g e0).1) : Int))) (false = shortE L ∧ True) (fits IntKind.i64 ((↑g : Int) + (1 : Int)) ∧ ∃ (g' : Nat), (g' ≤ List.length L ∧ ∀ (j : Nat), j < g' → List.length (List.getD L j e0).1 ≤ (40 : Nat)) ∧ List.length L - g' < List.length L - g ∧ (↑g : Int) + (1 : Int) = (↑g' : Int) ∧ L = L ∧ True)) ((bif decide (q0 ≤ (6 : Int)) then true else q0 == (17 : Int)) = shortE L ∧ True)) := by
  kernel_rfl
end Go.Sx

namespace Go.Sx
open U
theorem nil_sl {t : Ty} {H : IH} {v : Value} (h : DenV ρ0 H (.one .nils) v) : DenV ρ0 H (.one (.sl t [])) v := by
  obtain rfl : v = .slice none 0 0 := h
  exact ⟨none, 0, rfl, Nat.le_refl _, .inl rfl⟩
theorem Fn.args {P : Program} {gl : Nat → Option ((t : Ty) × t.T)} {f : FuncId} {a a' : List V} {r : SV} {fr : Bool} (h : Fn P gl f a' r fr) (hd : ∀ H vs, DenVs ρ0 H a vs → DenVs ρ0 H a' vs) : Fn P gl f a r fr :=
  fun w H vs h1 h2 h3 => h w H vs h1 h2 (hd H vs h3)
theorem nameAt_let (l : List UInt8) (i : Nat) : nameAt l i = (letB ((l.getD i 0).toNat : Int) || (i != 0 && (digB ((l.getD i 0).toNat : Int) || ((l.getD i 0).toNat : Int) == 95))) := by
  unfold nameAt letB digB
  generalize (l.getD i 0).toNat = b
  rw [Bool.eq_iff_iff]
  simp only [bcond_l, bcond_r, Bool.or_eq_true, Bool.and_eq_true, decide_eq_true_eq, beq_iff_eq, bne_iff_ne]
  omega
theorem fn210 (n : Int)  : Fn P1 gl1 210 [uV n] (.val (bV (letB n))) true := by
  refine Fn.flat ?_ rfl
  refine fn_of false [] [] h0 0 Proofs.Tryz.f210 trivial trivial (by kernel_rfl) rfl (by kernel_rfl) rfl rfl rfl ?_
  rw [vc210]
  try simp only [splitB_iff, -eq_self]
  exact ⟨rfl, trivial⟩
theorem so210_ : SpecOk P1 gl1 210 sp210 := by
  intro vs ps r h _
  simp only [sp210] at h
  split at h
  · cases h; exact fn210 _ 
  · cases h
theorem so210 : Sp1 210 sp210 := ⟨so210_, Proofs.Tryz.f210, _, by kernel_rfl, rfl, by kernel_rfl⟩
theorem fn211 (n : Int)  : Fn P1 gl1 211 [uV n] (.val (bV (digB n))) true := by
  refine Fn.flat ?_ rfl
  refine fn_of false [] [] h0 0 Proofs.Tryz.f211 trivial trivial (by kernel_rfl) rfl (by kernel_rfl) rfl rfl rfl ?_
  rw [vc211]
  try simp only [splitB_iff, -eq_self]
  exact ⟨rfl, trivial⟩
theorem so211_ : SpecOk P1 gl1 211 sp211 := by
  intro vs ps r h _
  simp only [sp211] at h
  split at h
  · cases h; exact fn211 _ 
  · cases h
theorem so211 : Sp1 211 sp211 := ⟨so211_, Proofs.Tryz.f211, _, by kernel_rfl, rfl, by kernel_rfl⟩
theorem fn169 (l : List UInt8) (hl : l.length ≤ 1000000000) : Fn P1 gl1 169 [sV l] (.val (bV (isName l))) true := by
  refine Fn.flat ?_ rfl
  refine fn_of false [(210, sp210), (211, sp211)] [] h169 0 Proofs.Tryz.f169 ⟨so210, so211, trivial⟩ trivial (by kernel_rfl) rfl (by kernel_rfl) rfl rfl rfl ?_
  rw [vc169]
  try simp only [splitB_iff, -eq_self]
  simp only [bcond_l, bcond_r, Bool.or_eq_true, Bool.or_eq_false_iff, Bool.and_eq_true, Bool.and_eq_false_iff, Bool.not_eq_true', Bool.not_eq_false', decide_eq_true_eq, decide_eq_false_iff_not, beq_iff_eq, beq_eq_false_iff_ne, bne_iff_ne, bne_eq_false_iff_eq]
  refine ⟨fun h => by omega, fun h => ⟨?_, trivial⟩, fun h => ?_⟩
  · rcases h with h | h
    · cases hq : isName l with
      | false => rfl
      | true =>
        unfold isName at hq
        simp only [Bool.and_eq_true, decide_eq_true_eq] at hq
        have h2 := hq.2
        have : l.length ≠ 0 := fun e => h2.1 (List.eq_nil_of_length_eq_zero e)
        omega
    · by_cases h0 : l.length = 0
      · have := List.eq_nil_of_length_eq_zero h0
        subst this; rfl
      · rw [isName_not (j := 0) (by omega)]
        rw [nameAt_let, h]; rfl
  · refine ⟨⟨1, ⟨by omega, by omega, fun j hj => ?_⟩, by trivial, by trivial, by trivial⟩, fun g hg => ⟨fun hlt => ⟨by omega, fun _ => by omega, fun _ => by omega, fun h2 => ⟨?_, by trivial⟩, fun h2 => ⟨by simp only [fits]; omega, g + 1, ⟨by omega, by omega, fun j hj => ?_⟩, by omega, by simp, by trivial, by trivial⟩⟩, fun hge => ⟨?_, by trivial⟩⟩⟩
    · have : j = 0 := by omega
      subst this
      rw [nameAt_let, h.2]; rfl
    · rw [isName_not (j := g) (by omega)]
      rw [nameAt_let]
      simp only [Bool.or_eq_false_iff, Bool.and_eq_false_iff, beq_eq_false_iff_ne, bne_eq_false_iff_eq]
      exact ⟨h2.1.1, .inr ⟨h2.1.2, h2.2⟩⟩
    · by_cases e : j < g
      · exact hg.2.2 j e
      · have : j = g := by omega
        subst this
        rw [nameAt_let]
        simp only [Bool.or_eq_true, Bool.and_eq_true, beq_iff_eq, bne_iff_ne]
        have := hg.2.1
        rcases h2 with (h2 | h2) | h2
        · exact .inl h2
        · exact .inr ⟨by omega, .inl h2⟩
        · exact .inr ⟨by omega, .inr h2⟩
    · have : g = l.length := by omega
      subst this
      rw [isName_of hg.2.2]
      symm
      simp only [Bool.and_eq_true, decide_eq_true_eq]
      refine ⟨fun e => ?_, by omega⟩
      subst e
      have := hg.2.1
      simp at this
theorem so169_ : SpecOk P1 gl1 169 sp169 := by
  intro vs ps r h hp
  simp only [sp169] at h
  split at h
  · cases h; exact fn169 _ (hp _ (.head _))
  · cases h
theorem so169 : Sp1 169 sp169 := ⟨so169_, Proofs.Tryz.f169, _, by kernel_rfl, rfl, by kernel_rfl⟩
theorem fn102 (l : List UInt8) (hl : l.length ≤ 1000000000) : Fn P1 gl1 102 [sV l] (.val (iV (whenE (!isName l) 8))) true := by
  refine Fn.flat ?_ rfl
  refine fn_of false [(169, sp169), (70, sp70)] [] h0 0 Proofs.Tryz.f102 ⟨so169, so70, trivial⟩ trivial (by kernel_rfl) rfl (by kernel_rfl) rfl rfl rfl ?_
  rw [vc102]
  try simp only [splitB_iff, -eq_self]
  exact ⟨hl, rfl, trivial⟩
theorem so102_ : SpecOk P1 gl1 102 sp102 := by
  intro vs ps r h hp
  simp only [sp102] at h
  split at h
  · cases h; exact fn102 _ (hp _ (.head _))
  · cases h
theorem so102 : Sp1 102 sp102 := ⟨so102_, Proofs.Tryz.f102, _, by kernel_rfl, rfl, by kernel_rfl⟩
theorem fn82 (L : List Ed) (hl : L.length ≤ 9223372036854775807) : Fn P1 gl1 82 [.one (.sl edT L)] (.val (bV (shortE L))) true := by
  refine Fn.flat ?_ rfl
  refine fn_of false [] [] h82 0 Proofs.Tryz.f82 trivial trivial (by kernel_rfl) rfl (by kernel_rfl) rfl rfl rfl ?_
  rw [vc82]
  try simp only [splitB_iff, -eq_self]
  simp only [bcond_l, decide_eq_true_eq, decide_eq_false_iff_not]
  refine ⟨⟨0, ⟨Nat.zero_le _, fun j hj => by omega⟩, by trivial, by trivial, by trivial⟩, fun g hg => ⟨fun hlt => ⟨by omega, fun h => ⟨?_, trivial⟩, fun h => ⟨by simp only [fits]; omega, g + 1, ⟨by omega, fun j hj => ?_⟩, by omega, by simp, by trivial, by trivial⟩⟩, fun hge => ⟨?_, trivial⟩⟩⟩
  · symm
    unfold shortE
    rw [Bool.and_eq_false_iff]
    left
    rw [List.all_eq_false]
    refine ⟨_, getD_mem (d := e0) (show g < L.length by omega), ?_⟩
    rw [decide_eq_true_eq]; omega
  · by_cases e : j < g
    · exact hg.2 j e
    · have : j = g := by omega
      subst this; omega
  · have : g = L.length := by omega
    subst this
    unfold shortE
    have : (L.all fun x => decide (x.1.length ≤ 40)) = true := by
      rw [List.all_eq_true]
      intro x hx
      obtain ⟨i, hi, rfl⟩ := mem_getD e0 hx
      exact decide_eq_true (hg.2 i hi)
    rw [this, Bool.true_and, Bool.eq_iff_iff]
    simp only [Bool.or_eq_true, decide_eq_true_eq, beq_iff_eq]
    omega
theorem so82_ : SpecOk P1 gl1 82 sp82 := by
  intro vs ps r h hp
  simp only [sp82] at h
  split at h
  · cases h; exact fn82 _ (hp _ (.head _))
  · cases h
theorem so82 : Sp1 82 sp82 := ⟨so82_, Proofs.Tryz.f82, _, by kernel_rfl, rfl, by kernel_rfl⟩
end Go.Sx

namespace Go.Sx.U
abbrev Mu := List (Tk × Bool)
def sp0 : Int × Int := (0, 0)
def useTk (m : Mu) (x : Tk) : Mu := U.mapPut (.pair .str (.pair (.int .i64) (.pair (.int .i64) (.int .i64)))) .bool m (x.1, x.2.1, 0, 0) true
def useTo (m : Mu) (ts : List Tk) : Nat → Mu
  | 0 => m
  | j + 1 => useTk (useTo m ts j) (ts.getD j tk0)
def allN (p : List Pl) (t : Nat) : List Tk := takesN p (t : Int) ++ [soundN p (t : Int)]
def usedTo (p : List Pl) : Nat → Mu
  | 0 => []
  | t + 1 => useTo (usedTo p t) (allN p t) (allN p t).length
def usedB (m : Mu) (nm : List UInt8) (n : Int) : Bool := (U.mapGet (.pair .str (.pair (.int .i64) (.pair (.int .i64) (.int .i64)))) .bool m (nm, n, 0, 0)).getD false
def addSp (o : List (Int × Int)) (n : Int) : List (Int × Int) :=
  if 0 < o.length ∧ (o.getD (o.length - 1) sp0).2 = n then o.set (o.length - 1) ((o.getD (o.length - 1) sp0).1, (o.getD (o.length - 1) sp0).2 + 1) else o ++ [(n, n + 1)]
def spTo (is : Int → Bool) (a : Int) : Nat → List (Int × Int)
  | 0 => []
  | i + 1 => if is (a + (i : Int)) = true then addSp (spTo is a i) (a + (i : Int)) else spTo is a i
def reelSp (m : Mu) (r : Rl) : List (Int × Int) := spTo (usedB m r.1) r.2.1 r.2.2.length
def needTo (m : Mu) (R : List Rl) : Nat → List (List UInt8 × Int × Int)
  | 0 => []
  | i + 1 => needTo m R i ++ (reelSp m (R.getD i r0)).map fun s => ((R.getD i r0).1, s.1, s.2)
def needN (R : List Rl) (L : List Ed) : List (List UInt8 × Int × Int) := if chkEds R L = 0 then needTo (usedTo (ls L) (lenL L).toNat) R R.length else []
end Go.Sx.U
namespace Go.Sx
open U
abbrev snT : Ty := .pair (.int .i64) (.int .i64)
abbrev ndT : Ty := .pair .str (.pair (.int .i64) (.int .i64))
abbrev muT : Ty := .pair .str (.pair (.int .i64) (.pair (.int .i64) (.int .i64)))
def muB : List (Nat × Option AObj) → Option (Nat × Nat)
  | [] => none
  | (i, some (.box [.one (.own j)])) :: _ => some (i, j)
  | _ :: r => muB r
def muOf (ob : List (Nat × Option AObj)) (j : Nat) : Option Mu := match lookO ob j with
  | some (.map true false (.pair .str (.pair (.int .i64) (.pair (.int .i64) (.int .i64)))) .bool l) => some l
  | _ => none
def lessI (ob : List (Nat × Option AObj)) (js : List Nat) : List (Nat × Option AObj) := (liveO [] ob).filter fun x => !(js.contains x.1)
def h69 : Hints := ⟨fun f k s => match f, k with
  | 174, 1 => match lsAt s 1, muB (liveO [] s.ob) with
    | some (p, n, _), some (_, j) => some ⟨Nat, fun i => ⟨tI 6 i :: keepT [0, 1, 5] s.tm, (j, some (.map true false muT .bool (usedTo p i))) :: lessI s.ob [j], s.nx, s.lr⟩, fun i => i ≤ n.toNat, fun i => n.toNat - i⟩
    | _, _ => none
  | 69, 10 => match ptrId s 8, listAs s 37 tkT with
    | some b, some ts => match lookO s.ob b with
      | some (.box [.one (.own j)]) => match muOf s.ob j with
        | some m => some ⟨Nat, fun i => ⟨tI 39 i :: keepT [7, 8, 37, 38] s.tm, (j, some (.map true false muT .bool (useTo m ts i))) :: lessI s.ob [j], s.nx, s.lr⟩, fun i => i ≤ List.length ts, fun i => List.length ts - i⟩
        | _ => none
      | _ => none
    | _, _ => none
  | 69, 16 => match ptrId s 8, listAs s 50 rlT with
    | some b, some R => match lookO s.ob b with
      | some (.box [.one (.own j)]) => match muOf s.ob j with
        | some m => some ⟨Nat, fun i => ⟨[tI 52 i, (13, .val (.one (.own s.nx)))] ++ keepT [8, 50, 51] s.tm, (s.nx, some (.row ndT (needTo m R i))) :: lessO s [13], s.nx + 1, s.lr⟩, fun i => i ≤ List.length R, fun i => List.length R - i⟩
        | _ => none
      | _ => none
    | _, _ => none
  | 69, 19 => match listAs s 61 snT, rlAt s 15, listAs s 13 ndT with
    | some sps, some (nm, _, _), some o => some ⟨Nat, fun i => ⟨[tI 63 i, (13, .val (.one (.own s.nx)))] ++ keepT [8, 15, 50, 51, 52, 61, 62] s.tm, (s.nx, some (.row ndT (o ++ (List.take i sps).map fun x => (nm, x.1, x.2)))) :: lessO s [13], s.nx + 1, s.lr⟩, fun i => i ≤ List.length sps, fun i => List.length sps - i⟩
    | _, _, _ => none
  | 148, 3 => match intOfT s 0, intOfT s 1, lookT s.tm 2 with
    | some a, some b, some (.val (.one (.fn 149 [] [(q, 0), (r, 0)]))) => match lookO s.ob q, lookO s.ob r with
      | some (.box [.one (.own j)]), some (.box (.one (.str nm) :: _)) => match muOf s.ob j with
        | some m => some ⟨Nat, fun i => ⟨[tI 8 (a + (i : Int)), (7, .val (.one (.own s.nx)))] ++ keepT [0, 1, 2] s.tm, (s.nx, some (.row snT (spTo (usedB m nm) a i))) :: lessO s [7], s.nx + 1, s.lr⟩, fun i => i ≤ (b - a).toNat, fun i => (b - a).toNat - i⟩
        | _ => none
      | _, _ => none
    | _, _, _ => none
  | _, _ => none, 0⟩
@[reducible] noncomputable def fb148 : Nat × Func := (148, Proofs.Tryz.f148)
@[reducible] noncomputable def fb149 : Nat × Func := (149, Proofs.Tryz.f149)
def sp155n : FSpec := ⟨fun vs => match vs with
  | [.agg [.one (.sl (.pair (.pair .str (.pair (.int .i64) (.pair (.int .i64) (.pair (.int .i64) (.int .i64))))) (.int .i64)) p), .one (.int .i64 _), .one (.mp false true .str (.pair .str (.pair (.int .i64) (.sl (.int .i64)))) _)], .one (.int .i64 fr)] =>
    some ([PlsOk p, 0 ≤ fr ∧ fr ≤ 100000], .val (.one (.frs tkT (takesN p fr))))
  | _ => none, true⟩
end Go.Sx
namespace Go.Sx
open U
def sp69 : FSpec := ⟨fun vs => match vs with
  | [.one (.sl (.pair .str (.pair (.int .i64) (.sl (.int .i64)))) R), .one (.sl (.pair .str (.pair (.int .i64) (.pair (.int .i64) (.pair (.int .i64) (.int .i64))))) L)] => some ([List.length R ≤ 1000000000, ∀ r ∈ (show List Rl from R), List.length r.2.2 ≤ 1000000, List.length L ≤ 1000000000], .tup [.one (.frs ndT (needN R L)), iV (chkEds R L)])
  | _ => none, true⟩
end Go.Sx

namespace Go.Sx
open U
theorem vc155n (p : List Pl) (n : Int) (m : List (List UInt8 × Rl)) (fr : Int) : exF (env false [(195, sp195), (175, sp175)] []) h0 0 155 Proofs.Tryz.f155 [lsV p n m, iV fr] (.val (.one (.frs tkT (takesN p fr)))) = (let q0 := (List.getD p (lastTo begP p fr (List.length p)) pl0); let q1 := (↑(lastTo begP p fr (List.length p)) : Int); let q2 := (q0.1.2.2.2.1 + (1 : Int)); let q3 := (List.getD p (Int.toNat (q1 - (1 : Int))) pl0); let q4 := (q0.1.2.2.2.1 - (fr - q0.2)); List.length p ≤ (1000000 : Nat) ∧ ((0 : Int) ≤ q1 ∧ q1 < (↑(List.length p) : Int)) ∧ fits IntKind.i64 (fr - q0.2) ∧ splitB (decide (q0.1.2.2.2.1 ≤ fr - q0.2)) (fits IntKind.i64 (q0.1.2.1 + (fr - q0.2)) ∧ [(q0.1.1, q0.1.2.1 + (fr - q0.2), (1 : Int), (1 : Int))] = takesN p fr ∧ True) (fits IntKind.i64 (q1 - (1 : Int)) ∧ ((0 : Int) ≤ q1 - (1 : Int) ∧ q1 - (1 : Int) < (↑(List.length p) : Int)) ∧ fits IntKind.i64 (q3.1.2.2.1 + (fr - q0.2)) ∧ fits IntKind.i64 q4 ∧ fits IntKind.i64 q2 ∧ (0 : Int) < q0.1.2.2.2.1 - (fr - q0.2) ∧ (0 : Int) < q0.1.2.2.2.1 + (1 : Int) ∧ (q0.1.2.2.2.1 - (fr - q0.2) ≤ (1000000 : Int) ∧ q0.1.2.2.2.1 + (1 : Int) ≤ (1000000 : Int)) ∧ fits IntKind.i64 (q0.1.2.1 + (fr - q0.2)) ∧ fits IntKind.i64 (fr - q0.2 + (1 : Int)) ∧ fits IntKind.i64 q2 ∧ (0 : Int) < fr - q0.2 + (1 : Int) ∧ (0 : Int) < q0.1.2.2.2.1 + (1 : Int) ∧ (fr - q0.2 + (1 : Int) ≤ (1000000 : Int) ∧ q0.1.2.2.2.1 + (1 : Int) ≤ (1000000 : Int)) ∧ [(q3.1.1, q3.1.2.2.1 + (fr - q0.2), (lowN q4 q2).1, (lowN q4 q2).2), (q0.1.1, q0.1.2.1 + (fr - q0.2), (lowN (fr - q0.2 + (1 : Int)) q2).1, (lowN (fr - q0.2 + (1 : Int)) q2).2)] = takesN p fr ∧ True)) := by
  kernel_rfl
theorem vc69 (R : List Rl) (L : List Ed) : exF (env false [(43, sp43), (120, sp120), (155, sp155n), (124, sp124), (112, sp112)] [fb123, fb174, fb148, fb149]) h69 3 69 Proofs.Tryz.f69 [.one (.sl rlT R), .one (.sl edT L)] (.tup [.one (.frs ndT (needN R L)), iV (chkEds R L)]) = (let q3 := (List.length L); let q4 := (List.length R); let q13 := (Ty.pair Ty.str (Ty.pair (Ty.int IntKind.i64) (Ty.pair (Ty.int IntKind.i64) (Ty.int IntKind.i64)))); List.length R ≤ (1000000000 : Nat) ∧ (∀ (r : Rl), r ∈ R → List.length r.2.2 ≤ (1000000 : Nat)) ∧ List.length L ≤ (1000000000 : Nat) ∧ splitB (chkEds R L != (0 : Int)) (needN R L = [] ∧ chkEds R L = chkEds R L ∧ True) (List.length R ≤ (1000000000 : Nat) ∧ EdsIn L ∧ (∃ (g : Nat), Nat.le g (Int.toNat (begN L q3)) ∧ (0 : Int) = (↑g : Int) ∧ begN L q3 = begN L q3 ∧ [] = usedTo (plTo L q3) g ∧ plTo L q3 = plTo L q3 ∧ begN L q3 = begN L q3 ∧ mapR R q4 = mapR R q4 ∧ plTo L q3 = plTo L q3 ∧ begN L q3 = begN L q3 ∧ mapR R q4 = mapR R q4 ∧ True) ∧ ∀ (g : Nat), let q15 := (soundN (plTo L q3) (↑g : Int)); let q0 := (q15.1, q15.2.1, q15.2.2.1, q15.2.2.2); let q5 := (takesN (plTo L q3) (↑g : Int) ++ [q0]); let q7 := (usedTo (plTo L q3) g); let q12 := (↑(List.length q5) : Int); let q17 := ((0 : Int) ≤ (↑g : Int) ∧ (↑g : Int) ≤ (100000 : Int)); Nat.le g (Int.toNat (begN L q3)) → splitB (decide ((↑g : Int) < begN L q3)) (PlsOk (plTo L q3) ∧ q17 ∧ PlsOk (plTo L q3) ∧ q17 ∧ room (List.length (takesN (plTo L q3) (↑g : Int)) + (1 : Nat)) (40 : Nat) ∧ (∃ (g_1 : Nat), Nat.le g_1 (List.length q5) ∧ (0 : Int) = (↑g_1 : Int) ∧ q12 = q12 ∧ usedTo (plTo L q3) g = useTo q7 q5 g_1 ∧ takesN (plTo L q3) (↑g : Int) ++ [q0] = takesN (plTo L q3) (↑g : Int) ++ [q0] ∧ [q0] = [q0] ∧ plTo L q3 = plTo L q3 ∧ begN L q3 = begN L q3 ∧ mapR R q4 = mapR R q4 ∧ plTo L q3 = plTo L q3 ∧ begN L q3 = begN L q3 ∧ mapR R q4 = mapR R q4 ∧ True) ∧ ∀ (g_1 : Nat), Nat.le g_1 (List.length q5) → splitB (decide ((↑g_1 : Int) < q12)) (((0 : Int) ≤ (↑g_1 : Int) ∧ (↑g_1 : Int) < q12) ∧ g_1 < List.length q5 ∧ fits IntKind.i64 ((↑g_1 : Int) + (1 : Int)) ∧ ∃ (g' : Nat), Nat.le g' (List.length q5) ∧ List.length q5 - g' < List.length q5 - g_1 ∧ (↑g_1 : Int) + (1 : Int) = (↑g' : Int) ∧ q12 = q12 ∧ mapPut q13 Ty.bool (useTo q7 q5 g_1) ((List.getD q5 g_1 tk0).1, (List.getD q5 g_1 tk0).2.1, (0 : Int), (0 : Int)) true = useTo q7 q5 g' ∧ takesN (plTo L q3) (↑g : Int) ++ [q0] = takesN (plTo L q3) (↑g : Int) ++ [q0] ∧ [q0] = [q0] ∧ plTo L q3 = plTo L q3 ∧ begN L q3 = begN L q3 ∧ mapR R q4 = mapR R q4 ∧ plTo L q3 = plTo L q3 ∧ begN L q3 = begN L q3 ∧ mapR R q4 = mapR R q4 ∧ True) (fits IntKind.i64 ((↑g : Int) + (1 : Int)) ∧ ∃ (g' : Nat), Nat.le g' (Int.toNat (begN L q3)) ∧ Int.toNat (begN L q3) - g' < Int.toNat (begN L q3) - g ∧ (↑g : Int) + (1 : Int) = (↑g' : Int) ∧ begN L q3 = begN L q3 ∧ useTo q7 q5 g_1 = usedTo (plTo L q3) g' ∧ plTo L q3 = plTo L q3 ∧ begN L q3 = begN L q3 ∧ mapR R q4 = mapR R q4 ∧ plTo L q3 = plTo L q3 ∧ begN L q3 = begN L q3 ∧ mapR R q4 = mapR R q4 ∧ True)) ((∃ (g_1 : Nat), Nat.le g_1 q4 ∧ (0 : Int) = (↑g_1 : Int) ∧ (↑q4 : Int) = (↑q4 : Int) ∧ R = R ∧ needTo q7 R g_1 = [] ∧ usedTo (plTo L q3) g = usedTo (plTo L q3) g ∧ plTo L q3 = plTo L q3 ∧ begN L q3 = begN L q3 ∧ mapR R q4 = mapR R q4 ∧ plTo L q3 = plTo L q3 ∧ begN L q3 = begN L q3 ∧ mapR R q4 = mapR R q4 ∧ True) ∧ ∀ (g_1 : Nat), let q2 := (List.getD R g_1 r0); let q8 := (↑(List.length q2.2.2) : Int); let q10 := (q2.2.1 + q8 - q2.2.1); let q11 := (usedB q7 q2.1); let q19 := (Int.toNat q10); Nat.le g_1 q4 → splitB (decide ((↑g_1 : Int) < (↑q4 : Int))) (((0 : Int) ≤ (↑g_1 : Int) ∧ (↑g_1 : Int) < (↑q4 : Int)) ∧ fits IntKind.i64 (q2.2.1 + q8) ∧ (∃ (g_2 : Nat), Nat.le g_2 q19 ∧ q2.2.1 = q2.2.1 + (↑g_2 : Int) ∧ q2.2.1 = q2.2.1 ∧ q2.2.1 + q8 = q2.2.1 + q8 ∧ spTo q11 q2.2.1 g_2 = [] ∧ q2.1 = q2.1 ∧ q2.2.1 = q2.2.1 ∧ q2.2.2 = q2.2.2 ∧ needTo q7 R g_1 = needTo q7 R g_1 ∧ usedTo (plTo L q3) g = usedTo (plTo L q3) g ∧ plTo L q3 = plTo L q3 ∧ begN L q3 = begN L q3 ∧ mapR R q4 = mapR R q4 ∧ plTo L q3 = plTo L q3 ∧ begN L q3 = begN L q3 ∧ mapR R q4 = mapR R q4 ∧ True) ∧ ∀ (g_2 : Nat), let q1 := (spTo q11 q2.2.1 g_2); let q6 := (↑(List.length q1) : Int); let q16 := (q6 - (1 : Int)); let q9 := (List.getD q1 (Int.toNat q16) ((0 : Int), (0 : Int))); let q14 := (q2.2.1 + (↑g_2 : Int) + (1 : Int)); let q18 := ((0 : Int) ≤ q6 - (1 : Int) ∧ q6 - (1 : Int) < q6); Nat.le g_2 q19 → splitB (decide (q2.2.1 + (↑g_2 : Int) < q2.2.1 + q8)) (splitB (!Option.getD (mapGet q13 Ty.bool q7 (q2.1, q2.2.1 + (↑g_2 : Int), (0 : Int), (0 : Int))) false) (fits IntKind.i64 q14 ∧ ∃ (g' : Nat), Nat.le g' q19 ∧ Int.toNat q10 - g' < Int.toNat q10 - g_2 ∧ q2.2.1 + (↑g_2 : Int) + (1 : Int) = q2.2.1 + (↑g' : Int) ∧ q2.2.1 = q2.2.1 ∧ q2.2.1 + q8 = q2.2.1 + q8 ∧ spTo q11 q2.2.1 g_2 = spTo q11 q2.2.1 g' ∧ q2.1 = q2.1 ∧ q2.2.1 = q2.2.1 ∧ q2.2.2 = q2.2.2 ∧ needTo q7 R g_1 = needTo q7 R g_1 ∧ usedTo (plTo L q3) g = usedTo (plTo L q3) g ∧ plTo L q3 = plTo L q3 ∧ begN L q3 = begN L q3 ∧ mapR R q4 = mapR R q4 ∧ plTo L q3 = plTo L q3 ∧ begN L q3 = begN L q3 ∧ mapR R q4 = mapR R q4 ∧ True) ((decide ((0 : Int) < q6) = true → fits IntKind.i64 q16) ∧ (decide ((0 : Int) < q6) = true → (0 : Int) ≤ q6 - (1 : Int) ∧ q6 - (1 : Int) < q6) ∧ (decide ((0 : Int) < q6) = true → Int.toNat q16 < List.length q1) ∧ splitB (bif decide ((0 : Int) < q6) then q9.2 == q2.2.1 + (↑g_2 : Int) else false) (fits IntKind.i64 q16 ∧ q18 ∧ Int.toNat q16 < List.length q1 ∧ fits IntKind.i64 (q9.2 + (1 : Int)) ∧ q18 ∧ Int.toNat q16 < List.length q1 ∧ fits IntKind.i64 q14 ∧ ∃ (g' : Nat), Nat.le g' q19 ∧ Int.toNat q10 - g' < Int.toNat q10 - g_2 ∧ q2.2.1 + (↑g_2 : Int) + (1 : Int) = q2.2.1 + (↑g' : Int) ∧ q2.2.1 = q2.2.1 ∧ q2.2.1 + q8 = q2.2.1 + q8 ∧ List.set q1 (Int.toNat q16) (q9.1, q9.2 + (1 : Int)) = spTo q11 q2.2.1 g' ∧ q2.1 = q2.1 ∧ q2.2.1 = q2.2.1 ∧ q2.2.2 = q2.2.2 ∧ needTo q7 R g_1 = needTo q7 R g_1 ∧ usedTo (plTo L q3) g = usedTo (plTo L q3) g ∧ plTo L q3 = plTo L q3 ∧ begN L q3 = begN L q3 ∧ mapR R q4 = mapR R q4 ∧ plTo L q3 = plTo L q3 ∧ begN L q3 = begN L q3 ∧ mapR R q4 = mapR R q4 ∧ True) (fits IntKind.i64 q14 ∧ room (List.length q1 + (1 : Nat)) (16 : Nat) ∧ fits IntKind.i64 q14 ∧ ∃ (g' : Nat), Nat.le g' q19 ∧ Int.toNat q10 - g' < Int.toNat q10 - g_2 ∧ q2.2.1 + (↑g_2 : Int) + (1 : Int) = q2.2.1 + (↑g' : Int) ∧ q2.2.1 = q2.2.1 ∧ q2.2.1 + q8 = q2.2.1 + q8 ∧ spTo q11 q2.2.1 g_2 ++ [(q2.2.1 + (↑g_2 : Int), q2.2.1 + (↑g_2 : Int) + (1 : Int))] = spTo q11 q2.2.1 g' ∧ q2.1 = q2.1 ∧ q2.2.1 = q2.2.1 ∧ q2.2.2 = q2.2.2 ∧ needTo q7 R g_1 = needTo q7 R g_1 ∧ usedTo (plTo L q3) g = usedTo (plTo L q3) g ∧ plTo L q3 = plTo L q3 ∧ begN L q3 = begN L q3 ∧ mapR R q4 = mapR R q4 ∧ plTo L q3 = plTo L q3 ∧ begN L q3 = begN L q3 ∧ mapR R q4 = mapR R q4 ∧ True))) ((∃ (g_3 : Nat), Nat.le g_3 (List.length q1) ∧ (0 : Int) = (↑g_3 : Int) ∧ q6 = q6 ∧ (↑g_1 : Int) = (↑g_1 : Int) ∧ (↑q4 : Int) = (↑q4 : Int) ∧ R = R ∧ needTo q7 R g_1 = needTo q7 R g_1 ++ List.map (fun (x : Int × Int) => (q2.1, x.1, x.2)) (List.take g_3 q1) ∧ spTo q11 q2.2.1 g_2 = spTo q11 q2.2.1 g_2 ∧ q2.1 = q2.1 ∧ q2.2.1 = q2.2.1 ∧ q2.2.2 = q2.2.2 ∧ usedTo (plTo L q3) g = usedTo (plTo L q3) g ∧ plTo L q3 = plTo L q3 ∧ begN L q3 = begN L q3 ∧ mapR R q4 = mapR R q4 ∧ plTo L q3 = plTo L q3 ∧ begN L q3 = begN L q3 ∧ mapR R q4 = mapR R q4 ∧ True) ∧ ∀ (g_3 : Nat), Nat.le g_3 (List.length q1) → splitB (decide ((↑g_3 : Int) < q6)) (((0 : Int) ≤ (↑g_3 : Int) ∧ (↑g_3 : Int) < q6) ∧ g_3 < List.length q1 ∧ room (List.length (needTo q7 R g_1 ++ List.map (fun (x : Int × Int) => (q2.1, x.1, x.2)) (List.take g_3 q1)) + (1 : Nat)) (32 : Nat) ∧ fits IntKind.i64 ((↑g_3 : Int) + (1 : Int)) ∧ ∃ (g' : Nat), Nat.le g' (List.length q1) ∧ List.length q1 - g' < List.length q1 - g_3 ∧ (↑g_3 : Int) + (1 : Int) = (↑g' : Int) ∧ q6 = q6 ∧ (↑g_1 : Int) = (↑g_1 : Int) ∧ (↑q4 : Int) = (↑q4 : Int) ∧ R = R ∧ needTo q7 R g_1 ++ List.map (fun (x : Int × Int) => (q2.1, x.1, x.2)) (List.take g_3 q1) ++ [(q2.1, (List.getD q1 g_3 ((0 : Int), (0 : Int))).1, (List.getD q1 g_3 ((0 : Int), (0 : Int))).2)] = needTo q7 R g_1 ++ List.map (fun (x : Int × Int) => (q2.1, x.1, x.2)) (List.take g' q1) ∧ spTo q11 q2.2.1 g_2 = spTo q11 q2.2.1 g_2 ∧ q2.1 = q2.1 ∧ q2.2.1 = q2.2.1 ∧ q2.2.2 = q2.2.2 ∧ usedTo (plTo L q3) g = usedTo (plTo L q3) g ∧ plTo L q3 = plTo L q3 ∧ begN L q3 = begN L q3 ∧ mapR R q4 = mapR R q4 ∧ plTo L q3 = plTo L q3 ∧ begN L q3 = begN L q3 ∧ mapR R q4 = mapR R q4 ∧ True) (fits IntKind.i64 ((↑g_1 : Int) + (1 : Int)) ∧ ∃ (g' : Nat), Nat.le g' q4 ∧ List.length R - g' < List.length R - g_1 ∧ (↑g_1 : Int) + (1 : Int) = (↑g' : Int) ∧ (↑q4 : Int) = (↑q4 : Int) ∧ R = R ∧ needTo q7 R g_1 ++ List.map (fun (x : Int × Int) => (q2.1, x.1, x.2)) (List.take g_3 q1) = needTo q7 R g' ∧ usedTo (plTo L q3) g = usedTo (plTo L q3) g ∧ plTo L q3 = plTo L q3 ∧ begN L q3 = begN L q3 ∧ mapR R q4 = mapR R q4 ∧ plTo L q3 = plTo L q3 ∧ begN L q3 = begN L q3 ∧ mapR R q4 = mapR R q4 ∧ True))) (needTo q7 R g_1 = needN R L ∧ (0 : Int) = chkEds R L ∧ True)))) := by
  kernel_rfl
end Go.Sx

namespace Go.Sx
open U
theorem fn155n (p : List Pl) (n : Int) (m : List (List UInt8 × Rl)) (fr : Int) (hp : PlsOk p) (hf : 0 ≤ fr ∧ fr ≤ 100000) : Fn P1 gl1 155 [lsV p n m, iV fr] (.val (.one (.frs tkT (takesN p fr)))) true := by
  refine Fn.flat ?_ rfl
  refine fn_of false [(195, sp195), (175, sp175)] [] h0 0 Proofs.Tryz.f155 ⟨so195, so175, trivial⟩ trivial (by kernel_rfl) rfl (by kernel_rfl) rfl rfl rfl ?_
  rw [vc155n]
  try simp only [splitB_iff, -eq_self]
  obtain ⟨h0, h16, hx, hb0, hf0⟩ := hp
  have hl := lastTo_lt begP p fr p.length h0
  have hle : begP (p.getD (lastTo begP p fr p.length) pl0) ≤ fr := lastTo_le (by show (p.getD 0 pl0).2 ≤ fr; omega) _
  have hk := hx _ (getD_mem (d := pl0) hl)
  have hT : takesN p fr = takesE (p.getD (lastTo begP p fr p.length) pl0).1 (p.getD (lastTo begP p fr p.length - 1) pl0).1 (fr - (p.getD (lastTo begP p fr p.length) pl0).2) := rfl
  rw [hT]
  generalize lastTo begP p fr p.length = k at *
  change (p.getD k pl0).2 ≤ fr at hle
  change _ ∧ _ ∧ fits .i64 (fr - (p.getD k pl0).2) ∧ _
  refine ⟨by omega, by omega, by simp only [fits]; omega, fun h => ?_, fun h => ?_⟩
  · have h' : (p.getD k pl0).1.2.2.2.1 ≤ fr - (p.getD k pl0).2 := of_decide_eq_true h
    refine ⟨?_, ?_, trivial⟩
    · show fits .i64 ((p.getD k pl0).1.2.1 + (fr - (p.getD k pl0).2))
      simp only [fits]; omega
    · unfold takesE
      rw [if_pos h']
  · have h' : ¬ (p.getD k pl0).1.2.2.2.1 ≤ fr - (p.getD k pl0).2 := of_decide_eq_false h
    have hk1 : 0 < k := by
      apply Nat.pos_of_ne_zero
      rintro rfl
      omega
    have e1 : ((k : Int) - 1).toNat = k - 1 := by omega
    have hb := hx _ (getD_mem (d := pl0) (show k - 1 < p.length by omega))
    rw [e1]
    unfold takesE
    rw [if_neg h']
    refine ⟨?_, ?_, ?_, ?_, ?_, ?_, ?_, ?_, ?_, ?_, ?_, ?_, ?_, ?_, ?_⟩ <;> first | omega | (simp only [fits]; omega) | trivial | skip
theorem so155n_ : SpecOk P1 gl1 155 sp155n := by
  intro vs ps r h hp
  simp only [sp155n] at h
  split at h
  · cases h
    exact fn155n _ _ _ _ (hp _ (.head _)) (hp _ (.tail _ (.head _)))
  · cases h
theorem so155n : Sp1 155 sp155n := ⟨so155n_, Proofs.Tryz.f155, _, by kernel_rfl, rfl, by kernel_rfl⟩
theorem addSp_len (o : List (Int × Int)) (n : Int) : (addSp o n).length ≤ o.length + 1 := by
  unfold addSp
  split
  · rw [List.length_set]; omega
  · simp
theorem spTo_len (is : Int → Bool) (a : Int) : ∀ i, (spTo is a i).length ≤ i
  | 0 => Nat.le_refl _
  | i + 1 => by
    have ih := spTo_len is a i
    have := addSp_len (spTo is a i) (a + (i : Int))
    simp only [spTo]
    split <;> omega
theorem need_len {m : Mu} {R : List Rl} (h : ∀ i, (R.getD i r0).2.2.length ≤ 256) : ∀ n, (needTo m R n).length ≤ 256 * n
  | 0 => Nat.le_refl _
  | n + 1 => by
    have ih := need_len (m := m) h n
    have h1 : (reelSp m (R.getD n r0)).length ≤ (R.getD n r0).2.2.length := spTo_len _ _ _
    have h2 := h n
    simp only [needTo, List.length_append, List.length_map]
    omega
theorem fn69 (R : List Rl) (L : List Ed) (hl : R.length ≤ 1000000000) (hR : ∀ r ∈ R, r.2.2.length ≤ 1000000) (hL : L.length ≤ 1000000000) : Fn P1 gl1 69 [.one (.sl rlT R), .one (.sl edT L)] (.tup [.one (.frs ndT (needN R L)), iV (chkEds R L)]) true := by
  refine Fn.flat ?_ rfl
  refine fn_of false [(43, sp43), (120, sp120), (155, sp155n), (124, sp124), (112, sp112)] [fb123, fb174, fb148, fb149] h69 3 Proofs.Tryz.f69 ⟨so43, so120, so155n, so124, so112, trivial⟩ ⟨⟨by kernel_rfl, by kernel_rfl, _, rfl, by kernel_rfl⟩, ⟨by kernel_rfl, by kernel_rfl, _, rfl, by kernel_rfl⟩, ⟨by kernel_rfl, by kernel_rfl, _, rfl, by kernel_rfl⟩, ⟨by kernel_rfl, by kernel_rfl, _, rfl, by kernel_rfl⟩, trivial⟩ (by kernel_rfl) rfl (by kernel_rfl) rfl rfl rfl ?_
  rw [vc69]
  try simp only [splitB_iff, -eq_self]
  simp only [eq_self, true_and, and_true, and_self]
  refine ⟨hl, hR, hL, fun h => ?_, fun h => ?_⟩
  · have h' : chkEds R L ≠ 0 := by simpa using h
    unfold needN
    rw [if_neg h']
  have h' : chkEds R L = 0 := by simpa using h
  have hk := chkEds_zero.1 h'
  have hn := lenL_nn hk
  have hbig := hk.big
  have hrs := rs_at hk.rs
  have hN : begN L L.length = lenL L := rfl
  have hP : plTo L L.length = ls L := rfl
  simp only [hN, hP]
  refine ⟨hl, hk.eds, ⟨0, Nat.zero_le _, rfl, rfl⟩, fun g hg => ⟨fun hlt => ?_, fun hge => ?_⟩⟩
  · have hlt' : (g : Int) < lenL L := of_decide_eq_true hlt
    have hpl := hk.pls' (show (0 : Int) ≤ g by omega) hlt'
    have ht := takes_ok hk (show (0 : Int) ≤ g by omega) hlt'
    have hall : takesN (ls L) (g : Int) ++ [((soundN (ls L) (g : Int)).1, (soundN (ls L) (g : Int)).2.1, (soundN (ls L) (g : Int)).2.2.1, (soundN (ls L) (g : Int)).2.2.2)] = allN (ls L) g := rfl
    have hlen : (allN (ls L) g).length ≤ 3 := by unfold allN; rw [List.length_append]; have := ht.1; simp; omega
    simp only [hall]
    refine ⟨hpl, by omega, hpl, by omega, by simp only [room]; omega, ⟨0, Nat.zero_le _, rfl, rfl⟩, fun j hj => ⟨fun hjl => ?_, fun hjg => ?_⟩⟩
    · have hjl' : j < (allN (ls L) g).length := by have := of_decide_eq_true hjl; omega
      exact ⟨by omega, hjl', by simp only [fits]; omega, j + 1, hjl', by omega, by omega, rfl⟩
    · have hje : j = (allN (ls L) g).length := by
        have h3 := of_decide_eq_false hjg
        have h4 : j ≤ (allN (ls L) g).length := hj
        omega
      subst hje
      refine ⟨by simp only [fits]; omega, g + 1, ?_, by omega, by omega, rfl⟩
      show g + 1 ≤ (lenL L).toNat
      omega
  · have hgl : g = (lenL L).toNat := by
      have h3 := of_decide_eq_false hge
      have h4 : g ≤ (lenL L).toNat := hg
      omega
    subst hgl
    generalize hU : usedTo (ls L) (lenL L).toNat = m
    have hr256 : ∀ i, (R.getD i r0).2.2.length ≤ 256 := fun i => by
      by_cases h : i < R.length
      · have := (hrs.2 _ (getD_mem (d := r0) h)).len
        omega
      · rw [List.getD_eq_getElem?_getD, List.getElem?_eq_none (by omega)]
        exact Nat.zero_le _
    refine ⟨⟨0, Nat.zero_le _, rfl, rfl⟩, fun i hi => ⟨fun hlt => ?_, fun hge => ?_⟩⟩
    · have hlt' : i < R.length := by have := of_decide_eq_true hlt; omega
      have hro := hrs.2 _ (getD_mem (d := r0) hlt')
      have hf := hro.start
      have hr2 := hr256 i
      have hnl := need_len (m := m) hr256 i
      generalize hr : R.getD i r0 = r at *
      have hmp : ∀ n : Int, (U.mapGet (.pair .str (.pair (.int .i64) (.pair (.int .i64) (.int .i64)))) .bool m (r.1, n, 0, 0)).getD false = usedB m r.1 n := fun _ => rfl
      have hcount : (r.2.1 + (r.2.2.length : Int) - r.2.1).toNat = r.2.2.length := by omega
      simp only [hmp, hcount]
      refine ⟨by omega, by simp only [fits]; omega, ⟨0, Nat.zero_le _, by simp, rfl⟩, fun j hj => ⟨fun hjl => ⟨fun hno => ?_, fun hyes => ?_⟩, fun hjg => ?_⟩⟩
      · have hjl' : j < r.2.2.length := by have := of_decide_eq_true hjl; omega
        have hno' : usedB m r.1 (r.2.1 + (j : Int)) = false := by simpa using hno
        refine ⟨by simp only [fits]; omega, j + 1, hjl', by omega, by omega, ?_⟩
        simp only [spTo, hno']
        rfl
      · have hjl' : j < r.2.2.length := by have := of_decide_eq_true hjl; omega
        have hyes' : usedB m r.1 (r.2.1 + (j : Int)) = true := by simpa using hyes
        have hsl := spTo_len (usedB m r.1) r.2.1 j
        have hsucc : spTo (usedB m r.1) r.2.1 (j + 1) = addSp (spTo (usedB m r.1) r.2.1 j) (r.2.1 + (j : Int)) := by simp only [spTo, hyes', if_true]
        generalize spTo (usedB m r.1) r.2.1 j = o at *
        have hpos : ∀ h : decide ((0 : Int) < (o.length : Int)) = true, 0 < o.length := fun h => by have := of_decide_eq_true h; omega
        have hidx : 0 < o.length → ((o.length : Int) - 1).toNat = o.length - 1 := fun h => by omega
        refine ⟨fun h => by have := hpos h; simp only [fits]; omega, fun h => by have := hpos h; omega, fun h => by have := hpos h; omega, fun h => ?_, fun h => ?_⟩
        · cases h0 : decide ((0 : Int) < (o.length : Int)) with
          | false => rw [h0] at h; cases h
          | true =>
            rw [h0] at h
            have h1 := hpos h0
            rw [hidx h1] at h ⊢
            have h2 : (o.getD (o.length - 1) (0, 0)).2 = r.2.1 + (j : Int) := by simpa using h
            refine ⟨by simp only [fits]; omega, by omega, by omega, by simp only [fits]; omega, by omega, by omega, by simp only [fits]; omega, j + 1, hjl', by omega, by omega, ?_⟩
            rw [hsucc]
            unfold addSp
            rw [if_pos ⟨h1, h2⟩]
            rfl
        · refine ⟨by simp only [fits]; omega, by simp only [room]; omega, by simp only [fits]; omega, j + 1, hjl', by omega, by omega, ?_⟩
          rw [hsucc]
          unfold addSp
          rw [if_neg]
          rintro ⟨h1, h2⟩
          have h0 : decide ((0 : Int) < (o.length : Int)) = true := decide_eq_true (by omega)
          rw [h0, hidx h1] at h
          have h2' : (o.getD (o.length - 1) (0, 0)).2 = r.2.1 + (j : Int) := h2
          rw [h2'] at h
          simp at h
      · have hje : j = r.2.2.length := by
          have h3 := of_decide_eq_false hjg
          have h4 : j ≤ r.2.2.length := hj
          omega
        subst hje
        have hsl := spTo_len (usedB m r.1) r.2.1 r.2.2.length
        have hsp : spTo (usedB m r.1) r.2.1 r.2.2.length = reelSp m r := rfl
        rw [hsp] at hsl ⊢
        refine ⟨⟨0, Nat.zero_le _, rfl, by simp⟩, fun q hq => ⟨fun hql => ?_, fun hqg => ?_⟩⟩
        · have hql' : q < (reelSp m r).length := by have := of_decide_eq_true hql; omega
          refine ⟨by omega, hql', by simp only [room, List.length_append, List.length_map, List.length_take]; omega, by simp only [fits]; omega, q + 1, hql', by omega, by omega, ?_⟩
          rw [getD_of hql', List.take_succ_eq_append_getElem hql', List.map_append, List.append_assoc]
          rfl
        · have hqe : ¬ q < (reelSp m r).length := by have := of_decide_eq_false hqg; omega
          refine ⟨by simp only [fits]; omega, i + 1, hlt', by omega, by omega, ?_⟩
          rw [List.take_of_length_le (by omega)]
          simp only [needTo, hr]
    · have hie : i = R.length := by
        have h3 := of_decide_eq_false hge
        have h4 : i ≤ R.length := hi
        omega
      subst hie
      refine ⟨?_, h'.symm⟩
      unfold needN
      rw [if_pos h', hU]
theorem so69_ : SpecOk P1 gl1 69 sp69 := by
  intro vs ps r h hp
  simp only [sp69] at h
  split at h
  · cases h; exact fn69 _ _ (hp _ (.head _)) (hp _ (.tail _ (.head _))) (hp _ (.tail _ (.tail _ (.head _))))
  · cases h
theorem so69 : Sp1 69 sp69 := ⟨so69_, Proofs.Tryz.f69, _, by kernel_rfl, rfl, by kernel_rfl⟩
end Go.Sx

namespace Go.Sx.U
def RateOk (F : Int) (D : Bool) : Prop := (F = 24 ∨ F = 25 ∨ F = 30) ∧ (D = true → F = 30)
def dayN (F : Int) (D : Bool) : Int := if D then 86400 * F - 2592 else 86400 * F
def frameN (F : Int) (D : Bool) (h m s f : Int) : Int := if D then (60 * (60 * h + m) + s) * F + f - 2 * ((60 * h + m) - (60 * h + m) / 10) else (60 * (60 * h + m) + s) * F + f
def skipN (D : Bool) (n : Int) : Int := if D then (if 1800 ≤ n % 17982 then n + 18 * (n / 17982) + 2 * (1 + (n % 17982 - 1800) / 1798) else n + 18 * (n / 17982)) else n
def LabOk (F : Int) (D : Bool) (h m s f : Int) : Prop := (0 ≤ h ∧ h ≤ 23) ∧ (0 ≤ m ∧ m ≤ 59) ∧ (0 ≤ s ∧ s ≤ 59) ∧ (0 ≤ f ∧ f ≤ F - 1) ∧ ¬ (D = true ∧ m % 10 ≠ 0 ∧ s = 0 ∧ f < 2)
def labH (F : Int) (D : Bool) (n : Int) : Int := skipN D n / F / 3600
def labM (F : Int) (D : Bool) (n : Int) : Int := skipN D n / F / 60 % 60
def labS (F : Int) (D : Bool) (n : Int) : Int := skipN D n / F % 60
def labF (F : Int) (D : Bool) (n : Int) : Int := skipN D n % F
def chkRate (F : Int) (D : Bool) : Int := if F = 24 ∨ F = 25 ∨ F = 30 then (if D = true ∧ F ≠ 30 then 24 else 0) else 13
def dropB (D : Bool) (m s f : Int) : Bool := D && (m % 10 != 0) && (s == 0) && decide (f < 2)
def chkLab (F : Int) (D : Bool) (h m s f : Int) : Int := first [chkRate F D, within h 0 23, within m 0 59, within s 0 59, within f 0 (F - 1), whenE (dropB D m s f) 7]
def chkStamp (F : Int) (D : Bool) (h m s f u : Int) : Int := first [chkLab F D h m s f, within u 0 65535]
abbrev Lb := Int × Int × Int × Int
abbrev St7 := (Int × Bool) × Lb × Int
def chkSt (x : St7) : Int := chkStamp x.1.1 x.1.2 x.2.1.1 x.2.1.2.1 x.2.1.2.2.1 x.2.1.2.2.2 x.2.2
def addN (F : Int) (D : Bool) (h m s f n : Int) : Int := (frameN F D h m s f + n) % dayN F D
def lab (F : Int) (D : Bool) (n : Int) : Lb := (labH F D n, labM F D n, labS F D n, labF F D n)
def StOk (x : St7) : Prop := RateOk x.1.1 x.1.2 ∧ LabOk x.1.1 x.1.2 x.2.1.1 x.2.1.2.1 x.2.1.2.2.1 x.2.1.2.2.2 ∧ 0 ≤ x.2.2 ∧ x.2.2 ≤ 65535
end Go.Sx.U
namespace Go.Sx
open U
abbrev lbT : Ty := .pair (.int .i64) (.pair (.int .i64) (.pair (.int .i64) (.int .i64)))
@[reducible] def rtV (F : Int) (D : Bool) : V := .agg [.one (.int .i64 F), .one (.bool D)]
@[reducible] def lbV (h m s f : Int) : V := .agg [.one (.int .i64 h), .one (.int .i64 m), .one (.int .i64 s), .one (.int .i64 f)]
@[reducible] def lbW (l : Lb) : V := lbV l.1 l.2.1 l.2.2.1 l.2.2.2
@[reducible] def stV (F : Int) (D : Bool) (h m s f u : Int) : V := .agg [.one (.int .i64 F), .one (.bool D), .one (.int .i64 h), .one (.int .i64 m), .one (.int .i64 s), .one (.int .i64 f), .one (.int .i64 u)]
@[reducible] def stW (x : St7) : V := stV x.1.1 x.1.2 x.2.1.1 x.2.1.2.1 x.2.1.2.2.1 x.2.1.2.2.2 x.2.2
def h182 : Hints := ⟨fun f k s => match f, k with
  | 182, 2 => hFirst 5 6 7 s
  | _, _ => none, 0⟩
@[reducible] noncomputable def fb234 : Nat × Func := (234, Proofs.Tryz.f234)
def sp224 : FSpec := ⟨fun vs => match vs with
  | [.one (.sl (.int .i64) xs), .one (.int .i64 n)] => some ([xs = [24, 25, 30]], .val (bV (decide (n = 24 ∨ n = 25 ∨ n = 30))))
  | _ => none, true⟩
end Go.Sx
namespace Go.Sx
open U
def sp183 : FSpec := ⟨fun vs => match vs with
  | [.one (.bool b), .one (.int .i64 e)] => some ([], .val (iV (whenE b e)))
  | _ => none, true⟩
def sp186 : FSpec := ⟨fun vs => match vs with
  | [.one (.int .i64 n), .one (.int .i64 lo), .one (.int .i64 hi)] => some ([], .val (iV (within n lo hi)))
  | _ => none, true⟩
def sp182 : FSpec := ⟨fun vs => match vs with
  | [.one (.sl (.int .i64) xs)] => some ([List.length xs ≤ 1000000000], .val (iV (first xs)))
  | _ => none, true⟩
def sp212 : FSpec := ⟨fun vs => match vs with
  | [.agg [.one (.int .i64 F), .one (.bool D)]] => some ([], .val (iV (chkRate F D)))
  | _ => none, true⟩
def sp215 : FSpec := ⟨fun vs => match vs with
  | [.agg [.one (.int .i64 F), .one (.bool D)]] => some ([0 ≤ F ∧ F ≤ 1000], .val (iV (dayN F D)))
  | _ => none, true⟩
def sp213 : FSpec := ⟨fun vs => match vs with
  | [.agg [.one (.int .i64 _h), .one (.int .i64 m), .one (.int .i64 s), .one (.int .i64 f)], .agg [.one (.int .i64 _F), .one (.bool D)]] => some ([0 ≤ m], .val (bV (dropB D m s f)))
  | _ => none, true⟩
def sp188 : FSpec := ⟨fun vs => match vs with
  | [.agg [.one (.int .i64 F), .one (.bool D)], .agg [.one (.int .i64 h), .one (.int .i64 m), .one (.int .i64 s), .one (.int .i64 f)]] => some ([0 ≤ m, 0 ≤ F ∧ F ≤ 1000], .val (iV (chkLab F D h m s f)))
  | _ => none, true⟩
def sp140 : FSpec := ⟨fun vs => match vs with
  | [.agg [.one (.int .i64 F), .one (.bool D), .one (.int .i64 h), .one (.int .i64 m), .one (.int .i64 s), .one (.int .i64 f), .one (.int .i64 u)]] => some ([0 ≤ m, 0 ≤ F ∧ F ≤ 1000], .val (iV (chkStamp F D h m s f u)))
  | _ => none, true⟩
def sp214 : FSpec := ⟨fun vs => match vs with
  | [.agg [.one (.int .i64 h), .one (.int .i64 m), .one (.int .i64 s), .one (.int .i64 f)], .agg [.one (.int .i64 F), .one (.bool D)]] => some ([RateOk F D, LabOk F D h m s f], .val (iV (frameN F D h m s f)))
  | _ => none, true⟩
def sp216 : FSpec := ⟨fun vs => match vs with
  | [.agg [.one (.int .i64 F), .one (.bool D)], .one (.int .i64 n)] => some ([RateOk F D, 0 ≤ n ∧ n < dayN F D], .val (lbW (lab F D n)))
  | _ => none, true⟩
def sp189 : FSpec := ⟨fun vs => match vs with
  | [.agg [.one (.int .i64 h), .one (.int .i64 m), .one (.int .i64 s), .one (.int .i64 f)], .agg [.one (.int .i64 F), .one (.bool D)], .one (.int .i64 n)] => some ([RateOk F D, LabOk F D h m s f, 0 ≤ n ∧ n ≤ 10000000], .val (lbW (lab F D (addN F D h m s f n))))
  | _ => none, true⟩
def sp141 : FSpec := ⟨fun vs => match vs with
  | [.agg [.one (.int .i64 F), .one (.bool D)], .agg [.one (.int .i64 h), .one (.int .i64 m), .one (.int .i64 s), .one (.int .i64 f)], .one (.int .i64 n)] => some ([RateOk F D, LabOk F D h m s f, 0 ≤ n ∧ n ≤ 10000000], .tup [lbW (lab F D (addN F D h m s f n)), iV 0])
  | _ => none, true⟩
end Go.Sx

namespace Go.Sx
open U
theorem vc224 (n : Int) : exF (env false [] [fb234]) (hu 4) 3 224 Proofs.Tryz.f224 [.one (.sl (.int .i64) [24, 25, 30]), iV n] (.val (bV (decide (n = 24 ∨ n = 25 ∨ n = 30)))) = (let q0 := (n = (24 : Int) ∨ n = (25 : Int) ∨ n = (30 : Int)); ((0 : Int) ≤ (0 : Int) ∧ (0 : Int) < (3 : Int)) ∧ splitB (n == (24 : Int)) (decide ((0 : Int) ≤ (0 : Int)) = decide q0 ∧ True) (fits IntKind.i64 (1 : Int) ∧ ((0 : Int) ≤ (1 : Int) ∧ (1 : Int) < (3 : Int)) ∧ splitB (n == (25 : Int)) (decide ((0 : Int) ≤ (1 : Int)) = decide q0 ∧ True) (fits IntKind.i64 (2 : Int) ∧ ((0 : Int) ≤ (2 : Int) ∧ (2 : Int) < (3 : Int)) ∧ splitB (n == (30 : Int)) (decide ((0 : Int) ≤ (2 : Int)) = decide q0 ∧ True) (fits IntKind.i64 (3 : Int) ∧ decide ((0 : Int) ≤ (-1 : Int)) = decide q0 ∧ True)))) := by
  kernel_rfl
theorem vc183 (b : Bool) (e : Int) : exF (env false [] []) h0 0 183 Proofs.Tryz.f183 [bV b, iV e] (.val (iV (whenE b e))) = (splitB b (e = whenE b e ∧ True) ((0 : Int) = whenE b e ∧ True)) := by
  kernel_rfl
theorem vc186 (n lo hi : Int) : exF (env false [(183, sp183)] []) h0 0 186 Proofs.Tryz.f186 [iV n, iV lo, iV hi] (.val (iV (within n lo hi))) = (whenE (bif decide (n < lo) then true else decide (hi < n)) (3 : Int) = within n lo hi ∧ True) := by
  kernel_rfl
theorem vc182 (xs : List Int) : exF (env false [] []) h182 0 182 Proofs.Tryz.f182 [.one (.sl (.int .i64) xs)] (.val (iV (first xs))) = (let q0 := (↑(List.length xs) : Int); (∃ (g : Nat), (g ≤ List.length xs ∧ first xs = first (List.drop g xs)) ∧ (0 : Int) = (↑g : Int) ∧ q0 = q0 ∧ xs = xs ∧ True) ∧ ∀ (g : Nat), g ≤ List.length xs ∧ first xs = first (List.drop g xs) → splitB (decide ((↑g : Int) < q0)) (((0 : Int) ≤ (↑g : Int) ∧ (↑g : Int) < q0) ∧ splitB (List.getD xs g (0 : Int) != (0 : Int)) (List.getD xs g (0 : Int) = first xs ∧ True) (fits IntKind.i64 ((↑g : Int) + (1 : Int)) ∧ ∃ (g' : Nat), (g' ≤ List.length xs ∧ first xs = first (List.drop g' xs)) ∧ List.length xs - g' < List.length xs - g ∧ (↑g : Int) + (1 : Int) = (↑g' : Int) ∧ q0 = q0 ∧ xs = xs ∧ True)) ((0 : Int) = first xs ∧ True)) := by
  kernel_rfl
theorem vc212 (F : Int) (D : Bool) : exF (env false [(183, sp183), (182, sp182), (224, sp224)] []) h0 0 212 Proofs.Tryz.f212 [rtV F D] (.val (iV (chkRate F D))) = (((0 : Int) ≤ (0 : Int) ∧ (0 : Int) ≤ (3 : Int) ∧ (3 : Int) ≤ (3 : Int)) ∧ [(24 : Int), (25 : Int), (30 : Int)] = [(24 : Int), (25 : Int), (30 : Int)] ∧ (2 : Nat) ≤ (1000000000 : Nat) ∧ first [whenE (!decide (F = (24 : Int) ∨ F = (25 : Int) ∨ F = (30 : Int))) (13 : Int), whenE (bif D then F != (30 : Int) else false) (24 : Int)] = chkRate F D ∧ True) := by
  kernel_rfl
theorem vc215 (F : Int) (D : Bool) : exF (env false [] []) h0 0 215 Proofs.Tryz.f215 [rtV F D] (.val (iV (dayN F D))) = (fits IntKind.i64 ((86400 : Int) * F) ∧ splitB D (fits IntKind.i64 ((86400 : Int) * F - (2592 : Int)) ∧ (86400 : Int) * F - (2592 : Int) = dayN F D ∧ True) ((86400 : Int) * F = dayN F D ∧ True)) := by
  kernel_rfl
theorem vc213 (F : Int) (D : Bool) (h m s f : Int) : exF (env false [] []) h0 0 213 Proofs.Tryz.f213 [lbV h m s f, rtV F D] (.val (bV (dropB D m s f))) = ((D = true → (0 : Int) ≤ m ∧ (0 : Int) < (10 : Int)) ∧ (bif bif bif D then m % (10 : Int) != (0 : Int) else false then s == (0 : Int) else false then decide (f < (2 : Int)) else false) = dropB D m s f ∧ True) := by
  kernel_rfl
theorem vc188 (F : Int) (D : Bool) (h m s f : Int) : exF (env false [(212, sp212), (186, sp186), (183, sp183), (182, sp182), (213, sp213)] []) h0 0 188 Proofs.Tryz.f188 [rtV F D, lbV h m s f] (.val (iV (chkLab F D h m s f))) = (fits IntKind.i64 (F - (1 : Int)) ∧ (0 : Int) ≤ m ∧ (6 : Nat) ≤ (1000000000 : Nat) ∧ first [chkRate F D, within h (0 : Int) (23 : Int), within m (0 : Int) (59 : Int), within s (0 : Int) (59 : Int), within f (0 : Int) (F - (1 : Int)), whenE (dropB D m s f) (7 : Int)] = chkLab F D h m s f ∧ True) := by
  kernel_rfl
theorem vc140 (F : Int) (D : Bool) (h m s f u : Int) : exF (env false [(188, sp188), (186, sp186), (182, sp182)] []) h0 0 140 Proofs.Tryz.f140 [stV F D h m s f u] (.val (iV (chkStamp F D h m s f u))) = ((0 : Int) ≤ m ∧ ((0 : Int) ≤ F ∧ F ≤ (1000 : Int)) ∧ (2 : Nat) ≤ (1000000000 : Nat) ∧ first [chkLab F D h m s f, within u (0 : Int) (65535 : Int)] = chkStamp F D h m s f u ∧ True) := by
  kernel_rfl
theorem vc214 (F : Int) (D : Bool) (h m s f : Int) : exF (env false [] []) h0 0 214 Proofs.Tryz.f214 [lbV h m s f, rtV F D] (.val (iV (frameN F D h m s f))) = (let q0 := ((60 : Int) * h + m); let q1 := ((60 : Int) * h + m - q0 / (10 : Int)); let q2 := ((60 : Int) * q0 + s); fits IntKind.i64 ((60 : Int) * h) ∧ fits IntKind.i64 q0 ∧ fits IntKind.i64 ((60 : Int) * q0) ∧ fits IntKind.i64 q2 ∧ fits IntKind.i64 (q2 * F) ∧ fits IntKind.i64 (q2 * F + f) ∧ splitB D (((0 : Int) ≤ (60 : Int) * h + m ∧ (0 : Int) < (10 : Int) ∧ fits IntKind.i64 (q0 / (10 : Int))) ∧ fits IntKind.i64 q1 ∧ fits IntKind.i64 ((2 : Int) * q1) ∧ fits IntKind.i64 (q2 * F + f - (2 : Int) * q1) ∧ q2 * F + f - (2 : Int) * q1 = frameN F D h m s f ∧ True) (q2 * F + f = frameN F D h m s f ∧ True)) := by
  kernel_rfl
theorem vc216 (F : Int) (D : Bool) (n : Int) : exF (env false [] []) h0 0 216 Proofs.Tryz.f216 [rtV F D, iV n] (.val (lbW (lab F D n))) = (let q4 := (n % (17982 : Int) - (1800 : Int)); let q2 := ((1 : Int) + q4 / (1798 : Int)); let q3 := (n / (17982 : Int)); let q0 := (n + (18 : Int) * q3 + (2 : Int) * q2); let q1 := (n + (18 : Int) * q3); splitB D (((0 : Int) ≤ n ∧ (0 : Int) < (17982 : Int) ∧ fits IntKind.i64 q3) ∧ ((0 : Int) ≤ n ∧ (0 : Int) < (17982 : Int)) ∧ fits IntKind.i64 ((18 : Int) * q3) ∧ fits IntKind.i64 q1 ∧ splitB (decide ((1800 : Int) ≤ n % (17982 : Int))) (fits IntKind.i64 q4 ∧ ((0 : Int) ≤ n % (17982 : Int) - (1800 : Int) ∧ (0 : Int) < (1798 : Int) ∧ fits IntKind.i64 (q4 / (1798 : Int))) ∧ fits IntKind.i64 q2 ∧ fits IntKind.i64 ((2 : Int) * q2) ∧ fits IntKind.i64 q0 ∧ ((0 : Int) ≤ n + (18 : Int) * q3 + (2 : Int) * q2 ∧ (0 : Int) < F ∧ fits IntKind.i64 (q0 / F)) ∧ ((0 : Int) ≤ q0 / F ∧ (0 : Int) < (3600 : Int) ∧ fits IntKind.i64 (q0 / F / (3600 : Int))) ∧ ((0 : Int) ≤ q0 / F ∧ (0 : Int) < (60 : Int) ∧ fits IntKind.i64 (q0 / F / (60 : Int))) ∧ ((0 : Int) ≤ q0 / F / (60 : Int) ∧ (0 : Int) < (60 : Int)) ∧ ((0 : Int) ≤ q0 / F ∧ (0 : Int) < (60 : Int)) ∧ ((0 : Int) ≤ n + (18 : Int) * q3 + (2 : Int) * q2 ∧ (0 : Int) < F) ∧ q0 / F / (3600 : Int) = (lab F D n).1 ∧ q0 / F / (60 : Int) % (60 : Int) = (lab F D n).2.1 ∧ q0 / F % (60 : Int) = (lab F D n).2.2.1 ∧ q0 % F = (lab F D n).2.2.2 ∧ True) (((0 : Int) ≤ n + (18 : Int) * q3 ∧ (0 : Int) < F ∧ fits IntKind.i64 (q1 / F)) ∧ ((0 : Int) ≤ q1 / F ∧ (0 : Int) < (3600 : Int) ∧ fits IntKind.i64 (q1 / F / (3600 : Int))) ∧ ((0 : Int) ≤ q1 / F ∧ (0 : Int) < (60 : Int) ∧ fits IntKind.i64 (q1 / F / (60 : Int))) ∧ ((0 : Int) ≤ q1 / F / (60 : Int) ∧ (0 : Int) < (60 : Int)) ∧ ((0 : Int) ≤ q1 / F ∧ (0 : Int) < (60 : Int)) ∧ ((0 : Int) ≤ n + (18 : Int) * q3 ∧ (0 : Int) < F) ∧ q1 / F / (3600 : Int) = (lab F D n).1 ∧ q1 / F / (60 : Int) % (60 : Int) = (lab F D n).2.1 ∧ q1 / F % (60 : Int) = (lab F D n).2.2.1 ∧ q1 % F = (lab F D n).2.2.2 ∧ True)) (((0 : Int) ≤ n ∧ (0 : Int) < F ∧ fits IntKind.i64 (n / F)) ∧ ((0 : Int) ≤ n / F ∧ (0 : Int) < (3600 : Int) ∧ fits IntKind.i64 (n / F / (3600 : Int))) ∧ ((0 : Int) ≤ n / F ∧ (0 : Int) < (60 : Int) ∧ fits IntKind.i64 (n / F / (60 : Int))) ∧ ((0 : Int) ≤ n / F / (60 : Int) ∧ (0 : Int) < (60 : Int)) ∧ ((0 : Int) ≤ n / F ∧ (0 : Int) < (60 : Int)) ∧ ((0 : Int) ≤ n ∧ (0 : Int) < F) ∧ n / F / (3600 : Int) = (lab F D n).1 ∧ n / F / (60 : Int) % (60 : Int) = (lab F D n).2.1 ∧ n / F % (60 : Int) = (lab F D n).2.2.1 ∧ n % F = (lab F D n).2.2.2 ∧ True)) := by
  kernel_rfl
theorem vc189 (F : Int) (D : Bool) (h m s f n : Int) : exF (env false [(214, sp214), (215, sp215), (216, sp216)] []) h0 0 189 Proofs.Tryz.f189 [lbV h m s f, rtV F D, iV n] (.val (lbW (lab F D (addN F D h m s f n)))) = (RateOk F D ∧ LabOk F D h m s f ∧ fits IntKind.i64 (frameN F D h m s f + n) ∧ ((0 : Int) ≤ F ∧ F ≤ (1000 : Int)) ∧ ((0 : Int) ≤ frameN F D h m s f + n ∧ (0 : Int) < dayN F D) ∧ ((0 : Int) ≤ F ∧ F ≤ (1000 : Int)) ∧ fits IntKind.i64 ((frameN F D h m s f + n) % dayN F D + dayN F D) ∧ ((0 : Int) ≤ F ∧ F ≤ (1000 : Int)) ∧ ((0 : Int) ≤ (frameN F D h m s f + n) % dayN F D + dayN F D ∧ (0 : Int) < dayN F D) ∧ RateOk F D ∧ ((0 : Int) ≤ ((frameN F D h m s f + n) % dayN F D + dayN F D) % dayN F D ∧ ((frameN F D h m s f + n) % dayN F D + dayN F D) % dayN F D < dayN F D) ∧ Prod.fst (lab F D (((frameN F D h m s f + n) % dayN F D + dayN F D) % dayN F D)) = Prod.fst (lab F D (addN F D h m s f n)) ∧ Prod.fst (Prod.snd (lab F D (((frameN F D h m s f + n) % dayN F D + dayN F D) % dayN F D))) = Prod.fst (Prod.snd (lab F D (addN F D h m s f n))) ∧ Prod.fst (Prod.snd (Prod.snd (lab F D (((frameN F D h m s f + n) % dayN F D + dayN F D) % dayN F D)))) = Prod.fst (Prod.snd (Prod.snd (lab F D (addN F D h m s f n)))) ∧ Prod.snd (Prod.snd (Prod.snd (lab F D (((frameN F D h m s f + n) % dayN F D + dayN F D) % dayN F D)))) = Prod.snd (Prod.snd (Prod.snd (lab F D (addN F D h m s f n)))) ∧ True) := by
  kernel_rfl
theorem vc141 (F : Int) (D : Bool) (h m s f n : Int) : exF (env false [(188, sp188), (186, sp186), (182, sp182), (189, sp189)] []) h0 0 141 Proofs.Tryz.f141 [rtV F D, lbV h m s f, iV n] (.tup [lbW (lab F D (addN F D h m s f n)), iV 0]) = (let q0 := (lab F D (addN F D h m s f n)); (0 : Int) ≤ m ∧ ((0 : Int) ≤ F ∧ F ≤ (1000 : Int)) ∧ (2 : Nat) ≤ (1000000000 : Nat) ∧ splitB (first [chkLab F D h m s f, within n (-10000000 : Int) (10000000 : Int)] != (0 : Int)) ((0 : Int) = q0.1 ∧ (0 : Int) = q0.2.1 ∧ (0 : Int) = q0.2.2.1 ∧ (0 : Int) = q0.2.2.2 ∧ first [chkLab F D h m s f, within n (-10000000 : Int) (10000000 : Int)] = (0 : Int) ∧ True) (RateOk F D ∧ LabOk F D h m s f ∧ ((0 : Int) ≤ n ∧ n ≤ (10000000 : Int)) ∧ q0.1 = q0.1 ∧ q0.2.1 = q0.2.1 ∧ q0.2.2.1 = q0.2.2.1 ∧ q0.2.2.2 = q0.2.2.2 ∧ (0 : Int) = (0 : Int) ∧ True)) := by
  kernel_rfl
end Go.Sx
