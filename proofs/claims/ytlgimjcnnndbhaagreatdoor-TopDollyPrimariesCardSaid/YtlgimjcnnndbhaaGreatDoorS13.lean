/- A verified symbolic run of functions, part 13: lemmas, no claim of their own. -/
import Derived.Test.YtlgimjcnnndbhaaGreatDoorS12
namespace Go.Sx
open U
theorem fn69 (l : List Nat) (hl : l.length ≤ 1000000) (hs : OkS l) : Fn P1 gl1 69 [.one (.sl (.flt .f32) l), .one (.fn 70 [] [])] (.val (.one (.frs (.int .i64) (sixs l)))) true := by
  refine Fn.flat ?_ rfl
  refine fn_of false [(70, sp70)] [] h69 0 Proofs.Tryz.f69 ⟨so70, trivial⟩ trivial (by kernel_rfl) rfl (by kernel_rfl) rfl rfl rfl ?_
  rw [vc69]
  try simp only [splitB_iff, -eq_self]
  refine ⟨⟨0, Nat.zero_le _, rfl, rfl, rfl, by simp⟩, fun g hg => ⟨fun hlt => ?_, fun hge => ?_⟩⟩
  · have hlt' : g < l.length := by simpa using hlt
    refine ⟨by omega, hs _ (getD_mem' hlt'), by simp only [room, List.length_map, List.length_take]; omega, by simp only [fits]; omega, g + 1, hlt', by omega, by simp, rfl, rfl, ?_, trivial⟩
    rw [getD_of hlt', List.take_succ_eq_append_getElem hlt', List.map_append]
    rfl
  · have hge' : ¬ g < l.length := by simpa using hge
    rw [List.take_of_length_le (by omega)]
    exact ⟨rfl, trivial⟩
theorem so69_ : SpecOk P1 gl1 69 sp69 := by
  intro vs ps r h hp
  simp only [sp69] at h
  split at h
  · cases h; exact fn69 _ (hp _ (.head _)) (hp _ (.tail _ (.head _)))
  · cases h
theorem so69 : Sp1 69 sp69 := ⟨so69_, Proofs.Tryz.f69, _, by kernel_rfl, rfl, by kernel_rfl⟩
theorem fn86 (l : List Nat) (hl : l.length ≤ 1000000) : Fn P1 gl1 86 [.one (.sl (.flt .f32) l), .one (.fn 87 [] [])] (.val (.one (.frs (.int .i64) (l.map chkS)))) true := by
  refine Fn.flat ?_ rfl
  refine fn_of false [(87, sp87)] [] h69 0 Proofs.Tryz.f86 ⟨so87, trivial⟩ trivial (by kernel_rfl) rfl (by kernel_rfl) rfl rfl rfl ?_
  rw [vc86]
  try simp only [splitB_iff, -eq_self]
  refine ⟨⟨0, Nat.zero_le _, rfl, rfl, rfl, by simp⟩, fun g hg => ⟨fun hlt => ?_, fun hge => ?_⟩⟩
  · have hlt' : g < l.length := by simpa using hlt
    refine ⟨by omega, by simp only [room, List.length_map, List.length_take]; omega, by simp only [fits]; omega, g + 1, hlt', by omega, by simp, rfl, rfl, ?_, trivial⟩
    rw [getD_of hlt', List.take_succ_eq_append_getElem hlt', List.map_append]
    rfl
  · have hge' : ¬ g < l.length := by simpa using hge
    rw [List.take_of_length_le (by omega)]
    exact ⟨rfl, trivial⟩
theorem so86_ : SpecOk P1 gl1 86 sp86 := by
  intro vs ps r h hp
  simp only [sp86] at h
  split at h
  · cases h; exact fn86 _ (hp _ (.head _))
  · cases h
theorem so86 : Sp1 86 sp86 := ⟨so86_, Proofs.Tryz.f86, _, by kernel_rfl, rfl, by kernel_rfl⟩
theorem fn90 (l : List Int) (hl : l.length ≤ 1000000) (hs : Bd 8388608 l) : Fn P1 gl1 90 [.one (.sl (.int .i64) l), .one (.fn 91 [] [])] (.val (.one (.frs (.flt .f32) (l.map smp)))) true := by
  refine Fn.flat ?_ rfl
  refine fn_of false [(91, sp91)] [] h69 0 Proofs.Tryz.f90 ⟨so91, trivial⟩ trivial (by kernel_rfl) rfl (by kernel_rfl) rfl rfl rfl ?_
  rw [vc90]
  try simp only [splitB_iff, -eq_self]
  refine ⟨⟨0, Nat.zero_le _, rfl, rfl, rfl, by simp⟩, fun g hg => ⟨fun hlt => ?_, fun hge => ?_⟩⟩
  · have hlt' : g < l.length := by simpa using hlt
    refine ⟨by omega, hs _ (getD_mem' hlt'), by simp only [room, List.length_map, List.length_take]; omega, by simp only [fits]; omega, g + 1, hlt', by omega, by simp, rfl, rfl, ?_, trivial⟩
    rw [getD_of hlt', List.take_succ_eq_append_getElem hlt', List.map_append]
    rfl
  · have hge' : ¬ g < l.length := by simpa using hge
    rw [List.take_of_length_le (by omega)]
    exact ⟨rfl, trivial⟩
theorem so90_ : SpecOk P1 gl1 90 sp90 := by
  intro vs ps r h hp
  simp only [sp90] at h
  split at h
  · cases h; exact fn90 _ (hp _ (.head _)) (hp _ (.tail _ (.head _)))
  · cases h
theorem so90 : Sp1 90 sp90 := ⟨so90_, Proofs.Tryz.f90, _, by kernel_rfl, rfl, by kernel_rfl⟩
theorem fn38 (l : List Nat) (hl : l.length ≤ 1000000) (hs : OkS l) : Fn P1 gl1 38 [.one (.sl (.flt .f32) l)] (.val (.one (.frs (.int .i64) (sixs l)))) true := by
  refine Fn.flat ?_ rfl
  refine fn_of false [(69, sp69)] [] h0 0 Proofs.Tryz.f38 ⟨so69, trivial⟩ trivial (by kernel_rfl) rfl (by kernel_rfl) rfl rfl rfl ?_
  rw [vc38]
  try simp only [splitB_iff, -eq_self]
  exact ⟨hl, hs, rfl, trivial⟩
theorem so38_ : SpecOk P1 gl1 38 sp38 := by
  intro vs ps r h hp
  simp only [sp38] at h
  split at h
  · cases h; exact fn38 _ (hp _ (.head _)) (hp _ (.tail _ (.head _)))
  · cases h
theorem so38 : Sp1 38 sp38 := ⟨so38_, Proofs.Tryz.f38, _, by kernel_rfl, rfl, by kernel_rfl⟩
theorem fn64 (l : List Nat) (hl : l.length ≤ 1000000) : Fn P1 gl1 64 [.one (.sl (.flt .f32) l)] (.val (iV (chkSs l))) true := by
  refine Fn.flat ?_ rfl
  refine fn_of false [(86, sp86), (32, sp32)] [] h0 0 Proofs.Tryz.f64 ⟨so86, so32, trivial⟩ trivial (by kernel_rfl) rfl (by kernel_rfl) rfl rfl rfl ?_
  rw [vc64]
  try simp only [splitB_iff, -eq_self]
  refine ⟨hl, by rw [List.length_map]; omega, rfl, trivial⟩
theorem so64_ : SpecOk P1 gl1 64 sp64 := by
  intro vs ps r h hp
  simp only [sp64] at h
  split at h
  · cases h; exact fn64 _ (hp _ (.head _))
  · cases h
theorem so64 : Sp1 64 sp64 := ⟨so64_, Proofs.Tryz.f64, _, by kernel_rfl, rfl, by kernel_rfl⟩
theorem fn36 (l : List Nat)  : Fn P1 gl1 36 [.one (.sl (.flt .f32) l)] (.val (iV (chkSig l))) true := by
  refine Fn.flat ?_ rfl
  refine fn_of false [(42, sp42), (32, sp32), (64, sp64)] [] h0 0 Proofs.Tryz.f36 ⟨so42, so32, so64, trivial⟩ trivial (by kernel_rfl) rfl (by kernel_rfl) rfl rfl rfl ?_
  rw [vc36]
  try simp only [splitB_iff, -eq_self]
  unfold chkSig
  by_cases h1 : 256 < l.length
  · have e : (256 : Int) < (l.length : Int) := by omega
    simp [h1, e, whenE, first]
  · have e : ¬ (256 : Int) < (l.length : Int) := by omega
    by_cases h2 : l.length % 4 = 0
    · have e2 : (l.length : Int) % 4 = 0 := by omega
      simp [h1, h2, e, e2, whenE, first]; omega
    · have e2 : ¬ (l.length : Int) % 4 = 0 := by omega
      simp [h1, h2, e, e2, whenE, first]
theorem so36_ : SpecOk P1 gl1 36 sp36 := by
  intro vs ps r h _
  simp only [sp36] at h
  split at h
  · cases h; exact fn36 _ 
  · cases h
theorem so36 : Sp1 36 sp36 := ⟨so36_, Proofs.Tryz.f36, _, by kernel_rfl, rfl, by kernel_rfl⟩
theorem fn41 (y u v : List Nat)  : Fn P1 gl1 41 [ptV y u v] (.val (iV (y.length : Int))) true := by
  refine Fn.flat ?_ rfl
  refine fn_of false [] [] h0 0 Proofs.Tryz.f41 trivial trivial (by kernel_rfl) rfl (by kernel_rfl) rfl rfl rfl ?_
  rw [vc41]
  try simp only [splitB_iff, -eq_self]
  exact ⟨rfl, trivial⟩
theorem so41_ : SpecOk P1 gl1 41 sp41 := by
  intro vs ps r h _
  simp only [sp41] at h
  split at h
  · cases h; exact fn41 _ _ _ 
  · cases h
theorem so41 : Sp1 41 sp41 := ⟨so41_, Proofs.Tryz.f41, _, by kernel_rfl, rfl, by kernel_rfl⟩
theorem fn33 (y u v : List Nat) (hl : y.length ≤ 1000000000) : Fn P1 gl1 33 [ptV y u v] (.val (iV (chkPt y u v))) true := by
  refine Fn.flat ?_ rfl
  refine fn_of false [(41, sp41), (36, sp36), (42, sp42), (32, sp32), (64, sp64)] [] h0 0 Proofs.Tryz.f33 ⟨so41, so36, so42, so32, so64, trivial⟩ trivial (by kernel_rfl) rfl (by kernel_rfl) rfl rfl rfl ?_
  rw [vc33]
  try simp only [splitB_iff, -eq_self]
  unfold chkPt
  refine ⟨⟨by omega, by decide, by simp only [fits]; omega⟩, by decide, fun h => ?_, fun h => ?_⟩
  · have h : ¬ first [chkSig y, whenE ((u.length : Int) != (y.length : Int) / 4) 2, whenE ((v.length : Int) != (y.length : Int) / 4) 2] = 0 := by simpa using h
    by_cases h1 : chkSig y = 0
    · by_cases h2 : u.length = y.length / 4 ∧ v.length = y.length / 4
      · have e1 : (u.length : Int) = (y.length : Int) / 4 := by omega
        have e2 : (v.length : Int) = (y.length : Int) / 4 := by omega
        simp [first, whenE, h1, e1, e2] at h
      · rw [if_pos h1, if_neg h2]
        by_cases h3 : u.length = y.length / 4
        · have e1 : (u.length : Int) = (y.length : Int) / 4 := by omega
          have e2 : ¬ (v.length : Int) = (y.length : Int) / 4 := by omega
          simp [first, whenE, h1, e1, e2]
        · have e1 : ¬ (u.length : Int) = (y.length : Int) / 4 := by omega
          simp [first, whenE, h1, e1]
    · simp [first, h1]
  · have h : first [chkSig y, whenE ((u.length : Int) != (y.length : Int) / 4) 2, whenE ((v.length : Int) != (y.length : Int) / 4) 2] = 0 := by simpa using h
    by_cases h1 : chkSig y = 0
    · by_cases h2 : (u.length : Int) = (y.length : Int) / 4
      · by_cases h3 : (v.length : Int) = (y.length : Int) / 4
        · obtain ⟨k1, _, _⟩ := chkSig_zero.1 h1
          rw [if_pos h1, if_pos (by omega)]
          exact ⟨by omega, by omega, by decide, rfl, trivial⟩
        · simp [first, whenE, h1, h2, h3] at h
      · simp [first, whenE, h1, h2] at h
    · simp [first, h1] at h
theorem so33_ : SpecOk P1 gl1 33 sp33 := by
  intro vs ps r h hp
  simp only [sp33] at h
  split at h
  · cases h; exact fn33 _ _ _ (hp _ (.head _))
  · cases h
theorem so33 : Sp1 33 sp33 := ⟨so33_, Proofs.Tryz.f33, _, by kernel_rfl, rfl, by kernel_rfl⟩
theorem fn89 (n : Int)  : Fn P1 gl1 89 [iV n] (.val (bV (lgI n))) true := by
  refine Fn.flat ?_ rfl
  refine fn_of false [] [] h0 0 Proofs.Tryz.f89 trivial trivial (by kernel_rfl) rfl (by kernel_rfl) rfl rfl rfl ?_
  rw [vc89]
  try simp only [splitB_iff, -eq_self]
  unfold lgI
  rw [bcond_l]
  exact ⟨rfl, trivial⟩
theorem so89_ : SpecOk P1 gl1 89 sp89 := by
  intro vs ps r h _
  simp only [sp89] at h
  split at h
  · cases h; exact fn89 _ 
  · cases h
theorem so89 : Sp1 89 sp89 := ⟨so89_, Proofs.Tryz.f89, _, by kernel_rfl, rfl, by kernel_rfl⟩
theorem fn65 (l : List Int) (hl : l.length ≤ 1000000) : Fn P1 gl1 65 [.one (.sl (.int .i64) l)] (.tup [.one (.frs (.flt .f32) (smpsN l)), iV (lgE l)]) true := by
  refine Fn.flat ?_ rfl
  refine fn_of false [(89, sp89), (90, sp90)] [fb88, fb100] h65 3 Proofs.Tryz.f65 ⟨so89, so90, trivial⟩ ⟨⟨by kernel_rfl, by kernel_rfl, _, rfl, by kernel_rfl⟩, ⟨by kernel_rfl, by kernel_rfl, _, rfl, by kernel_rfl⟩, trivial⟩ (by kernel_rfl) rfl (by kernel_rfl) rfl rfl rfl ?_
  rw [vc65]
  try simp only [splitB_iff, -eq_self]
  refine ⟨⟨0, ⟨by omega, fun j hj => absurd hj (by omega)⟩, rfl, rfl, rfl, trivial⟩, fun g hg => ⟨fun hlt => ?_, fun hge => ?_⟩⟩
  · have hlt : g < l.length := by simpa using hlt
    refine ⟨by omega, fun h => ?_, fun h => ?_⟩
    · have hn : l.any lgI = true := List.any_eq_true.2 ⟨_, getD_mem' hlt, h⟩
      unfold smpsN lgE
      rw [hn]
      exact ⟨rfl, rfl, trivial⟩
    · refine ⟨by simp only [fits]; omega, g + 1, ⟨by omega, fun j hj => ?_⟩, by omega, by simp, rfl, rfl, trivial⟩
      by_cases e : j = g
      · subst e; exact h
      · exact hg.2 j (by omega)
  · have hge : ¬ g < l.length := by simpa using hge
    have hn : Bd 16384 l := bd_of_lg fun j hj => hg.2 j (by omega)
    rw [smpsN_of hn, lgE_of hn]
    exact ⟨hl, bd_le hn (by omega), rfl, rfl, trivial⟩
theorem so65_ : SpecOk P1 gl1 65 sp65 := by
  intro vs ps r h hp
  simp only [sp65] at h
  split at h
  · cases h; exact fn65 _ (hp _ (.head _))
  · cases h
theorem so65 : Sp1 65 sp65 := ⟨so65_, Proofs.Tryz.f65, _, by kernel_rfl, rfl, by kernel_rfl⟩
theorem fn67 (x y : Int) (hx : -2000000000 ≤ x ∧ x ≤ 2000000000) (hy : -2000000000 ≤ y ∧ y ≤ 2000000000) : Fn P1 gl1 67 [iV x, iV y] (.val (iV (plusI x y))) true := by
  refine Fn.flat ?_ rfl
  refine fn_of false [] [] h0 0 Proofs.Tryz.f67 trivial trivial (by kernel_rfl) rfl (by kernel_rfl) rfl rfl rfl ?_
  rw [vc67]
  try simp only [splitB_iff, -eq_self]
  unfold plusI
  exact ⟨by simp only [fits]; omega, rfl, trivial⟩
theorem so67_ : SpecOk P1 gl1 67 sp67 := by
  intro vs ps r h hp
  simp only [sp67] at h
  split at h
  · cases h; exact fn67 _ _ (hp _ (.head _)) (hp _ (.tail _ (.head _)))
  · cases h
theorem so67 : Sp1 67 sp67 := ⟨so67_, Proofs.Tryz.f67, _, by kernel_rfl, rfl, by kernel_rfl⟩
theorem fn47 (x y : Int) (hx : -2000000000 ≤ x ∧ x ≤ 2000000000) (hy : -2000000000 ≤ y ∧ y ≤ 2000000000) : Fn P1 gl1 47 [iV x, iV y] (.val (iV (minusI x y))) true := by
  refine Fn.flat ?_ rfl
  refine fn_of false [] [] h0 0 Proofs.Tryz.f47 trivial trivial (by kernel_rfl) rfl (by kernel_rfl) rfl rfl rfl ?_
  rw [vc47]
  try simp only [splitB_iff, -eq_self]
  unfold minusI
  exact ⟨by simp only [fits]; omega, rfl, trivial⟩
theorem so47_ : SpecOk P1 gl1 47 sp47 := by
  intro vs ps r h hp
  simp only [sp47] at h
  split at h
  · cases h; exact fn47 _ _ (hp _ (.head _)) (hp _ (.tail _ (.head _)))
  · cases h
theorem so47 : Sp1 47 sp47 := ⟨so47_, Proofs.Tryz.f47, _, by kernel_rfl, rfl, by kernel_rfl⟩
theorem fn48 (x y : Int) (hx : -100000000 ≤ x ∧ x ≤ 100000000) (hy : -100000000 ≤ y ∧ y ≤ 100000000) : Fn P1 gl1 48 [iV x, iV y] (.val (iV (midI x y))) true := by
  refine Fn.flat ?_ rfl
  refine fn_of false [(49, sp49)] [] h0 0 Proofs.Tryz.f48 ⟨so49, trivial⟩ trivial (by kernel_rfl) rfl (by kernel_rfl) rfl rfl rfl ?_
  rw [vc48]
  try simp only [splitB_iff, -eq_self]
  unfold midI
  exact ⟨by simp only [fits]; omega, by omega, by omega, rfl, trivial⟩
theorem so48_ : SpecOk P1 gl1 48 sp48 := by
  intro vs ps r h hp
  simp only [sp48] at h
  split at h
  · cases h; exact fn48 _ _ (hp _ (.head _)) (hp _ (.tail _ (.head _)))
  · cases h
theorem so48 : Sp1 48 sp48 := ⟨so48_, Proofs.Tryz.f48, _, by kernel_rfl, rfl, by kernel_rfl⟩
theorem fn74 (x y : Int) (hx : -100000000 ≤ x ∧ x ≤ 100000000) (hy : -100000000 ≤ y ∧ y ≤ 100000000) : Fn P1 gl1 74 [iV x, iV y] (.val (iV (lessI x y))) true := by
  refine Fn.flat ?_ rfl
  refine fn_of false [] [] h0 0 Proofs.Tryz.f74 trivial trivial (by kernel_rfl) rfl (by kernel_rfl) rfl rfl rfl ?_
  rw [vc74]
  try simp only [splitB_iff, -eq_self]
  unfold lessI
  exact ⟨by simp only [fits]; omega, by simp only [fits]; omega, rfl, trivial⟩
theorem so74_ : SpecOk P1 gl1 74 sp74 := by
  intro vs ps r h hp
  simp only [sp74] at h
  split at h
  · cases h; exact fn74 _ _ (hp _ (.head _)) (hp _ (.tail _ (.head _)))
  · cases h
theorem so74 : Sp1 74 sp74 := ⟨so74_, Proofs.Tryz.f74, _, by kernel_rfl, rfl, by kernel_rfl⟩
theorem fn46a (a b : List Int) (hl : a.length ≤ 100000) (hb : b.length = a.length) (h1 : Bd 1000000 a) (h2 : Bd 1000000 b) : Fn P1 gl1 46 [.one (.sl (.int .i64) a), .one (.sl (.int .i64) b), .one (.fn 67 [] [])] (.val (.one (.frs (.int .i64) (combI plusI a b)))) true := by
  refine Fn.flat ?_ rfl
  refine fn_of false [(67, sp67)] [] h46 0 Proofs.Tryz.f46 ⟨so67, trivial⟩ trivial (by kernel_rfl) rfl (by kernel_rfl) rfl rfl rfl ?_
  rw [vc46a]
  try simp only [splitB_iff, -eq_self]
  simp only [List.length_replicate, fillTo_len, -eq_self]
  refine ⟨by omega, by simp only [room]; omega, ⟨0, Nat.zero_le _, rfl, rfl, rfl, rfl, (fillTo_zero _ _ _).symm, trivial⟩, fun g hg => ⟨fun hlt => ?_, fun hge => ?_⟩⟩
  · have hlt : g < a.length := by simpa using hlt
    have k1 := bd_get h1 (i := g) (by omega)
    have k2 := bd_get h2 (i := g) (by omega)
    exact ⟨by omega, by omega, by omega, by omega, by omega, hlt, by simp only [fits]; omega, g + 1, hlt, by omega, by simp, rfl, rfl, rfl, fillTo_set _ _ _ _, trivial⟩
  · have hge : ¬ g < a.length := by simpa using hge
    rw [fillTo_all _ _ _ _ (by omega)]
    exact ⟨rfl, trivial⟩
theorem fn46b (a b : List Int) (hl : a.length ≤ 100000) (hb : b.length = a.length) (h1 : Bd 1000000 a) (h2 : Bd 1000000 b) : Fn P1 gl1 46 [.one (.sl (.int .i64) a), .one (.sl (.int .i64) b), .one (.fn 47 [] [])] (.val (.one (.frs (.int .i64) (combI minusI a b)))) true := by
  refine Fn.flat ?_ rfl
  refine fn_of false [(47, sp47)] [] h46 0 Proofs.Tryz.f46 ⟨so47, trivial⟩ trivial (by kernel_rfl) rfl (by kernel_rfl) rfl rfl rfl ?_
  rw [vc46b]
  try simp only [splitB_iff, -eq_self]
  simp only [List.length_replicate, fillTo_len, -eq_self]
  refine ⟨by omega, by simp only [room]; omega, ⟨0, Nat.zero_le _, rfl, rfl, rfl, rfl, (fillTo_zero _ _ _).symm, trivial⟩, fun g hg => ⟨fun hlt => ?_, fun hge => ?_⟩⟩
  · have hlt : g < a.length := by simpa using hlt
    have k1 := bd_get h1 (i := g) (by omega)
    have k2 := bd_get h2 (i := g) (by omega)
    exact ⟨by omega, by omega, by omega, by omega, by omega, hlt, by simp only [fits]; omega, g + 1, hlt, by omega, by simp, rfl, rfl, rfl, fillTo_set _ _ _ _, trivial⟩
  · have hge : ¬ g < a.length := by simpa using hge
    rw [fillTo_all _ _ _ _ (by omega)]
    exact ⟨rfl, trivial⟩
theorem fn46c (a b : List Int) (hl : a.length ≤ 100000) (hb : b.length = a.length) (h1 : Bd 1000000 a) (h2 : Bd 1000000 b) : Fn P1 gl1 46 [.one (.sl (.int .i64) a), .one (.sl (.int .i64) b), .one (.fn 48 [] [])] (.val (.one (.frs (.int .i64) (combI midI a b)))) true := by
  refine Fn.flat ?_ rfl
  refine fn_of false [(48, sp48)] [] h46 0 Proofs.Tryz.f46 ⟨so48, trivial⟩ trivial (by kernel_rfl) rfl (by kernel_rfl) rfl rfl rfl ?_
  rw [vc46c]
  try simp only [splitB_iff, -eq_self]
  simp only [List.length_replicate, fillTo_len, -eq_self]
  refine ⟨by omega, by simp only [room]; omega, ⟨0, Nat.zero_le _, rfl, rfl, rfl, rfl, (fillTo_zero _ _ _).symm, trivial⟩, fun g hg => ⟨fun hlt => ?_, fun hge => ?_⟩⟩
  · have hlt : g < a.length := by simpa using hlt
    have k1 := bd_get h1 (i := g) (by omega)
    have k2 := bd_get h2 (i := g) (by omega)
    exact ⟨by omega, by omega, by omega, by omega, by omega, hlt, by simp only [fits]; omega, g + 1, hlt, by omega, by simp, rfl, rfl, rfl, fillTo_set _ _ _ _, trivial⟩
  · have hge : ¬ g < a.length := by simpa using hge
    rw [fillTo_all _ _ _ _ (by omega)]
    exact ⟨rfl, trivial⟩
theorem fn46d (a b : List Int) (hl : a.length ≤ 100000) (hb : b.length = a.length) (h1 : Bd 1000000 a) (h2 : Bd 1000000 b) : Fn P1 gl1 46 [.one (.sl (.int .i64) a), .one (.sl (.int .i64) b), .one (.fn 74 [] [])] (.val (.one (.frs (.int .i64) (combI lessI a b)))) true := by
  refine Fn.flat ?_ rfl
  refine fn_of false [(74, sp74)] [] h46 0 Proofs.Tryz.f46 ⟨so74, trivial⟩ trivial (by kernel_rfl) rfl (by kernel_rfl) rfl rfl rfl ?_
  rw [vc46d]
  try simp only [splitB_iff, -eq_self]
  simp only [List.length_replicate, fillTo_len, -eq_self]
  refine ⟨by omega, by simp only [room]; omega, ⟨0, Nat.zero_le _, rfl, rfl, rfl, rfl, (fillTo_zero _ _ _).symm, trivial⟩, fun g hg => ⟨fun hlt => ?_, fun hge => ?_⟩⟩
  · have hlt : g < a.length := by simpa using hlt
    have k1 := bd_get h1 (i := g) (by omega)
    have k2 := bd_get h2 (i := g) (by omega)
    exact ⟨by omega, by omega, by omega, by omega, by omega, hlt, by simp only [fits]; omega, g + 1, hlt, by omega, by simp, rfl, rfl, rfl, fillTo_set _ _ _ _, trivial⟩
  · have hge : ¬ g < a.length := by simpa using hge
    rw [fillTo_all _ _ _ _ (by omega)]
    exact ⟨rfl, trivial⟩
theorem so46_ : SpecOk P1 gl1 46 sp46 := by
  intro vs ps r h hp
  simp only [sp46] at h
  split at h
  · rename_i a b g
    split at h
    · rename_i f hf
      cases h
      have p1 := hp _ (.head _)
      have p2 := hp _ (.tail _ (.head _))
      have p3 := hp _ (.tail _ (.tail _ (.head _)))
      have p4 := hp _ (.tail _ (.tail _ (.tail _ (.head _))))
      unfold fnI at hf
      split at hf
      · cases hf; exact fn46a a b p1 p2 p3 p4
      · cases hf; exact fn46b a b p1 p2 p3 p4
      · cases hf; exact fn46c a b p1 p2 p3 p4
      · cases hf; exact fn46d a b p1 p2 p3 p4
      · cases hf
    · cases h
  · cases h
theorem so46 : Sp1 46 sp46 := ⟨so46_, Proofs.Tryz.f46, _, by kernel_rfl, rfl, by kernel_rfl⟩
theorem fn66 (u v : List Int) (line : Int) (hl : u.length ≤ 100000) (hv : v.length = u.length) (h1 : Bd 1000000 u) (h2 : Bd 1000000 v) (hn : 0 ≤ line) : Fn P1 gl1 66 [.one (.sl (.int .i64) u), .one (.sl (.int .i64) v), iV line] (.val (.one (.frs (.int .i64) (carI u v (signI line))))) true := by
  refine Fn.flat ?_ rfl
  refine fn_of false [(73, sp73)] [] h66 0 Proofs.Tryz.f66 ⟨so73, trivial⟩ trivial (by kernel_rfl) rfl (by kernel_rfl) rfl rfl rfl ?_
  rw [vc66]
  try simp only [splitB_iff, -eq_self]
  have hs := signI_cases line
  generalize signI line = s at *
  refine ⟨hn, ⟨0, Nat.zero_le _, rfl, rfl, rfl, rfl, rfl, rfl, trivial⟩, fun g hg => ⟨fun hlt => ?_, fun hge => ?_⟩⟩
  · have hlt : g < u.length := by simpa using hlt
    have k1 := bd_get h1 (i := g) (by omega)
    have k2 := bd_get h2 (i := g) (by omega)
    refine ⟨by omega, ?_, by omega, ?_, ?_, by omega, ?_, ?_, by omega, ?_, by simp only [room, tab_len]; omega, by simp only [fits]; omega, g + 1, hlt, by omega, by simp, rfl, rfl, rfl, rfl, car_step _ _ _ _, trivial⟩ <;> simp only [fits] <;> rcases hs with rfl | rfl <;> omega
  · have hge : ¬ g < u.length := by simpa using hge
    have hg : g ≤ u.length := hg
    have e : g = u.length := by omega
    subst e
    exact ⟨rfl, trivial⟩
theorem so66_ : SpecOk P1 gl1 66 sp66 := by
  intro vs ps r h hp
  simp only [sp66] at h
  split at h
  · cases h; exact fn66 _ _ _ (hp _ (.head _)) (hp _ (.tail _ (.head _))) (hp _ (.tail _ (.tail _ (.head _)))) (hp _ (.tail _ (.tail _ (.tail _ (.head _))))) (hp _ (.tail _ (.tail _ (.tail _ (.tail _ (.head _))))))
  · cases h
theorem so66 : Sp1 66 sp66 := ⟨so66_, Proofs.Tryz.f66, _, by kernel_rfl, rfl, by kernel_rfl⟩
theorem fn35 (y u v : List Nat) (line : Int) (hp : chkPt y u v = 0) (hn : 0 ≤ line) : Fn P1 gl1 35 [ptV y u v, iV line] (.tup [.one (.frs (.flt .f32) (smpsN (encI y u v line))), iV (lgE (encI y u v line))]) true := by
  refine Fn.flat ?_ rfl
  refine fn_of false [(38, sp38), (66, sp66), (46, sp46), (65, sp65), (67, sp67)] [] h0 0 Proofs.Tryz.f35 ⟨so38, so66, so46, so65, so67, trivial⟩ trivial (by kernel_rfl) rfl (by kernel_rfl) rfl rfl rfl ?_
  rw [vc35]
  try simp only [splitB_iff, -eq_self]
  obtain ⟨h1, h2, h3, h4, h5⟩ := chkPt_zero.1 hp
  obtain ⟨k1, k2, k3⟩ := chkSig_zero.1 h1
  simp only [sixs_len, carI_len, combI_len, -eq_self]
  have b1 : Bd 1000000 (sixs u) := bd_le (bd_sixs h4) (by omega)
  have b2 : Bd 1000000 (sixs v) := bd_le (bd_sixs h5) (by omega)
  exact ⟨by omega, k3, by omega, h4, by omega, h5, by omega, by omega, b1, b2, hn, by omega, by omega, bd_le (bd_sixs k3) (by omega), bd_car (signI_cases _) (by omega) b1 b2, by omega, rfl, rfl, trivial⟩
theorem so35_ : SpecOk P1 gl1 35 sp35 := by
  intro vs ps r h hp
  simp only [sp35] at h
  split at h
  · cases h; exact fn35 _ _ _ _ (hp _ (.head _)) (hp _ (.tail _ (.head _)))
  · cases h
theorem so35 : Sp1 35 sp35 := ⟨so35_, Proofs.Tryz.f35, _, by kernel_rfl, rfl, by kernel_rfl⟩
theorem fn9 (y u v : List Nat) (line : Int) (hl : y.length ≤ 1000000000) : Fn P1 gl1 9 [ptV y u v, iV line] (.tup [.one (.frs (.flt .f32) (encL y u v line)), iV (encE y u v line)]) true := by
  refine Fn.flat ?_ rfl
  refine fn_of false [(33, sp33), (34, sp34), (32, sp32), (35, sp35)] [] h0 0 Proofs.Tryz.f9 ⟨so33, so34, so32, so35, trivial⟩ trivial (by kernel_rfl) rfl (by kernel_rfl) rfl rfl rfl ?_
  rw [vc9]
  try simp only [splitB_iff, -eq_self]
  unfold encL encE
  refine ⟨hl, by decide, fun h => ?_, fun h => ?_⟩
  · have h : ¬ first [chkPt y u v, within line 0 10000000] = 0 := by simpa using h
    rw [if_pos h, if_pos h]
    exact ⟨rfl, rfl, trivial⟩
  · have h : first [chkPt y u v, within line 0 10000000] = 0 := by simpa using h
    rw [if_neg (fun e => e h), if_neg (fun e => e h)]
    have h2 := first_zero.1 h
    have hl : 0 ≤ line := by
      have := h2 _ (.tail _ (.head _))
      unfold within at this
      split at this <;> omega
    exact ⟨h2 _ (.head _), hl, rfl, rfl, trivial⟩
theorem so9_ : SpecOk P1 gl1 9 sp9 := by
  intro vs ps r h hp
  simp only [sp9] at h
  split at h
  · cases h; exact fn9 _ _ _ _ (hp _ (.head _))
  · cases h
theorem so9 : Sp1 9 sp9 := ⟨so9_, Proofs.Tryz.f9, _, by kernel_rfl, rfl, by kernel_rfl⟩
theorem fn53 (l : List Nat) (hl : l.length ≤ 1000000) : Fn P1 gl1 53 [.one (.sl (.flt .f32) l)] (.val (iV (chkSs l))) true := by
  refine Fn.flat ?_ rfl
  refine fn_of false [(75, sp75)] [] h65 0 Proofs.Tryz.f53 ⟨so75, trivial⟩ trivial (by kernel_rfl) rfl (by kernel_rfl) rfl rfl rfl ?_
  rw [vc53]
  try simp only [splitB_iff, -eq_self]
  refine ⟨⟨0, ⟨by omega, rfl⟩, rfl, rfl, trivial⟩, fun g hg => ⟨fun hlt => ?_, fun hge => ?_⟩⟩
  · have hlt : g < l.length := by simpa using hlt
    have e : first (List.drop g (l.map chkS)) = if chkS (List.getD l g 0) = 0 then first (List.drop (g + 1) (l.map chkS)) else chkS (List.getD l g 0) := by
      rw [first_drop _ _ (by simpa using hlt), List.getElem_map, getD_of hlt]
    refine ⟨by omega, fun h => ⟨?_, trivial⟩, fun h => ⟨by simp only [fits]; omega, g + 1, ⟨by omega, ?_⟩, by omega, by simp, rfl, trivial⟩⟩
    · rw [hg.2, e, if_neg (by simpa using h)]
    · rw [hg.2, e, if_pos (by simpa using h)]
  · have hge : ¬ g < l.length := by simpa using hge
    rw [hg.2, List.drop_of_length_le (by rw [List.length_map]; omega)]
    exact ⟨rfl, trivial⟩
theorem so53_ : SpecOk P1 gl1 53 sp53 := by
  intro vs ps r h hp
  simp only [sp53] at h
  split at h
  · cases h; exact fn53 _ (hp _ (.head _))
  · cases h
theorem so53 : Sp1 53 sp53 := ⟨so53_, Proofs.Tryz.f53, _, by kernel_rfl, rfl, by kernel_rfl⟩
theorem fn43 (l : List Nat)  : Fn P1 gl1 43 [.one (.sl (.flt .f32) l)] (.val (iV (chkSig l))) true := by
  refine Fn.flat ?_ rfl
  refine fn_of false [(53, sp53)] [] h0 0 Proofs.Tryz.f43 ⟨so53, trivial⟩ trivial (by kernel_rfl) rfl (by kernel_rfl) rfl rfl rfl ?_
  rw [vc43]
  try simp only [splitB_iff, -eq_self]
  unfold chkSig
  refine ⟨fun h => ?_, fun h => ⟨by omega, fun k => ?_, fun k => ?_⟩⟩
  · have h : (256 : Int) < (l.length : Int) := of_decide_eq_true h
    rw [if_pos (by omega)]; exact ⟨rfl, trivial⟩
  · have h : ¬ (256 : Int) < (l.length : Int) := of_decide_eq_false h
    have k : ¬ (l.length : Int) % 4 = 0 := by simpa using k
    rw [if_neg (by omega), if_neg (by omega)]; exact ⟨rfl, trivial⟩
  · have h : ¬ (256 : Int) < (l.length : Int) := of_decide_eq_false h
    have k : (l.length : Int) % 4 = 0 := by simpa using k
    rw [if_neg (by omega), if_pos (by omega)]; exact ⟨by omega, rfl, trivial⟩
theorem so43_ : SpecOk P1 gl1 43 sp43 := by
  intro vs ps r h _
  simp only [sp43] at h
  split at h
  · cases h; exact fn43 _ 
  · cases h
theorem so43 : Sp1 43 sp43 := ⟨so43_, Proofs.Tryz.f43, _, by kernel_rfl, rfl, by kernel_rfl⟩
theorem fn17 (y u v : List Nat) (hl : y.length ≤ 1000000000) : Fn P1 gl1 17 [ptV y u v] (.val (iV (chkPt y u v))) true := by
  refine Fn.flat ?_ rfl
  refine fn_of false [(43, sp43), (53, sp53), (30, sp30)] [] h0 0 Proofs.Tryz.f17 ⟨so43, so53, so30, trivial⟩ trivial (by kernel_rfl) rfl (by kernel_rfl) rfl rfl rfl ?_
  rw [vc17]
  try simp only [splitB_iff, -eq_self]
  unfold chkPt
  simp only [bcond_l, bcond_r, Bool.or_eq_true, Bool.or_eq_false_iff, Bool.and_eq_true, Bool.and_eq_false_iff, Bool.not_eq_true', Bool.not_eq_false', decide_eq_true_eq, decide_eq_false_iff_not, beq_iff_eq, beq_eq_false_iff_ne, bne_iff_ne, bne_eq_false_iff_eq]
  refine ⟨fun h => ?_, fun h => ⟨⟨by omega, by decide, by simp only [fits]; omega⟩, fun _ => ⟨by omega, by decide, by simp only [fits]; omega⟩, fun k => ?_, fun k => ?_⟩⟩
  · rw [if_neg h]; exact ⟨rfl, trivial⟩
  · rw [if_pos h, if_neg (by omega)]; exact ⟨rfl, trivial⟩
  · obtain ⟨k1, _, _⟩ := chkSig_zero.1 h
    rw [if_pos h, if_pos (by omega)]
    exact ⟨by omega, by omega, by decide, rfl, trivial⟩
theorem so17_ : SpecOk P1 gl1 17 sp17 := by
  intro vs ps r h hp
  simp only [sp17] at h
  split at h
  · cases h; exact fn17 _ _ _ (hp _ (.head _))
  · cases h
theorem so17 : Sp1 17 sp17 := ⟨so17_, Proofs.Tryz.f17, _, by kernel_rfl, rfl, by kernel_rfl⟩
end Go.Sx

namespace Go.Sx.U
def bndE (l : List Nat) (line : Int) : Int := if first [chkSig l, within line 0 10000000] ≠ 0 then first [chkSig l, within line 0 10000000] else partsE (bandI (sixs l) line)
def bndP (l : List Nat) (line : Int) : Pt := if first [chkSig l, within line 0 10000000] ≠ 0 then ([], [], []) else partsP (bandI (sixs l) line)
end Go.Sx.U
namespace Go.Sx
open U
@[reducible] def pV (x : Pt) : V := .agg [.one (.sl (.flt .f32) x.1), .one (.sl (.flt .f32) x.2.1), .one (.sl (.flt .f32) x.2.2)]
def insB (x : Nat × List Ch) : List (Nat × List Ch) → List (Nat × List Ch)
  | [] => [x]
  | y :: r => if x.1 ≤ y.1 then x :: y :: r else y :: insB x r
def boxesOf : List (Nat × Option AObj) → List (Nat × List Ch)
  | [] => []
  | (i, some (.box c)) :: r => insB (i, c) (boxesOf r)
  | _ :: r => boxesOf r
def boxS (s : St) : List (Nat × List Ch) := boxesOf (liveO [] s.ob)
def dropO (s : St) (ids : List Nat) : List (Nat × Option AObj) := (liveO [] s.ob).filter fun x => !ids.contains x.1
def ownC : List Ch → List Nat
  | [.one (.own j)] => [j]
  | _ => []
def h45 : Hints := ⟨fun f k s => match f, k with
  | 92, 1 => match boxS s with
    | [(_, [.one (.int .i64 line)]), (_, [.one (.int .i64 den)]), (bu, cu), (bv, cv), (_, [.one (.sl (.int .i64) l)])] =>
      some ⟨Nat, fun i => ⟨tI 7 i :: keepT [0, 1, 6] s.tm,
        (bu, some (.box [.one (.own s.nx)])) :: (s.nx, some (.row (.int .i64) (tab i fun c => diffAt 0 l c line den))) ::
        (bv, some (.box [.one (.own (s.nx + 1))])) :: (s.nx + 1, some (.row (.int .i64) (tab i fun c => diffAt 1 l c line den))) :: dropO s ([bu, bv] ++ ownC cu ++ ownC cv), s.nx + 2, s.lr⟩,
        fun i => i ≤ List.length l / 4, fun i => List.length l / 4 - i⟩
    | _ => none
  | _, _ => none, 0⟩
@[reducible] noncomputable def fb72 : Nat × Func := (72, Proofs.Tryz.f72)
@[reducible] noncomputable def fb92 : Nat × Func := (92, Proofs.Tryz.f92)
@[reducible] noncomputable def fb37 : Nat × Func := (37, Proofs.Tryz.f37)
@[reducible] noncomputable def fb68 : Nat × Func := (68, Proofs.Tryz.f68)
@[reducible] noncomputable def fb39 : Nat × Func := (39, Proofs.Tryz.f39)
end Go.Sx
namespace Go.Sx
open U
def sp45 : FSpec := ⟨fun vs => match vs with
  | [.one (.sl (.int .i64) l), .one (.int .i64 line), .one (.int .i64 den)] => some ([List.length l ≤ 100000, Bd 1000000 l, 0 ≤ line, 0 < den ∧ den ≤ 1000], .tup [.one (.frs (.int .i64) (diffN 0 l line den)), .one (.frs (.int .i64) (diffN 1 l line den))])
  | _ => none, true⟩
def sp11 : FSpec := ⟨fun vs => match vs with
  | [.one (.sl (.flt .f32) l), .one (.int .i64 line)] => some ([], .tup [pV (bndP l line), iV (bndE l line)])
  | _ => none, true⟩
end Go.Sx

namespace Go.Sx
open U
theorem vc45 (l : List Int) (line den : Int) : exF (env false [(73, sp73), (49, sp49)] [fb72, fb92]) h45 3 45 Proofs.Tryz.f45 [.one (.sl (.int .i64) l), iV line, iV den] (.tup [.one (.frs (.int .i64) (diffN 0 l line den)), .one (.frs (.int .i64) (diffN 1 l line den))]) = (let q4 := (↑(List.length l) : Int); let q6 := (List.length l / (4 : Nat)); let q7 := (1000000000 : Int); ((0 : Int) ≤ q4 ∧ (0 : Int) < (4 : Int) ∧ fits IntKind.i64 (q4 / (4 : Int))) ∧ (∃ (g : Nat), Nat.le g q6 ∧ (0 : Int) = (↑g : Int) ∧ q4 / (4 : Int) = q4 / (4 : Int) ∧ (tab g fun (c : Nat) => diffAt (0 : Nat) l c line den) = [] ∧ (tab g fun (c : Nat) => diffAt (1 : Nat) l c line den) = [] ∧ l = l ∧ den = den ∧ line = line ∧ True) ∧ ∀ (g : Nat), let q5 := ((4 : Int) * (↑g : Int)); let q3 := (List.take (Int.toNat ((4 : Int) * (↑g : Int) + (4 : Int)) - Int.toNat q5) (List.drop (Int.toNat q5) l)); let q0 := (List.take (4 : Nat) q3); let q1 := (List.getD q0 (0 : Nat) (0 : Int) - List.getD q0 (2 : Nat) (0 : Int)); let q2 := (List.getD q0 (1 : Nat) (0 : Int) - List.getD q0 (3 : Nat) (0 : Int)); Nat.le g q6 → splitB (decide ((↑g : Int) < q4 / (4 : Int))) (fits IntKind.i64 q5 ∧ fits IntKind.i64 q5 ∧ fits IntKind.i64 ((4 : Int) * (↑g : Int) + (4 : Int)) ∧ ((0 : Int) ≤ (4 : Int) * (↑g : Int) ∧ (4 : Int) * (↑g : Int) ≤ (4 : Int) * (↑g : Int) + (4 : Int) ∧ (4 : Int) * (↑g : Int) + (4 : Int) ≤ q4) ∧ (4 : Nat) ≤ List.length q3 ∧ (0 : Int) ≤ line ∧ ((0 : Int) ≤ (0 : Int) ∧ (0 : Int) < (4 : Int)) ∧ (0 : Nat) < List.length q0 ∧ ((0 : Int) ≤ (2 : Int) ∧ (2 : Int) < (4 : Int)) ∧ (2 : Nat) < List.length q0 ∧ fits IntKind.i64 q1 ∧ fits IntKind.i64 (signI line * q1) ∧ ((-1000000000 : Int) ≤ signI line * q1 ∧ signI line * q1 ≤ q7) ∧ ((0 : Int) < den ∧ den ≤ q7) ∧ room (List.length (tab g fun (c : Nat) => diffAt (0 : Nat) l c line den) + (1 : Nat)) (8 : Nat) ∧ (0 : Int) ≤ line ∧ ((0 : Int) ≤ (1 : Int) ∧ (1 : Int) < (4 : Int)) ∧ (1 : Nat) < List.length q0 ∧ ((0 : Int) ≤ (3 : Int) ∧ (3 : Int) < (4 : Int)) ∧ (3 : Nat) < List.length q0 ∧ fits IntKind.i64 q2 ∧ fits IntKind.i64 (signI line * q2) ∧ ((-1000000000 : Int) ≤ signI line * q2 ∧ signI line * q2 ≤ q7) ∧ ((0 : Int) < den ∧ den ≤ q7) ∧ room (List.length (tab g fun (c : Nat) => diffAt (1 : Nat) l c line den) + (1 : Nat)) (8 : Nat) ∧ fits IntKind.i64 ((↑g : Int) + (1 : Int)) ∧ ∃ (g' : Nat), Nat.le g' q6 ∧ List.length l / (4 : Nat) - g' < List.length l / (4 : Nat) - g ∧ (↑g : Int) + (1 : Int) = (↑g' : Int) ∧ q4 / (4 : Int) = q4 / (4 : Int) ∧ ((tab g fun (c : Nat) => diffAt (0 : Nat) l c line den) ++ [roundI (signI line * q1) den] = tab g' fun (c : Nat) => diffAt (0 : Nat) l c line den) ∧ ((tab g fun (c : Nat) => diffAt (1 : Nat) l c line den) ++ [roundI (signI line * q2) den] = tab g' fun (c : Nat) => diffAt (1 : Nat) l c line den) ∧ l = l ∧ den = den ∧ line = line ∧ True) ((tab g fun (c : Nat) => diffAt (0 : Nat) l c line den) = diffN (0 : Nat) l line den ∧ (tab g fun (c : Nat) => diffAt (1 : Nat) l c line den) = diffN (1 : Nat) l line den ∧ True)) := by
  kernel_rfl
theorem vc11 (l : List Nat) (line : Int) : exFr (env false [(36, sp36), (34, sp34), (32, sp32), (38, sp38), (45, sp45), (66, sp66), (46, sp46), (47, sp47), (65, sp65)] [fb37, fb68, fb39]) h0 3 11 Proofs.Tryz.f11 [.one (.sl (.flt .f32) l), iV line] (.tup [pV (bndP l line), iV (bndE l line)]) = (let q1 := (diffN (0 : Nat) (sixs l) line (2 : Int)); let q2 := (diffN (1 : Nat) (sixs l) line (2 : Int)); let q0 := (carI q1 q2 (signI line)); let q3 := (combI minusI (sixs l) q0); let q4 := (1000000 : Int); (2 : Nat) ≤ (1000000000 : Nat) ∧ splitB (first [chkSig l, within line (0 : Int) (10000000 : Int)] != (0 : Int)) ((bndP l line).1 = [] ∧ (bndP l line).2.1 = [] ∧ (bndP l line).2.2 = [] ∧ first [chkSig l, within line (0 : Int) (10000000 : Int)] = bndE l line ∧ True) (List.length l ≤ (1000000 : Nat) ∧ OkS l ∧ List.length (sixs l) ≤ (100000 : Nat) ∧ Bd q4 (sixs l) ∧ (0 : Int) ≤ line ∧ ((0 : Int) < (2 : Int) ∧ (2 : Int) ≤ (1000 : Int)) ∧ List.length q1 ≤ (100000 : Nat) ∧ List.length q2 = List.length q1 ∧ Bd q4 q1 ∧ Bd q4 q2 ∧ (0 : Int) ≤ line ∧ List.length (sixs l) ≤ (100000 : Nat) ∧ List.length q0 = List.length (sixs l) ∧ Bd q4 (sixs l) ∧ Bd q4 q0 ∧ List.length q3 ≤ (1000000 : Nat) ∧ List.length q1 ≤ (1000000 : Nat) ∧ List.length q2 ≤ (1000000 : Nat) ∧ (3 : Nat) ≤ (1000000000 : Nat) ∧ splitB (first [lgE q3, lgE q1, lgE q2] != (0 : Int)) ((bndP l line).1 = [] ∧ (bndP l line).2.1 = [] ∧ (bndP l line).2.2 = [] ∧ first [lgE q3, lgE q1, lgE q2] = bndE l line ∧ True) (smpsN q3 = (bndP l line).1 ∧ smpsN q1 = (bndP l line).2.1 ∧ smpsN q2 = (bndP l line).2.2 ∧ (0 : Int) = bndE l line ∧ True))) := by
  kernel_rfl
end Go.Sx

namespace Go.Sx
open U
theorem fn45 (l : List Int) (line den : Int) (hl : l.length ≤ 100000) (h1 : Bd 1000000 l) (hn : 0 ≤ line) (hd : 0 < den ∧ den ≤ 1000) : Fn P1 gl1 45 [.one (.sl (.int .i64) l), iV line, iV den] (.tup [.one (.frs (.int .i64) (diffN 0 l line den)), .one (.frs (.int .i64) (diffN 1 l line den))]) true := by
  refine Fn.flat ?_ rfl
  refine fn_of false [(73, sp73), (49, sp49)] [fb72, fb92] h45 3 Proofs.Tryz.f45 ⟨so73, so49, trivial⟩ ⟨⟨by kernel_rfl, by kernel_rfl, _, rfl, by kernel_rfl⟩, ⟨by kernel_rfl, by kernel_rfl, _, rfl, by kernel_rfl⟩, trivial⟩ (by kernel_rfl) rfl (by kernel_rfl) rfl rfl rfl ?_
  rw [vc45]
  try simp only [splitB_iff, -eq_self]
  refine ⟨⟨by omega, by decide, by simp only [fits]; omega⟩, ⟨0, Nat.zero_le _, rfl, rfl, rfl, rfl, rfl, rfl, rfl, trivial⟩, fun g hg => ⟨fun hlt => ?_, fun hge => ?_⟩⟩
  · have hg : g ≤ l.length / 4 := hg
    have hlt : (g : Int) < (l.length : Int) / 4 := by simpa using hlt
    have hlt : g < l.length / 4 := by omega
    simp only [cyc_eq, cyc_len (l := l) (g := g) (by omega), cyc_get l g 0 (by omega), cyc_get l g 1 (by omega), cyc_get l g 2 (by omega), cyc_get l g 3 (by omega), tab_len, -eq_self]
    have k0 := bd_get h1 (i := 4 * g) (by omega)
    have k1 := bd_get h1 (i := 4 * g + 1) (by omega)
    have k2 := bd_get h1 (i := 4 * g + 2) (by omega)
    have k3 := bd_get h1 (i := 4 * g + 3) (by omega)
    have hm : ∀ x : Int, -1000000000 ≤ x ∧ x ≤ 1000000000 → -1000000000 ≤ signI line * x ∧ signI line * x ≤ 1000000000 := fun x hx => by
      rcases signI_cases line with e | e <;> rw [e] <;> omega
    have m0 := hm (List.getD l (4 * g) 0 - List.getD l (4 * g + 2) 0) (by omega)
    have m1 := hm (List.getD l (4 * g + 1) 0 - List.getD l (4 * g + 3) 0) (by omega)
    have lt4 : (List.take 4 (List.drop (4 * g) l)).length = 4 := by rw [List.length_take, List.length_drop]; omega
    rw [lt4]
    simp only [fits, Nat.add_zero, -eq_self]
    exact ⟨by omega, by omega, by omega, by omega, by omega, hn, by omega, by omega, by omega, by omega, by omega, by omega, m0, by omega, by simp only [room]; omega, hn, by omega, by omega, by omega, by omega, by omega, by omega, m1, by omega, by simp only [room]; omega, by omega, g + 1, hlt, by omega, by simp, rfl, (tab_succ _ _).symm, (tab_succ _ _).symm, rfl, rfl, rfl, trivial⟩
  · have hg : g ≤ l.length / 4 := hg
    have hge : ¬ (g : Int) < (l.length : Int) / 4 := by simpa using hge
    have e : g = l.length / 4 := by omega
    subst e
    exact ⟨rfl, rfl, trivial⟩
theorem so45_ : SpecOk P1 gl1 45 sp45 := by
  intro vs ps r h hp
  simp only [sp45] at h
  split at h
  · cases h; exact fn45 _ _ _ (hp _ (.head _)) (hp _ (.tail _ (.head _))) (hp _ (.tail _ (.tail _ (.head _)))) (hp _ (.tail _ (.tail _ (.tail _ (.head _)))))
  · cases h
theorem so45 : Sp1 45 sp45 := ⟨so45_, Proofs.Tryz.f45, _, by kernel_rfl, rfl, by kernel_rfl⟩
theorem fn11 (l : List Nat) (line : Int)  : Fn P1 gl1 11 [.one (.sl (.flt .f32) l), iV line] (.tup [pV (bndP l line), iV (bndE l line)]) true := by
  refine fn_ofr false [(36, sp36), (34, sp34), (32, sp32), (38, sp38), (45, sp45), (66, sp66), (46, sp46), (47, sp47), (65, sp65)] [fb37, fb68, fb39] h0 3 Proofs.Tryz.f11 ⟨so36, so34, so32, so38, so45, so66, so46, so47, so65, trivial⟩ ⟨⟨by kernel_rfl, by kernel_rfl, _, rfl, by kernel_rfl⟩, ⟨by kernel_rfl, by kernel_rfl, _, rfl, by kernel_rfl⟩, ⟨by kernel_rfl, by kernel_rfl, _, rfl, by kernel_rfl⟩, trivial⟩ (by kernel_rfl) rfl (by kernel_rfl) rfl rfl rfl ?_
  rw [vc11]
  try simp only [splitB_iff, -eq_self]
  refine ⟨by decide, fun h => ?_, fun h => ?_⟩
  · have h : ¬ first [chkSig l, within line 0 10000000] = 0 := bneZ.1 h
    unfold bndP bndE
    rw [if_pos h, if_pos h]
    exact ⟨rfl, rfl, rfl, rfl, trivial⟩
  · have h : first [chkSig l, within line 0 10000000] = 0 := bneF.1 h
    have h2 := first_zero.1 h
    obtain ⟨k1, k2, k3⟩ := chkSig_zero.1 (h2 _ (.head _))
    have hl : 0 ≤ line := within_lo (h2 _ (.tail _ (.head _)))
    unfold bndP bndE
    rw [if_neg (fun e => e h), if_neg (fun e => e h)]
    have b0 := bd_sixs k3
    have b1 : Bd 1000000 (diffN 0 (sixs l) line 2) := bd_le (bd_diff (B := 16384) (by omega) (by omega) b0) (by omega)
    have b2 : Bd 1000000 (diffN 1 (sixs l) line 2) := bd_le (bd_diff (B := 16384) (by omega) (by omega) b0) (by omega)
    simp only [sixs_len, carI_len, combI_len, diffN_len, -eq_self]
    refine ⟨by omega, k3, by omega, bd_le b0 (by omega), hl, by omega, by omega, rfl, b1, b2, hl, by omega, by omega, bd_le b0 (by omega), bd_car (signI_cases _) (by omega) b1 b2, by omega, by omega, by omega, by decide, fun h => ?_, fun h => ?_⟩
    · have h : ¬ partsE (bandI (sixs l) line) = 0 := bneZ.1 h
      unfold partsP
      rw [if_neg h]
      exact ⟨rfl, rfl, rfl, rfl, trivial⟩
    · have h : partsE (bandI (sixs l) line) = 0 := bneF.1 h
      unfold partsP
      rw [if_pos h]
      exact ⟨rfl, rfl, rfl, h.symm, trivial⟩
theorem so11_ : SpecOk P1 gl1 11 sp11 := by
  intro vs ps r h _
  simp only [sp11] at h
  split at h
  · cases h; exact fn11 _ _ 
  · cases h
theorem so11 : Sp1 11 sp11 := ⟨so11_, Proofs.Tryz.f11, _, by kernel_rfl, rfl, by kernel_rfl⟩
end Go.Sx

namespace Go.Sx.U
abbrev Fld := List (List Nat)
def upTo (f : Nat → Int) : Nat → Int
  | 0 => 0
  | i + 1 => if upTo f i = 0 then f i else upTo f i
theorem upTo_zero {f : Nat → Int} : ∀ {n : Nat}, upTo f n = 0 ↔ ∀ i, i < n → f i = 0
  | 0 => by simp [upTo]
  | n + 1 => by
    unfold upTo
    constructor
    · intro h i hi
      split at h
      · rename_i h0
        by_cases e : i = n
        · rw [e]; exact h
        · exact upTo_zero.1 h0 i (by omega)
      · rename_i h0; exact absurd h h0
    · intro h
      rw [if_pos (upTo_zero.2 fun i hi => h i (by omega))]
      exact h n (by omega)
theorem upTo_stop {f : Nat → Int} {i : Nat} (h : upTo f i = 0) (h2 : f i ≠ 0) : ∀ {n : Nat}, i < n → upTo f n = f i
  | 0, hi => absurd hi (by omega)
  | n + 1, hi => by
    unfold upTo
    by_cases e : i = n
    · subst e; rw [if_pos h]
    · rw [upTo_stop h h2 (n := n) (by omega), if_neg h2]
theorem upTo_next {f : Nat → Int} {i : Nat} (h : upTo f i = 0) (h2 : f i = 0) : upTo f (i + 1) = 0 := by
  unfold upTo; rw [if_pos h, h2]
def chkLn (l : Fld) (i : Nat) : Int := if chkSig (List.getD l i []) = 0 then (if (List.getD l i []).length = (List.getD l 0 []).length then 0 else 2) else chkSig (List.getD l i [])
def chkFld (l : Fld) : Int := if 32 < l.length then 5 else upTo (chkLn l) l.length
def chkLine (l : Fld) (line : Int) : Int := if chkFld l = 0 then (if 0 ≤ line ∧ line < l.length then 0 else 10) else chkFld l
theorem chkLn_zero {l : Fld} {i : Nat} : chkLn l i = 0 ↔ chkSig (List.getD l i []) = 0 ∧ (List.getD l i []).length = (List.getD l 0 []).length := by
  unfold chkLn
  generalize chkSig (List.getD l i []) = e
  generalize (List.getD l i []).length = a
  generalize (List.getD l 0 []).length = b
  by_cases h : e = 0
  · by_cases h2 : a = b <;> simp [h, h2]
  · simp [h]
theorem chkFld_zero {l : Fld} : chkFld l = 0 ↔ l.length ≤ 32 ∧ ∀ i, i < l.length → chkSig (List.getD l i []) = 0 ∧ (List.getD l i []).length = (List.getD l 0 []).length := by
  unfold chkFld
  by_cases h : 32 < l.length
  · simp [h]; omega
  · rw [if_neg h, upTo_zero]
    simp only [chkLn_zero]
    exact ⟨fun k => ⟨by omega, k⟩, fun k => k.2⟩
theorem chkLine_zero {l : Fld} {line : Int} : chkLine l line = 0 ↔ chkFld l = 0 ∧ 0 ≤ line ∧ line < l.length := by
  unfold chkLine
  by_cases h : chkFld l = 0
  · by_cases h2 : 0 ≤ line ∧ line < l.length
    · simp [h, h2]
    · simp only [h, if_true, h2, if_false, true_and, iff_false]; decide
  · simp [h]
theorem ln_first (l : Fld) (g : Nat) : first [chkSig (List.getD l g []), whenE (((List.getD l g []).length : Int) != ((List.getD l 0 []).length : Int)) 2] = chkLn l g := by
  unfold chkLn
  generalize chkSig (List.getD l g []) = e
  generalize (List.getD l g []).length = a
  generalize (List.getD l 0 []).length = b
  by_cases h : e = 0
  · by_cases h2 : a = b
    · simp [first, whenE, h, h2]
    · have : ¬ (a : Int) = b := by omega
      simp [first, whenE, h, h2, this]
  · simp [first, h]
theorem line_first (l : Fld) (line : Int) : first [chkFld l, whenE (bif decide (line < 0) then true else decide ((l.length : Int) ≤ line)) 10] = chkLine l line := by
  unfold chkLine
  generalize chkFld l = e
  by_cases h : e = 0
  · by_cases h2 : line < 0
    · have : ¬ 0 ≤ line := by omega
      simp [first, whenE, h, h2, this]
    · by_cases h3 : (l.length : Int) ≤ line
      · have : ¬ line < (l.length : Int) := by omega
        simp [first, whenE, h, h2, h3, this]
      · have k1 : 0 ≤ line := by omega
        have k2 : line < (l.length : Int) := by omega
        simp [first, whenE, h, h2, h3, k1, k2]
  · simp [first, h]
def lnI (l : Fld) (line : Int) : List Int := sixs (List.getD l line.toNat [])
theorem map_get (l : Fld) (i : Nat) : List.getD (l.map sixs) i [] = sixs (List.getD l i []) := by
  by_cases h : i < l.length
  · rw [List.getD_eq_getElem?_getD, List.getD_eq_getElem?_getD, List.getElem?_map, List.getElem?_eq_getElem h]; rfl
  · rw [List.getD_eq_getElem?_getD, List.getD_eq_getElem?_getD, List.getElem?_map, List.getElem?_eq_none (by omega)]; rfl
theorem fld_line {l : Fld} {i : Nat} (h : chkFld l = 0) (hi : i < l.length) : OkS (List.getD l i []) ∧ (List.getD l i []).length ≤ 256 ∧ (List.getD l i []).length % 4 = 0 ∧ (List.getD l i []).length = (List.getD l 0 []).length := by
  obtain ⟨h1, h2⟩ := (chkFld_zero.1 h).2 i hi
  obtain ⟨k1, k2, k3⟩ := chkSig_zero.1 h1
  exact ⟨k3, k1, k2, h2⟩
def nextL (l : Fld) (line : Int) : Int := if line + 1 = l.length then line - 1 else line + 1
def twoI (l : Fld) (line : Int) : It := (combI midI (lnI l line) (lnI l (nextL l line)), diffN 0 (combI minusI (lnI l line) (lnI l (nextL l line))) line 4, diffN 1 (combI minusI (lnI l line) (lnI l (nextL l line))) line 4)
def twoE (l : Fld) (line : Int) : Int := if chkLine l line = 0 then (if l.length = 1 then 16 else 0) else chkLine l line
theorem two_first (l : Fld) (line : Int) : first [chkLine l line, whenE ((l.length : Int) == 1) 16] = twoE l line := by
  unfold twoE
  generalize chkLine l line = e
  by_cases h : e = 0
  · by_cases h2 : l.length = 1
    · simp [first, whenE, h, h2]
    · have : ¬ (l.length : Int) = 1 := by omega
      simp [first, whenE, h, h2, this]
  · simp [first, h]
theorem twoE_zero {l : Fld} {line : Int} : twoE l line = 0 ↔ chkFld l = 0 ∧ 0 ≤ line ∧ line < l.length ∧ l.length ≠ 1 := by
  unfold twoE
  by_cases h : chkLine l line = 0
  · rw [if_pos h]
    obtain ⟨h1, h2, h3⟩ := chkLine_zero.1 h
    by_cases k : l.length = 1 <;> simp [k, h1, h2, h3]
  · rw [if_neg h]
    constructor
    · exact fun k => absurd k h
    · exact fun k => absurd (chkLine_zero.2 ⟨k.1, k.2.1, k.2.2.1⟩) h
def thrD (b s a : List Int) : List Int := combI lessI s (combI plusI b a)
def threeI (b s a : List Int) (line : Int) : It := apartI s (thrD b s a) line 8
def threeL (l : Fld) (line : Int) : It := threeI (lnI l (line - 1)) (lnI l line) (lnI l (line + 1)) line
def threeE (l : Fld) (line : Int) : Int := if chkLine l line = 0 then (if 0 < line ∧ line < (l.length : Int) - 1 then 0 else 14) else chkLine l line
def errP (e : Int) (x : It) : Pt := if e = 0 then partsP x else ([], [], [])
def errE (e : Int) (x : It) : Int := if e = 0 then partsE x else e
theorem threeE_zero {l : Fld} {line : Int} : threeE l line = 0 ↔ chkFld l = 0 ∧ 0 < line ∧ line < (l.length : Int) - 1 := by
  unfold threeE
  by_cases h : chkLine l line = 0
  · rw [if_pos h]
    obtain ⟨h1, h2, h3⟩ := chkLine_zero.1 h
    by_cases k : 0 < line ∧ line < (l.length : Int) - 1
    · rw [if_pos k]; simp [h1, k]
    · rw [if_neg k]; simp only [h1, true_and, k, iff_false]; decide
  · rw [if_neg h]
    constructor
    · exact fun k => absurd k h
    · exact fun k => absurd (chkLine_zero.2 ⟨k.1, by omega, by omega⟩) h
theorem thrD_len (b s a : List Int) : (thrD b s a).length = s.length := by unfold thrD; rw [combI_len]
theorem thrD_tab {b s a : List Int} (hb : b.length = s.length) : thrD b s a = tab s.length fun n => 2 * List.getD s n 0 - List.getD b n 0 - List.getD a n 0 := by
  unfold thrD combI
  refine tab_ext fun i hi => ?_
  rw [tab_get (by omega)]
  unfold lessI plusI
  omega
theorem bd_thrD {b s a : List Int} (hb : Bd 16384 b) (hs : Bd 16384 s) (ha : Bd 16384 a) : Bd 65536 (thrD b s a) := by
  unfold thrD
  refine bd_comb (A := 16384) (B := 32768) hs (bd_comb (A := 16384) (B := 16384) (C := 32768) hb ha (by omega) (by omega) fun x y hx hy => ?_) (by omega) (by omega) fun x y hx hy => ?_
  · unfold plusI; omega
  · unfold lessI; omega
end Go.Sx.U

namespace Go.Sx
open U
abbrev lnT : Ty := .sl (.flt .f32)
@[reducible] def fldV (l : Fld) : V := .one (.sl lnT l)
def h71 : Hints := ⟨fun f k s => match f, k with
  | 71, 4 => match listAs s 0 lnT with
    | some l => some ⟨Nat, fun i => s.at [0, 9, 10] [tI 11 i], fun i => i ≤ List.length l ∧ upTo (chkLn l) i = 0, fun i => List.length l - i⟩
    | _ => none
  | 13, 4 => match listAs s 0 lnT with
    | some l => some ⟨Nat, fun i => s.at [0] [tI 3 i], fun i => i ≤ List.length l ∧ upTo (chkLn l) i = 0, fun i => List.length l - i⟩
    | _ => none
  | 52, 3 => hMapG lnT (.sl (.int .i64)) sixs 8 10 5 [1, 9] s
  | _, _ => none, 0⟩
@[reducible] noncomputable def fb51 : Nat × Func := (51, Proofs.Tryz.f51)
end Go.Sx
namespace Go.Sx
open U
def sp71 : FSpec := ⟨fun vs => match vs with
  | [.one (.sl (.sl (.flt .f32)) l)] => some ([], .val (iV (chkFld l)))
  | _ => none, true⟩
def sp13 : FSpec := ⟨fun vs => match vs with
  | [.one (.sl (.sl (.flt .f32)) l)] => some ([], .val (iV (chkFld l)))
  | _ => none, true⟩
def sp44 : FSpec := ⟨fun vs => match vs with
  | [.one (.sl (.sl (.flt .f32)) l), .one (.int .i64 line)] => some ([], .val (iV (chkLine l line)))
  | _ => none, true⟩
def sp52 : FSpec := ⟨fun vs => match vs with
  | [.one (.sl (.sl (.flt .f32)) l), .one (.fn 38 [] [])] => some ([chkFld l = 0], .val (.one (.sl (.sl (.int .i64)) (List.map sixs l))))
  | _ => none, false⟩
def sp50 : FSpec := ⟨fun vs => match vs with
  | [.one (.int .i64 n), .one (.int .i64 line)] => some ([0 ≤ n ∧ n ≤ 1000000000], .val (bV (decide (0 < line) && decide (line < n - 1))))
  | _ => none, true⟩
def sp14 : FSpec := ⟨fun vs => match vs with
  | [.one (.sl (.sl (.flt .f32)) l), .one (.int .i64 line)] => some ([], .tup [pV (errP (twoE l line) (twoI l line)), iV (errE (twoE l line) (twoI l line))])
  | _ => none, true⟩
def sp16 : FSpec := ⟨fun vs => match vs with
  | [.one (.sl (.sl (.flt .f32)) l), .one (.int .i64 line)] => some ([], .tup [pV (errP (threeE l line) (threeL l line)), iV (errE (threeE l line) (threeL l line))])
  | _ => none, true⟩
end Go.Sx

namespace Go.Sx
open U
theorem vc71 (l : Fld) : exF (env false [(36, sp36), (42, sp42), (32, sp32)] []) h71 0 71 Proofs.Tryz.f71 [fldV l] (.val (iV (chkFld l))) = (let q0 := (↑(List.length l) : Int); splitB (decide ((32 : Int) < q0)) ((5 : Int) = chkFld l ∧ True) ((∃ (g : Nat), (g ≤ List.length l ∧ upTo (chkLn l) g = (0 : Int)) ∧ (0 : Int) = (↑g : Int) ∧ q0 = q0 ∧ l = l ∧ l = l ∧ True) ∧ ∀ (g : Nat), let q1 := ((↑(List.length (List.getD l g [])) : Int) != (↑(List.length (List.getD l (0 : Nat) [])) : Int)); g ≤ List.length l ∧ upTo (chkLn l) g = (0 : Int) → splitB (decide ((↑g : Int) < q0)) (((0 : Int) ≤ (↑g : Int) ∧ (↑g : Int) < q0) ∧ ((0 : Int) ≤ (0 : Int) ∧ (0 : Int) < q0) ∧ (2 : Nat) ≤ (1000000000 : Nat) ∧ splitB (first [chkSig (List.getD l g []), whenE q1 (2 : Int)] != (0 : Int)) (first [chkSig (List.getD l g []), whenE q1 (2 : Int)] = chkFld l ∧ True) (fits IntKind.i64 ((↑g : Int) + (1 : Int)) ∧ ∃ (g' : Nat), (g' ≤ List.length l ∧ upTo (chkLn l) g' = (0 : Int)) ∧ List.length l - g' < List.length l - g ∧ (↑g : Int) + (1 : Int) = (↑g' : Int) ∧ q0 = q0 ∧ l = l ∧ l = l ∧ True)) ((0 : Int) = chkFld l ∧ True))) := by
  kernel_rfl
theorem vc13 (l : Fld) : exF (env false [(43, sp43)] []) h71 0 13 Proofs.Tryz.f13 [fldV l] (.val (iV (chkFld l))) = (let q0 := (↑(List.length l) : Int); splitB (decide ((32 : Int) < q0)) ((5 : Int) = chkFld l ∧ True) ((∃ (g : Nat), (g ≤ List.length l ∧ upTo (chkLn l) g = (0 : Int)) ∧ (0 : Int) = (↑g : Int) ∧ l = l ∧ True) ∧ ∀ (g : Nat), g ≤ List.length l ∧ upTo (chkLn l) g = (0 : Int) → splitB (decide ((↑g : Int) < q0)) (((0 : Int) ≤ (↑g : Int) ∧ (↑g : Int) < q0) ∧ splitB (chkSig (List.getD l g []) != (0 : Int)) (chkSig (List.getD l g []) = chkFld l ∧ True) (((0 : Int) ≤ (↑g : Int) ∧ (↑g : Int) < q0) ∧ ((0 : Int) ≤ (0 : Int) ∧ (0 : Int) < q0) ∧ splitB ((↑(List.length (List.getD l g [])) : Int) != (↑(List.length (List.getD l (0 : Nat) [])) : Int)) ((2 : Int) = chkFld l ∧ True) (fits IntKind.i64 ((↑g : Int) + (1 : Int)) ∧ ∃ (g' : Nat), (g' ≤ List.length l ∧ upTo (chkLn l) g' = (0 : Int)) ∧ List.length l - g' < List.length l - g ∧ (↑g : Int) + (1 : Int) = (↑g' : Int) ∧ l = l ∧ True))) ((0 : Int) = chkFld l ∧ True))) := by
  kernel_rfl
theorem vc44 (l : Fld) (line : Int) : exF (env false [(71, sp71), (42, sp42), (32, sp32)] []) h0 0 44 Proofs.Tryz.f44 [fldV l, iV line] (.val (iV (chkLine l line))) = ((2 : Nat) ≤ (1000000000 : Nat) ∧ first [chkFld l, whenE (bif decide (line < (0 : Int)) then true else decide ((↑(List.length l) : Int) ≤ line)) (10 : Int)] = chkLine l line ∧ True) := by
  kernel_rfl
theorem vc52 (l : Fld) : exF (env false [(38, sp38)] []) h71 0 52 Proofs.Tryz.f52 [fldV l, .one (.fn 38 [] [])] (.val (.one (.sl (.sl (.int .i64)) (l.map sixs)))) = (let q0 := (↑(List.length l) : Int); (∃ (g : Nat), Nat.le g (List.length l) ∧ (0 : Int) = (↑g : Int) ∧ q0 = q0 ∧ l = l ∧ List.map sixs (List.take g l) = [] ∧ True) ∧ ∀ (g : Nat), Nat.le g (List.length l) → splitB (decide ((↑g : Int) < q0)) (((0 : Int) ≤ (↑g : Int) ∧ (↑g : Int) < q0) ∧ List.length (List.getD l g []) ≤ (1000000 : Nat) ∧ OkS (List.getD l g []) ∧ room (List.length (List.map sixs (List.take g l)) + (1 : Nat)) (24 : Nat) ∧ fits IntKind.i64 ((↑g : Int) + (1 : Int)) ∧ ∃ (g' : Nat), Nat.le g' (List.length l) ∧ List.length l - g' < List.length l - g ∧ (↑g : Int) + (1 : Int) = (↑g' : Int) ∧ q0 = q0 ∧ l = l ∧ List.map sixs (List.take g l) ++ [sixs (List.getD l g [])] = List.map sixs (List.take g' l) ∧ True) (List.map sixs (List.take g l) = List.map sixs l ∧ True)) := by
  kernel_rfl
theorem vc50 (n line : Int) : exF (env false [] []) h0 0 50 Proofs.Tryz.f50 [iV n, iV line] (.val (bV (decide (0 < line) && decide (line < n - 1)))) = ((decide ((0 : Int) < line) = true → fits IntKind.i64 (n - (1 : Int))) ∧ (bif decide ((0 : Int) < line) then decide (line < n - (1 : Int)) else false) = (decide ((0 : Int) < line) && decide (line < n - (1 : Int))) ∧ True) := by
  kernel_rfl
theorem vc14 (l : Fld) (line : Int) : exFr (env false [(44, sp44), (42, sp42), (32, sp32), (38, sp38), (46, sp46), (47, sp47), (48, sp48), (45, sp45), (65, sp65)] [fb39]) h0 3 14 Proofs.Tryz.f14 [fldV l, iV line] (.tup [pV (errP (twoE l line) (twoI l line)), iV (errE (twoE l line) (twoI l line))]) = (let q9 := (List.getD l (Int.toNat line) []); let q0 := (sixs q9); let q12 := (List.getD l (Int.toNat (line - (1 : Int))) []); let q1 := (sixs q12); let q13 := (List.getD l (Int.toNat (line + (1 : Int))) []); let q2 := (sixs q13); let q3 := (errP (twoE l line) (twoI l line)); let q15 := (combI minusI q0 q1); let q4 := (diffN (0 : Nat) q15 line (4 : Int)); let q5 := (diffN (1 : Nat) q15 line (4 : Int)); let q16 := (combI minusI q0 q2); let q6 := (diffN (0 : Nat) q16 line (4 : Int)); let q7 := (diffN (1 : Nat) q16 line (4 : Int)); let q8 := (↑(List.length l) : Int); let q10 := (1000000 : Nat); let q11 := (1000000 : Int); let q14 := (100000 : Nat); let q17 := ((0 : Int) < (4 : Int) ∧ (4 : Int) ≤ (1000 : Int)); let q18 := (combI midI q0 q1); let q19 := (combI midI q0 q2); (2 : Nat) ≤ (1000000000 : Nat) ∧ splitB (first [chkLine l line, whenE (q8 == (1 : Int)) (16 : Int)] != (0 : Int)) (q3.1 = [] ∧ q3.2.1 = [] ∧ q3.2.2 = [] ∧ first [chkLine l line, whenE (q8 == (1 : Int)) (16 : Int)] = errE (twoE l line) (twoI l line) ∧ True) (fits IntKind.i64 (line + (1 : Int)) ∧ splitB (line + (1 : Int) == q8) (fits IntKind.i64 (line - (1 : Int)) ∧ ((0 : Int) ≤ line ∧ line < q8) ∧ List.length q9 ≤ q10 ∧ OkS q9 ∧ ((0 : Int) ≤ line - (1 : Int) ∧ line - (1 : Int) < q8) ∧ List.length q12 ≤ q10 ∧ OkS q12 ∧ List.length q0 ≤ q14 ∧ List.length q1 = List.length q0 ∧ Bd q11 q0 ∧ Bd q11 q1 ∧ List.length q15 ≤ q14 ∧ Bd q11 q15 ∧ (0 : Int) ≤ line ∧ q17 ∧ List.length q0 ≤ q14 ∧ List.length q1 = List.length q0 ∧ Bd q11 q0 ∧ Bd q11 q1 ∧ List.length q18 ≤ q10 ∧ List.length q4 ≤ q10 ∧ List.length q5 ≤ q10 ∧ (3 : Nat) ≤ (1000000000 : Nat) ∧ splitB (first [lgE q18, lgE q4, lgE q5] != (0 : Int)) (q3.1 = [] ∧ q3.2.1 = [] ∧ q3.2.2 = [] ∧ first [lgE q18, lgE q4, lgE q5] = errE (twoE l line) (twoI l line) ∧ True) (smpsN q18 = q3.1 ∧ smpsN q4 = q3.2.1 ∧ smpsN q5 = q3.2.2 ∧ (0 : Int) = errE (twoE l line) (twoI l line) ∧ True)) (((0 : Int) ≤ line ∧ line < q8) ∧ List.length q9 ≤ q10 ∧ OkS q9 ∧ ((0 : Int) ≤ line + (1 : Int) ∧ line + (1 : Int) < q8) ∧ List.length q13 ≤ q10 ∧ OkS q13 ∧ List.length q0 ≤ q14 ∧ List.length q2 = List.length q0 ∧ Bd q11 q0 ∧ Bd q11 q2 ∧ List.length q16 ≤ q14 ∧ Bd q11 q16 ∧ (0 : Int) ≤ line ∧ q17 ∧ List.length q0 ≤ q14 ∧ List.length q2 = List.length q0 ∧ Bd q11 q0 ∧ Bd q11 q2 ∧ List.length q19 ≤ q10 ∧ List.length q6 ≤ q10 ∧ List.length q7 ≤ q10 ∧ (3 : Nat) ≤ (1000000000 : Nat) ∧ splitB (first [lgE q19, lgE q6, lgE q7] != (0 : Int)) (q3.1 = [] ∧ q3.2.1 = [] ∧ q3.2.2 = [] ∧ first [lgE q19, lgE q6, lgE q7] = errE (twoE l line) (twoI l line) ∧ True) (smpsN q19 = q3.1 ∧ smpsN q6 = q3.2.1 ∧ smpsN q7 = q3.2.2 ∧ (0 : Int) = errE (twoE l line) (twoI l line) ∧ True)))) := by
  kernel_rfl
theorem vc16 (l : Fld) (line : Int) : exFr (env false [(44, sp44), (32, sp32), (50, sp50), (52, sp52), (38, sp38), (46, sp46), (47, sp47), (67, sp67), (74, sp74), (45, sp45), (66, sp66), (65, sp65)] [fb39, fb51, fb68]) h0 3 16 Proofs.Tryz.f16 [fldV l, iV line] (.tup [pV (errP (threeE l line) (threeL l line)), iV (errE (threeE l line) (threeL l line))]) = (let q7 := (List.getD (List.map sixs l) (Int.toNat (line + (1 : Int))) []); let q3 := (List.getD (List.map sixs l) (Int.toNat line) []); let q4 := (List.getD (List.map sixs l) (Int.toNat (line - (1 : Int))) []); let q0 := (combI lessI q3 (combI plusI q4 q7)); let q5 := (diffN (0 : Nat) q0 line (8 : Int)); let q6 := (diffN (1 : Nat) q0 line (8 : Int)); let q12 := (carI q5 q6 (signI line)); let q1 := (combI minusI q3 q12); let q10 := (threeE l line); let q11 := (threeL l line); let q2 := (errP q10 q11); let q8 := (↑(List.length (List.map sixs l)) : Int); let q9 := (1000000 : Int); splitB (chkLine l line != (0 : Int)) (q2.1 = [] ∧ q2.2.1 = [] ∧ q2.2.2 = [] ∧ chkLine l line = errE q10 q11 ∧ True) (((0 : Int) ≤ (↑(List.length l) : Int) ∧ (↑(List.length l) : Int) ≤ (1000000000 : Int)) ∧ splitB (!(decide ((0 : Int) < line) && decide (line < (↑(List.length l) : Int) - (1 : Int)))) (q2.1 = [] ∧ q2.2.1 = [] ∧ q2.2.2 = [] ∧ (14 : Int) = errE q10 q11 ∧ True) (chkFld l = (0 : Int) ∧ fits IntKind.i64 (line - (1 : Int)) ∧ ((0 : Int) ≤ line - (1 : Int) ∧ line - (1 : Int) < q8) ∧ fits IntKind.i64 (line + (1 : Int)) ∧ ((0 : Int) ≤ line + (1 : Int) ∧ line + (1 : Int) < q8) ∧ List.length q4 ≤ (100000 : Nat) ∧ List.length q7 = List.length q4 ∧ Bd q9 q4 ∧ Bd q9 q7 ∧ ((0 : Int) ≤ line ∧ line < q8) ∧ ((0 : Int) ≤ line ∧ line < q8) ∧ List.length q3 ≤ (100000 : Nat) ∧ List.length (combI plusI q4 q7) = List.length q3 ∧ Bd q9 q3 ∧ Bd q9 (combI plusI q4 q7) ∧ List.length q0 ≤ (100000 : Nat) ∧ Bd q9 q0 ∧ (0 : Int) ≤ line ∧ ((0 : Int) < (8 : Int) ∧ (8 : Int) ≤ (1000 : Int)) ∧ List.length q5 ≤ (100000 : Nat) ∧ List.length q6 = List.length q5 ∧ Bd q9 q5 ∧ Bd q9 q6 ∧ (0 : Int) ≤ line ∧ List.length q3 ≤ (100000 : Nat) ∧ List.length q12 = List.length q3 ∧ Bd q9 q3 ∧ Bd q9 q12 ∧ List.length q1 ≤ (1000000 : Nat) ∧ List.length q5 ≤ (1000000 : Nat) ∧ List.length q6 ≤ (1000000 : Nat) ∧ (3 : Nat) ≤ (1000000000 : Nat) ∧ splitB (first [lgE q1, lgE q5, lgE q6] != (0 : Int)) (q2.1 = [] ∧ q2.2.1 = [] ∧ q2.2.2 = [] ∧ first [lgE q1, lgE q5, lgE q6] = errE q10 q11 ∧ True) (smpsN q1 = q2.1 ∧ smpsN q5 = q2.2.1 ∧ smpsN q6 = q2.2.2 ∧ (0 : Int) = errE q10 q11 ∧ True)))) := by
  kernel_rfl
end Go.Sx

namespace Go.Sx
open U
theorem fn71 (l : Fld)  : Fn P1 gl1 71 [fldV l] (.val (iV (chkFld l))) true := by
  refine Fn.flat ?_ rfl
  refine fn_of false [(36, sp36), (42, sp42), (32, sp32)] [] h71 0 Proofs.Tryz.f71 ⟨so36, so42, so32, trivial⟩ trivial (by kernel_rfl) rfl (by kernel_rfl) rfl rfl rfl ?_
  rw [vc71]
  try simp only [splitB_iff, -eq_self]
  simp only [ln_first, -eq_self]
  refine ⟨fun h => ?_, fun h => ⟨⟨0, ⟨by omega, rfl⟩, rfl, rfl, rfl, rfl, trivial⟩, fun g hg => ⟨fun hlt => ?_, fun hge => ?_⟩⟩⟩
  · have h : (32 : Int) < (l.length : Int) := of_decide_eq_true h
    unfold chkFld
    rw [if_pos (by omega)]
    exact ⟨rfl, trivial⟩
  · have h : ¬ (32 : Int) < (l.length : Int) := of_decide_eq_false h
    have hlt : g < l.length := by simpa using hlt
    refine ⟨by omega, by omega, by decide, fun k => ?_, fun k => ⟨by simp only [fits]; omega, g + 1, ⟨by omega, upTo_next hg.2 (bneF.1 k)⟩, by omega, by simp, rfl, rfl, rfl, trivial⟩⟩
    unfold chkFld
    rw [if_neg (by omega), upTo_stop hg.2 (bneZ.1 k) hlt]
    exact ⟨rfl, trivial⟩
  · have h : ¬ (32 : Int) < (l.length : Int) := of_decide_eq_false h
    have hge : ¬ g < l.length := by simpa using hge
    have e : g = l.length := by omega
    subst e
    unfold chkFld
    rw [if_neg (by omega), hg.2]
    exact ⟨rfl, trivial⟩
theorem so71_ : SpecOk P1 gl1 71 sp71 := by
  intro vs ps r h _
  simp only [sp71] at h
  split at h
  · cases h; exact fn71 _ 
  · cases h
theorem so71 : Sp1 71 sp71 := ⟨so71_, Proofs.Tryz.f71, _, by kernel_rfl, rfl, by kernel_rfl⟩
theorem fn13 (l : Fld)  : Fn P1 gl1 13 [fldV l] (.val (iV (chkFld l))) true := by
  refine Fn.flat ?_ rfl
  refine fn_of false [(43, sp43)] [] h71 0 Proofs.Tryz.f13 ⟨so43, trivial⟩ trivial (by kernel_rfl) rfl (by kernel_rfl) rfl rfl rfl ?_
  rw [vc13]
  try simp only [splitB_iff, -eq_self]
  refine ⟨fun h => ?_, fun h => ⟨⟨0, ⟨by omega, rfl⟩, rfl, rfl, trivial⟩, fun g hg => ⟨fun hlt => ?_, fun hge => ?_⟩⟩⟩
  · have h : (32 : Int) < (l.length : Int) := of_decide_eq_true h
    unfold chkFld
    rw [if_pos (by omega)]
    exact ⟨rfl, trivial⟩
  · have h : ¬ (32 : Int) < (l.length : Int) := of_decide_eq_false h
    have hlt : g < l.length := by simpa using hlt
    refine ⟨by omega, fun k => ?_, fun k => ⟨by omega, by omega, fun k2 => ?_, fun k2 => ⟨by simp only [fits]; omega, g + 1, ⟨by omega, ?_⟩, by omega, by simp, rfl, trivial⟩⟩⟩
    · have k := bneZ.1 k
      have e : chkLn l g = chkSig (List.getD l g []) := by unfold chkLn; rw [if_neg k]
      unfold chkFld
      rw [if_neg (by omega), upTo_stop hg.2 (by rw [e]; exact k) hlt, e]
      exact ⟨rfl, trivial⟩
    · have k := bneF.1 k
      have k2 : ¬ ((List.getD l g []).length : Int) = ((List.getD l 0 []).length : Int) := bne_iff_ne.1 k2
      have e : chkLn l g = 2 := by unfold chkLn; rw [if_pos k, if_neg (by omega)]
      unfold chkFld
      rw [if_neg (by omega), upTo_stop hg.2 (by rw [e]; decide) hlt, e]
      exact ⟨rfl, trivial⟩
    · have k := bneF.1 k
      have k2 : ((List.getD l g []).length : Int) = ((List.getD l 0 []).length : Int) := bne_eq_false_iff_eq.1 k2
      exact upTo_next hg.2 (chkLn_zero.2 ⟨k, by omega⟩)
  · have h : ¬ (32 : Int) < (l.length : Int) := of_decide_eq_false h
    have hge : ¬ g < l.length := by simpa using hge
    have e : g = l.length := by omega
    subst e
    unfold chkFld
    rw [if_neg (by omega), hg.2]
    exact ⟨rfl, trivial⟩
theorem so13_ : SpecOk P1 gl1 13 sp13 := by
  intro vs ps r h _
  simp only [sp13] at h
  split at h
  · cases h; exact fn13 _ 
  · cases h
theorem so13 : Sp1 13 sp13 := ⟨so13_, Proofs.Tryz.f13, _, by kernel_rfl, rfl, by kernel_rfl⟩
theorem fn44 (l : Fld) (line : Int)  : Fn P1 gl1 44 [fldV l, iV line] (.val (iV (chkLine l line))) true := by
  refine Fn.flat ?_ rfl
  refine fn_of false [(71, sp71), (42, sp42), (32, sp32)] [] h0 0 Proofs.Tryz.f44 ⟨so71, so42, so32, trivial⟩ trivial (by kernel_rfl) rfl (by kernel_rfl) rfl rfl rfl ?_
  rw [vc44]
  try simp only [splitB_iff, -eq_self]
  exact ⟨by decide, line_first l line, trivial⟩
theorem so44_ : SpecOk P1 gl1 44 sp44 := by
  intro vs ps r h _
  simp only [sp44] at h
  split at h
  · cases h; exact fn44 _ _ 
  · cases h
theorem so44 : Sp1 44 sp44 := ⟨so44_, Proofs.Tryz.f44, _, by kernel_rfl, rfl, by kernel_rfl⟩
theorem fn52 (l : Fld) (hf : chkFld l = 0) : Fn P1 gl1 52 [fldV l, .one (.fn 38 [] [])] (.val (.one (.sl (.sl (.int .i64)) (l.map sixs)))) false := by
  refine fn_of false [(38, sp38)] [] h71 0 Proofs.Tryz.f52 ⟨so38, trivial⟩ trivial (by kernel_rfl) rfl (by kernel_rfl) rfl rfl rfl ?_
  rw [vc52]
  try simp only [splitB_iff, -eq_self]
  have hq := chkFld_zero.1 hf
  refine ⟨⟨0, Nat.zero_le _, rfl, rfl, rfl, by simp⟩, fun g hg => ⟨fun hlt => ?_, fun hge => ?_⟩⟩
  · have hlt' : g < l.length := by simpa using hlt
    obtain ⟨a1, a2, _⟩ := fld_line hf hlt'
    refine ⟨by omega, by omega, a1, by simp only [room, List.length_map, List.length_take]; omega, by simp only [fits]; omega, g + 1, hlt', by omega, by simp, rfl, rfl, ?_, trivial⟩
    rw [getD_of hlt', List.take_succ_eq_append_getElem hlt', List.map_append]
    rfl
  · have hge' : ¬ g < l.length := by simpa using hge
    rw [List.take_of_length_le (by omega)]
    exact ⟨rfl, trivial⟩
theorem so52_ : SpecOk P1 gl1 52 sp52 := by
  intro vs ps r h hp
  simp only [sp52] at h
  split at h
  · cases h; exact fn52 _ (hp _ (.head _))
  · cases h
theorem so52 : Sp1 52 sp52 := ⟨so52_, Proofs.Tryz.f52, _, by kernel_rfl, rfl, by kernel_rfl⟩
theorem fn50 (n line : Int) (hn : 0 ≤ n ∧ n ≤ 1000000000) : Fn P1 gl1 50 [iV n, iV line] (.val (bV (decide (0 < line) && decide (line < n - 1)))) true := by
  refine Fn.flat ?_ rfl
  refine fn_of false [] [] h0 0 Proofs.Tryz.f50 trivial trivial (by kernel_rfl) rfl (by kernel_rfl) rfl rfl rfl ?_
  rw [vc50]
  try simp only [splitB_iff, -eq_self]
  rw [bcond_r]
  exact ⟨fun _ => by simp only [fits]; omega, rfl, trivial⟩
theorem so50_ : SpecOk P1 gl1 50 sp50 := by
  intro vs ps r h hp
  simp only [sp50] at h
  split at h
  · cases h; exact fn50 _ _ (hp _ (.head _))
  · cases h
theorem so50 : Sp1 50 sp50 := ⟨so50_, Proofs.Tryz.f50, _, by kernel_rfl, rfl, by kernel_rfl⟩
theorem fn14 (l : Fld) (line : Int)  : Fn P1 gl1 14 [fldV l, iV line] (.tup [pV (errP (twoE l line) (twoI l line)), iV (errE (twoE l line) (twoI l line))]) true := by
  refine fn_ofr false [(44, sp44), (42, sp42), (32, sp32), (38, sp38), (46, sp46), (47, sp47), (48, sp48), (45, sp45), (65, sp65)] [fb39] h0 3 Proofs.Tryz.f14 ⟨so44, so42, so32, so38, so46, so47, so48, so45, so65, trivial⟩ ⟨⟨by kernel_rfl, by kernel_rfl, _, rfl, by kernel_rfl⟩, trivial⟩ (by kernel_rfl) rfl (by kernel_rfl) rfl rfl rfl ?_
  rw [vc14]
  try simp only [splitB_iff, -eq_self]
  rw [two_first]
  refine ⟨by decide, fun h => ?_, fun h => ?_⟩
  · have h := bneZ.1 h
    unfold errP errE
    rw [if_neg h, if_neg h]
    exact ⟨rfl, rfl, rfl, rfl, trivial⟩
  · have h := bneF.1 h
    obtain ⟨c1, c2, c3, c4⟩ := twoE_zero.1 h
    have c0 := (chkFld_zero.1 c1).1
    unfold errP errE
    rw [if_pos h, if_pos h]
    unfold twoI lnI nextL
    obtain ⟨a1, a2, a3, a4⟩ := fld_line c1 (i := line.toNat) (by omega)
    refine ⟨by simp only [fits]; omega, fun k => ?_, fun k => ?_⟩
    · have k : line + 1 = (l.length : Int) := by simpa using k
      obtain ⟨b1, b2, b3, b4⟩ := fld_line c1 (i := (line - 1).toNat) (by omega)
      have hb : 0 ≤ line - 1 ∧ line - 1 < (l.length : Int) := by omega
      rw [if_pos k]
      generalize List.getD l (line - 1).toNat [] = o at *
      generalize List.getD l line.toNat [] = s at *
      have z1 := bd_sixs a1
      have z2 := bd_sixs b1
      have z3 : Bd 32768 (combI minusI (sixs s) (sixs o)) := bd_comb (A := 16384) (B := 16384) z1 z2 (by omega) (by omega) fun x y hx hy => by unfold minusI; omega
      simp only [sixs_len, combI_len, diffN_len, -eq_self]
      refine ⟨by simp only [fits]; omega, by omega, by omega, a1, by omega, by omega, b1, by omega, by omega, bd_le z1 (by omega), bd_le z2 (by omega), by omega, bd_le z3 (by omega), c2, by omega, by omega, by omega, bd_le z1 (by omega), bd_le z2 (by omega), by omega, by omega, by omega, by decide, fun h => ?_, fun h => ?_⟩
      · have h : ¬ partsE (combI midI (sixs s) (sixs o), diffN 0 (combI minusI (sixs s) (sixs o)) line 4, diffN 1 (combI minusI (sixs s) (sixs o)) line 4) = 0 := bneZ.1 h
        unfold partsP
        rw [if_neg h]
        exact ⟨rfl, rfl, rfl, rfl, trivial⟩
      · have h : partsE (combI midI (sixs s) (sixs o), diffN 0 (combI minusI (sixs s) (sixs o)) line 4, diffN 1 (combI minusI (sixs s) (sixs o)) line 4) = 0 := bneF.1 h
        unfold partsP
        rw [if_pos h]
        exact ⟨rfl, rfl, rfl, h.symm, trivial⟩
    · have k : ¬ line + 1 = (l.length : Int) := by simpa using k
      obtain ⟨b1, b2, b3, b4⟩ := fld_line c1 (i := (line + 1).toNat) (by omega)
      have hb : 0 ≤ line + 1 ∧ line + 1 < (l.length : Int) := by omega
      rw [if_neg k]
      generalize List.getD l (line + 1).toNat [] = o at *
      generalize List.getD l line.toNat [] = s at *
      have z1 := bd_sixs a1
      have z2 := bd_sixs b1
      have z3 : Bd 32768 (combI minusI (sixs s) (sixs o)) := bd_comb (A := 16384) (B := 16384) z1 z2 (by omega) (by omega) fun x y hx hy => by unfold minusI; omega
      simp only [sixs_len, combI_len, diffN_len, -eq_self]
      refine ⟨by omega, by omega, a1, by omega, by omega, b1, by omega, by omega, bd_le z1 (by omega), bd_le z2 (by omega), by omega, bd_le z3 (by omega), c2, by omega, by omega, by omega, bd_le z1 (by omega), bd_le z2 (by omega), by omega, by omega, by omega, by decide, fun h => ?_, fun h => ?_⟩
      · have h : ¬ partsE (combI midI (sixs s) (sixs o), diffN 0 (combI minusI (sixs s) (sixs o)) line 4, diffN 1 (combI minusI (sixs s) (sixs o)) line 4) = 0 := bneZ.1 h
        unfold partsP
        rw [if_neg h]
        exact ⟨rfl, rfl, rfl, rfl, trivial⟩
      · have h : partsE (combI midI (sixs s) (sixs o), diffN 0 (combI minusI (sixs s) (sixs o)) line 4, diffN 1 (combI minusI (sixs s) (sixs o)) line 4) = 0 := bneF.1 h
        unfold partsP
        rw [if_pos h]
        exact ⟨rfl, rfl, rfl, h.symm, trivial⟩
theorem so14_ : SpecOk P1 gl1 14 sp14 := by
  intro vs ps r h _
  simp only [sp14] at h
  split at h
  · cases h; exact fn14 _ _ 
  · cases h
theorem so14 : Sp1 14 sp14 := ⟨so14_, Proofs.Tryz.f14, _, by kernel_rfl, rfl, by kernel_rfl⟩
theorem fn16 (l : Fld) (line : Int)  : Fn P1 gl1 16 [fldV l, iV line] (.tup [pV (errP (threeE l line) (threeL l line)), iV (errE (threeE l line) (threeL l line))]) true := by
  refine fn_ofr false [(44, sp44), (32, sp32), (50, sp50), (52, sp52), (38, sp38), (46, sp46), (47, sp47), (67, sp67), (74, sp74), (45, sp45), (66, sp66), (65, sp65)] [fb39, fb51, fb68] h0 3 Proofs.Tryz.f16 ⟨so44, so32, so50, so52, so38, so46, so47, so67, so74, so45, so66, so65, trivial⟩ ⟨⟨by kernel_rfl, by kernel_rfl, _, rfl, by kernel_rfl⟩, ⟨by kernel_rfl, by kernel_rfl, _, rfl, by kernel_rfl⟩, ⟨by kernel_rfl, by kernel_rfl, _, rfl, by kernel_rfl⟩, trivial⟩ (by kernel_rfl) rfl (by kernel_rfl) rfl rfl rfl ?_
  rw [vc16]
  try simp only [splitB_iff, -eq_self]
  simp only [map_get, List.length_map, -eq_self]
  refine ⟨fun h => ?_, fun h => ⟨⟨by omega, by have := (chkFld_zero.1 (chkLine_zero.1 (bneF.1 h)).1).1; omega⟩, fun h2 => ?_, fun h2 => ?_⟩⟩
  · have h := bneZ.1 h
    have e : threeE l line = chkLine l line := by unfold threeE; rw [if_neg h]
    unfold errP errE
    rw [e, if_neg h, if_neg h]
    exact ⟨rfl, rfl, rfl, rfl, trivial⟩
  · have h := bneF.1 h
    have e : threeE l line = 14 := by
      unfold threeE
      rw [if_pos h, if_neg (by simp at h2; omega)]
    rw [e]
    exact ⟨rfl, rfl, rfl, rfl, trivial⟩
  · have h := bneF.1 h
    have h2 : 0 < line ∧ line < (l.length : Int) - 1 := by simpa using h2
    obtain ⟨c1, c2, c3⟩ := chkLine_zero.1 h
    have c0 := (chkFld_zero.1 c1).1
    have e : threeE l line = 0 := threeE_zero.2 ⟨c1, h2⟩
    unfold errP errE threeL threeI apartI lnI
    rw [if_pos e, if_pos e]
    obtain ⟨a1, a2, a3, a4⟩ := fld_line c1 (i := line.toNat) (by omega)
    obtain ⟨b1, b2, b3, b4⟩ := fld_line c1 (i := (line - 1).toNat) (by omega)
    obtain ⟨d1, d2, d3, d4⟩ := fld_line c1 (i := (line + 1).toNat) (by omega)
    generalize List.getD l (line - 1).toNat [] = o at *
    generalize List.getD l (line + 1).toNat [] = p at *
    generalize List.getD l line.toNat [] = s at *
    have z0 : Bd 1000000 (combI plusI (sixs o) (sixs p)) := bd_comb (A := 16384) (B := 16384) (bd_sixs b1) (bd_sixs d1) (by omega) (by omega) fun x y hx hy => by unfold plusI; omega
    have z1 : Bd 65536 (thrD (sixs o) (sixs s) (sixs p)) := bd_thrD (bd_sixs b1) (bd_sixs a1) (bd_sixs d1)
    have z2 : Bd 1000000 (diffN 0 (thrD (sixs o) (sixs s) (sixs p)) line 8) := bd_le (bd_diff (by omega) (by omega) z1) (by omega)
    have z3 : Bd 1000000 (diffN 1 (thrD (sixs o) (sixs s) (sixs p)) line 8) := bd_le (bd_diff (by omega) (by omega) z1) (by omega)
    have eD : combI lessI (sixs s) (combI plusI (sixs o) (sixs p)) = thrD (sixs o) (sixs s) (sixs p) := rfl
    rw [eD]
    have eL : (thrD (sixs o) (sixs s) (sixs p)).length = s.length := by rw [thrD_len, sixs_len]
    generalize thrD (sixs o) (sixs s) (sixs p) = T at *
    simp only [sixs_len, combI_len, diffN_len, carI_len, eL, fits, -eq_self]
    refine ⟨c1, by omega, by omega, by omega, by omega, by omega, by omega, bd_le (bd_sixs b1) (by omega), bd_le (bd_sixs d1) (by omega), by omega, by omega, by omega, by omega, bd_le (bd_sixs a1) (by omega), z0, by omega, bd_le z1 (by omega), c2, by omega, by omega, by omega, z2, z3, c2, by omega, by omega, bd_le (bd_sixs a1) (by omega), bd_car (signI_cases _) (by omega) z2 z3, by omega, by omega, by omega, by decide, fun h => ?_, fun h => ?_⟩
    · have h : ¬ partsE (combI minusI (sixs s) (carI (diffN 0 T line 8) (diffN 1 T line 8) (signI line)), diffN 0 T line 8, diffN 1 T line 8) = 0 := bneZ.1 h
      unfold partsP
      rw [if_neg h]
      exact ⟨rfl, rfl, rfl, rfl, trivial⟩
    · have h : partsE (combI minusI (sixs s) (carI (diffN 0 T line 8) (diffN 1 T line 8) (signI line)), diffN 0 T line 8, diffN 1 T line 8) = 0 := bneF.1 h
      unfold partsP
      rw [if_pos h]
      exact ⟨rfl, rfl, rfl, h.symm, trivial⟩
theorem so16_ : SpecOk P1 gl1 16 sp16 := by
  intro vs ps r h _
  simp only [sp16] at h
  split at h
  · cases h; exact fn16 _ _ 
  · cases h
theorem so16 : Sp1 16 sp16 := ⟨so16_, Proofs.Tryz.f16, _, by kernel_rfl, rfl, by kernel_rfl⟩
end Go.Sx

namespace Go.Sx.U
end Go.Sx.U

namespace Go.Sx.U
def four (z : Int × Int) : List Int := [z.1, z.2, -z.1, -z.2]
end Go.Sx.U

namespace Go.Sx.U
end Go.Sx.U

namespace Go.Sx.U
open Ieee
end Go.Sx.U

namespace Go.Sx.U
def pAt (l : List Pt) (i : Nat) : Pt := List.getD l i ([], [], [])
def chkP (x : Pt) : Int := chkPt x.1 x.2.1 x.2.2
def chkLi (l : List Pt) (i : Nat) : Int := if chkP (pAt l i) = 0 then (if (pAt l i).1.length = (pAt l 0).1.length then 0 else 2) else chkP (pAt l i)
def chkLs (l : List Pt) : Int := if 32 < l.length then 5 else upTo (chkLi l) l.length
def encP (l : List Pt) (i : Nat) : List Int := encI (pAt l i).1 (pAt l i).2.1 (pAt l i).2.2 i
def encFE (l : List Pt) : Int := if chkLs l = 0 then upTo (fun i => lgE (encP l i)) l.length else chkLs l
def encFN (l : List Pt) : Fld := if encFE l = 0 then tab l.length fun i => smpsN (encP l i) else []
theorem li_first (l : List Pt) (g : Nat) : first [chkP (pAt l g), whenE (((pAt l g).1.length : Int) != ((pAt l 0).1.length : Int)) 2] = chkLi l g := by
  unfold chkLi
  generalize chkP (pAt l g) = e
  generalize (pAt l g).1.length = a
  generalize (pAt l 0).1.length = b
  by_cases h : e = 0
  · by_cases h2 : a = b
    · simp [first, whenE, h, h2]
    · have : ¬ (a : Int) = b := by omega
      simp [first, whenE, h, h2, this]
  · simp [first, h]
theorem chkLi_zero {l : List Pt} {i : Nat} : chkLi l i = 0 ↔ chkP (pAt l i) = 0 ∧ (pAt l i).1.length = (pAt l 0).1.length := by
  unfold chkLi
  generalize chkP (pAt l i) = e
  by_cases h : e = 0
  · by_cases h2 : (pAt l i).1.length = (pAt l 0).1.length <;> simp [h, h2]
  · simp [h]
theorem chkLs_zero {l : List Pt} : chkLs l = 0 ↔ l.length ≤ 32 ∧ ∀ i, i < l.length → chkP (pAt l i) = 0 ∧ (pAt l i).1.length = (pAt l 0).1.length := by
  unfold chkLs
  by_cases h : 32 < l.length
  · simp [h]; omega
  · rw [if_neg h, upTo_zero]
    simp only [chkLi_zero]
    exact ⟨fun k => ⟨by omega, k⟩, fun k => k.2⟩
end Go.Sx.U

namespace Go.Sx
open U
abbrev pT : Ty := .pair (.sl (.flt .f32)) (.pair (.sl (.flt .f32)) (.sl (.flt .f32)))
@[reducible] def plV (l : List Pt) : V := .one (.sl pT l)
def h12 : Hints := ⟨fun f k s => match f, k with
  | 40, 3 => hMapG pT (.int .i64) (fun x => ((List.length x.1 : Nat) : Int)) 8 10 5 [1, 9] s
  | 12, 5 => match listAs s 0 pT with
    | some l => some ⟨Nat, fun i => s.at [0, 4, 18, 19] [tI 20 i], fun i => i ≤ List.length l ∧ upTo (chkLi l) i = 0, fun i => List.length l - i⟩
    | none => none
  | 12, 13 => match listAs s 0 pT with
    | some l => some ⟨Nat, fun i => ⟨[tI 44 i, (8, .val (.one (.own s.nx)))] ++ keepT [0, 42, 43] s.tm, (s.nx, some (.row lnT (tab i fun i => smpsN (encP l i)))) :: lessO s [8], s.nx + 1, s.lr⟩, fun i => i ≤ List.length l ∧ upTo (fun i => lgE (encP l i)) i = 0, fun i => List.length l - i⟩
    | none => none
  | _, _ => none, 0⟩
end Go.Sx
namespace Go.Sx
open U
def sp40 : FSpec := ⟨fun vs => match vs with
  | [.one (.sl (.pair (.sl (.flt .f32)) (.pair (.sl (.flt .f32)) (.sl (.flt .f32)))) l), .one (.fn 41 [] [])] => some ([List.length l ≤ 1000000], .val (.one (.frs (.int .i64) (List.map (fun x => ((List.length (show Pt from x).1 : Nat) : Int)) l))))
  | _ => none, true⟩
def sp12 : FSpec := ⟨fun vs => match vs with
  | [.one (.sl (.pair (.sl (.flt .f32)) (.pair (.sl (.flt .f32)) (.sl (.flt .f32)))) l)] => some ([∀ x ∈ (show List Pt from l), List.length x.1 ≤ 1000000000], .tup [fldV (encFN l), iV (encFE l)])
  | _ => none, false⟩
end Go.Sx

namespace Go.Sx
open U
theorem vc40 (l : List Pt) : exF (env false [(41, sp41)] []) h12 0 40 Proofs.Tryz.f40 [plV l, .one (.fn 41 [] [])] (.val (.one (.frs (.int .i64) (l.map fun x => ((List.length x.1 : Nat) : Int))))) = (let q0 := (↑(List.length l) : Int); (∃ (g : Nat), Nat.le g (List.length l) ∧ (0 : Int) = (↑g : Int) ∧ q0 = q0 ∧ l = l ∧ List.map (fun (x : List Nat × List Nat × List Nat) => (↑(List.length x.1) : Int)) (List.take g l) = [] ∧ True) ∧ ∀ (g : Nat), Nat.le g (List.length l) → splitB (decide ((↑g : Int) < q0)) (((0 : Int) ≤ (↑g : Int) ∧ (↑g : Int) < q0) ∧ room (List.length (List.map (fun (x : List Nat × List Nat × List Nat) => (↑(List.length x.1) : Int)) (List.take g l)) + (1 : Nat)) (8 : Nat) ∧ fits IntKind.i64 ((↑g : Int) + (1 : Int)) ∧ ∃ (g' : Nat), Nat.le g' (List.length l) ∧ List.length l - g' < List.length l - g ∧ (↑g : Int) + (1 : Int) = (↑g' : Int) ∧ q0 = q0 ∧ l = l ∧ List.map (fun (x : List Nat × List Nat × List Nat) => (↑(List.length x.1) : Int)) (List.take g l) ++ [(↑(List.length (List.getD l g ([], [], [])).1) : Int)] = List.map (fun (x : List Nat × List Nat × List Nat) => (↑(List.length x.1) : Int)) (List.take g' l) ∧ True) (List.map (fun (x : List Nat × List Nat × List Nat) => (↑(List.length x.1) : Int)) (List.take g l) = List.map (fun (x : Pt) => (↑(List.length x.1) : Int)) l ∧ True)) := by
  kernel_rfl
theorem vc12 (l : List Pt) : exF (env false [(40, sp40), (33, sp33), (42, sp42), (32, sp32), (35, sp35)] []) h12 0 12 Proofs.Tryz.f12 [plV l] (.tup [fldV (encFN l), iV (encFE l)]) = (let q1 := (↑(List.length l) : Int); splitB (decide ((32 : Int) < q1)) (encFN l = [] ∧ (5 : Int) = encFE l ∧ True) (List.length l ≤ (1000000 : Nat) ∧ (∃ (g : Nat), (g ≤ List.length l ∧ upTo (chkLi l) g = (0 : Int)) ∧ (0 : Int) = (↑g : Int) ∧ q1 = q1 ∧ l = l ∧ l = l ∧ List.map (fun (x : Pt) => (↑(List.length x.1) : Int)) l = List.map (fun (x : Pt) => (↑(List.length x.1) : Int)) l ∧ True) ∧ ∀ (g : Nat), let q2 := (List.getD l g ([], [], [])); g ≤ List.length l ∧ upTo (chkLi l) g = (0 : Int) → splitB (decide ((↑g : Int) < q1)) (((0 : Int) ≤ (↑g : Int) ∧ (↑g : Int) < q1) ∧ List.length q2.1 ≤ (1000000000 : Nat) ∧ ((0 : Int) ≤ (↑g : Int) ∧ (↑g : Int) < (↑(List.length (List.map (fun (x : Pt) => (↑(List.length x.1) : Int)) l)) : Int)) ∧ g < List.length (List.map (fun (x : Pt) => (↑(List.length x.1) : Int)) l) ∧ ((0 : Int) ≤ (0 : Int) ∧ (0 : Int) < (↑(List.length (List.map (fun (x : Pt) => (↑(List.length x.1) : Int)) l)) : Int)) ∧ (0 : Nat) < List.length (List.map (fun (x : Pt) => (↑(List.length x.1) : Int)) l) ∧ (2 : Nat) ≤ (1000000000 : Nat) ∧ splitB (first [chkPt q2.1 q2.2.1 q2.2.2, whenE (List.getD (List.map (fun (x : Pt) => (↑(List.length x.1) : Int)) l) g (0 : Int) != List.getD (List.map (fun (x : Pt) => (↑(List.length x.1) : Int)) l) (0 : Nat) (0 : Int)) (2 : Int)] != (0 : Int)) (encFN l = [] ∧ first [chkPt q2.1 q2.2.1 q2.2.2, whenE (List.getD (List.map (fun (x : Pt) => (↑(List.length x.1) : Int)) l) g (0 : Int) != List.getD (List.map (fun (x : Pt) => (↑(List.length x.1) : Int)) l) (0 : Nat) (0 : Int)) (2 : Int)] = encFE l ∧ True) (fits IntKind.i64 ((↑g : Int) + (1 : Int)) ∧ ∃ (g' : Nat), (g' ≤ List.length l ∧ upTo (chkLi l) g' = (0 : Int)) ∧ List.length l - g' < List.length l - g ∧ (↑g : Int) + (1 : Int) = (↑g' : Int) ∧ q1 = q1 ∧ l = l ∧ l = l ∧ List.map (fun (x : Pt) => (↑(List.length x.1) : Int)) l = List.map (fun (x : Pt) => (↑(List.length x.1) : Int)) l ∧ True)) ((∃ (g : Nat), (g ≤ List.length l ∧ upTo (fun (i : Nat) => lgE (encP l i)) g = (0 : Int)) ∧ (0 : Int) = (↑g : Int) ∧ q1 = q1 ∧ l = l ∧ l = l ∧ (tab g fun (i : Nat) => smpsN (encP l i)) = [] ∧ List.map (fun (x : Pt) => (↑(List.length x.1) : Int)) l = List.map (fun (x : Pt) => (↑(List.length x.1) : Int)) l ∧ True) ∧ ∀ (g : Nat), let q0 := (List.getD l g ([], [], [])); let q3 := (encI q0.1 q0.2.1 q0.2.2 (↑g : Int)); g ≤ List.length l ∧ upTo (fun (i : Nat) => lgE (encP l i)) g = (0 : Int) → splitB (decide ((↑g : Int) < q1)) (((0 : Int) ≤ (↑g : Int) ∧ (↑g : Int) < q1) ∧ chkPt q0.1 q0.2.1 q0.2.2 = (0 : Int) ∧ (0 : Int) ≤ (↑g : Int) ∧ splitB (lgE q3 != (0 : Int)) (encFN l = [] ∧ lgE q3 = encFE l ∧ True) (room (List.length (tab g fun (i : Nat) => smpsN (encP l i)) + (1 : Nat)) (24 : Nat) ∧ fits IntKind.i64 ((↑g : Int) + (1 : Int)) ∧ ∃ (g' : Nat), (g' ≤ List.length l ∧ upTo (fun (i : Nat) => lgE (encP l i)) g' = (0 : Int)) ∧ List.length l - g' < List.length l - g ∧ (↑g : Int) + (1 : Int) = (↑g' : Int) ∧ q1 = q1 ∧ l = l ∧ l = l ∧ ((tab g fun (i : Nat) => smpsN (encP l i)) ++ [smpsN q3] = tab g' fun (i : Nat) => smpsN (encP l i)) ∧ List.map (fun (x : Pt) => (↑(List.length x.1) : Int)) l = List.map (fun (x : Pt) => (↑(List.length x.1) : Int)) l ∧ True)) ((tab g fun (i : Nat) => smpsN (encP l i)) = encFN l ∧ (0 : Int) = encFE l ∧ True)))) := by
  kernel_rfl
end Go.Sx
