/- A verified symbolic run of functions, part 16: lemmas, no claim of their own. -/
import Derived.Test.YtjbfcdgbjgjliaaGreatDoorS15
/- Contracts. -/
namespace Go.Sx
open U
theorem fn109 (l : List Int) (hl : l.length ≤ 1000) (hb : Bd 1000000 l) : Fn P1 gl1 109 [.one (.sl (.int .i64) l)] (.val (.agg [.arr 4 gsT (tab 4 (qu l))])) true := by
  refine Fn.flat ?_ rfl
  refine fn_of false [] [] h33 0 Proofs.Tryz.f109 trivial trivial (by kernel_rfl) rfl (by kernel_rfl) rfl rfl rfl ?_
  rw [vc109]
  try simp only [splitB_iff, -eq_self]
  refine ⟨⟨0, Nat.zero_le _, rfl, rfl, (fillTo_zero _ _ _).symm, rfl, trivial⟩, fun g hg => ⟨fun hlt => ⟨⟨0, Nat.zero_le _, rfl, rfl, rfl, rfl, rfl, rfl, (quSt_zero _ _).symm, rfl, trivial⟩, fun j hj => ⟨fun hlt2 => ?_, fun hge2 => ?_⟩⟩, fun hge => ?_⟩⟩
  · have hlt : (g : Int) < 4 := by simpa using hlt
    have hlt2 : j < l.length := by simpa using hlt2
    have hgj : (g : Int) * (j : Int) = ((g * j : Nat) : Int) := (Int.natCast_mul g j).symm
    have hle : g * j ≤ 3 * 1000 := Nat.mul_le_mul (by omega) (by omega)
    have hp : List.getD [((1 : Int), (0 : Int)), (0, -1), (-1, 0), (0, 1)] (Int.toNat ((g : Int) * (j : Int) % 4)) (0, 0) = pw (g * j) := by
      rw [hgj, show Int.toNat (((g * j : Nat) : Int) % 4) = g * j % 4 by omega]; rfl
    rw [hp, quSt_get (by omega), hgj]
    obtain ⟨p1, p2⟩ := pw_bd (g * j) (bd_get hb (i := j) (by omega))
    obtain ⟨q1, q2⟩ := quTo_bd hb (by omega) g j
    simp only [fits, quSt_len, -eq_self]
    exact ⟨by omega, by omega, by omega, by omega, by omega, by omega, by omega, by omega, by omega, by omega, by omega, by omega, by omega, by omega, by omega, j + 1, hlt2, by omega, by simp, rfl, rfl, rfl, rfl, rfl, quSt_set l g j, rfl, trivial⟩
  · have hlt : (g : Int) < 4 := by simpa using hlt
    have hj : j ≤ l.length := hj
    have hge2 : ¬ j < l.length := by simpa using hge2
    have e : j = l.length := by omega
    subst e
    exact ⟨by simp only [fits]; omega, g + 1, show g + 1 ≤ 4 by omega, by omega, by simp, rfl, quSt_all l g, rfl, trivial⟩
  · have hge : ¬ (g : Int) < 4 := by simpa using hge
    exact ⟨fillTo_all _ _ _ _ (by omega), trivial⟩
theorem so109_ : SpecOk P1 gl1 109 sp109 := by
  intro vs ps r h hp
  simp only [sp109] at h
  split at h
  · cases h; exact fn109 _ (hp _ (.head _)) (hp _ (.tail _ (.head _)))
  · cases h
theorem so109 : Sp1 109 sp109 := ⟨so109_, Proofs.Tryz.f109, _, by kernel_rfl, rfl, by kernel_rfl⟩
theorem fn33 (l : List Nat)  : Fn P1 gl1 33 [.one (.sl (.flt .f32) l)] (.tup [.one (.frs panT (panN l)), iV (chkSig l)]) true := by
  refine Fn.flat ?_ rfl
  refine fn_of false [(41, sp41), (108, sp108), (109, sp109), (110, sp110)] [fb107, fb167] h33 3 Proofs.Tryz.f33 ⟨so41, so108, so109, so110, trivial⟩ ⟨⟨by kernel_rfl, by kernel_rfl, _, rfl, by kernel_rfl⟩, ⟨by kernel_rfl, by kernel_rfl, _, rfl, by kernel_rfl⟩, trivial⟩ (by kernel_rfl) rfl (by kernel_rfl) rfl rfl rfl ?_
  rw [vc33]
  try simp only [splitB_iff, -eq_self]
  refine ⟨fun h => ?_, fun h => ?_⟩
  · have h := bneZ.1 h
    unfold panN
    rw [if_neg h]
    exact ⟨rfl, rfl, trivial⟩
  · have h := bneF.1 h
    obtain ⟨k1, k2, k3⟩ := chkSig_zero.1 h
    simp only [sixs_len, -eq_self]
    refine ⟨by omega, k3, ⟨by omega, by omega, by simp only [fits]; omega⟩, ⟨0, Nat.zero_le _, rfl, rfl, rfl, rfl, trivial⟩, fun g hg => ⟨fun hlt => ?_, fun hge => ?_⟩⟩
    · have hlt : (g : Int) < (l.length : Int) / 4 := by simpa using hlt
      have e1 : Int.toNat (4 * (g : Int)) = 4 * g := by omega
      rw [e1]
      have ht : List.take 4 (List.take 4 (List.drop (4 * g) (sixs l))) = List.take 4 (List.drop (4 * g) (sixs l)) := by rw [List.take_take]; rfl
      rw [ht]
      have hc : (List.take 4 (List.drop (4 * g) (sixs l))).length = 4 := by rw [List.length_take, List.length_drop, sixs_len]; omega
      have hb : Bd 16384 (List.take 4 (List.drop (4 * g) (sixs l))) := fun n hn => bd_sixs k3 n (List.mem_of_mem_drop (List.mem_of_mem_take hn))
      have hq : ∀ k, (-8388608 ≤ (qu (List.take 4 (List.drop (4 * g) (sixs l))) k).1 ∧ (qu (List.take 4 (List.drop (4 * g) (sixs l))) k).1 ≤ 8388608) ∧ (-8388608 ≤ (qu (List.take 4 (List.drop (4 * g) (sixs l))) k).2 ∧ (qu (List.take 4 (List.drop (4 * g) (sixs l))) k).2 ≤ 8388608) := fun k => by
        have := quTo_bd hb (by omega) k 4
        unfold qu
        rw [hc]
        omega
      simp only [tab_get (show 0 < 4 by decide), tab_get (show 1 < 4 by decide), tab_get (show 2 < 4 by decide), tab_get (show 3 < 4 by decide), hc, tab_len, fits, room, -eq_self]
      exact ⟨by omega, by omega, by omega, by omega, by omega, rfl, by omega, rfl, by omega, bd_le hb (by omega), by omega, (hq 0).1, (hq 0).2, by omega, by omega, by omega, by omega, (hq 1).1, (hq 1).2, by omega, by omega, by omega, by omega, (hq 2).1, (hq 2).2, by omega, by omega, by omega, by omega, (hq 3).1, (hq 3).2, by omega, by omega, by omega, by omega, by omega, g + 1, show g + 1 ≤ _ by omega, by omega, by simp, rfl, (tab_succ g (panI (sixs l))).symm, rfl, trivial⟩
    · have hg : g ≤ l.length / 4 := hg
      have hge : ¬ (g : Int) < (l.length : Int) / 4 := by simpa using hge
      have e : g = l.length / 4 := by omega
      subst e
      unfold panN
      rw [if_pos h]
      exact ⟨rfl, h.symm, trivial⟩
theorem so33_ : SpecOk P1 gl1 33 sp33 := by
  intro vs ps r h _
  simp only [sp33] at h
  split at h
  · cases h; exact fn33 _ 
  · cases h
theorem so33 : Sp1 33 sp33 := ⟨so33_, Proofs.Tryz.f33, _, by kernel_rfl, rfl, by kernel_rfl⟩
theorem fn143 (k : Int) (hk : 0 ≤ k) : Fn P1 gl1 143 [iV k] (.val (gsV (pw k.toNat))) true := by
  refine Fn.flat ?_ rfl
  refine fn_of false [] [] h0 0 Proofs.Tryz.f143 trivial trivial (by kernel_rfl) rfl (by kernel_rfl) rfl rfl rfl ?_
  rw [vc143]
  try simp only [splitB_iff, -eq_self]
  have e : k.toNat % 4 = (k % 4).toNat := by omega
  unfold pw
  rw [e]
  have hc : k % 4 = 0 ∨ k % 4 = 1 ∨ k % 4 = 2 ∨ k % 4 = 3 := by omega
  rcases hc with h | h | h | h <;> simp [h, hk]
theorem so143_ : SpecOk P1 gl1 143 sp143 := by
  intro vs ps r h hp
  simp only [sp143] at h
  split at h
  · cases h; exact fn143 _ (hp _ (.head _))
  · cases h
theorem so143 : Sp1 143 sp143 := ⟨so143_, Proofs.Tryz.f143, _, by kernel_rfl, rfl, by kernel_rfl⟩
theorem fn144 (a b c d : Int) (h1 : -4000000000 ≤ a ∧ a ≤ 4000000000) (h2 : -4000000000 ≤ b ∧ b ≤ 4000000000) (h3 : -4000000000 ≤ c ∧ c ≤ 4000000000) (h4 : -4000000000 ≤ d ∧ d ≤ 4000000000) : Fn P1 gl1 144 [gsV (a, b), gsV (c, d)] (.val (gsV (a + c, b + d))) true := by
  refine Fn.flat ?_ rfl
  refine fn_of false [] [] h0 0 Proofs.Tryz.f144 trivial trivial (by kernel_rfl) rfl (by kernel_rfl) rfl rfl rfl ?_
  rw [vc144]
  try simp only [splitB_iff, -eq_self]
  simp only [fits, -eq_self]
  exact ⟨by omega, by omega, rfl, rfl, trivial⟩
theorem so144_ : SpecOk P1 gl1 144 sp144 := by
  intro vs ps r h hp
  simp only [sp144] at h
  split at h
  · cases h; exact fn144 _ _ _ _ (hp _ (.head _)) (hp _ (.tail _ (.head _))) (hp _ (.tail _ (.tail _ (.head _)))) (hp _ (.tail _ (.tail _ (.tail _ (.head _)))))
  · cases h
theorem so144 : Sp1 144 sp144 := ⟨so144_, Proofs.Tryz.f144, _, by kernel_rfl, rfl, by kernel_rfl⟩
theorem fn77 (l : List Int) (k : Int) (hl : l.length ≤ 1000) (hb : Bd 1000000 l) (hk : 0 ≤ k ∧ k ≤ 3) : Fn P1 gl1 77 [.one (.sl (.int .i64) l), iV k] (.val (gsV (qu l k.toNat))) true := by
  refine Fn.flat ?_ rfl
  refine fn_of false [(143, sp143), (144, sp144)] [] h33 0 Proofs.Tryz.f77 ⟨so143, so144, trivial⟩ trivial (by kernel_rfl) rfl (by kernel_rfl) rfl rfl rfl ?_
  rw [vc77]
  try simp only [splitB_iff, -eq_self]
  refine ⟨⟨0, Nat.zero_le _, rfl, rfl, rfl, rfl, rfl, rfl, rfl, trivial⟩, fun g hg => ⟨fun hlt => ?_, fun hge => ?_⟩⟩
  · have hlt : g < l.length := by simpa using hlt
    have hgj : k * (g : Int) = ((k.toNat * g : Nat) : Int) := by
      rw [Int.natCast_mul, Int.toNat_of_nonneg hk.1]
    have hle : k.toNat * g ≤ 3 * 1000 := Nat.mul_le_mul (by omega) (by omega)
    rw [hgj, Int.toNat_natCast]
    obtain ⟨p1, p2⟩ := pw_bd' (k.toNat * g) (bd_get hb (i := g) (by omega))
    obtain ⟨q1, q2⟩ := quTo_bd hb (by omega) k.toNat g
    have s1 : (quTo l k.toNat g).1 + (pw (k.toNat * g)).1 * List.getD l g 0 = (quTo l k.toNat (g + 1)).1 := by
      rw [Int.mul_comm]; rfl
    have s2 : (quTo l k.toNat g).2 + (pw (k.toNat * g)).2 * List.getD l g 0 = (quTo l k.toNat (g + 1)).2 := by
      rw [Int.mul_comm]; rfl
    simp only [fits, -eq_self]
    exact ⟨by omega, by omega, by omega, by omega, by omega, by omega, by omega, by omega, by omega, by omega, by omega, g + 1, hlt, by omega, by simp, rfl, rfl, s1, s2, rfl, rfl, trivial⟩
  · have hg : g ≤ l.length := hg
    have hge : ¬ g < l.length := by simpa using hge
    have e : g = l.length := by omega
    subst e
    exact ⟨rfl, rfl, trivial⟩
theorem so77_ : SpecOk P1 gl1 77 sp77 := by
  intro vs ps r h hp
  simp only [sp77] at h
  split at h
  · cases h; exact fn77 _ _ (hp _ (.head _)) (hp _ (.tail _ (.head _))) (hp _ (.tail _ (.tail _ (.head _))))
  · cases h
theorem so77 : Sp1 77 sp77 := ⟨so77_, Proofs.Tryz.f77, _, by kernel_rfl, rfl, by kernel_rfl⟩
theorem fn37 (l : List Nat) (c k : Int) (h : chkSig l = 0) (hc : 0 ≤ c ∧ 4 * c + 4 ≤ (l.length : Int)) (hk : 0 ≤ k ∧ k ≤ 3) : Fn P1 gl1 37 [.one (.sl (.flt .f32) l), iV c, iV k] (.val (gsV (qu (List.take 4 (List.drop (4 * c.toNat) (sixs l))) k.toNat))) true := by
  refine Fn.flat ?_ rfl
  refine fn_of false [(100, sp100), (77, sp77)] [] h0 0 Proofs.Tryz.f37 ⟨so100, so77, trivial⟩ trivial (by kernel_rfl) rfl (by kernel_rfl) rfl rfl rfl ?_
  rw [vc37]
  try simp only [splitB_iff, -eq_self]
  obtain ⟨k1, k2, k3⟩ := chkSig_zero.1 h
  have e1 : Int.toNat (4 * c + 4) - Int.toNat (4 * c) = 4 := by omega
  have e2 : Int.toNat (4 * c) = 4 * c.toNat := by omega
  have e3 : sixs (List.take 4 (List.drop (4 * c.toNat) l)) = List.take 4 (List.drop (4 * c.toNat) (sixs l)) := by
    unfold sixs
    rw [List.map_take, List.map_drop]
  rw [e1, e2, e3]
  have hb : Bd 1000000 (List.take 4 (List.drop (4 * c.toNat) (sixs l))) := fun n hn => by
    have := bd_sixs k3 n (List.mem_of_mem_drop (List.mem_of_mem_take hn))
    omega
  simp only [fits, List.length_take, List.length_drop, sixs_len, -eq_self]
  exact ⟨by omega, by omega, by omega, by omega, by omega, fun b hb => k3 b (List.mem_of_mem_drop (List.mem_of_mem_take hb)), by omega, hb, hk, rfl, rfl, trivial⟩
theorem so37_ : SpecOk P1 gl1 37 sp37 := by
  intro vs ps r h hp
  simp only [sp37] at h
  split at h
  · cases h; exact fn37 _ _ _ (hp _ (.head _)) (hp _ (.tail _ (.head _))) (hp _ (.tail _ (.tail _ (.head _))))
  · cases h
theorem so37 : Sp1 37 sp37 := ⟨so37_, Proofs.Tryz.f37, _, by kernel_rfl, rfl, by kernel_rfl⟩
theorem fn128 (y u v : List Nat) (h : chkSig y = 0) : Fn P1 gl1 128 [ptV y u v] (.val (iV (unevI (sixs y)))) true := by
  refine Fn.flat ?_ rfl
  refine fn_of false [(108, sp108)] [fb107, fb167] h128 3 Proofs.Tryz.f128 ⟨so108, trivial⟩ ⟨⟨by kernel_rfl, by kernel_rfl, _, rfl, by kernel_rfl⟩, ⟨by kernel_rfl, by kernel_rfl, _, rfl, by kernel_rfl⟩, trivial⟩ (by kernel_rfl) rfl (by kernel_rfl) rfl rfl rfl ?_
  rw [vc128]
  try simp only [splitB_iff, -eq_self]
  obtain ⟨k1, k2, k3⟩ := chkSig_zero.1 h
  simp only [sixs_len, -eq_self]
  refine ⟨by omega, k3, ⟨by omega, by omega, by simp only [fits]; omega⟩, ⟨0, Nat.zero_le _, rfl, rfl, rfl, rfl, rfl, rfl, rfl, trivial⟩, fun g hg => ⟨fun hlt => ?_, fun hge => ?_⟩⟩
  · have hlt : (g : Int) < (y.length : Int) / 4 := by simpa using hlt
    have e1 : Int.toNat (4 * (g : Int)) = 4 * g := by omega
    rw [e1]
    have hc : (List.take 4 (List.drop (4 * g) (sixs y))).length = 4 := by rw [List.length_take, List.length_drop, sixs_len]; omega
    have hb := bd_sixs k3
    have a0 := bd_get hb (i := 4 * g) (by omega)
    have a1 := bd_get hb (i := 4 * g + 1) (by omega)
    have a2 := bd_get hb (i := 4 * g + 2) (by omega)
    have a3 := bd_get hb (i := 4 * g + 3) (by omega)
    simp only [cyc_get _ g 0 (by omega), cyc_get _ g 1 (by omega), cyc_get _ g 2 (by omega), cyc_get _ g 3 (by omega), hc, fits, Nat.add_zero, -eq_self]
    exact ⟨by omega, by omega, by omega, by omega, by omega, rfl, by omega, by omega, by omega, by omega, by omega, by omega, by omega, by omega, by omega, by omega, by omega, by omega, by omega, by omega, by omega, by omega, by omega, by omega, by omega, by omega, by omega, g + 1, show g + 1 ≤ _ by omega, by omega, by simp, rfl, unAt_step _ _ _ rfl, rfl, rfl, rfl, rfl, trivial⟩
  · have hg : g ≤ y.length / 4 := hg
    have hge : ¬ (g : Int) < (y.length : Int) / 4 := by simpa using hge
    unfold unevI
    rw [sixs_len, show 4 * g = y.length by omega]
    exact ⟨rfl, trivial⟩
theorem so128_ : SpecOk P1 gl1 128 sp128 := by
  intro vs ps r h hp
  simp only [sp128] at h
  split at h
  · cases h; exact fn128 _ _ _ (hp _ (.head _))
  · cases h
theorem so128 : Sp1 128 sp128 := ⟨so128_, Proofs.Tryz.f128, _, by kernel_rfl, rfl, by kernel_rfl⟩
theorem fn56 (y u v : List Nat) (hl : y.length ≤ 1000000000) : Fn P1 gl1 56 [ptV y u v] (.tup [bV (decide (chkPt y u v = 0 ∧ unevI (sixs y) = 0)), iV (chkPt y u v)]) true := by
  refine Fn.flat ?_ rfl
  refine fn_of false [(26, sp26), (128, sp128)] [] h0 0 Proofs.Tryz.f56 ⟨so26, so128, trivial⟩ trivial (by kernel_rfl) rfl (by kernel_rfl) rfl rfl rfl ?_
  rw [vc56]
  try simp only [splitB_iff, -eq_self]
  refine ⟨hl, fun h => ?_, fun h => ?_⟩
  · have h := bneZ.1 h
    rw [decide_eq_false (fun k => h k.1)]
    exact ⟨rfl, rfl, trivial⟩
  · have h := bneF.1 h
    refine ⟨(chkPt_zero.1 h).1, ?_, h.symm, trivial⟩
    rw [Bool.eq_iff_iff]
    simp [h]
theorem so56_ : SpecOk P1 gl1 56 sp56 := by
  intro vs ps r h hp
  simp only [sp56] at h
  split at h
  · cases h; exact fn56 _ _ _ (hp _ (.head _))
  · cases h
theorem so56 : Sp1 56 sp56 := ⟨so56_, Proofs.Tryz.f56, _, by kernel_rfl, rfl, by kernel_rfl⟩
theorem fn57 (y u v : List Nat) (hl : y.length ≤ 1000000000) : Fn P1 gl1 57 [ptV y u v] (.tup [fV (if chkPt y u v = 0 then smp ((unevI (sixs y) + 1) / 2) else 0), iV (chkPt y u v)]) true := by
  refine Fn.flat ?_ rfl
  refine fn_of false [(26, sp26), (128, sp128), (110, sp110)] [] h0 0 Proofs.Tryz.f57 ⟨so26, so128, so110, trivial⟩ trivial (by kernel_rfl) rfl (by kernel_rfl) rfl rfl rfl ?_
  rw [vc57]
  try simp only [splitB_iff, -eq_self]
  refine ⟨hl, fun h => ?_, fun h => ?_⟩
  · have h := bneZ.1 h
    rw [if_neg h]
    exact ⟨rfl, rfl, trivial⟩
  · have h := bneF.1 h
    rw [if_pos h]
    have hs := (chkPt_zero.1 h).1
    have hb := unevI_bd (bd_sixs (chkSig_zero.1 hs).2.2)
    simp only [fits, -eq_self]
    exact ⟨hs, by omega, by omega, by omega, rfl, h.symm, trivial⟩
theorem so57_ : SpecOk P1 gl1 57 sp57 := by
  intro vs ps r h hp
  simp only [sp57] at h
  split at h
  · cases h; exact fn57 _ _ _ (hp _ (.head _))
  · cases h
theorem so57 : Sp1 57 sp57 := ⟨so57_, Proofs.Tryz.f57, _, by kernel_rfl, rfl, by kernel_rfl⟩
theorem fn134 (l : List Int) (hl : 0 < l.length ∧ l.length ≤ 1000000000) : Fn P1 gl1 134 [.one (.sl (.int .i64) l)] (.val (iV (mxTo l l.length))) true := by
  refine Fn.flat ?_ rfl
  refine fn_of false [] [] h128 0 Proofs.Tryz.f134 trivial trivial (by kernel_rfl) rfl (by kernel_rfl) rfl rfl rfl ?_
  rw [vc134]
  try simp only [splitB_iff, -eq_self]
  refine ⟨fun h => ?_, fun h => ⟨by omega, ⟨1, by omega, rfl, ?_, rfl, trivial⟩, fun g hg => ⟨fun hlt => ?_, fun hge => ?_⟩⟩⟩
  · have h : (l.length : Int) < 1 := of_decide_eq_true h
    omega
  · show _ = max (List.getD l 0 0) (List.getD l 0 0)
    omega
  · have hlt : g < l.length := by simpa using hlt
    exact ⟨by omega, by simp only [fits]; omega, g + 1, ⟨by omega, by omega⟩, by omega, by simp, rfl, rfl, trivial⟩
  · have hge : ¬ g < l.length := by simpa using hge
    have e : g = l.length := by omega
    subst e
    exact ⟨rfl, trivial⟩
theorem so134_ : SpecOk P1 gl1 134 sp134 := by
  intro vs ps r h hp
  simp only [sp134] at h
  split at h
  · cases h; exact fn134 _ (hp _ (.head _))
  · cases h
theorem so134 : Sp1 134 sp134 := ⟨so134_, Proofs.Tryz.f134, _, by kernel_rfl, rfl, by kernel_rfl⟩
theorem fn129 (a b : List Nat) (ha : OkS a) (hb : OkS b) (hl : a.length ≤ 1000) (hm : b.length = a.length) : Fn P1 gl1 129 [.one (.sl (.flt .f32) a), .one (.sl (.flt .f32) b)] (.val (iV (farN (sixs a) (sixs b)))) true := by
  refine Fn.flat ?_ rfl
  refine fn_of false [(108, sp108), (117, sp117), (173, sp173), (134, sp134)] [] h0 0 Proofs.Tryz.f129 ⟨so108, so117, so173, so134, trivial⟩ trivial (by kernel_rfl) rfl (by kernel_rfl) rfl rfl rfl ?_
  rw [vc129]
  try simp only [splitB_iff, -eq_self]
  have b1 := bd_sixs ha
  have b2 := bd_sixs hb
  rw [mxTo_comb]
  simp only [sixs_len, combI_len, List.length_append, List.length_cons, List.length_nil, room, -eq_self]
  exact ⟨by omega, ha, by omega, hb, by omega, by omega, bd_le b1 (by omega), bd_le b2 (by omega), by omega, by omega, rfl, trivial⟩
theorem so129_ : SpecOk P1 gl1 129 sp129 := by
  intro vs ps r h hp
  simp only [sp129] at h
  split at h
  · cases h; exact fn129 _ _ (hp _ (.head _)) (hp _ (.tail _ (.head _))) (hp _ (.tail _ (.tail _ (.head _)))) (hp _ (.tail _ (.tail _ (.tail _ (.head _)))))
  · cases h
theorem so129 : Sp1 129 sp129 := ⟨so129_, Proofs.Tryz.f129, _, by kernel_rfl, rfl, by kernel_rfl⟩
theorem fn58 (y u v y' u' v' : List Nat) (hl : y.length ≤ 1000000000) (hl' : y'.length ≤ 1000000000) : Fn P1 gl1 58 [ptV y u v, ptV y' u' v'] (.tup [.agg [.arr 2 (.flt .f32) (difP y u v y' u' v')], iV (difE y u v y' u' v')]) true := by
  refine Fn.flat ?_ rfl
  refine fn_of false [(26, sp26), (95, sp95), (103, sp103), (129, sp129), (130, sp130), (110, sp110)] [] h0 0 Proofs.Tryz.f58 ⟨so26, so95, so103, so129, so130, so110, trivial⟩ trivial (by kernel_rfl) rfl (by kernel_rfl) rfl rfl rfl ?_
  rw [vc58]
  try simp only [splitB_iff, -eq_self]
  refine ⟨hl, hl', by decide, fun h => ?_, fun h => ?_⟩
  · have h := bneZ.1 h
    have e : difE y u v y' u' v' = first [chkPt y u v, chkPt y' u' v'] := by unfold difE; rw [if_neg h]
    unfold difP
    rw [e, if_neg h]
    exact ⟨rfl, rfl, trivial⟩
  · have h := bneF.1 h
    have hz := first_zero.1 h
    obtain ⟨p1, p2, p3, p4, p5⟩ := chkPt_zero.1 (hz _ (.head _))
    obtain ⟨q1, q2, q3, q4, q5⟩ := chkPt_zero.1 (hz _ (.tail _ (.head _)))
    obtain ⟨a1, a2, a3⟩ := chkSig_zero.1 p1
    obtain ⟨b1, b2, b3⟩ := chkSig_zero.1 q1
    refine ⟨fun k => ?_, fun k => ?_⟩
    · have k : ¬ (y.length : Int) = (y'.length : Int) := bne_iff_ne.1 k
      have e : difE y u v y' u' v' = 2 := by unfold difE; rw [if_pos h, if_neg (by omega)]
      unfold difP
      rw [e]
      exact ⟨rfl, rfl, trivial⟩
    · have k : (y.length : Int) = (y'.length : Int) := bne_eq_false_iff_eq.1 k
      have f1 := farN_bd (bd_sixs a3) (bd_sixs b3)
      have f2 := farN_bd (bd_sixs p4) (bd_sixs q4)
      have f3 := farN_bd (bd_sixs p5) (bd_sixs q5)
      have ed : difE y u v y' u' v' = if farN (sixs y) (sixs y') ≤ 16384 ∧ max (farN (sixs u) (sixs u')) (farN (sixs v) (sixs v')) ≤ 16384 then 0 else 4 := by unfold difE; rw [if_pos h, if_pos (by omega)]
      refine ⟨a3, b3, by omega, by omega, p4, q4, by omega, by omega, p5, q5, by omega, by omega, fun g => ?_, fun g => ?_⟩
      · have e : difE y u v y' u' v' = 4 := by
          rw [ed, if_neg]
          intro hh
          have g1 := lgI_false (n := farN (sixs y) (sixs y')).2 (by omega)
          have g2 := lgI_false (n := max (farN (sixs u) (sixs u')) (farN (sixs v) (sixs v'))).2 (by omega)
          rw [g1, g2] at g
          cases g
        unfold difP
        rw [e]
        exact ⟨rfl, rfl, trivial⟩
      · rw [bcond_l, Bool.or_eq_false_iff] at g
        have g1 := lgI_false.1 g.1
        have g2 := lgI_false.1 g.2
        have e : difE y u v y' u' v' = 0 := by rw [ed, if_pos (by omega)]
        unfold difP
        rw [e, if_pos rfl]
        exact ⟨by omega, by omega, rfl, rfl, trivial⟩
theorem so58_ : SpecOk P1 gl1 58 sp58 := by
  intro vs ps r h hp
  simp only [sp58] at h
  split at h
  · cases h; exact fn58 _ _ _ _ _ _ (hp _ (.head _)) (hp _ (.tail _ (.head _)))
  · cases h
theorem so58 : Sp1 58 sp58 := ⟨so58_, Proofs.Tryz.f58, _, by kernel_rfl, rfl, by kernel_rfl⟩
theorem fn59 (y u v : List Nat) (h : chkSig y = 0) : Fn P1 gl1 59 [ptV y u v] (.val (bV (decide (unevI (sixs y) = 0)))) true := by
  refine Fn.flat ?_ rfl
  refine fn_of false [] [] h128 0 Proofs.Tryz.f59 trivial trivial (by kernel_rfl) rfl (by kernel_rfl) rfl rfl rfl ?_
  rw [vc59]
  try simp only [splitB_iff, -eq_self]
  obtain ⟨k1, k2, k3⟩ := chkSig_zero.1 h
  refine ⟨⟨0, ⟨by omega, fun j hj => absurd hj (by omega)⟩, rfl, rfl, rfl, rfl, trivial⟩, fun g hg => ⟨fun hlt => ?_, fun hge => ?_⟩⟩
  · have hlt : g < y.length := by simpa using hlt
    have e1 : Int.toNat ((g : Int) + 2) = g + 2 := by omega
    rw [e1]
    refine ⟨by omega, fun _ => by omega, fun _ => by simp only [fits]; omega, fun k => by have := of_decide_eq_true k; omega, fun k => ?_, fun k => ?_⟩
    · rw [bcond_r, Bool.and_eq_true] at k
      have k4 := of_decide_eq_true k.1
      have hne : Op.floatEq .f32 (List.getD y g 0) (List.getD y (g + 2) 0) = false := by
        have := k.2
        unfold Op.floatEq
        revert this
        unfold bne
        cases (Ieee.Format.order (FloatKind.format FloatKind.f32) (List.getD y g 0) (List.getD y (g + 2) 0) == some Ordering.eq) <;> simp
      rw [eq_six (k3 _ (getD_mem' hlt)) (k3 _ (getD_mem' (by omega)))] at hne
      have hne := of_decide_eq_false hne
      rw [decide_eq_false]
      · exact ⟨rfl, trivial⟩
      · intro hu
        unfold unevI at hu
        have := (maxTo_zero (unAt_nonneg _)).1 hu g (by rw [sixs_len]; exact hlt)
        unfold unAt at this
        rw [if_pos (by omega)] at this
        rw [sixs_get, sixs_get] at this
        unfold farI at this
        omega
    · refine ⟨by simp only [fits]; omega, g + 1, ⟨by omega, fun j hj => ?_⟩, by omega, by simp, rfl, rfl, rfl, trivial⟩
      by_cases e : j = g
      · subst e
        unfold unAt
        by_cases hm : j % 4 < 2
        · rw [if_pos hm]
          have hd : decide ((j : Int) % 4 < 2) = true := decide_eq_true (by omega)
          rw [hd, cond_true] at k
          have hne : Op.floatEq .f32 (List.getD y j 0) (List.getD y (j + 2) 0) = true := by
            unfold Op.floatEq
            revert k
            unfold bne
            cases (Ieee.Format.order (FloatKind.format FloatKind.f32) (List.getD y j 0) (List.getD y (j + 2) 0) == some Ordering.eq) <;> simp
          rw [eq_six (k3 _ (getD_mem' hlt)) (k3 _ (getD_mem' (by omega)))] at hne
          have hne := of_decide_eq_true hne
          rw [sixs_get, sixs_get, hne]
          unfold farI
          omega
        · rw [if_neg hm]
      · exact hg.2 j (by omega)
  · have hge : ¬ g < y.length := by simpa using hge
    rw [decide_eq_true]
    · exact ⟨rfl, trivial⟩
    · unfold unevI
      exact (maxTo_zero (unAt_nonneg _)).2 fun j hj => hg.2 j (by rw [sixs_len] at hj; omega)
theorem so59_ : SpecOk P1 gl1 59 sp59 := by
  intro vs ps r h hp
  simp only [sp59] at h
  split at h
  · cases h; exact fn59 _ _ _ (hp _ (.head _))
  · cases h
theorem so59 : Sp1 59 sp59 := ⟨so59_, Proofs.Tryz.f59, _, by kernel_rfl, rfl, by kernel_rfl⟩
theorem fn60 (y u v : List Nat) (h : chkSig y = 0) : Fn P1 gl1 60 [ptV y u v] (.val (fV (smp ((unevI (sixs y) + 1) / 2)))) true := by
  refine Fn.flat ?_ rfl
  refine fn_of false [(100, sp100), (131, sp131)] [] h128 0 Proofs.Tryz.f60 ⟨so100, so131, trivial⟩ trivial (by kernel_rfl) rfl (by kernel_rfl) rfl rfl rfl ?_
  rw [vc60]
  try simp only [splitB_iff, -eq_self]
  obtain ⟨k1, k2, k3⟩ := chkSig_zero.1 h
  have hb := bd_sixs k3
  simp only [sixs_len, fits, -eq_self]
  refine ⟨by omega, k3, ⟨0, Nat.zero_le _, rfl, rfl, rfl, rfl, rfl, rfl, trivial⟩, fun g hg => ⟨fun hlt => ?_, fun hge => ?_⟩⟩
  · have hlt : g < y.length := by simpa using hlt
    have e1 : Int.toNat ((g : Int) + 2) = g + 2 := by omega
    rw [e1]
    have a0 := bd_get hb (i := g) (by omega)
    have a1 := bd_get hb (i := g + 2) (by omega)
    have m0 := maxTo_nonneg (unAt (sixs y)) g
    refine ⟨by omega, fun k => ?_, fun k => ?_⟩
    · have k := of_decide_eq_true k
      refine ⟨by omega, by omega, by omega, by omega, by omega, by omega, by omega, by omega, by omega, by omega, by omega, by omega, by omega, g + 1, hlt, by omega, by simp, ?_, rfl, rfl, rfl, rfl, trivial⟩
      show max (max (maxTo (unAt (sixs y)) g) _) _ = max (maxTo (unAt (sixs y)) g) (unAt (sixs y) g)
      have : unAt (sixs y) g = farI (List.getD (sixs y) g 0) (List.getD (sixs y) (g + 2) 0) := by unfold unAt; rw [if_pos (by omega)]
      rw [this]
      unfold farI
      omega
    · have k := of_decide_eq_false k
      refine ⟨by omega, g + 1, hlt, by omega, by simp, ?_, rfl, rfl, rfl, rfl, trivial⟩
      show _ = max (maxTo (unAt (sixs y)) g) (unAt (sixs y) g)
      have : unAt (sixs y) g = 0 := by unfold unAt; rw [if_neg (by omega)]
      rw [this]
      omega
  · have hg : g ≤ y.length := hg
    have hge : ¬ g < y.length := by simpa using hge
    have e : g = y.length := by omega
    subst e
    have hu := unevI_bd hb
    have eu : maxTo (unAt (sixs y)) y.length = unevI (sixs y) := by unfold unevI; rw [sixs_len]
    rw [eu]
    exact ⟨by omega, by omega, by omega, rfl, trivial⟩
theorem so60_ : SpecOk P1 gl1 60 sp60 := by
  intro vs ps r h hp
  simp only [sp60] at h
  split at h
  · cases h; exact fn60 _ _ _ (hp _ (.head _))
  · cases h
theorem so60 : Sp1 60 sp60 := ⟨so60_, Proofs.Tryz.f60, _, by kernel_rfl, rfl, by kernel_rfl⟩
theorem fn132 (a b : List Nat) (ha : OkS a) (hb : OkS b) (hl : a.length ≤ 1000) (hm : b.length = a.length) : Fn P1 gl1 132 [.one (.sl (.flt .f32) a), .one (.sl (.flt .f32) b)] (.val (iV (farN (sixs a) (sixs b)))) true := by
  refine Fn.flat ?_ rfl
  refine fn_of false [(100, sp100)] [] h128 0 Proofs.Tryz.f132 ⟨so100, trivial⟩ trivial (by kernel_rfl) rfl (by kernel_rfl) rfl rfl rfl ?_
  rw [vc132]
  try simp only [splitB_iff, -eq_self]
  have b1 := bd_sixs ha
  have b2 := bd_sixs hb
  simp only [sixs_len, fits, -eq_self]
  refine ⟨by omega, ha, by omega, hb, ⟨0, Nat.zero_le _, rfl, rfl, rfl, rfl, trivial⟩, fun g hg => ⟨fun hlt => ?_, fun hge => ?_⟩⟩
  · have hlt : g < a.length := by simpa using hlt
    have a0 := bd_get b1 (i := g) (by omega)
    have a1 := bd_get b2 (i := g) (by omega)
    refine ⟨by omega, by omega, by omega, by omega, by omega, by omega, by omega, by omega, by omega, by omega, by omega, g + 1, hlt, by omega, by simp, ?_, rfl, rfl, trivial⟩
    show max (max (maxTo (fun i => farI (List.getD (sixs a) i 0) (List.getD (sixs b) i 0)) g) _) _ = max (maxTo (fun i => farI (List.getD (sixs a) i 0) (List.getD (sixs b) i 0)) g) (farI (List.getD (sixs a) g 0) (List.getD (sixs b) g 0))
    unfold farI
    omega
  · have hg : g ≤ a.length := hg
    have hge : ¬ g < a.length := by simpa using hge
    have e : g = a.length := by omega
    subst e
    unfold farN
    rw [sixs_len]
    exact ⟨rfl, trivial⟩
theorem so132_ : SpecOk P1 gl1 132 sp132 := by
  intro vs ps r h hp
  simp only [sp132] at h
  split at h
  · cases h; exact fn132 _ _ (hp _ (.head _)) (hp _ (.tail _ (.head _))) (hp _ (.tail _ (.tail _ (.head _)))) (hp _ (.tail _ (.tail _ (.tail _ (.head _)))))
  · cases h
theorem so132 : Sp1 132 sp132 := ⟨so132_, Proofs.Tryz.f132, _, by kernel_rfl, rfl, by kernel_rfl⟩
theorem fn61 (y u v y' u' v' : List Nat) (h1 : chkPt y u v = 0) (h2 : chkPt y' u' v' = 0) : Fn P1 gl1 61 [ptV y u v, ptV y' u' v'] (.tup [.agg [.arr 2 (.flt .f32) (difP y u v y' u' v')], iV (difE y u v y' u' v')]) true := by
  refine Fn.flat ?_ rfl
  refine fn_of false [(132, sp132), (131, sp131)] [] h0 0 Proofs.Tryz.f61 ⟨so132, so131, trivial⟩ trivial (by kernel_rfl) rfl (by kernel_rfl) rfl rfl rfl ?_
  rw [vc61]
  try simp only [splitB_iff, -eq_self]
  have h : first [chkPt y u v, chkPt y' u' v'] = 0 := by rw [h1, h2]; rfl
  obtain ⟨p1, p2, p3, p4, p5⟩ := chkPt_zero.1 h1
  obtain ⟨q1, q2, q3, q4, q5⟩ := chkPt_zero.1 h2
  obtain ⟨a1, a2, a3⟩ := chkSig_zero.1 p1
  obtain ⟨b1, b2, b3⟩ := chkSig_zero.1 q1
  refine ⟨fun k => ?_, fun k => ?_⟩
  · have k : ¬ (y.length : Int) = (y'.length : Int) := bne_iff_ne.1 k
    have e : difE y u v y' u' v' = 2 := by unfold difE; rw [if_pos h, if_neg (by omega)]
    unfold difP
    rw [e]
    exact ⟨rfl, rfl, trivial⟩
  · have k : (y.length : Int) = (y'.length : Int) := bne_eq_false_iff_eq.1 k
    have f1 := farN_bd (bd_sixs a3) (bd_sixs b3)
    have f2 := farN_bd (bd_sixs p4) (bd_sixs q4)
    have f3 := farN_bd (bd_sixs p5) (bd_sixs q5)
    have ed : difE y u v y' u' v' = if farN (sixs y) (sixs y') ≤ 16384 ∧ max (farN (sixs u) (sixs u')) (farN (sixs v) (sixs v')) ≤ 16384 then 0 else 4 := by unfold difE; rw [if_pos h, if_pos (by omega)]
    rw [bcond_l]
    refine ⟨a3, b3, by omega, by omega, p4, q4, by omega, by omega, p5, q5, by omega, by omega, fun g => ?_, fun g => ?_⟩
    · have g : 16384 < farN (sixs y) (sixs y') ∨ 16384 < max (farN (sixs u) (sixs u')) (farN (sixs v) (sixs v')) := by
        rw [Bool.or_eq_true] at g
        exact g.imp of_decide_eq_true of_decide_eq_true
      have e : difE y u v y' u' v' = 4 := by rw [ed, if_neg (by omega)]
      unfold difP
      rw [e]
      exact ⟨rfl, rfl, trivial⟩
    · rw [Bool.or_eq_false_iff] at g
      have g1 := of_decide_eq_false g.1
      have g2 := of_decide_eq_false g.2
      have e : difE y u v y' u' v' = 0 := by rw [ed, if_pos (by omega)]
      unfold difP
      rw [e, if_pos rfl]
      exact ⟨by omega, by omega, rfl, rfl, trivial⟩
theorem so61_ : SpecOk P1 gl1 61 sp61 := by
  intro vs ps r h hp
  simp only [sp61] at h
  split at h
  · cases h; exact fn61 _ _ _ _ _ _ (hp _ (.head _)) (hp _ (.tail _ (.head _)))
  · cases h
theorem so61 : Sp1 61 sp61 := ⟨so61_, Proofs.Tryz.f61, _, by kernel_rfl, rfl, by kernel_rfl⟩
end Go.Sx

/- Plain functions of composite: bursts, aligned and clamped signals. -/
namespace Go.Sx.U
def phI (b : List Nat) : Int × Int := (six (List.getD b 0 0) - six (List.getD b 2 0), six (List.getD b 1 0) - six (List.getD b 3 0))
def burZ (b : List Nat) : Int × Int := if chkSs b = 0 then phI b else (0, 0)
def four (z : Int × Int) : List Int := [z.1, z.2, -z.1, -z.2]
def fnd (l : List Int) (v : Int) : Nat → Int
  | 0 => -1
  | i + 1 => if fnd l v i = -1 then (if List.getD l i 0 = v then (i : Int) else -1) else fnd l v i
def amax (l : List Int) : Nat → Nat
  | 0 => 0
  | i + 1 => if List.getD l (amax l i) 0 < List.getD l i 0 then i else amax l i
theorem amax_lt (l : List Int) : ∀ i, 0 < i → amax l i < i
  | 0, h => absurd h (by omega)
  | i + 1, _ => by
    unfold amax
    split
    · omega
    · by_cases h : i = 0
      · subst h; simp [amax]
      · have := amax_lt l i (by omega); omega
theorem mx_amax (l : List Int) : ∀ i, 0 < i → mxTo l i = List.getD l (amax l i) 0
  | 0, h => absurd h (by omega)
  | i + 1, _ => by
    unfold mxTo amax
    by_cases h : i = 0
    · subst h
      have e : mxTo l 0 = List.getD l 0 0 := rfl
      have e2 : amax l 0 = 0 := rfl
      rw [e, e2, ite_self]
      omega
    · rw [mx_amax l i (by omega)]
      split <;> omega
theorem amax_ge (l : List Int) : ∀ i j, j < i → List.getD l j 0 ≤ List.getD l (amax l i) 0
  | 0, j, h => absurd h (by omega)
  | i + 1, j, h => by
    unfold amax
    by_cases e : j = i
    · subst e; split <;> omega
    · have := amax_ge l i j (by omega)
      split <;> omega
theorem amax_first (l : List Int) : ∀ i j, j < amax l i → List.getD l j 0 < List.getD l (amax l i) 0
  | 0, j, h => absurd h (by simp [amax])
  | i + 1, j, h => by
    by_cases hk : List.getD l (amax l i) 0 < List.getD l i 0
    · have e : amax l (i + 1) = i := by
        show (if _ then _ else _) = _
        rw [if_pos hk]
      rw [e] at h ⊢
      have := amax_ge l i j h
      omega
    · have e : amax l (i + 1) = amax l i := by
        show (if _ then _ else _) = _
        rw [if_neg hk]
      rw [e] at h ⊢
      exact amax_first l i j h
theorem fnd_none {l : List Int} {v : Int} : ∀ {i : Nat}, (∀ j, j < i → List.getD l j 0 ≠ v) → fnd l v i = -1
  | 0, _ => rfl
  | i + 1, h => by
    unfold fnd
    rw [if_pos (fnd_none fun j hj => h j (by omega)), if_neg (h i (by omega))]
theorem fnd_at {l : List Int} {v : Int} {k : Nat} (h1 : ∀ j, j < k → List.getD l j 0 ≠ v) (h2 : List.getD l k 0 = v) : ∀ {i : Nat}, k < i → fnd l v i = (k : Int)
  | 0, h => absurd h (by omega)
  | i + 1, h => by
    unfold fnd
    by_cases e : k = i
    · subst e
      rw [if_pos (fnd_none h1), if_pos h2]
    · rw [fnd_at h1 h2 (i := i) (by omega), if_neg (by omega)]
theorem fnd_ne {l : List Int} {v : Int} : ∀ {i j : Nat}, j < i → List.getD l j 0 = v → fnd l v i ≠ -1
  | 0, _, h, _ => absurd h (by omega)
  | i + 1, j, h, hv => by
    unfold fnd
    by_cases k : fnd l v i = -1
    · rw [if_pos k]
      by_cases e : j = i
      · subst e; rw [if_pos hv]; omega
      · exact absurd k (fnd_ne (by omega) hv)
    · rw [if_neg k]; exact k
theorem fnd_mx (l : List Int) (i : Nat) (h : 0 < i) : fnd l (mxTo l i) i = (amax l i : Int) := by
  refine fnd_at (fun j hj => ?_) (mx_amax l i h).symm (amax_lt l i h)
  have := amax_first l i j hj
  rw [mx_amax l i h]
  omega
def lckB (b : List Nat) (least : Int) : Int := first [chkSs b, within least 1 1048576]
def lckN (z : Int × Int) (least : Int) : Int := if mxTo (four z) 4 < least then 0 else (amax (four z) 4 : Int)
def lckE (z : Int × Int) (least : Int) : Int := if mxTo (four z) 4 < least then 7 else 0
def lkN (b : List Nat) (least : Int) : Int := if lckB b least = 0 then lckN (phI b) least else 0
def lkE (b : List Nat) (least : Int) : Int := if lckB b least = 0 then lckE (phI b) least else lckB b least
theorem take_all {α : Type} {l : List α} {n : Nat} (h : l.length = n) : List.take n l = l := List.take_of_length_le (by omega)
theorem ph_bd {b : List Nat} (h : OkS b) (hl : b.length = 4) : (-32768 ≤ (phI b).1 ∧ (phI b).1 ≤ 32768) ∧ (-32768 ≤ (phI b).2 ∧ (phI b).2 ≤ 32768) := by
  have k : ∀ i, i < 4 → -16384 ≤ six (List.getD b i 0) ∧ six (List.getD b i 0) ≤ 16384 := fun i hi => chk_six (h _ (getD_mem' (by omega)))
  have := k 0 (by omega)
  have := k 1 (by omega)
  have := k 2 (by omega)
  have := k 3 (by omega)
  unfold phI
  simp only
  omega
def algL (l : List Nat) (n : Nat) : List Nat := List.take ((l.drop n).length / 4 * 4) (l.drop n)
def algE (l : List Nat) (late : Int) : Int := first [chkSig l, within late 0 3]
def algN (l : List Nat) (late : Int) : List Nat := if algE l late = 0 then algL l late.toNat else []
def smTo (l : List Int) (f : Nat) : Nat → Int
  | 0 => 0
  | i + 1 => smTo l f i + List.getD l (f + i) 0
theorem smTo_bd {l : List Int} {B : Int} (h : Bd B l) (hB : 0 ≤ B) (f : Nat) : ∀ i : Nat, -((i : Int) * B) ≤ smTo l f i ∧ smTo l f i ≤ (i : Int) * B
  | 0 => by simp [smTo]
  | i + 1 => by
    have ih := smTo_bd h hB f i
    have hb := bd_get h (i := f + i) hB
    have e : ((i + 1 : Nat) : Int) * B = (i : Int) * B + B := by
      rw [Int.natCast_add, Int.add_mul]; simp
    rw [e]
    unfold smTo
    omega
def clBy (l : List Nat) (f t : Int) (lev : Nat) : Int := six lev - roundI (smTo (sixs l) f.toNat (t - f).toNat) (t - f)
def clI (l : List Nat) (f t : Int) (lev : Nat) : List Int := l.map fun b => six b + clBy l f t lev
def spE (l : List Nat) (f t : Int) : Int := if 0 ≤ f ∧ f < t ∧ t ≤ l.length then 0 else 14
def clB (l : List Nat) (f t : Int) (lev : Nat) : Int := first [chkSig l, spE l f t, chkS lev]
def clE (l : List Nat) (f t : Int) (lev : Nat) : Int := if clB l f t lev = 0 then lgE (clI l f t lev) else clB l f t lev
def clN (l : List Nat) (f t : Int) (lev : Nat) : List Nat := if clB l f t lev = 0 then smpsN (clI l f t lev) else []
theorem clB_zero {l : List Nat} {f t : Int} {lev : Nat} : clB l f t lev = 0 ↔ chkSig l = 0 ∧ (0 ≤ f ∧ f < t ∧ t ≤ l.length) ∧ chkS lev = 0 := by
  unfold clB
  rw [first_zero]
  have e : spE l f t = 0 ↔ (0 ≤ f ∧ f < t ∧ t ≤ l.length) := by
    unfold spE
    split
    · rename_i h; simp [h]
    · rename_i h; simp only [h, iff_false]; decide
  simp [e]
theorem sp_first (l : List Nat) (f t : Int) : whenE (bif bif decide (f < 0) then true else decide (t ≤ f) then true else decide ((l.length : Int) < t)) 14 = spE l f t := by
  unfold spE whenE
  by_cases h1 : f < 0
  · have : ¬ (0 ≤ f ∧ f < t ∧ t ≤ (l.length : Int)) := by omega
    rw [if_neg this]; simp [h1]
  · by_cases h2 : t ≤ f
    · have : ¬ (0 ≤ f ∧ f < t ∧ t ≤ (l.length : Int)) := by omega
      rw [if_neg this]; simp [h1, h2]
    · by_cases h3 : (l.length : Int) < t
      · have : ¬ (0 ≤ f ∧ f < t ∧ t ≤ (l.length : Int)) := by omega
        rw [if_neg this]; simp [h1, h2, h3]
      · have : (0 ≤ f ∧ f < t ∧ t ≤ (l.length : Int)) := by omega
        rw [if_pos this]; simp [h1, h2, h3]
theorem clI_tab (l : List Nat) (f t : Int) (lev : Nat) : clI l f t lev = tab l.length fun n => List.getD (sixs l) n 0 + six lev - roundI (smTo (sixs l) f.toNat (t - f).toNat) (t - f) := by
  unfold clI
  rw [map_tab l 0]
  refine tab_ext fun i _ => ?_
  rw [sixs_get]
  unfold clBy
  omega
theorem clI_len (l : List Nat) (f t : Int) (lev : Nat) : (clI l f t lev).length = l.length := by unfold clI; rw [List.length_map]
end Go.Sx.U

/- Plain functions and hints. -/
namespace Go.Sx
open U
@[reducible] def b4V (b : List Nat) : V := .agg [.arr 4 (.flt .f32) b]
def intCh : List Ch → Option Int
  | [.one (.int .i64 n)] => some n
  | _ => none
def h63 : Hints := ⟨fun f k s => match f, k with
  | 135, 2 => match listAs s 0 (.int .i64), intOfT s 1 with
    | some l, some v => some ⟨Nat, fun i => s.at [0, 1, 7] [tI 8 i], fun i => i ≤ List.length l ∧ fnd l v i = -1, fun i => List.length l - i⟩
    | _, _ => none
  | 66, 5 => match listAs s 7 (.int .i64) with
    | some l => some ⟨Nat, fun i => s.at [1, 7] [tI 9 i, tI 8 (amax l i)], fun i => 1 ≤ i ∧ i ≤ 4, fun i => 4 - i⟩
    | none => none
  | 64, 2 => match listAs s 0 (.flt .f32) with
    | some xs => some ⟨Nat, fun i => s.at [0] [tI 3 i], fun i => i ≤ List.length xs ∧ chkSs xs = first (List.drop i (List.map chkS xs)), fun i => List.length xs - i⟩
    | _ => none
  | _, _ => none, 0⟩
def spanT (s : St) (t : Nat) : Option (Int × Int) := match ptrId s t with
  | some b => match lookO s.ob b with
    | some (.box [.one (.int .i64 f), .one (.int .i64 t)]) => some (f, t)
    | _ => none
  | none => none
def h68 : Hints := ⟨fun f k s => match f, k with
  | 68, 6 => match listAs s 0 (.flt .f32), spanT s 4 with
    | some l, some (f, t) => some ⟨Nat, fun i => s.at [0, 2, 4, 45, 46] [tI 47 i, tI 9 (smTo (sixs l) f.toNat i)], fun i => i ≤ (t - f).toNat, fun i => (t - f).toNat - i⟩
    | _, _ => none
  | 139, 3 => match boxS s with
    | [_, (_, cb)] => match intCh cb with
      | some n => hMapG (.flt .f32) (.int .i64) (fun b => six b + n) 8 10 5 [1, 9] s
      | none => none
    | _ => none
  | 71, 3 => match listAs s 8 (.int .i64), spanT s 4 with
    | some l, some (f, t) => some ⟨Nat, fun i => s.at [2, 4, 8] [tI 10 (f + (i : Int)), tI 9 (smTo l f.toNat i)], fun i => i ≤ (t - f).toNat, fun i => (t - f).toNat - i⟩
    | _, _ => none
  | 71, 8 => match ownM s 8, listAs s 8 (.int .i64), lookT s.tm 2, intOfT s 11 with
    | some id, some l, some (.val (.one (.flt .f32 lev))), some m => some ⟨Nat, fun i => ⟨tI 12 i :: keepT [2, 8, 11] s.tm, (id, some (.row (.int .i64) (putTo 0 l (fun n => List.getD l n 0 + six lev - m) i))) :: dropO s [id], s.nx, s.lr⟩, fun i => i ≤ List.length l, fun i => List.length l - i⟩
    | _, _, _, _ => none
  | 70, 3 => match listAs s 0 (.flt .f32), intOfT s 1 with
    | some l, some n => some ⟨Nat, fun i => ⟨[tI 6 (n + (i : Int)), (5, .val (.one (.own s.nx)))] ++ keepT [0] s.tm, (s.nx, some (.row (.flt .f32) (List.take i (List.drop n.toNat l)))) :: lessO s [5], s.nx + 1, s.lr⟩, fun i => i ≤ List.length l - n.toNat, fun i => List.length l - n.toNat - i⟩
    | _, _ => none
  | _, _ => none, 0⟩
@[reducible] noncomputable def fb139 : Nat × Func := (139, Proofs.Tryz.f139)
@[reducible] noncomputable def fb140 : Nat × Func := (140, Proofs.Tryz.f140)
end Go.Sx
namespace Go.Sx
open U
def sp133 : FSpec := ⟨fun vs => match vs with
  | [.agg [.arr 4 (.flt .f32) b]] => some ([List.length b = 4, OkS b], .val (gsV (phI b)))
  | _ => none, true⟩
def sp62 : FSpec := ⟨fun vs => match vs with
  | [.agg [.arr 4 (.flt .f32) b]] => some ([List.length b = 4], .tup [gsV (burZ b), iV (chkSs b)])
  | _ => none, true⟩
def sp135 : FSpec := ⟨fun vs => match vs with
  | [.one (.sl (.int .i64) l), .one (.int .i64 v)] => some ([List.length l ≤ 1000000000], .val (iV (fnd l v (List.length l))))
  | _ => none, true⟩
def sp63 : FSpec := ⟨fun vs => match vs with
  | [.agg [.arr 4 (.flt .f32) b], .one (.int .i64 least)] => some ([List.length b = 4], .tup [iV (lkN b least), iV (lkE b least)])
  | _ => none, true⟩
def sp64 : FSpec := ⟨fun vs => match vs with
  | [.one (.sl (.flt .f32) l)] => some ([List.length l ≤ 1000000], .val (iV (chkSs l)))
  | _ => none, true⟩
def sp65 : FSpec := ⟨fun vs => match vs with
  | [.agg [.arr 4 (.flt .f32) b]] => some ([List.length b = 4, OkS b], .val (gsV (phI b)))
  | _ => none, true⟩
def sp66 : FSpec := ⟨fun vs => match vs with
  | [.agg [.arr 4 (.flt .f32) b], .one (.int .i64 least)] => some ([List.length b = 4, OkS b], .tup [iV (lckN (phI b) least), iV (lckE (phI b) least)])
  | _ => none, true⟩
def sp67 : FSpec := ⟨fun vs => match vs with
  | [.one (.sl (.flt .f32) l), .one (.int .i64 late)] => some ([], .tup [.one (.frs (.flt .f32) (algN l late)), iV (algE l late)])
  | _ => none, true⟩
def sp70 : FSpec := ⟨fun vs => match vs with
  | [.one (.sl (.flt .f32) l), .one (.int .i64 late)] => some ([algE l late = 0], .val (.one (.sl (.flt .f32) (algL l late.toNat))))
  | _ => none, false⟩
def sp68 : FSpec := ⟨fun vs => match vs with
  | [.one (.sl (.flt .f32) l), .agg [.one (.int .i64 f), .one (.int .i64 t)], .one (.flt .f32 lev)] => some ([], .tup [.one (.frs (.flt .f32) (clN l f t lev)), iV (clE l f t lev)])
  | _ => none, true⟩
def sp71 : FSpec := ⟨fun vs => match vs with
  | [.one (.sl (.flt .f32) l), .agg [.one (.int .i64 f), .one (.int .i64 t)], .one (.flt .f32 lev)] => some ([clB l f t lev = 0], .tup [.one (.frs (.flt .f32) (smpsN (clI l f t lev))), iV (lgE (clI l f t lev))])
  | _ => none, true⟩
end Go.Sx

/- What the engine asks, written out (printed by a program). -/
namespace Go.Sx
open U
theorem vc133 (b : List Nat) : exF (env false [(137, sp137)] []) h0 0 133 Proofs.Tryz.f133 [b4V b] (.val (gsV (phI b))) = (((0 : Int) ≤ (0 : Int) ∧ (0 : Int) < (4 : Int)) ∧ (0 : Nat) < List.length b ∧ chkS (List.getD b (0 : Nat) (0 : Nat)) = (0 : Int) ∧ ((0 : Int) ≤ (2 : Int) ∧ (2 : Int) < (4 : Int)) ∧ (2 : Nat) < List.length b ∧ chkS (List.getD b (2 : Nat) (0 : Nat)) = (0 : Int) ∧ fits IntKind.i64 (six (List.getD b (0 : Nat) (0 : Nat)) - six (List.getD b (2 : Nat) (0 : Nat))) ∧ ((0 : Int) ≤ (1 : Int) ∧ (1 : Int) < (4 : Int)) ∧ (1 : Nat) < List.length b ∧ chkS (List.getD b (1 : Nat) (0 : Nat)) = (0 : Int) ∧ ((0 : Int) ≤ (3 : Int) ∧ (3 : Int) < (4 : Int)) ∧ (3 : Nat) < List.length b ∧ chkS (List.getD b (3 : Nat) (0 : Nat)) = (0 : Int) ∧ fits IntKind.i64 (six (List.getD b (1 : Nat) (0 : Nat)) - six (List.getD b (3 : Nat) (0 : Nat))) ∧ six (List.getD b (0 : Nat) (0 : Nat)) - six (List.getD b (2 : Nat) (0 : Nat)) = Prod.fst (phI b) ∧ six (List.getD b (1 : Nat) (0 : Nat)) - six (List.getD b (3 : Nat) (0 : Nat)) = Prod.snd (phI b) ∧ True) := by
  kernel_rfl
theorem vc62 (b : List Nat) : exF (env false [(105, sp105), (133, sp133)] []) h0 0 62 Proofs.Tryz.f62 [b4V b] (.tup [gsV (burZ b), iV (chkSs b)]) = (let q0 := (List.take (4 : Nat) b); ((0 : Int) ≤ (0 : Int) ∧ (0 : Int) ≤ (4 : Int) ∧ (4 : Int) ≤ (4 : Int)) ∧ List.length q0 = (4 : Nat) ∧ List.length q0 ≤ (1000000 : Nat) ∧ splitB (chkSs q0 != (0 : Int)) ((0 : Int) = (burZ b).1 ∧ (0 : Int) = (burZ b).2 ∧ chkSs q0 = chkSs b ∧ True) (List.length b = (4 : Nat) ∧ OkS b ∧ (phI b).1 = (burZ b).1 ∧ (phI b).2 = (burZ b).2 ∧ (0 : Int) = chkSs b ∧ True)) := by
  kernel_rfl
theorem vc135 (l : List Int) (v : Int) : exF (env false [] []) h63 0 135 Proofs.Tryz.f135 [.one (.sl (.int .i64) l), iV v] (.val (iV (fnd l v l.length))) = (let q0 := (↑(List.length l) : Int); (∃ (g : Nat), (g ≤ List.length l ∧ fnd l v g = (-1 : Int)) ∧ (0 : Int) = (↑g : Int) ∧ q0 = q0 ∧ l = l ∧ v = v ∧ True) ∧ ∀ (g : Nat), g ≤ List.length l ∧ fnd l v g = (-1 : Int) → splitB (decide ((↑g : Int) < q0)) (((0 : Int) ≤ (↑g : Int) ∧ (↑g : Int) < q0) ∧ splitB (v == List.getD l g (0 : Int)) ((↑g : Int) = fnd l v (List.length l) ∧ True) (fits IntKind.i64 ((↑g : Int) + (1 : Int)) ∧ ∃ (g' : Nat), (g' ≤ List.length l ∧ fnd l v g' = (-1 : Int)) ∧ List.length l - g' < List.length l - g ∧ (↑g : Int) + (1 : Int) = (↑g' : Int) ∧ q0 = q0 ∧ l = l ∧ v = v ∧ True)) ((-1 : Int) = fnd l v (List.length l) ∧ True)) := by
  kernel_rfl
theorem vc63 (b : List Nat) (least : Int) : exF (env false [(105, sp105), (96, sp96), (95, sp95), (133, sp133), (134, sp134), (135, sp135)] []) h0 0 63 Proofs.Tryz.f63 [b4V b, iV least] (.tup [iV (lkN b least), iV (lkE b least)]) = (let q0 := (List.take (4 : Nat) b); let q1 := ((0 : Int) = lkN b least ∧ (7 : Int) = lkE b least ∧ True); ((0 : Int) ≤ (0 : Int) ∧ (0 : Int) ≤ (4 : Int) ∧ (4 : Int) ≤ (4 : Int)) ∧ List.length q0 = (4 : Nat) ∧ List.length q0 ≤ (1000000 : Nat) ∧ (2 : Nat) ≤ (1000000000 : Nat) ∧ splitB (first [chkSs q0, within least (1 : Int) (1048576 : Int)] != (0 : Int)) ((0 : Int) = lkN b least ∧ first [chkSs q0, within least (1 : Int) (1048576 : Int)] = lkE b least ∧ True) (List.length b = (4 : Nat) ∧ OkS b ∧ splitB (eqT (Ty.pair (Ty.int IntKind.i64) (Ty.int IntKind.i64)) ((phI b).1, (phI b).2) ((0 : Int), (0 : Int))) q1 (fits IntKind.i64 (-(phI b).1) ∧ fits IntKind.i64 (-(phI b).2) ∧ ((0 : Nat) < (4 : Nat) ∧ (4 : Nat) ≤ (1000000000 : Nat)) ∧ splitB (decide (mxTo [(phI b).1, (phI b).2, -(phI b).1, -(phI b).2] (4 : Nat) < least)) q1 ((4 : Nat) ≤ (1000000000 : Nat) ∧ fnd [(phI b).1, (phI b).2, -(phI b).1, -(phI b).2] (mxTo [(phI b).1, (phI b).2, -(phI b).1, -(phI b).2] (4 : Nat)) (4 : Nat) = lkN b least ∧ (0 : Int) = lkE b least ∧ True)))) := by
  kernel_rfl
theorem vc64 (l : List Nat) : exF (env false [(69, sp69)] []) h63 0 64 Proofs.Tryz.f64 [.one (.sl (.flt .f32) l)] (.val (iV (chkSs l))) = ((∃ (g : Nat), (g ≤ List.length l ∧ chkSs l = first (List.drop g (List.map chkS l))) ∧ (0 : Int) = (↑g : Int) ∧ l = l ∧ True) ∧ ∀ (g : Nat), g ≤ List.length l ∧ chkSs l = first (List.drop g (List.map chkS l)) → splitB (decide ((↑g : Int) < (↑(List.length l) : Int))) (((0 : Int) ≤ (↑g : Int) ∧ (↑g : Int) < (↑(List.length l) : Int)) ∧ splitB (chkS (List.getD l g (0 : Nat)) != (0 : Int)) (chkS (List.getD l g (0 : Nat)) = chkSs l ∧ True) (fits IntKind.i64 ((↑g : Int) + (1 : Int)) ∧ ∃ (g' : Nat), (g' ≤ List.length l ∧ chkSs l = first (List.drop g' (List.map chkS l))) ∧ List.length l - g' < List.length l - g ∧ (↑g : Int) + (1 : Int) = (↑g' : Int) ∧ l = l ∧ True)) ((0 : Int) = chkSs l ∧ True)) := by
  kernel_rfl
theorem vc65 (b : List Nat) : exF (env false [(100, sp100)] []) h0 0 65 Proofs.Tryz.f65 [b4V b] (.val (gsV (phI b))) = (((0 : Int) ≤ (0 : Int) ∧ (0 : Int) ≤ (4 : Int) ∧ (4 : Int) ≤ (4 : Int)) ∧ List.length (List.take (4 : Nat) b) = (4 : Nat) ∧ List.length (List.take (4 : Nat) b) ≤ (1000000 : Nat) ∧ OkS (List.take (4 : Nat) b) ∧ ((0 : Int) ≤ (0 : Int) ∧ (0 : Int) < (↑(List.length (sixs (List.take (4 : Nat) b))) : Int)) ∧ (0 : Nat) < List.length (sixs (List.take (4 : Nat) b)) ∧ ((0 : Int) ≤ (2 : Int) ∧ (2 : Int) < (↑(List.length (sixs (List.take (4 : Nat) b))) : Int)) ∧ (2 : Nat) < List.length (sixs (List.take (4 : Nat) b)) ∧ fits IntKind.i64 (List.getD (sixs (List.take (4 : Nat) b)) (0 : Nat) (0 : Int) - List.getD (sixs (List.take (4 : Nat) b)) (2 : Nat) (0 : Int)) ∧ ((0 : Int) ≤ (1 : Int) ∧ (1 : Int) < (↑(List.length (sixs (List.take (4 : Nat) b))) : Int)) ∧ (1 : Nat) < List.length (sixs (List.take (4 : Nat) b)) ∧ ((0 : Int) ≤ (3 : Int) ∧ (3 : Int) < (↑(List.length (sixs (List.take (4 : Nat) b))) : Int)) ∧ (3 : Nat) < List.length (sixs (List.take (4 : Nat) b)) ∧ fits IntKind.i64 (List.getD (sixs (List.take (4 : Nat) b)) (1 : Nat) (0 : Int) - List.getD (sixs (List.take (4 : Nat) b)) (3 : Nat) (0 : Int)) ∧ List.getD (sixs (List.take (4 : Nat) b)) (0 : Nat) (0 : Int) - List.getD (sixs (List.take (4 : Nat) b)) (2 : Nat) (0 : Int) = Prod.fst (phI b) ∧ List.getD (sixs (List.take (4 : Nat) b)) (1 : Nat) (0 : Int) - List.getD (sixs (List.take (4 : Nat) b)) (3 : Nat) (0 : Int) = Prod.snd (phI b) ∧ True) := by
  kernel_rfl
theorem vc66 (b : List Nat) (least : Int) : exF (env false [(65, sp65)] []) h63 0 66 Proofs.Tryz.f66 [b4V b, iV least] (.tup [iV (lckN (phI b) least), iV (lckE (phI b) least)]) = (List.length b = (4 : Nat) ∧ OkS b ∧ fits IntKind.i64 ((0 : Int) - (phI b).1) ∧ fits IntKind.i64 ((0 : Int) - (phI b).2) ∧ (∃ (g : Nat), ((1 : Nat) ≤ g ∧ g ≤ (4 : Nat)) ∧ (1 : Int) = (↑g : Int) ∧ (0 : Int) = (↑(amax [(phI b).1, (phI b).2, (0 : Int) - (phI b).1, (0 : Int) - (phI b).2] g) : Int) ∧ least = least ∧ [(phI b).1, (phI b).2, (0 : Int) - (phI b).1, (0 : Int) - (phI b).2] = [(phI b).1, (phI b).2, (0 : Int) - (phI b).1, (0 : Int) - (phI b).2] ∧ (phI b).1 = (phI b).1 ∧ (phI b).2 = (phI b).2 ∧ b = b ∧ True) ∧ ∀ (g : Nat), let q0 := (amax [(phI b).1, (phI b).2, (0 : Int) - (phI b).1, (0 : Int) - (phI b).2] g); let q1 := ((0 : Int) ≤ (↑q0 : Int) ∧ (↑q0 : Int) < (4 : Int)); (1 : Nat) ≤ g ∧ g ≤ (4 : Nat) → splitB (decide ((↑g : Int) < (4 : Int))) (((0 : Int) ≤ (↑g : Int) ∧ (↑g : Int) < (4 : Int)) ∧ g < (4 : Nat) ∧ q1 ∧ amax [(phI b).1, (phI b).2, (0 : Int) - (phI b).1, (0 : Int) - (phI b).2] g < (4 : Nat) ∧ splitB (decide (List.getD [(phI b).1, (phI b).2, (0 : Int) - (phI b).1, (0 : Int) - (phI b).2] q0 (0 : Int) < List.getD [(phI b).1, (phI b).2, (0 : Int) - (phI b).1, (0 : Int) - (phI b).2] g (0 : Int))) (fits IntKind.i64 ((↑g : Int) + (1 : Int)) ∧ ∃ (g' : Nat), ((1 : Nat) ≤ g' ∧ g' ≤ (4 : Nat)) ∧ (4 : Nat) - g' < (4 : Nat) - g ∧ (↑g : Int) + (1 : Int) = (↑g' : Int) ∧ (↑g : Int) = (↑(amax [(phI b).1, (phI b).2, (0 : Int) - (phI b).1, (0 : Int) - (phI b).2] g') : Int) ∧ least = least ∧ [(phI b).1, (phI b).2, (0 : Int) - (phI b).1, (0 : Int) - (phI b).2] = [(phI b).1, (phI b).2, (0 : Int) - (phI b).1, (0 : Int) - (phI b).2] ∧ (phI b).1 = (phI b).1 ∧ (phI b).2 = (phI b).2 ∧ b = b ∧ True) (fits IntKind.i64 ((↑g : Int) + (1 : Int)) ∧ ∃ (g' : Nat), ((1 : Nat) ≤ g' ∧ g' ≤ (4 : Nat)) ∧ (4 : Nat) - g' < (4 : Nat) - g ∧ (↑g : Int) + (1 : Int) = (↑g' : Int) ∧ (↑q0 : Int) = (↑(amax [(phI b).1, (phI b).2, (0 : Int) - (phI b).1, (0 : Int) - (phI b).2] g') : Int) ∧ least = least ∧ [(phI b).1, (phI b).2, (0 : Int) - (phI b).1, (0 : Int) - (phI b).2] = [(phI b).1, (phI b).2, (0 : Int) - (phI b).1, (0 : Int) - (phI b).2] ∧ (phI b).1 = (phI b).1 ∧ (phI b).2 = (phI b).2 ∧ b = b ∧ True)) (q1 ∧ amax [(phI b).1, (phI b).2, (0 : Int) - (phI b).1, (0 : Int) - (phI b).2] g < (4 : Nat) ∧ splitB (decide (List.getD [(phI b).1, (phI b).2, (0 : Int) - (phI b).1, (0 : Int) - (phI b).2] q0 (0 : Int) < least)) ((0 : Int) = lckN (phI b) least ∧ (7 : Int) = lckE (phI b) least ∧ True) ((↑q0 : Int) = lckN (phI b) least ∧ (0 : Int) = lckE (phI b) least ∧ True))) := by
  kernel_rfl
theorem vc67 (l : List Nat) (late : Int) : exF (env false [(41, sp41), (96, sp96), (95, sp95)] []) h0 0 67 Proofs.Tryz.f67 [.one (.sl (.flt .f32) l), iV late] (.tup [.one (.frs (.flt .f32) (algN l late)), iV (algE l late)]) = (let q2 := (↑(List.length l) : Int); let q0 := (↑(List.length (List.drop (Int.toNat (min late q2)) l)) : Int); let q3 := (q0 / (4 : Int) * (4 : Int)); let q1 := (List.replicate (Int.toNat q3) (0 : Nat)); (2 : Nat) ≤ (1000000000 : Nat) ∧ splitB (first [chkSig l, within late (0 : Int) (3 : Int)] != (0 : Int)) (algN l late = [] ∧ first [chkSig l, within late (0 : Int) (3 : Int)] = algE l late ∧ True) (((0 : Int) ≤ min late q2 ∧ min late q2 ≤ q2 ∧ q2 ≤ q2) ∧ ((0 : Int) ≤ q0 ∧ (0 : Int) < (4 : Int) ∧ fits IntKind.i64 (q0 / (4 : Int))) ∧ fits IntKind.i64 q3 ∧ (0 : Int) ≤ q0 / (4 : Int) * (4 : Int) ∧ room (Int.toNat q3) (4 : Nat) ∧ (0 : Nat) + List.length q1 ≤ List.length q1 ∧ copyL (0 : Nat) (List.length q1) q1 (List.drop (Int.toNat (min late q2)) l) = algN l late ∧ (0 : Int) = algE l late ∧ True)) := by
  kernel_rfl
theorem vc70 (l : List Nat) (late : Int) : exF (env false [] []) h68 0 70 Proofs.Tryz.f70 [.one (.sl (.flt .f32) l), iV late] (.val (.one (.sl (.flt .f32) (algL l late.toNat)))) = (let q1 := (List.drop (Int.toNat late) l); let q2 := (List.length l - Int.toNat late); (∃ (g : Nat), Nat.le g q2 ∧ late = late + (↑g : Int) ∧ l = l ∧ List.take g q1 = [] ∧ True) ∧ ∀ (g : Nat), let q0 := (↑(List.length (List.take g q1)) : Int); let q3 := (q0 / (4 : Int) * (4 : Int)); Nat.le g q2 → splitB (decide (late + (↑g : Int) < (↑(List.length l) : Int))) (((0 : Int) ≤ late + (↑g : Int) ∧ late + (↑g : Int) < (↑(List.length l) : Int)) ∧ room (List.length (List.take g q1) + (1 : Nat)) (4 : Nat) ∧ fits IntKind.i64 (late + (↑g : Int) + (1 : Int)) ∧ ∃ (g' : Nat), Nat.le g' q2 ∧ List.length l - Int.toNat late - g' < List.length l - Int.toNat late - g ∧ late + (↑g : Int) + (1 : Int) = late + (↑g' : Int) ∧ l = l ∧ List.take g q1 ++ [List.getD l (Int.toNat (late + (↑g : Int))) (0 : Nat)] = List.take g' q1 ∧ True) (((0 : Int) ≤ q0 ∧ (0 : Int) < (4 : Int) ∧ fits IntKind.i64 (q0 / (4 : Int))) ∧ fits IntKind.i64 q3 ∧ ((0 : Int) ≤ (0 : Int) ∧ (0 : Int) ≤ q0 / (4 : Int) * (4 : Int) ∧ q0 / (4 : Int) * (4 : Int) ≤ q0) ∧ (0 : Nat) + Int.toNat q3 ≤ List.length (List.take g q1) ∧ List.take (Int.toNat q3) (List.take g q1) = algL l (Int.toNat late) ∧ True)) := by
  kernel_rfl
theorem vc68 (l : List Nat) (f t : Int) (lev : Nat) : exF (env false [(41, sp41), (104, sp104), (95, sp95), (136, sp136), (137, sp137), (120, sp120), (138, sp138)] [fb139, fb140]) h68 3 68 Proofs.Tryz.f68 [.one (.sl (.flt .f32) l), gsV (f, t), fV lev] (.tup [.one (.frs (.flt .f32) (clN l f t lev)), iV (clE l f t lev)]) = (let q3 := (↑(List.length l) : Int); let q0 := (bif bif decide (f < (0 : Int)) then true else decide (t ≤ f) then true else decide (q3 < t)); let q7 := (List.drop (Int.toNat f) l); let q6 := (Int.toNat t - Int.toNat f); let q1 := (List.take q6 q7); let q5 := (↑(List.length q1) : Int); (3 : Nat) ≤ (1000000000 : Nat) ∧ splitB (first [chkSig l, whenE q0 (14 : Int), chkS lev] != (0 : Int)) (clN l f t lev = [] ∧ first [chkSig l, whenE q0 (14 : Int), chkS lev] = clE l f t lev ∧ True) (((0 : Int) ≤ f ∧ f ≤ t ∧ t ≤ q3) ∧ (∃ (g : Nat), Nat.le g (Int.toNat (t - f)) ∧ (0 : Int) = (↑g : Int) ∧ (0 : Int) = smTo (sixs l) (Int.toNat f) g ∧ q5 = q5 ∧ List.take q6 q7 = List.take q6 q7 ∧ l = l ∧ lev = lev ∧ [chkSig l, whenE q0 (14 : Int), chkS lev] = [chkSig l, whenE q0 (14 : Int), chkS lev] ∧ f = f ∧ t = t ∧ True) ∧ ∀ (g : Nat), let q4 := (smTo (sixs l) (Int.toNat f) g); let q2 := (six lev - roundI q4 (t - f)); let q10 := (List.getD q1 g (0 : Nat)); Nat.le g (Int.toNat (t - f)) → splitB (decide ((↑g : Int) < q5)) (((0 : Int) ≤ (↑g : Int) ∧ (↑g : Int) < q5) ∧ chkS q10 = (0 : Int) ∧ fits IntKind.i64 (smTo (sixs l) (Int.toNat f) g + six q10) ∧ fits IntKind.i64 ((↑g : Int) + (1 : Int)) ∧ ∃ (g' : Nat), Nat.le g' (Int.toNat (t - f)) ∧ Int.toNat (t - f) - g' < Int.toNat (t - f) - g ∧ (↑g : Int) + (1 : Int) = (↑g' : Int) ∧ smTo (sixs l) (Int.toNat f) g + six q10 = smTo (sixs l) (Int.toNat f) g' ∧ q5 = q5 ∧ List.take q6 q7 = List.take q6 q7 ∧ l = l ∧ lev = lev ∧ [chkSig l, whenE q0 (14 : Int), chkS lev] = [chkSig l, whenE q0 (14 : Int), chkS lev] ∧ f = f ∧ t = t ∧ True) (chkS lev = (0 : Int) ∧ fits IntKind.i64 (t - f) ∧ ((-1000000000 : Int) ≤ smTo (sixs l) (Int.toNat f) g ∧ smTo (sixs l) (Int.toNat f) g ≤ (1000000000 : Int)) ∧ ((0 : Int) < t - f ∧ t - f ≤ (1000000000 : Int)) ∧ fits IntKind.i64 q2 ∧ (∃ (g_1 : Nat), Nat.le g_1 (List.length l) ∧ (0 : Int) = (↑g_1 : Int) ∧ q3 = q3 ∧ l = l ∧ List.map (fun (b : Nat) => six b + q2) (List.take g_1 l) = [] ∧ six lev - roundI q4 (t - f) = six lev - roundI q4 (t - f) ∧ [chkSig l, whenE q0 (14 : Int), chkS lev] = [chkSig l, whenE q0 (14 : Int), chkS lev] ∧ f = f ∧ t = t ∧ True) ∧ ∀ (g_1 : Nat), let q8 := (List.take g_1 l); let q9 := (List.getD l g_1 (0 : Nat)); Nat.le g_1 (List.length l) → splitB (decide ((↑g_1 : Int) < q3)) (((0 : Int) ≤ (↑g_1 : Int) ∧ (↑g_1 : Int) < q3) ∧ chkS q9 = (0 : Int) ∧ fits IntKind.i64 (six q9 + q2) ∧ room (List.length (List.map (fun (b : Nat) => six b + q2) q8) + (1 : Nat)) (8 : Nat) ∧ fits IntKind.i64 ((↑g_1 : Int) + (1 : Int)) ∧ ∃ (g' : Nat), Nat.le g' (List.length l) ∧ List.length l - g' < List.length l - g_1 ∧ (↑g_1 : Int) + (1 : Int) = (↑g' : Int) ∧ q3 = q3 ∧ l = l ∧ List.map (fun (b : Nat) => six b + q2) q8 ++ [six q9 + q2] = List.map (fun (b : Nat) => six b + q2) (List.take g' l) ∧ six lev - roundI q4 (t - f) = six lev - roundI q4 (t - f) ∧ [chkSig l, whenE q0 (14 : Int), chkS lev] = [chkSig l, whenE q0 (14 : Int), chkS lev] ∧ f = f ∧ t = t ∧ True) (List.length (List.map (fun (b : Nat) => six b + q2) q8) ≤ (1000000 : Nat) ∧ smpsN (List.map (fun (b : Nat) => six b + q2) q8) = clN l f t lev ∧ lgE (List.map (fun (b : Nat) => six b + q2) q8) = clE l f t lev ∧ True)))) := by
  kernel_rfl
theorem vc71 (l : List Nat) (f t : Int) (lev : Nat) : exF (env false [(100, sp100), (87, sp87), (86, sp86), (102, sp102)] []) h68 0 71 Proofs.Tryz.f71 [.one (.sl (.flt .f32) l), gsV (f, t), fV lev] (.tup [.one (.frs (.flt .f32) (smpsN (clI l f t lev))), iV (lgE (clI l f t lev))]) = (let q1 := (List.length (sixs l)); List.length l ≤ (1000000 : Nat) ∧ OkS l ∧ (∃ (g : Nat), Nat.le g (Int.toNat (t - f)) ∧ f = f + (↑g : Int) ∧ (0 : Int) = smTo (sixs l) (Int.toNat f) g ∧ lev = lev ∧ sixs l = sixs l ∧ f = f ∧ t = t ∧ True) ∧ ∀ (g : Nat), let q0 := (smTo (sixs l) (Int.toNat f) g); Nat.le g (Int.toNat (t - f)) → splitB (decide (f + (↑g : Int) < t)) (((0 : Int) ≤ f + (↑g : Int) ∧ f + (↑g : Int) < (↑q1 : Int)) ∧ Int.toNat (f + (↑g : Int)) < List.length (sixs l) ∧ fits IntKind.i64 (smTo (sixs l) (Int.toNat f) g + List.getD (sixs l) (Int.toNat (f + (↑g : Int))) (0 : Int)) ∧ fits IntKind.i64 (f + (↑g : Int) + (1 : Int)) ∧ ∃ (g' : Nat), Nat.le g' (Int.toNat (t - f)) ∧ Int.toNat (t - f) - g' < Int.toNat (t - f) - g ∧ f + (↑g : Int) + (1 : Int) = f + (↑g' : Int) ∧ smTo (sixs l) (Int.toNat f) g + List.getD (sixs l) (Int.toNat (f + (↑g : Int))) (0 : Int) = smTo (sixs l) (Int.toNat f) g' ∧ lev = lev ∧ sixs l = sixs l ∧ f = f ∧ t = t ∧ True) (fits IntKind.i64 (t - f) ∧ ((-1000000000 : Int) ≤ smTo (sixs l) (Int.toNat f) g ∧ smTo (sixs l) (Int.toNat f) g ≤ (1000000000 : Int)) ∧ ((0 : Int) < t - f ∧ t - f ≤ (1000000000 : Int)) ∧ (∃ (g_1 : Nat), Nat.le g_1 q1 ∧ (0 : Int) = (↑g_1 : Int) ∧ roundI q0 (t - f) = roundI q0 (t - f) ∧ lev = lev ∧ sixs l = putTo (0 : Int) (sixs l) (fun (n : Nat) => List.getD (sixs l) n (0 : Int) + six lev - roundI q0 (t - f)) g_1 ∧ f = f ∧ t = t ∧ True) ∧ ∀ (g_1 : Nat), Nat.le g_1 q1 → splitB (decide ((↑g_1 : Int) < (↑(List.length (putTo (0 : Int) (sixs l) (fun (n : Nat) => List.getD (sixs l) n (0 : Int) + six lev - roundI q0 (t - f)) g_1)) : Int))) (((0 : Int) ≤ (↑g_1 : Int) ∧ (↑g_1 : Int) < (↑(List.length (putTo (0 : Int) (sixs l) (fun (n : Nat) => List.getD (sixs l) n (0 : Int) + six lev - roundI q0 (t - f)) g_1)) : Int)) ∧ g_1 < List.length (putTo (0 : Int) (sixs l) (fun (n : Nat) => List.getD (sixs l) n (0 : Int) + six lev - roundI q0 (t - f)) g_1) ∧ chkS lev = (0 : Int) ∧ fits IntKind.i64 (List.getD (putTo (0 : Int) (sixs l) (fun (n : Nat) => List.getD (sixs l) n (0 : Int) + six lev - roundI q0 (t - f)) g_1) g_1 (0 : Int) + six lev) ∧ fits IntKind.i64 (List.getD (putTo (0 : Int) (sixs l) (fun (n : Nat) => List.getD (sixs l) n (0 : Int) + six lev - roundI q0 (t - f)) g_1) g_1 (0 : Int) + six lev - roundI q0 (t - f)) ∧ ((0 : Int) ≤ (↑g_1 : Int) ∧ (↑g_1 : Int) < (↑(List.length (putTo (0 : Int) (sixs l) (fun (n : Nat) => List.getD (sixs l) n (0 : Int) + six lev - roundI q0 (t - f)) g_1)) : Int)) ∧ g_1 < List.length (putTo (0 : Int) (sixs l) (fun (n : Nat) => List.getD (sixs l) n (0 : Int) + six lev - roundI q0 (t - f)) g_1) ∧ fits IntKind.i64 ((↑g_1 : Int) + (1 : Int)) ∧ ∃ (g' : Nat), Nat.le g' q1 ∧ List.length (sixs l) - g' < List.length (sixs l) - g_1 ∧ (↑g_1 : Int) + (1 : Int) = (↑g' : Int) ∧ roundI q0 (t - f) = roundI q0 (t - f) ∧ lev = lev ∧ List.set (putTo (0 : Int) (sixs l) (fun (n : Nat) => List.getD (sixs l) n (0 : Int) + six lev - roundI q0 (t - f)) g_1) g_1 (List.getD (putTo (0 : Int) (sixs l) (fun (n : Nat) => List.getD (sixs l) n (0 : Int) + six lev - roundI q0 (t - f)) g_1) g_1 (0 : Int) + six lev - roundI q0 (t - f)) = putTo (0 : Int) (sixs l) (fun (n : Nat) => List.getD (sixs l) n (0 : Int) + six lev - roundI q0 (t - f)) g' ∧ f = f ∧ t = t ∧ True) (List.length (putTo (0 : Int) (sixs l) (fun (n : Nat) => List.getD (sixs l) n (0 : Int) + six lev - roundI q0 (t - f)) g_1) ≤ (1000000 : Nat) ∧ smpsN (putTo (0 : Int) (sixs l) (fun (n : Nat) => List.getD (sixs l) n (0 : Int) + six lev - roundI q0 (t - f)) g_1) = smpsN (clI l f t lev) ∧ lgE (putTo (0 : Int) (sixs l) (fun (n : Nat) => List.getD (sixs l) n (0 : Int) + six lev - roundI q0 (t - f)) g_1) = lgE (clI l f t lev) ∧ True))) := by
  kernel_rfl
end Go.Sx

/- Contracts. -/
namespace Go.Sx
open U
theorem fn133 (b : List Nat) (hl : b.length = 4) (hb : OkS b) : Fn P1 gl1 133 [b4V b] (.val (gsV (phI b))) true := by
  refine Fn.flat ?_ rfl
  refine fn_of false [(137, sp137)] [] h0 0 Proofs.Tryz.f133 ⟨so137, trivial⟩ trivial (by kernel_rfl) rfl (by kernel_rfl) rfl rfl rfl ?_
  rw [vc133]
  try simp only [splitB_iff, -eq_self]
  have k : ∀ i, i < 4 → chkS (List.getD b i 0) = 0 := fun i hi => hb _ (getD_mem' (by omega))
  have k0 := chk_six (k 0 (by omega))
  have k1 := chk_six (k 1 (by omega))
  have k2 := chk_six (k 2 (by omega))
  have k3 := chk_six (k 3 (by omega))
  simp only [fits, hl, -eq_self]
  exact ⟨by omega, by omega, k 0 (by omega), by omega, by omega, k 2 (by omega), by omega, by omega, by omega, k 1 (by omega), by omega, by omega, k 3 (by omega), by omega, rfl, rfl, trivial⟩
theorem so133_ : SpecOk P1 gl1 133 sp133 := by
  intro vs ps r h hp
  simp only [sp133] at h
  split at h
  · cases h; exact fn133 _ (hp _ (.head _)) (hp _ (.tail _ (.head _)))
  · cases h
theorem so133 : Sp1 133 sp133 := ⟨so133_, Proofs.Tryz.f133, _, by kernel_rfl, rfl, by kernel_rfl⟩
theorem fn62 (b : List Nat) (hl : b.length = 4) : Fn P1 gl1 62 [b4V b] (.tup [gsV (burZ b), iV (chkSs b)]) true := by
  refine Fn.flat ?_ rfl
  refine fn_of false [(105, sp105), (133, sp133)] [] h0 0 Proofs.Tryz.f62 ⟨so105, so133, trivial⟩ trivial (by kernel_rfl) rfl (by kernel_rfl) rfl rfl rfl ?_
  rw [vc62]
  try simp only [splitB_iff, -eq_self]
  rw [take_all hl]
  unfold burZ
  refine ⟨by omega, hl, by omega, fun h => ?_, fun h => ?_⟩
  · have h := bneZ.1 h
    rw [if_neg h]
    exact ⟨rfl, rfl, rfl, trivial⟩
  · have h := bneF.1 h
    rw [if_pos h]
    exact ⟨hl, chkSs_zero.1 h, rfl, rfl, h.symm, trivial⟩
theorem so62_ : SpecOk P1 gl1 62 sp62 := by
  intro vs ps r h hp
  simp only [sp62] at h
  split at h
  · cases h; exact fn62 _ (hp _ (.head _))
  · cases h
theorem so62 : Sp1 62 sp62 := ⟨so62_, Proofs.Tryz.f62, _, by kernel_rfl, rfl, by kernel_rfl⟩
theorem fn135 (l : List Int) (v : Int) (hl : l.length ≤ 1000000000) : Fn P1 gl1 135 [.one (.sl (.int .i64) l), iV v] (.val (iV (fnd l v l.length))) true := by
  refine Fn.flat ?_ rfl
  refine fn_of false [] [] h63 0 Proofs.Tryz.f135 trivial trivial (by kernel_rfl) rfl (by kernel_rfl) rfl rfl rfl ?_
  rw [vc135]
  try simp only [splitB_iff, -eq_self]
  refine ⟨⟨0, ⟨by omega, rfl⟩, rfl, rfl, rfl, rfl, trivial⟩, fun g hg => ⟨fun hlt => ?_, fun hge => ?_⟩⟩
  · have hlt : g < l.length := by simpa using hlt
    refine ⟨by omega, fun k => ?_, fun k => ?_⟩
    · have k : v = List.getD l g 0 := by simpa using k
      refine ⟨?_, trivial⟩
      refine (fnd_at (fun j hj e => ?_) k.symm hlt).symm
      exact fnd_ne hj e hg.2
    · have k : ¬ v = List.getD l g 0 := by simpa using k
      refine ⟨by simp only [fits]; omega, g + 1, ⟨by omega, ?_⟩, by omega, by simp, rfl, rfl, rfl, trivial⟩
      show (if fnd l v g = -1 then (if List.getD l g 0 = v then (g : Int) else -1) else fnd l v g) = -1
      rw [if_pos hg.2, if_neg (fun e => k e.symm)]
  · have hge : ¬ g < l.length := by simpa using hge
    have e : g = l.length := by omega
    subst e
    exact ⟨hg.2.symm, trivial⟩
theorem so135_ : SpecOk P1 gl1 135 sp135 := by
  intro vs ps r h hp
  simp only [sp135] at h
  split at h
  · cases h; exact fn135 _ _ (hp _ (.head _))
  · cases h
theorem so135 : Sp1 135 sp135 := ⟨so135_, Proofs.Tryz.f135, _, by kernel_rfl, rfl, by kernel_rfl⟩
theorem fn63 (b : List Nat) (least : Int) (hl : b.length = 4) : Fn P1 gl1 63 [b4V b, iV least] (.tup [iV (lkN b least), iV (lkE b least)]) true := by
  refine Fn.flat ?_ rfl
  refine fn_of false [(105, sp105), (96, sp96), (95, sp95), (133, sp133), (134, sp134), (135, sp135)] [] h0 0 Proofs.Tryz.f63 ⟨so105, so96, so95, so133, so134, so135, trivial⟩ trivial (by kernel_rfl) rfl (by kernel_rfl) rfl rfl rfl ?_
  rw [vc63]
  try simp only [splitB_iff, -eq_self]
  rw [take_all hl]
  refine ⟨by omega, hl, by omega, by decide, fun h => ?_, fun h => ?_⟩
  · have h : ¬ lckB b least = 0 := bneZ.1 h
    unfold lkN lkE
    rw [if_neg h, if_neg h]
    exact ⟨rfl, rfl, trivial⟩
  · have h : lckB b least = 0 := bneF.1 h
    have hz := first_zero.1 h
    have hok := chkSs_zero.1 (hz _ (.head _))
    have hle := (within_zero.1 (hz _ (.tail _ (.head _)))).1
    obtain ⟨b1, b2⟩ := ph_bd hok hl
    unfold lkN lkE
    rw [if_pos h, if_pos h]
    refine ⟨hl, hok, fun k => ?_, fun k => ⟨by simp only [fits]; omega, by simp only [fits]; omega, by omega, fun k2 => ?_, fun k2 => ?_⟩⟩
    · have k : (phI b) = (0, 0) := by
        simp only [eqT, Bool.and_eq_true, beq_iff_eq] at k
        exact Prod.ext k.1 k.2
      rw [k]
      unfold lckN lckE
      have : mxTo (four (0, 0)) 4 = 0 := rfl
      rw [this, if_pos (by omega), if_pos (by omega)]
      exact ⟨rfl, rfl, trivial⟩
    · have k2 : mxTo (four (phI b)) 4 < least := of_decide_eq_true k2
      unfold lckN lckE
      rw [if_pos k2, if_pos k2]
      exact ⟨rfl, rfl, trivial⟩
    · have k2 : ¬ mxTo (four (phI b)) 4 < least := of_decide_eq_false k2
      unfold lckN lckE
      rw [if_neg k2, if_neg k2]
      exact ⟨by omega, fnd_mx (four (phI b)) 4 (by omega), rfl, trivial⟩
theorem so63_ : SpecOk P1 gl1 63 sp63 := by
  intro vs ps r h hp
  simp only [sp63] at h
  split at h
  · cases h; exact fn63 _ _ (hp _ (.head _))
  · cases h
theorem so63 : Sp1 63 sp63 := ⟨so63_, Proofs.Tryz.f63, _, by kernel_rfl, rfl, by kernel_rfl⟩
theorem fn64 (l : List Nat) (hl : l.length ≤ 1000000) : Fn P1 gl1 64 [.one (.sl (.flt .f32) l)] (.val (iV (chkSs l))) true := by
  refine Fn.flat ?_ rfl
  refine fn_of false [(69, sp69)] [] h63 0 Proofs.Tryz.f64 ⟨so69, trivial⟩ trivial (by kernel_rfl) rfl (by kernel_rfl) rfl rfl rfl ?_
  rw [vc64]
  try simp only [splitB_iff, -eq_self]
  refine ⟨⟨0, ⟨by omega, rfl⟩, rfl, rfl, trivial⟩, fun g hg => ⟨fun hlt => ?_, fun hge => ?_⟩⟩
  · have hlt : g < l.length := by simpa using hlt
    have e : first (List.drop g (l.map chkS)) = if chkS (List.getD l g 0) = 0 then first (List.drop (g + 1) (l.map chkS)) else chkS (List.getD l g 0) := by
      rw [first_drop _ _ (by simpa using hlt), List.getElem_map, getD_of hlt]
    refine ⟨by omega, fun h => ⟨?_, trivial⟩, fun h => ⟨by simp only [fits]; omega, g + 1, ⟨by omega, ?_⟩, by omega, by simp, rfl, trivial⟩⟩
    · rw [hg.2, e, if_neg (by simpa using h)]
    · rw [hg.2, e, if_pos (by simpa using h)]
  · have hge : ¬ g < l.length := by simpa using hge
    rw [hg.2, List.drop_of_length_le (by rw [List.length_map]; omega)]
    exact ⟨rfl, trivial⟩
theorem so64_ : SpecOk P1 gl1 64 sp64 := by
  intro vs ps r h hp
  simp only [sp64] at h
  split at h
  · cases h; exact fn64 _ (hp _ (.head _))
  · cases h
theorem so64 : Sp1 64 sp64 := ⟨so64_, Proofs.Tryz.f64, _, by kernel_rfl, rfl, by kernel_rfl⟩
theorem fn65 (b : List Nat) (hl : b.length = 4) (hb : OkS b) : Fn P1 gl1 65 [b4V b] (.val (gsV (phI b))) true := by
  refine Fn.flat ?_ rfl
  refine fn_of false [(100, sp100)] [] h0 0 Proofs.Tryz.f65 ⟨so100, trivial⟩ trivial (by kernel_rfl) rfl (by kernel_rfl) rfl rfl rfl ?_
  rw [vc65]
  try simp only [splitB_iff, -eq_self]
  rw [take_all hl]
  have k : ∀ i, i < 4 → chkS (List.getD b i 0) = 0 := fun i hi => hb _ (getD_mem' (by omega))
  have k0 := chk_six (k 0 (by omega))
  have k1 := chk_six (k 1 (by omega))
  have k2 := chk_six (k 2 (by omega))
  have k3 := chk_six (k 3 (by omega))
  simp only [sixs_get, sixs_len, fits, hl, -eq_self]
  exact ⟨by omega, rfl, by omega, hb, by omega, by omega, by omega, by omega, by omega, by omega, by omega, by omega, by omega, by omega, rfl, rfl, trivial⟩
theorem so65_ : SpecOk P1 gl1 65 sp65 := by
  intro vs ps r h hp
  simp only [sp65] at h
  split at h
  · cases h; exact fn65 _ (hp _ (.head _)) (hp _ (.tail _ (.head _)))
  · cases h
theorem so65 : Sp1 65 sp65 := ⟨so65_, Proofs.Tryz.f65, _, by kernel_rfl, rfl, by kernel_rfl⟩
theorem fn66 (b : List Nat) (least : Int) (hl : b.length = 4) (hb : OkS b) : Fn P1 gl1 66 [b4V b, iV least] (.tup [iV (lckN (phI b) least), iV (lckE (phI b) least)]) true := by
  refine Fn.flat ?_ rfl
  refine fn_of false [(65, sp65)] [] h63 0 Proofs.Tryz.f66 ⟨so65, trivial⟩ trivial (by kernel_rfl) rfl (by kernel_rfl) rfl rfl rfl ?_
  rw [vc66]
  try simp only [splitB_iff, -eq_self]
  obtain ⟨b1, b2⟩ := ph_bd hb hl
  have eF : [(phI b).1, (phI b).2, 0 - (phI b).1, 0 - (phI b).2] = four (phI b) := by unfold four; simp
  rw [eF]
  refine ⟨hl, hb, by simp only [fits]; omega, by simp only [fits]; omega, ⟨1, by omega, rfl, ?_, rfl, rfl, rfl, rfl, rfl, trivial⟩, fun g hg => ⟨fun hlt => ?_, fun hge => ?_⟩⟩
  · have : amax (four (phI b)) 1 = 0 := by
      have := amax_lt (four (phI b)) 1 (by omega); omega
    rw [this]; rfl
  · have hlt : (g : Int) < 4 := by simpa using hlt
    have ha := amax_lt (four (phI b)) g (by omega)
    refine ⟨by omega, by omega, by omega, by omega, fun k => ?_, fun k => ?_⟩
    · have k := of_decide_eq_true k
      refine ⟨by simp only [fits]; omega, g + 1, by omega, by omega, by simp, ?_, rfl, rfl, rfl, rfl, rfl, trivial⟩
      show (g : Int) = ((if _ then g else amax (four (phI b)) g : Nat) : Int)
      rw [if_pos k]
    · have k := of_decide_eq_false k
      refine ⟨by simp only [fits]; omega, g + 1, by omega, by omega, by simp, ?_, rfl, rfl, rfl, rfl, rfl, trivial⟩
      show (amax (four (phI b)) g : Int) = ((if _ then g else amax (four (phI b)) g : Nat) : Int)
      rw [if_neg k]
  · have hge : ¬ (g : Int) < 4 := by simpa using hge
    have e : g = 4 := by omega
    subst e
    have ha := amax_lt (four (phI b)) 4 (by omega)
    have em := mx_amax (four (phI b)) 4 (by omega)
    unfold lckN lckE
    rw [em]
    refine ⟨by omega, by omega, fun k => ?_, fun k => ?_⟩
    · have k := of_decide_eq_true k
      rw [if_pos k, if_pos k]
      exact ⟨rfl, rfl, trivial⟩
    · have k := of_decide_eq_false k
      rw [if_neg k, if_neg k]
      exact ⟨rfl, rfl, trivial⟩
theorem so66_ : SpecOk P1 gl1 66 sp66 := by
  intro vs ps r h hp
  simp only [sp66] at h
  split at h
  · cases h; exact fn66 _ _ (hp _ (.head _)) (hp _ (.tail _ (.head _)))
  · cases h
theorem so66 : Sp1 66 sp66 := ⟨so66_, Proofs.Tryz.f66, _, by kernel_rfl, rfl, by kernel_rfl⟩
theorem fn67 (l : List Nat) (late : Int)  : Fn P1 gl1 67 [.one (.sl (.flt .f32) l), iV late] (.tup [.one (.frs (.flt .f32) (algN l late)), iV (algE l late)]) true := by
  refine Fn.flat ?_ rfl
  refine fn_of false [(41, sp41), (96, sp96), (95, sp95)] [] h0 0 Proofs.Tryz.f67 ⟨so41, so96, so95, trivial⟩ trivial (by kernel_rfl) rfl (by kernel_rfl) rfl rfl rfl ?_
  rw [vc67]
  try simp only [splitB_iff, -eq_self]
  refine ⟨by decide, fun h => ?_, fun h => ?_⟩
  · have h : ¬ algE l late = 0 := bneZ.1 h
    unfold algN
    rw [if_neg h]
    exact ⟨rfl, rfl, trivial⟩
  · have h : algE l late = 0 := bneF.1 h
    have hz := first_zero.1 h
    obtain ⟨k1, k2, k3⟩ := chkSig_zero.1 (hz _ (.head _))
    obtain ⟨m1, m2⟩ := within_zero.1 (hz _ (.tail _ (.head _)))
    have ed : List.drop (Int.toNat (min late (l.length : Int))) l = List.drop late.toNat l := by
      by_cases hk : late ≤ (l.length : Int)
      · rw [Int.min_eq_left hk]
      · rw [List.drop_of_length_le (by omega), List.drop_of_length_le (by omega)]
    rw [ed]
    have hl : (List.drop late.toNat l).length ≤ 256 := by rw [List.length_drop]; omega
    have e2 : Int.toNat (((List.drop late.toNat l).length : Int) / 4 * 4) = (List.drop late.toNat l).length / 4 * 4 := by omega
    rw [e2, List.length_replicate]
    simp only [fits, room, -eq_self]
    refine ⟨by omega, by omega, by omega, by omega, by omega, by omega, ?_, h.symm, trivial⟩
    unfold algN algL
    rw [if_pos h]
    unfold copyL
    generalize List.drop late.toNat l = r
    simp
    omega
theorem so67_ : SpecOk P1 gl1 67 sp67 := by
  intro vs ps r h _
  simp only [sp67] at h
  split at h
  · cases h; exact fn67 _ _ 
  · cases h
theorem so67 : Sp1 67 sp67 := ⟨so67_, Proofs.Tryz.f67, _, by kernel_rfl, rfl, by kernel_rfl⟩
theorem fn70 (l : List Nat) (late : Int) (h : algE l late = 0) : Fn P1 gl1 70 [.one (.sl (.flt .f32) l), iV late] (.val (.one (.sl (.flt .f32) (algL l late.toNat)))) false := by
  refine fn_of false [] [] h68 0 Proofs.Tryz.f70 trivial trivial (by kernel_rfl) rfl (by kernel_rfl) rfl rfl rfl ?_
  rw [vc70]
  try simp only [splitB_iff, -eq_self]
  have hz := first_zero.1 h
  obtain ⟨k1, k2, k3⟩ := chkSig_zero.1 (hz _ (.head _))
  obtain ⟨m1, m2⟩ := within_zero.1 (hz _ (.tail _ (.head _)))
  refine ⟨⟨0, Nat.zero_le _, by simp, rfl, rfl, trivial⟩, fun g hg => ⟨fun hlt => ?_, fun hge => ?_⟩⟩
  · have hlt : late + (g : Int) < (l.length : Int) := by simpa using hlt
    have e : Int.toNat (late + (g : Int)) = late.toNat + g := by omega
    rw [e]
    have hg2 : g < (List.drop late.toNat l).length := by rw [List.length_drop]; omega
    simp only [fits, room, List.length_take, List.length_drop, -eq_self]
    refine ⟨by omega, by omega, by omega, g + 1, show g + 1 ≤ _ by omega, by omega, by omega, rfl, ?_, trivial⟩
    rw [List.take_succ_eq_append_getElem hg2, List.getElem_drop, getD_of (by omega)]
  · have hg : g ≤ l.length - late.toNat := hg
    have hge : ¬ late + (g : Int) < (l.length : Int) := by simpa using hge
    rw [List.take_of_length_le (by rw [List.length_drop]; omega)]
    have hl : (List.drop late.toNat l).length ≤ 256 := by rw [List.length_drop]; omega
    have e2 : Int.toNat (((List.drop late.toNat l).length : Int) / 4 * 4) = (List.drop late.toNat l).length / 4 * 4 := by omega
    rw [e2]
    simp only [fits, -eq_self]
    exact ⟨by omega, by omega, by omega, by omega, rfl, trivial⟩
theorem so70_ : SpecOk P1 gl1 70 sp70 := by
  intro vs ps r h hp
  simp only [sp70] at h
  split at h
  · cases h; exact fn70 _ _ (hp _ (.head _))
  · cases h
theorem so70 : Sp1 70 sp70 := ⟨so70_, Proofs.Tryz.f70, _, by kernel_rfl, rfl, by kernel_rfl⟩
theorem fn68 (l : List Nat) (f t : Int) (lev : Nat)  : Fn P1 gl1 68 [.one (.sl (.flt .f32) l), gsV (f, t), fV lev] (.tup [.one (.frs (.flt .f32) (clN l f t lev)), iV (clE l f t lev)]) true := by
  refine Fn.flat ?_ rfl
  refine fn_of false [(41, sp41), (104, sp104), (95, sp95), (136, sp136), (137, sp137), (120, sp120), (138, sp138)] [fb139, fb140] h68 3 Proofs.Tryz.f68 ⟨so41, so104, so95, so136, so137, so120, so138, trivial⟩ ⟨⟨by kernel_rfl, by kernel_rfl, _, rfl, by kernel_rfl⟩, ⟨by kernel_rfl, by kernel_rfl, _, rfl, by kernel_rfl⟩, trivial⟩ (by kernel_rfl) rfl (by kernel_rfl) rfl rfl rfl ?_
  rw [vc68]
  try simp only [splitB_iff, -eq_self]
  rw [sp_first]
  refine ⟨by decide, fun h => ?_, fun h => ?_⟩
  · have h : ¬ clB l f t lev = 0 := bneZ.1 h
    unfold clN clE
    rw [if_neg h, if_neg h]
    exact ⟨rfl, rfl, trivial⟩
  · have h : clB l f t lev = 0 := bneF.1 h
    obtain ⟨c1, c2, c5⟩ := clB_zero.1 h
    obtain ⟨k1, k2, k3⟩ := chkSig_zero.1 c1
    have hb := bd_sixs k3
    have hv := chk_six c5
    have e1 : Int.toNat t - Int.toNat f = Int.toNat (t - f) := by omega
    rw [e1]
    have hq : (List.take (Int.toNat (t - f)) (List.drop (Int.toNat f) l)).length = Int.toNat (t - f) := by rw [List.length_take, List.length_drop]; omega
    have hget : ∀ g, g < Int.toNat (t - f) → List.getD (List.take (Int.toNat (t - f)) (List.drop (Int.toNat f) l)) g 0 = List.getD l (Int.toNat f + g) 0 := fun g hg => by
      rw [List.getD_eq_getElem?_getD, List.getD_eq_getElem?_getD, List.getElem?_take_of_lt hg, List.getElem?_drop]
    rw [hq]
    simp only [fits, room, List.length_map, List.length_take, -eq_self]
    refine ⟨by omega, ⟨0, Nat.zero_le _, rfl, rfl, rfl, rfl, rfl, rfl, rfl, rfl, rfl, trivial⟩, fun g hg => ⟨fun hlt => ?_, fun hge => ?_⟩⟩
    · have hlt : (g : Int) < (Int.toNat (t - f) : Int) := of_decide_eq_true hlt
      have hlt : g < Int.toNat (t - f) := by omega
      rw [hget g hlt]
      have hok := k3 _ (getD_mem' (d := 0) (show Int.toNat f + g < l.length by omega))
      have hs := chk_six hok
      have hm := smTo_bd hb (by omega) (Int.toNat f) g
      refine ⟨by omega, hok, by omega, by omega, g + 1, hlt, by omega, by simp, ?_, rfl, rfl, rfl, rfl, rfl, rfl, rfl, trivial⟩
      show _ = smTo (sixs l) (Int.toNat f) g + List.getD (sixs l) (Int.toNat f + g) 0
      rw [sixs_get]
    · have hg : g ≤ Int.toNat (t - f) := hg
      have hge : ¬ (g : Int) < (Int.toNat (t - f) : Int) := of_decide_eq_false hge
      have e : g = Int.toNat (t - f) := by omega
      subst e
      have hm := smTo_bd hb (by omega) (Int.toNat f) (Int.toNat (t - f))
      have hm2 : -4194304 ≤ smTo (sixs l) (Int.toNat f) (Int.toNat (t - f)) ∧ smTo (sixs l) (Int.toNat f) (Int.toNat (t - f)) ≤ 4194304 := by omega
      have hr := roundI_bd (d := t - f) (by omega) hm2
      refine ⟨c5, by omega, by omega, by omega, by omega, ⟨0, Nat.zero_le _, rfl, rfl, rfl, by simp, rfl, rfl, rfl, rfl, trivial⟩, fun g2 hg2 => ⟨fun hlt2 => ?_, fun hge2 => ?_⟩⟩
      · have hlt2 : g2 < l.length := by simpa using hlt2
        have hok := k3 _ (getD_mem' (d := 0) hlt2)
        have hs := chk_six hok
        refine ⟨by omega, hok, by omega, by omega, by omega, g2 + 1, hlt2, by omega, by simp, rfl, rfl, ?_, rfl, rfl, rfl, rfl, trivial⟩
        rw [getD_of hlt2, List.take_succ_eq_append_getElem hlt2, List.map_append]
        rfl
      · have hge2 : ¬ g2 < l.length := by simpa using hge2
        rw [List.take_of_length_le (by omega)]
        unfold clN clE
        rw [if_pos h, if_pos h]
        exact ⟨by omega, rfl, rfl, trivial⟩
theorem so68_ : SpecOk P1 gl1 68 sp68 := by
  intro vs ps r h _
  simp only [sp68] at h
  split at h
  · cases h; exact fn68 _ _ _ _ 
  · cases h
theorem so68 : Sp1 68 sp68 := ⟨so68_, Proofs.Tryz.f68, _, by kernel_rfl, rfl, by kernel_rfl⟩
theorem fn71 (l : List Nat) (f t : Int) (lev : Nat) (h : clB l f t lev = 0) : Fn P1 gl1 71 [.one (.sl (.flt .f32) l), gsV (f, t), fV lev] (.tup [.one (.frs (.flt .f32) (smpsN (clI l f t lev))), iV (lgE (clI l f t lev))]) true := by
  refine Fn.flat ?_ rfl
  refine fn_of false [(100, sp100), (87, sp87), (86, sp86), (102, sp102)] [] h68 0 Proofs.Tryz.f71 ⟨so100, so87, so86, so102, trivial⟩ trivial (by kernel_rfl) rfl (by kernel_rfl) rfl rfl rfl ?_
  rw [vc71]
  try simp only [splitB_iff, -eq_self]
  obtain ⟨c1, c2, c5⟩ := clB_zero.1 h
  obtain ⟨k1, k2, k3⟩ := chkSig_zero.1 c1
  have hb := bd_sixs k3
  have hv := chk_six c5
  rw [clI_tab]
  simp only [fits, putTo_len, sixs_len, -eq_self]
  refine ⟨by omega, k3, ⟨0, Nat.zero_le _, by simp, rfl, rfl, rfl, rfl, rfl, trivial⟩, fun g hg => ⟨fun hlt => ?_, fun hge => ?_⟩⟩
  · have hlt : f + (g : Int) < t := by simpa using hlt
    have e : Int.toNat (f + (g : Int)) = Int.toNat f + g := by omega
    rw [e]
    have hs := bd_get hb (i := Int.toNat f + g) (by omega)
    have hm := smTo_bd hb (by omega) (Int.toNat f) g
    exact ⟨by omega, by omega, by omega, by omega, g + 1, show g + 1 ≤ _ by omega, by omega, by omega, rfl, rfl, rfl, rfl, rfl, trivial⟩
  · have hg : g ≤ Int.toNat (t - f) := hg
    have hge : ¬ f + (g : Int) < t := by simpa using hge
    have e : g = Int.toNat (t - f) := by omega
    subst e
    have hm := smTo_bd hb (by omega) (Int.toNat f) (Int.toNat (t - f))
    have hm2 : -4194304 ≤ smTo (sixs l) (Int.toNat f) (Int.toNat (t - f)) ∧ smTo (sixs l) (Int.toNat f) (Int.toNat (t - f)) ≤ 4194304 := by omega
    have hr := roundI_bd (d := t - f) (by omega) hm2
    refine ⟨by omega, by omega, by omega, ⟨0, Nat.zero_le _, rfl, rfl, rfl, (putTo_zero _ _ _).symm, rfl, rfl, trivial⟩, fun g2 hg2 => ⟨fun hlt2 => ?_, fun hge2 => ?_⟩⟩
    · have hlt2 : g2 < l.length := by simpa using hlt2
      rw [putTo_get (by rw [sixs_len]; exact hlt2) (Nat.le_refl _)]
      have hs := bd_get hb (i := g2) (by omega)
      exact ⟨by omega, by omega, c5, by omega, by omega, by omega, by omega, by omega, g2 + 1, hlt2, by omega, by simp, rfl, rfl, putTo_set _ _ _ _, rfl, rfl, trivial⟩
    · have hge2 : ¬ g2 < l.length := by simpa using hge2
      rw [putTo_all _ _ _ _ (by rw [sixs_len]; omega), sixs_len]
      exact ⟨by omega, rfl, rfl, trivial⟩
theorem so71_ : SpecOk P1 gl1 71 sp71 := by
  intro vs ps r h hp
  simp only [sp71] at h
  split at h
  · cases h; exact fn71 _ _ _ _ (hp _ (.head _))
  · cases h
theorem so71 : Sp1 71 sp71 := ⟨so71_, Proofs.Tryz.f71, _, by kernel_rfl, rfl, by kernel_rfl⟩
end Go.Sx

/- Plain functions of composite: taps and filters. -/
namespace Go.Sx.U
theorem mul_bd {a b A B : Int} (ha : -A ≤ a ∧ a ≤ A) (hb : -B ≤ b ∧ b ≤ B) : -(A * B) ≤ a * b ∧ a * b ≤ A * B := by
  have h1 : a.natAbs ≤ A.natAbs := by omega
  have h2 : b.natAbs ≤ B.natAbs := by omega
  have h3 : (a * b).natAbs ≤ (A * B).natAbs := by
    rw [Int.natAbs_mul, Int.natAbs_mul]
    exact Nat.mul_le_mul h1 h2
  have h4 : 0 ≤ A * B := Int.mul_nonneg (by omega) (by omega)
  generalize a * b = x at *
  generalize A * B = y at *
  omega
def chkTap (t : List Int) : Int := if t.length = 0 then 12 else if 8 < t.length then 5 else first (t.map fun n => within n (-1000) 1000)
theorem chkTap_zero {t : List Int} : chkTap t = 0 ↔ t.length ≠ 0 ∧ t.length ≤ 8 ∧ Bd 1000 t := by
  have e : first (t.map fun n => within n (-1000) 1000) = 0 ↔ Bd 1000 t := by
    rw [first_zero]
    unfold Bd
    simp only [List.mem_map, forall_exists_index, and_imp, forall_apply_eq_imp_iff₂, within_zero]
  unfold chkTap
  by_cases h1 : t.length = 0
  · simp [h1]
  · by_cases h2 : 8 < t.length
    · simp [h1, h2]; omega
    · rw [if_neg h1, if_neg h2, e]
      exact ⟨fun h => ⟨h1, by omega, h⟩, fun h => h.2.2⟩
def swTo (n : Nat) (L : Int → Int) (t : List Int) (w : Int) (i : Nat) : Nat → Int
  | 0 => 0
  | j + 1 => if 0 ≤ (i : Int) - w * j ∧ (i : Int) - w * j < n then swTo n L t w i j + List.getD t j 0 * L ((i : Int) - w * j) else swTo n L t w i j
def lat (L : List Int) (k : Int) : Int := List.getD L k.toNat 0
def fltI (L t : List Int) (w : Int) : List Int := tab L.length fun i => swTo L.length (lat L) t w i t.length
theorem swTo_bd {n : Nat} {L : Int → Int} {t : List Int} {w B : Int} (hB : 0 ≤ B) (hL : ∀ k, -B ≤ L k ∧ L k ≤ B) (ht : Bd 1000 t) (i : Nat) : ∀ j : Nat, -((j : Int) * (1000 * B)) ≤ swTo n L t w i j ∧ swTo n L t w i j ≤ (j : Int) * (1000 * B)
  | 0 => by simp [swTo]
  | j + 1 => by
    have ih := swTo_bd (n := n) (w := w) hB hL ht i j
    have hb := mul_bd (bd_get ht (i := j) (by omega)) (hL ((i : Int) - w * j))
    have hz : 0 ≤ 1000 * B := by omega
    have e : ((j + 1 : Nat) : Int) * (1000 * B) = (j : Int) * (1000 * B) + 1000 * B := by
      rw [Int.natCast_add, Int.add_mul]; simp
    rw [e]
    unfold swTo
    generalize List.getD t j 0 * L ((i : Int) - w * j) = p at *
    generalize (j : Int) * (1000 * B) = m at *
    split <;> omega
theorem lat_bd {L : List Int} {B : Int} (h : Bd B L) (hB : 0 ≤ B) (k : Int) : -B ≤ lat L k ∧ lat L k ≤ B := bd_get h hB
theorem fltI_len (L t : List Int) (w : Int) : (fltI L t w).length = L.length := by unfold fltI; rw [tab_len]
def fltB (l : List Nat) (t : List Int) : Int := first [chkSig l, chkTap t]
def fltE (l : List Nat) (t : List Int) (w : Int) : Int := if fltB l t = 0 then lgE (fltI (sixs l) t w) else fltB l t
def fltN (l : List Nat) (t : List Int) (w : Int) : List Nat := if fltB l t = 0 then smpsN (fltI (sixs l) t w) else []
def rsC (z : Int × Int) : Nat × Nat := (FloatKind.nearest .f64 z.1, FloatKind.nearest .f64 z.2)
def resN (t : List Int) : List (Nat × Nat) := if chkTap t = 0 then tab 4 fun k => rsC (qu t k) else List.replicate 4 (0, 0)
end Go.Sx.U
