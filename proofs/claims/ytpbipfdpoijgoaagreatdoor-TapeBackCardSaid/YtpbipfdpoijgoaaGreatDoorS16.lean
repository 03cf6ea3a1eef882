/- A verified symbolic run of functions, part 16: lemmas, no claim of their own. -/
import Derived.Test.YtpbipfdpoijgoaaGreatDoorS15
import Derived.Shelf.Spec.SlicesGrow
import Derived.Shelf.Strings.Split
import Derived.Shelf.Strings.Prefix
import Derived.Shelf.Small.Strs
import Derived.Shelf.Small.Wraps
import Derived.Shelf.Strconv.ErrVarAll
import Derived.Shelf.LaysM
import Derived.Shelf.LaysC
import Derived.Lib.SmallJoins
namespace Go.Sx
open U
theorem so203 : Sp1 203 sp203 := by
  refine ⟨fun vs ps r h hp => ?_, Proofs.Tryz.f203, _, by kernel_rfl, rfl, by kernel_rfl⟩
  simp only [sp203] at h
  split at h
  · cases h; exact itoa1 _ (hp _ (by simp))
  · cases h
theorem so160 : Sp1 160 sp160 := by
  refine ⟨fun vs ps r h hp => ?_, Proofs.Tryz.f160, _, by kernel_rfl, rfl, by kernel_rfl⟩
  simp only [sp160] at h
  split at h
  · cases h; exact join1 _ _ (hp _ (by simp)) (hp _ (by simp))
  · cases h
theorem nd_le : ∀ (k u : Nat), u < 10 ^ (k + 1) → Lib.nDigits u ≤ k + 1
  | 0, u, h => by rw [Lib.nDigits_small (by simpa using h)]; omega
  | k + 1, u, h => by
    by_cases h1 : u < 10
    · rw [Lib.nDigits_small h1]; omega
    · rw [Lib.nDigits_big h1]
      have := nd_le k (u / 10) (by rw [Nat.pow_succ] at h; omega)
      omega
theorem itoa_len {n : Int} (h : fits .i64 n) : (Lib.itoa n).length ≤ 20 := by
  simp only [fits] at h
  have h1 : ∀ u : Nat, u < 10 ^ 19 → (Lib.decDigits u).length ≤ 19 := fun u hu => by rw [Lib.decDigits_length]; exact nd_le 18 u hu
  unfold Lib.itoa
  split
  · have := h1 n.natAbs (by omega)
    simp only [List.length_cons]; omega
  · have := h1 n.toNat (by omega)
    omega
theorem line_len {x : Ed} (hb : ∀ n ∈ numsE x, fits .i64 n) : (Lib.join ([[101, 100, 105, 116], x.1] ++ (numsE x).map Lib.itoa) [32]).length ≤ x.1.length + 200 := by
  have h1 := itoa_len (hb x.2.1 (by simp [numsE]))
  have h2 := itoa_len (hb x.2.2.1 (by simp [numsE]))
  have h3 := itoa_len (hb x.2.2.2.1 (by simp [numsE]))
  have h4 := itoa_len (hb x.2.2.2.2 (by simp [numsE]))
  have e : [[101, 100, 105, 116], x.1] ++ (numsE x).map Lib.itoa = [101, 100, 105, 116] :: [x.1, Lib.itoa x.2.1, Lib.itoa x.2.2.1, Lib.itoa x.2.2.2.1, Lib.itoa x.2.2.2.2] := rfl
  rw [e, Lib.join_length]
  simp only [Lib.lens, List.map_cons, List.map_nil, List.sum_cons, List.sum_nil, List.length_cons, List.length_nil]
  omega
theorem join_len (B : Nat) : ∀ (xs : List (List UInt8)), (∀ y ∈ xs, y.length ≤ B) → (Lib.join xs []).length ≤ xs.length * B
  | [], _ => by simp [Lib.join_nil]
  | x :: r, h => by
    rw [Lib.join_length]
    have : ∀ (l : List (List UInt8)), (∀ y ∈ l, y.length ≤ B) → Lib.lens l ≤ l.length * B := by
      intro l
      induction l with
      | nil => intro _; simp [Lib.lens]
      | cons y l ih =>
        intro h
        have h1 := h y List.mem_cons_self
        have h2 := ih fun z hz => h z (List.mem_cons_of_mem _ hz)
        simp only [Lib.lens, List.map_cons, List.sum_cons, List.length_cons, Nat.succ_mul] at h2 ⊢
        omega
    have := this _ h
    simpa using this
theorem sum_len {α : Type} {f : Nat → List α} (h : ∀ i, (f i).length ≤ 1) : ∀ i, (sumTo f i).length ≤ i
  | 0 => by simp [sumTo]
  | i + 1 => by
    have := sum_len h i
    have := h i
    simp only [sumTo, List.length_append]; omega
theorem partA_len (x : Pl) (t : Int) : (partA x t).length ≤ 1 := by unfold partA; split <;> (try split) <;> simp
theorem partB_len (x : Pl) (t : Int) : (partB x t).length ≤ 1 := by unfold partB; split <;> (try split) <;> simp
theorem part_bad {R : List Rl} {L : List Ed} {t e : Int} (he : partE R L t = e) (h : e ≠ 0) : (partL R L t).1 = [] ∧ (partL R L t).2 = [] ∧ e = partE R L t ∧ True := by
  have : partL R L t = ([], []) := by unfold partL; rw [he, if_neg h]
  rw [this, he]
  exact ⟨rfl, rfl, rfl, trivial⟩
theorem fn49 (R : List Rl) (L : List Ed) (i by_ : Int) (hl : R.length ≤ 1000000000) (hR : ∀ r ∈ R, r.2.2.length ≤ 1000000) (hL : L.length ≤ 1000000000) : Fn P1 gl1 49 [.one (.sl rlT R), .one (.sl edT L), iV i, iV by_] (.tup [.one (.frs edT (chgL R L i by_ 0 trimL)), iV (chgE R L i by_ 0 trimL)]) true := by
  refine Fn.flat ?_ rfl
  refine fn_of false [(43, sp43), (107, sp107), (109, sp109), (106, sp106)] [fb132, fb133, fb179, fb156] h0 3 Proofs.Tryz.f49 ⟨so43, so107, so109, so106, trivial⟩ ⟨⟨by kernel_rfl, by kernel_rfl, _, rfl, by kernel_rfl⟩, ⟨by kernel_rfl, by kernel_rfl, _, rfl, by kernel_rfl⟩, ⟨by kernel_rfl, by kernel_rfl, _, rfl, by kernel_rfl⟩, ⟨by kernel_rfl, by kernel_rfl, _, rfl, by kernel_rfl⟩, trivial⟩ (by kernel_rfl) rfl (by kernel_rfl) rfl rfl rfl ?_
  rw [vc49]
  try simp only [splitB_iff, -eq_self]
  simp only [U.copyL_all (show L.length = L.length from rfl)]
  simp only [trim_fold]
  refine ⟨hl, hR, hL, fun h => ?_, fun h => ?_⟩
  · have := chg_bad (i := i) (b := by_) (least := 0) (g := trimL) (show chkEds R L ≠ 0 by simpa using h)
    exact ⟨this.1, this.2, trivial⟩
  · have h' : chkEds R L = 0 := by simpa using h
    rw [chkCh_eq h']
    refine ⟨by decide, fun h2 => ?_, fun h2 => ?_⟩
    · have := chg_err (g := trimL) (show chkCh R L i by_ 0 ≠ 0 by simpa using h2)
      exact ⟨this.1, this.2, trivial⟩
    · have h2' : chkCh R L i by_ 0 = 0 := by simpa using h2
      obtain ⟨hk, hi, hb⟩ := chkCh_zero (by decide) h2'
      obtain ⟨k1, k2⟩ := chg_ok (g := trimL) h2'
      have hlen := hk.len
      have g2 := hk.eds.2 _ (getD_mem (d := e0) (show i.toNat < L.length by omega))
      simp only [trimL_len]
      refine ⟨by omega, by simp only [room]; omega, by simp, by omega, by omega, by simp only [fits]; omega, by omega, by omega, hl, hR, by omega, fun h3 => ?_, fun h3 => ?_⟩
      · have := k1 (by simpa using h3)
        exact ⟨this.1, this.2, trivial⟩
      · have := k2 (by simpa using h3)
        exact ⟨this.1, this.2, trivial⟩
theorem so49_ : SpecOk P1 gl1 49 sp49 := by
  intro vs ps r h hp
  simp only [sp49] at h
  split at h
  · cases h; exact fn49 _ _ _ _ (hp _ (.head _)) (hp _ (.tail _ (.head _))) (hp _ (.tail _ (.tail _ (.head _))))
  · cases h
theorem so49 : Sp1 49 sp49 := ⟨so49_, Proofs.Tryz.f49, _, by kernel_rfl, rfl, by kernel_rfl⟩
theorem fn51 (R : List Rl) (L : List Ed) (i by_ : Int) (hl : R.length ≤ 1000000000) (hR : ∀ r ∈ R, r.2.2.length ≤ 1000000) (hL : L.length ≤ 1000000000) : Fn P1 gl1 51 [.one (.sl rlT R), .one (.sl edT L), iV i, iV by_] (.tup [.one (.frs edT (chgL R L i by_ 0 slipL)), iV (chgE R L i by_ 0 slipL)]) true := by
  refine Fn.flat ?_ rfl
  refine fn_of false [(43, sp43), (107, sp107), (109, sp109), (106, sp106)] [fb132, fb135, fb181, fb156] h0 3 Proofs.Tryz.f51 ⟨so43, so107, so109, so106, trivial⟩ ⟨⟨by kernel_rfl, by kernel_rfl, _, rfl, by kernel_rfl⟩, ⟨by kernel_rfl, by kernel_rfl, _, rfl, by kernel_rfl⟩, ⟨by kernel_rfl, by kernel_rfl, _, rfl, by kernel_rfl⟩, ⟨by kernel_rfl, by kernel_rfl, _, rfl, by kernel_rfl⟩, trivial⟩ (by kernel_rfl) rfl (by kernel_rfl) rfl rfl rfl ?_
  rw [vc51]
  try simp only [splitB_iff, -eq_self]
  simp only [U.copyL_all (show L.length = L.length from rfl)]
  simp only [trim_fold, front_fold]
  refine ⟨hl, hR, hL, fun h => ?_, fun h => ?_⟩
  · have := chg_bad (i := i) (b := by_) (least := 0) (g := slipL) (show chkEds R L ≠ 0 by simpa using h)
    exact ⟨this.1, this.2, trivial⟩
  · have h' : chkEds R L = 0 := by simpa using h
    rw [chkCh_eq h']
    refine ⟨by decide, fun h2 => ?_, fun h2 => ?_⟩
    · have := chg_err (g := slipL) (show chkCh R L i by_ 0 ≠ 0 by simpa using h2)
      exact ⟨this.1, this.2, trivial⟩
    · have h2' : chkCh R L i by_ 0 = 0 := by simpa using h2
      obtain ⟨hk, hi, hb⟩ := chkCh_zero (by decide) h2'
      obtain ⟨k1, k2⟩ := chg_ok (g := slipL) h2'
      have hlen := hk.len
      have g2 := hk.eds.2 _ (getD_mem (d := e0) (show i.toNat < L.length by omega))
      have g3 : (frontL L i.toNat by_).getD i.toNat e0 = ((L.getD i.toNat e0).1, (L.getD i.toNat e0).2.1 + by_, (L.getD i.toNat e0).2.2.1, (L.getD i.toNat e0).2.2.2.1, (L.getD i.toNat e0).2.2.2.2) := by
        rw [frontL_get _ _ _ _ (by omega), if_pos rfl]
      simp only [slip_fold, frontL_len, slipL_len, g3]
      refine ⟨by omega, by simp only [room]; omega, by simp, by omega, by omega, by simp only [fits]; omega, by omega, by omega, by omega, by omega, by simp only [fits]; omega, by omega, by omega, hl, hR, by omega, fun h3 => ?_, fun h3 => ?_⟩
      · have := k1 (by simpa using h3)
        exact ⟨this.1, this.2, trivial⟩
      · have := k2 (by simpa using h3)
        exact ⟨this.1, this.2, trivial⟩
theorem so51_ : SpecOk P1 gl1 51 sp51 := by
  intro vs ps r h hp
  simp only [sp51] at h
  split at h
  · cases h; exact fn51 _ _ _ _ (hp _ (.head _)) (hp _ (.tail _ (.head _))) (hp _ (.tail _ (.tail _ (.head _))))
  · cases h
theorem so51 : Sp1 51 sp51 := ⟨so51_, Proofs.Tryz.f51, _, by kernel_rfl, rfl, by kernel_rfl⟩
theorem fn152 (R : List Rl) (A B : List Ed) (hl : R.length ≤ 1000000000) (hR : ∀ r ∈ R, r.2.2.length ≤ 1000000) (hA : A.length ≤ 1000000000) (hB : B.length ≤ 1000000000) : Fn P1 gl1 152 [.one (.sl rlT R), .one (.sl edT A), .one (.sl edT B)] (.val (iV (first [chkEds R A, chkEds R B]))) true := by
  refine Fn.flat ?_ rfl
  refine fn_of false [(43, sp43), (106, sp106)] [] h0 0 Proofs.Tryz.f152 ⟨so43, so106, trivial⟩ trivial (by kernel_rfl) rfl (by kernel_rfl) rfl rfl rfl ?_
  rw [vc152]
  try simp only [splitB_iff, -eq_self]
  exact ⟨hl, hR, hA, hl, hR, hB, by decide, rfl, trivial⟩
theorem so152_ : SpecOk P1 gl1 152 sp152 := by
  intro vs ps r h hp
  simp only [sp152] at h
  split at h
  · cases h; exact fn152 _ _ _ (hp _ (.head _)) (hp _ (.tail _ (.head _))) (hp _ (.tail _ (.tail _ (.head _)))) (hp _ (.tail _ (.tail _ (.tail _ (.head _)))))
  · cases h
theorem so152 : Sp1 152 sp152 := ⟨so152_, Proofs.Tryz.f152, _, by kernel_rfl, rfl, by kernel_rfl⟩
theorem fn84 (R : List Rl) (L : List Ed) (t : Int) (hl : R.length ≤ 1000000000) (hR : ∀ r ∈ R, r.2.2.length ≤ 1000000) (hL : L.length ≤ 1000000000) : Fn P1 gl1 84 [.one (.sl rlT R), .one (.sl edT L), iV t] (.tup [.one (.frs edT (partL R L t).1), .one (.frs edT (partL R L t).2), iV (partE R L t)]) true := by
  refine Fn.flat ?_ rfl
  refine fn_of false [(43, sp43), (120, sp120), (109, sp109), (130, sp130), (158, sp158), (152, sp152)] [] h84 0 Proofs.Tryz.f84 ⟨so43, so120, so109, so130, so158, so152, trivial⟩ trivial (by kernel_rfl) rfl (by kernel_rfl) rfl rfl rfl ?_
  rw [vc84]
  try simp only [splitB_iff, -eq_self]
  have hN : begN L L.length = lenL L := rfl
  have hP : plTo L L.length = ls L := rfl
  simp only [hN, hP, ls_len]
  refine ⟨hl, hR, hL, fun h => ?_, fun h => ?_⟩
  · have h' : chkEds R L ≠ 0 := by simpa using h
    exact part_bad (if_pos h') h'
  · have h' : chkEds R L = 0 := by simpa using h
    have hk := chkEds_zero.1 h'
    have h16 := hk.len
    refine ⟨hl, hk.eds, fun h2 => ?_, fun h2 => ?_⟩
    · have h2' : within t 0 (lenL L) ≠ 0 := by simpa using h2
      exact part_bad (by unfold partE; rw [if_neg (by simpa using h'), if_pos h2']) h2'
    · have h2' : within t 0 (lenL L) = 0 := by simpa using h2
      have ht := within_zero.1 h2'
      have hE : partE R L t = if upTo (fun j => tornE ((ls L).getD j pl0) t) L.length ≠ 0 then 22 else first [chkEds R (asN (ls L) t L.length), chkEds R (bsN (ls L) t L.length)] := by
        unfold partE; rw [if_neg (by simpa using h'), if_neg (by simpa using h2')]
      have hbig := hk.big
      have hb := pl_bd hk.rs hk.len hk.ed hk.big
      have la : ∀ i, (asN (ls L) t i).length ≤ i := sum_len fun _ => partA_len _ _
      have lb : ∀ i, (bsN (ls L) t i).length ≤ i := sum_len fun _ => partB_len _ _
      refine ⟨⟨0, ⟨Nat.zero_le _, rfl⟩, rfl, by trivial, by trivial, by trivial, by trivial, by trivial, rfl, rfl, by trivial, by trivial, by trivial, trivial⟩, fun g hg => ⟨fun hlt => ?_, fun hge => ?_⟩⟩
      · have hlt' : g < L.length := by simpa using hlt
        have hx := hb _ (getD_mem (d := pl0) (show g < (ls L).length by rw [ls_len]; exact hlt'))
        have ea : asN (ls L) t (g + 1) = asN (ls L) t g ++ partA ((ls L).getD g pl0) t := rfl
        have eb : bsN (ls L) t (g + 1) = bsN (ls L) t g ++ partB ((ls L).getD g pl0) t := rfl
        have la := la g
        have lb := lb g
        refine ⟨by omega, fun _ => by simp only [fits]; omega, fun _ => by simp only [fits]; omega, fun h3 => ?_, fun h3 => ?_⟩
        · have e22 : tornE ((ls L).getD g pl0) t = 22 := by
            simp only [bcond_l, bcond_r] at h3
            unfold tornE sndN; rw [h3]; rfl
          have := upTo_eq (f := fun j => tornE ((ls L).getD j pl0) t) hg.2 (by show tornE _ t ≠ 0; rw [e22]; decide) hlt'
          exact part_bad (by rw [hE, if_pos (by rw [this, e22]; decide)]) (by decide)
        · have ez : tornE ((ls L).getD g pl0) t = 0 := by
            simp only [bcond_l, bcond_r] at h3
            unfold tornE sndN; rw [h3]; rfl
          have hup := upTo_succ (f := fun j => tornE ((ls L).getD j pl0) t) hg.2 ez
          refine ⟨fun h4 => ?_, fun h4 => ⟨by simp only [fits]; omega, by simp only [fits]; omega, fun h5 => ?_, fun h5 => ?_⟩⟩
          · have h4' : ¬ ((ls L).getD g pl0).2 < t := by simpa using h4
            refine ⟨by simp only [room]; omega, by simp only [fits]; omega, g + 1, ⟨hlt', hup⟩, by omega, by simp, by trivial, by trivial, by trivial, by trivial, by trivial, ?_, ?_, by trivial, by trivial, by trivial, trivial⟩
            · rw [ea]; unfold partA; rw [if_neg h4', List.append_nil]
            · rw [eb]; unfold partB; rw [if_neg h4']
          · have h4' : ((ls L).getD g pl0).2 < t := by simpa using h4
            have h5' := of_decide_eq_true h5
            refine ⟨by simp only [room]; omega, by simp only [fits]; omega, g + 1, ⟨hlt', hup⟩, by omega, by simp, by trivial, by trivial, by trivial, by trivial, by trivial, ?_, ?_, by trivial, by trivial, by trivial, trivial⟩
            · rw [ea]; unfold partA; rw [if_pos h4', if_pos h5']
            · rw [eb]; unfold partB; rw [if_pos h4', if_pos h5', List.append_nil]
          · have h4' : ((ls L).getD g pl0).2 < t := by simpa using h4
            have h5' := of_decide_eq_false h5
            refine ⟨by simp only [fits]; omega, by simp only [fits]; omega, by simp only [room]; omega, by simp only [room]; omega, by simp only [fits]; omega, g + 1, ⟨hlt', hup⟩, by omega, by simp, by trivial, by trivial, by trivial, by trivial, by trivial, ?_, ?_, by trivial, by trivial, by trivial, trivial⟩
            · rw [ea]; unfold partA; rw [if_pos h4', if_neg h5']
            · rw [eb]; unfold partB; rw [if_pos h4', if_neg h5']
      · have hge' : ¬ g < L.length := by simpa using hge
        have hgl : g = L.length := by omega
        subst hgl
        have la := la L.length
        have lb := lb L.length
        have hE2 := hE.trans (if_neg (by simpa using hg.2))
        refine ⟨hl, hR, by omega, by omega, fun h3 => ?_, fun h3 => ?_⟩
        · exact part_bad hE2 (by simpa using h3)
        · have hz : partE R L t = 0 := hE2.trans (by simpa using h3)
          unfold partL
          rw [if_pos hz, hz]
          exact ⟨rfl, rfl, rfl, trivial⟩
theorem so84_ : SpecOk P1 gl1 84 sp84 := by
  intro vs ps r h hp
  simp only [sp84] at h
  split at h
  · cases h; exact fn84 _ _ _ (hp _ (.head _)) (hp _ (.tail _ (.head _))) (hp _ (.tail _ (.tail _ (.head _))))
  · cases h
theorem so84 : Sp1 84 sp84 := ⟨so84_, Proofs.Tryz.f84, _, by kernel_rfl, rfl, by kernel_rfl⟩
theorem fn197 (x : Ed)  : Fn P1 gl1 197 [edV x] (.val (.one (.frs (.int .i64) (numsE x)))) true := by
  refine Fn.flat ?_ rfl
  refine fn_of false [] [] h0 0 Proofs.Tryz.f197 trivial trivial (by kernel_rfl) rfl (by kernel_rfl) rfl rfl rfl ?_
  rw [vc197]
  try simp only [splitB_iff, -eq_self]
  trivial
theorem so197_ : SpecOk P1 gl1 197 sp197 := by
  intro vs ps r h _
  simp only [sp197] at h
  split at h
  · cases h; exact fn197 (_, _, _, _, _) 
  · cases h
theorem so197 : Sp1 197 sp197 := ⟨so197_, Proofs.Tryz.f197, _, by kernel_rfl, rfl, by kernel_rfl⟩
theorem fn202 (l : List Int) (hl : l.length ≤ 1000000) (hb : ∀ n ∈ l, fits .i64 n) : Fn P1 gl1 202 [.one (.sl (.int .i64) l), .one (.fn 203 [] [])] (.val (.one (.frs .str (l.map Lib.itoa)))) true := by
  refine Fn.flat ?_ rfl
  refine fn_of false [(203, sp203)] [] h202 0 Proofs.Tryz.f202 ⟨so203, trivial⟩ trivial (by kernel_rfl) rfl (by kernel_rfl) rfl rfl rfl ?_
  rw [vc202]
  try simp only [splitB_iff, -eq_self]
  refine ⟨⟨0, Nat.zero_le _, rfl, by trivial, by trivial, by simp⟩, fun g hg => ⟨fun hlt => ?_, fun hge => ?_⟩⟩
  · have hlt' : g < l.length := by simpa using hlt
    refine ⟨by omega, hb _ (getD_mem (d := 0) hlt'), by simp only [room, List.length_map, List.length_take]; omega, by simp only [fits]; omega, g + 1, hlt', by omega, by simp, by trivial, by trivial, ?_, trivial⟩
    rw [getD_of hlt', List.take_succ_eq_append_getElem hlt', List.map_append]
    rfl
  · have hge' : ¬ g < l.length := by simpa using hge
    rw [List.take_of_length_le (by omega)]
    exact ⟨rfl, trivial⟩
theorem so202_ : SpecOk P1 gl1 202 sp202 := by
  intro vs ps r h hp
  simp only [sp202] at h
  split at h
  · cases h; exact fn202 _ (hp _ (.head _)) (hp _ (.tail _ (.head _)))
  · cases h
theorem so202 : Sp1 202 sp202 := ⟨so202_, Proofs.Tryz.f202, _, by kernel_rfl, rfl, by kernel_rfl⟩
theorem fn162 (x : Ed) (hb : ∀ n ∈ numsE x, fits .i64 n) (hn : x.1.length ≤ 1000000) : Fn P1 gl1 162 [edV x] (.val (sV (lineE x))) true := by
  refine Fn.flat ?_ rfl
  refine fn_of false [(197, sp197), (202, sp202), (160, sp160)] [] h0 0 Proofs.Tryz.f162 ⟨so197, so202, so160, trivial⟩ trivial (by kernel_rfl) rfl (by kernel_rfl) rfl rfl rfl ?_
  rw [vc162]
  try simp only [-eq_self]
  have hj := line_len hb
  have e : ([[101, 100, 105, 116], x.1] ++ (numsE x).map Lib.itoa).length = 6 := rfl
  exact ⟨by simp [numsE], hb, (by simp [room] : room 6 16), by show _ ≤ _; rw [show _ = 6 from e]; decide, by show List.length (Lib.join ([[101, 100, 105, 116], x.1] ++ (numsE x).map Lib.itoa) [32]) ≤ _; omega, by show List.length (Lib.join ([[101, 100, 105, 116], x.1] ++ (numsE x).map Lib.itoa) [32]) + 1 ≤ _; omega, rfl, trivial⟩
theorem so162_ : SpecOk P1 gl1 162 sp162 := by
  intro vs ps r h hp
  simp only [sp162] at h
  split at h
  · cases h; exact fn162 (_, _, _, _, _) (hp _ (.head _)) (hp _ (.tail _ (.head _)))
  · cases h
theorem so162 : Sp1 162 sp162 := ⟨so162_, Proofs.Tryz.f162, _, by kernel_rfl, rfl, by kernel_rfl⟩
theorem fn161 (L : List Ed) (hl : L.length ≤ 1000000) (hb : ∀ x ∈ L, (∀ n ∈ numsE x, fits .i64 n) ∧ x.1.length ≤ 1000000) : Fn P1 gl1 161 [.one (.sl edT L), .one (.fn 162 [] [])] (.val (.one (.frs .str (L.map lineE)))) true := by
  refine Fn.flat ?_ rfl
  refine fn_of false [(162, sp162)] [] h161 0 Proofs.Tryz.f161 ⟨so162, trivial⟩ trivial (by kernel_rfl) rfl (by kernel_rfl) rfl rfl rfl ?_
  rw [vc161]
  try simp only [splitB_iff, -eq_self]
  refine ⟨⟨0, Nat.zero_le _, rfl, by trivial, by trivial, by simp⟩, fun g hg => ⟨fun hlt => ?_, fun hge => ?_⟩⟩
  · have hlt' : g < L.length := by simpa using hlt
    refine ⟨by omega, (hb _ (getD_mem (d := e0) hlt')).1, (hb _ (getD_mem (d := e0) hlt')).2, by simp only [room, List.length_map, List.length_take]; omega, by simp only [fits]; omega, g + 1, hlt', by omega, by simp, by trivial, by trivial, ?_, trivial⟩
    rw [getD_of hlt', List.take_succ_eq_append_getElem hlt', List.map_append]
    rfl
  · have hge' : ¬ g < L.length := by simpa using hge
    rw [List.take_of_length_le (by omega)]
    exact ⟨rfl, trivial⟩
theorem so161_ : SpecOk P1 gl1 161 sp161 := by
  intro vs ps r h hp
  simp only [sp161] at h
  split at h
  · cases h; exact fn161 _ (hp _ (.head _)) (hp _ (.tail _ (.head _)))
  · cases h
theorem so161 : Sp1 161 sp161 := ⟨so161_, Proofs.Tryz.f161, _, by kernel_rfl, rfl, by kernel_rfl⟩
theorem fn110 (l : List Int) (hl : l.length ≤ 1000000) : Fn P1 gl1 110 [.one (.sl (.int .i64) l), .one (.fn 198 [] [])] (.val (.one (.frs (.int .i64) (l.map fun n => within n (-999999999) 999999999)))) true := by
  refine Fn.flat ?_ rfl
  refine fn_of false [(109, sp109)] [fb198] hMapTx 3 Proofs.Tryz.f110 ⟨so109, trivial⟩ ⟨⟨by kernel_rfl, by kernel_rfl, _, rfl, by kernel_rfl⟩, trivial⟩ (by kernel_rfl) rfl (by kernel_rfl) rfl rfl rfl ?_
  rw [vc110]
  try simp only [splitB_iff, -eq_self]
  refine ⟨⟨0, Nat.zero_le _, rfl, by trivial, by trivial, by simp⟩, fun g hg => ⟨fun hlt => ?_, fun hge => ?_⟩⟩
  · have hlt' : g < l.length := by simpa using hlt
    refine ⟨by omega, by simp only [room, List.length_map, List.length_take]; omega, by simp only [fits]; omega, g + 1, hlt', by omega, by simp, by trivial, by trivial, ?_, trivial⟩
    rw [getD_of hlt', List.take_succ_eq_append_getElem hlt', List.map_append]
    rfl
  · have hge' : ¬ g < l.length := by simpa using hge
    rw [List.take_of_length_le (by omega)]
    exact ⟨rfl, trivial⟩
theorem so110_ : SpecOk P1 gl1 110 sp110 := by
  intro vs ps r h hp
  simp only [sp110] at h
  split at h
  · cases h; exact fn110 _ (hp _ (.head _))
  · cases h
theorem so110 : Sp1 110 sp110 := ⟨so110_, Proofs.Tryz.f110, _, by kernel_rfl, rfl, by kernel_rfl⟩
theorem fn159 (L : List Ed) (hl : L.length ≤ 1000000000) : Fn P1 gl1 159 [.one (.sl edT L)] (.val (iV (chkText L))) true := by
  refine Fn.flat ?_ rfl
  refine fn_of false [(108, sp108), (197, sp197), (110, sp110), (106, sp106)] [] h159 0 Proofs.Tryz.f159 ⟨so108, so197, so110, so106, trivial⟩ trivial (by kernel_rfl) rfl (by kernel_rfl) rfl rfl rfl ?_
  rw [vc159]
  try simp only [splitB_iff, -eq_self]
  refine ⟨fun h => ?_, fun h => ⟨⟨0, ⟨Nat.zero_le _, rfl⟩, rfl, by trivial, by trivial, trivial⟩, fun g hg => ⟨fun hlt => ?_, fun hge => ?_⟩⟩⟩
  · exact ⟨(if_pos (by have := of_decide_eq_true h; omega)).symm, trivial⟩
  · have h16 : ¬ 16 < L.length := by have := of_decide_eq_false h; omega
    have hC : chkText L = upTo (fun i => chkTx (L.getD i e0)) L.length := if_neg h16
    have hlt' : g < L.length := by simpa using hlt
    refine ⟨by omega, fun h2 => ?_, fun h2 => ⟨by simp [numsE], by simp [numsE], fun h3 => ?_, fun h3 => ?_⟩⟩
    · have e : chkTx (L.getD g e0) = 8 := by unfold chkTx; rw [if_neg (by simpa using h2)]
      have := upTo_eq (f := fun i => chkTx (L.getD i e0)) hg.2 (by show chkTx _ ≠ 0; rw [e]; decide) hlt'
      rw [hC, this, e]; exact ⟨rfl, trivial⟩
    · have e : chkTx (L.getD g e0) = first ((numsE (L.getD g e0)).map fun n => within n (-999999999) 999999999) := by unfold chkTx; rw [if_pos (by simpa using h2)]
      have h3' : first ((numsE (L.getD g e0)).map fun n => within n (-999999999) 999999999) ≠ 0 := by simpa using h3
      have := upTo_eq (f := fun i => chkTx (L.getD i e0)) hg.2 (by show chkTx _ ≠ 0; rw [e]; exact h3') hlt'
      rw [hC, this, e]; exact ⟨rfl, trivial⟩
    · have e : chkTx (L.getD g e0) = first ((numsE (L.getD g e0)).map fun n => within n (-999999999) 999999999) := by unfold chkTx; rw [if_pos (by simpa using h2)]
      have h3' : first ((numsE (L.getD g e0)).map fun n => within n (-999999999) 999999999) = 0 := by simpa using h3
      exact ⟨by simp only [fits]; omega, g + 1, ⟨hlt', upTo_succ (f := fun i => chkTx (L.getD i e0)) hg.2 (e.trans h3')⟩, by omega, by simp, by trivial, by trivial, trivial⟩
  · have h16 : ¬ 16 < L.length := by have := of_decide_eq_false h; omega
    have hge' : ¬ g < L.length := by simpa using hge
    have hgl : g = L.length := by omega
    subst hgl
    exact ⟨((if_neg h16).trans hg.2).symm, trivial⟩
theorem so159_ : SpecOk P1 gl1 159 sp159 := by
  intro vs ps r h hp
  simp only [sp159] at h
  split at h
  · cases h; exact fn159 _ (hp _ (.head _))
  · cases h
theorem so159 : Sp1 159 sp159 := ⟨so159_, Proofs.Tryz.f159, _, by kernel_rfl, rfl, by kernel_rfl⟩
theorem fn90 (L : List Ed) (hl : L.length ≤ 1000000) (hn : ∀ x ∈ L, (∀ n ∈ numsE x, fits .i64 n) ∧ x.1.length ≤ 1000) : Fn P1 gl1 90 [.one (.sl edT L)] (.tup [sV (printN L), iV (chkText L)]) true := by
  refine Fn.flat ?_ rfl
  refine fn_of false [(159, sp159), (161, sp161), (160, sp160)] [] h0 0 Proofs.Tryz.f90 ⟨so159, so161, so160, trivial⟩ trivial (by kernel_rfl) rfl (by kernel_rfl) rfl rfl rfl ?_
  rw [vc90]
  try simp only [splitB_iff, -eq_self]
  refine ⟨by omega, fun h => ?_, fun h => ?_⟩
  · have h' : chkText L ≠ 0 := by simpa using h
    exact ⟨(if_neg h').symm, rfl, trivial⟩
  · have h' : chkText L = 0 := by simpa using h
    have h16 : L.length ≤ 16 := by
      apply Classical.byContradiction
      intro hn
      have : chkText L = 5 := if_pos (by omega)
      omega
    have hb : ∀ x ∈ L, (∀ n ∈ numsE x, fits .i64 n) ∧ x.1.length ≤ 1000000 := fun x hx => ⟨(hn x hx).1, by have := (hn x hx).2; omega⟩
    have hj := join_len 2000 (L.map lineE) (fun y hy => by
      obtain ⟨x, hx, rfl⟩ := List.mem_map.1 hy
      have h1 := line_len (hn x hx).1
      have h2 := (hn x hx).2
      unfold lineE
      rw [List.length_append]
      simp only [List.length_cons, List.length_nil]
      omega)
    rw [List.length_map] at hj
    exact ⟨hl, hb, by rw [List.length_map]; omega, by show (Lib.join (L.map lineE) []).length ≤ _; omega, (if_pos h').symm, h'.symm, trivial⟩
theorem so90_ : SpecOk P1 gl1 90 sp90 := by
  intro vs ps r h hp
  simp only [sp90] at h
  split at h
  · cases h; exact fn90 _ (hp _ (.head _)) (hp _ (.tail _ (.head _)))
  · cases h
theorem so90 : Sp1 90 sp90 := ⟨so90_, Proofs.Tryz.f90, _, by kernel_rfl, rfl, by kernel_rfl⟩
end Go.Sx

namespace Go.Sx.U
abbrev Nd := List UInt8 × Int × Int
def nd0 : Nd := ([], 0, 0)
end Go.Sx.U
namespace Go.Sx
open U
def hCopyP (u : Ty) (s : St) : Option LInv := match listAs s 6 u with
  | some xs => some ⟨Nat, fun i => ⟨[tI 8 i, (3, .val (.one (.own s.nx)))] ++ keepT [6, 7] s.tm, (s.nx, some (.row u (List.take i xs))) :: lessO s [3], s.nx + 1, s.lr⟩, fun i => i ≤ List.length xs, fun i => List.length xs - i⟩
  | _ => none
def hCopy (f : Nat) (u : Ty) : Hints := ⟨fun f' k s => match Nat.beq f' f, k with
  | true, 3 => hCopyP u s
  | _, _ => none, 0⟩
def hSame (f : Nat) (u : Ty) (d : u.T) : Hints := ⟨fun f' k s => match Nat.beq f' f, k with
  | true, 4 => match listAs s 0 u, listAs s 1 u with
    | some a, some b => hCt s [0, 1] 5 (List.length a) fun i => ∀ j, j < i → List.getD a j d = List.getD b j d
    | _, _ => none
  | _, _ => none, 0⟩
end Go.Sx
namespace Go.Sx
open U
def sp34 : FSpec := ⟨fun vs => match vs with
  | [.one (.sl (.pair .str (.pair (.int .i64) (.pair (.int .i64) (.pair (.int .i64) (.int .i64))))) L)] => some ([List.length L ≤ 1000000], .val (.one (.frs edT L)))
  | _ => none, true⟩
def sp57 : FSpec := ⟨fun vs => match vs with
  | [.one (.sl (.pair .str (.pair (.int .i64) (.pair (.int .i64) (.pair (.int .i64) (.int .i64))))) L)] => some ([List.length L ≤ 1000000], .val (.one (.frs edT L)))
  | _ => none, true⟩
def sp48 : FSpec := ⟨fun vs => match vs with
  | [.one (.sl (.pair .str (.pair (.int .i64) (.pair (.int .i64) (.int .i64)))) L)] => some ([List.length L ≤ 1000000], .val (.one (.frs tkT L)))
  | _ => none, true⟩
def sp74 : FSpec := ⟨fun vs => match vs with
  | [.one (.sl (.pair .str (.pair (.int .i64) (.int .i64))) L)] => some ([List.length L ≤ 1000000], .val (.one (.frs ndT L)))
  | _ => none, true⟩
def sp56 : FSpec := ⟨fun vs => match vs with
  | [.one (.sl (.pair .str (.pair (.int .i64) (.pair (.int .i64) (.pair (.int .i64) (.int .i64))))) a), .one (.sl (.pair .str (.pair (.int .i64) (.pair (.int .i64) (.pair (.int .i64) (.int .i64))))) b)] => some ([List.length a ≤ 1000000], .val (bV (decide ((show List Ed from a) = b))))
  | [.one (.sl (.pair .str (.pair (.int .i64) (.pair (.int .i64) (.pair (.int .i64) (.int .i64))))) a), .one .nils] => some ([List.length a ≤ 1000000], .val (bV (decide ((show List Ed from a) = []))))
  | _ => none, true⟩
def sp47 : FSpec := ⟨fun vs => match vs with
  | [.one (.sl (.pair .str (.pair (.int .i64) (.pair (.int .i64) (.int .i64)))) a), .one (.sl (.pair .str (.pair (.int .i64) (.pair (.int .i64) (.int .i64)))) b)] => some ([List.length a ≤ 1000000], .val (bV (decide ((show List Tk from a) = b))))
  | [.one (.sl (.pair .str (.pair (.int .i64) (.pair (.int .i64) (.int .i64)))) a), .one .nils] => some ([List.length a ≤ 1000000], .val (bV (decide ((show List Tk from a) = []))))
  | _ => none, true⟩
def sp73 : FSpec := ⟨fun vs => match vs with
  | [.one (.sl (.pair .str (.pair (.int .i64) (.int .i64))) a), .one (.sl (.pair .str (.pair (.int .i64) (.int .i64))) b)] => some ([List.length a ≤ 1000000], .val (bV (decide ((show List Nd from a) = b))))
  | [.one (.sl (.pair .str (.pair (.int .i64) (.int .i64))) a), .one .nils] => some ([List.length a ≤ 1000000], .val (bV (decide ((show List Nd from a) = []))))
  | _ => none, true⟩
def sp32 : FSpec := ⟨fun vs => match vs with
  | [.agg [.one (.str n1), .one (.int .i64 f1), .one (.sl (.int .i64) l1)], .agg [.one (.str n2), .one (.int .i64 f2), .one (.sl (.int .i64) l2)]] => some ([List.length l1 ≤ 1000000], .val (bV (decide ((n1, f1, l1) = (n2, f2, l2)))))
  | _ => none, true⟩
end Go.Sx

namespace Go.Sx
open U
theorem vc34 (L : List Ed) : exF (env false [] []) (hCopy 34 edT) 0 34 Proofs.Tryz.f34 [.one (.sl edT L)] (.val (.one (.frs edT L))) = (let q0 := (↑(List.length L) : Int); (∃ (g : Nat), Nat.le g (List.length L) ∧ (0 : Int) = (↑g : Int) ∧ q0 = q0 ∧ L = L ∧ List.take g L = [] ∧ True) ∧ ∀ (g : Nat), let q1 := (List.getD L g e0); Nat.le g (List.length L) → splitB (decide ((↑g : Int) < q0)) (((0 : Int) ≤ (↑g : Int) ∧ (↑g : Int) < q0) ∧ room (List.length (List.take g L) + (1 : Nat)) (48 : Nat) ∧ fits IntKind.i64 ((↑g : Int) + (1 : Int)) ∧ ∃ (g' : Nat), Nat.le g' (List.length L) ∧ List.length L - g' < List.length L - g ∧ (↑g : Int) + (1 : Int) = (↑g' : Int) ∧ q0 = q0 ∧ L = L ∧ List.take g L ++ [(q1.1, q1.2.1, q1.2.2.1, q1.2.2.2.1, q1.2.2.2.2)] = List.take g' L ∧ True) (List.take g L = L ∧ True)) := by
  kernel_rfl
theorem vc57 (L : List Ed) : exF (env false [] []) (hCopy 57 edT) 0 57 Proofs.Tryz.f57 [.one (.sl edT L)] (.val (.one (.frs edT L))) = (let q0 := (↑(List.length L) : Int); (∃ (g : Nat), Nat.le g (List.length L) ∧ (0 : Int) = (↑g : Int) ∧ q0 = q0 ∧ L = L ∧ List.take g L = [] ∧ True) ∧ ∀ (g : Nat), let q1 := (List.getD L g e0); Nat.le g (List.length L) → splitB (decide ((↑g : Int) < q0)) (((0 : Int) ≤ (↑g : Int) ∧ (↑g : Int) < q0) ∧ room (List.length (List.take g L) + (1 : Nat)) (48 : Nat) ∧ fits IntKind.i64 ((↑g : Int) + (1 : Int)) ∧ ∃ (g' : Nat), Nat.le g' (List.length L) ∧ List.length L - g' < List.length L - g ∧ (↑g : Int) + (1 : Int) = (↑g' : Int) ∧ q0 = q0 ∧ L = L ∧ List.take g L ++ [(q1.1, q1.2.1, q1.2.2.1, q1.2.2.2.1, q1.2.2.2.2)] = List.take g' L ∧ True) (List.take g L = L ∧ True)) := by
  kernel_rfl
theorem vc48 (L : List Tk) : exF (env false [] []) (hCopy 48 tkT) 0 48 Proofs.Tryz.f48 [.one (.sl tkT L)] (.val (.one (.frs tkT L))) = (let q0 := (↑(List.length L) : Int); (∃ (g : Nat), Nat.le g (List.length L) ∧ (0 : Int) = (↑g : Int) ∧ q0 = q0 ∧ L = L ∧ List.take g L = [] ∧ True) ∧ ∀ (g : Nat), let q1 := (List.getD L g tk0); Nat.le g (List.length L) → splitB (decide ((↑g : Int) < q0)) (((0 : Int) ≤ (↑g : Int) ∧ (↑g : Int) < q0) ∧ room (List.length (List.take g L) + (1 : Nat)) (40 : Nat) ∧ fits IntKind.i64 ((↑g : Int) + (1 : Int)) ∧ ∃ (g' : Nat), Nat.le g' (List.length L) ∧ List.length L - g' < List.length L - g ∧ (↑g : Int) + (1 : Int) = (↑g' : Int) ∧ q0 = q0 ∧ L = L ∧ List.take g L ++ [(q1.1, q1.2.1, q1.2.2.1, q1.2.2.2)] = List.take g' L ∧ True) (List.take g L = L ∧ True)) := by
  kernel_rfl
theorem vc74 (L : List Nd) : exF (env false [] []) (hCopy 74 ndT) 0 74 Proofs.Tryz.f74 [.one (.sl ndT L)] (.val (.one (.frs ndT L))) = (let q0 := (↑(List.length L) : Int); (∃ (g : Nat), Nat.le g (List.length L) ∧ (0 : Int) = (↑g : Int) ∧ q0 = q0 ∧ L = L ∧ List.take g L = [] ∧ True) ∧ ∀ (g : Nat), let q1 := (List.getD L g ([], (0 : Int), (0 : Int))); Nat.le g (List.length L) → splitB (decide ((↑g : Int) < q0)) (((0 : Int) ≤ (↑g : Int) ∧ (↑g : Int) < q0) ∧ room (List.length (List.take g L) + (1 : Nat)) (32 : Nat) ∧ fits IntKind.i64 ((↑g : Int) + (1 : Int)) ∧ ∃ (g' : Nat), Nat.le g' (List.length L) ∧ List.length L - g' < List.length L - g ∧ (↑g : Int) + (1 : Int) = (↑g' : Int) ∧ q0 = q0 ∧ L = L ∧ List.take g L ++ [(q1.1, q1.2.1, q1.2.2)] = List.take g' L ∧ True) (List.take g L = L ∧ True)) := by
  kernel_rfl
theorem vc56 (a b : List Ed) : exF (env false [] []) (hSame 56 edT e0) 0 56 Proofs.Tryz.f56 [.one (.sl edT a), .one (.sl edT b)] (.val (bV (decide (a = b)))) = (let q2 := (Ty.int IntKind.i64); splitB ((↑(List.length a) : Int) != (↑(List.length b) : Int)) (false = decide (a = b) ∧ True) ((∃ (g : Nat), (g ≤ List.length a ∧ ∀ (j : Nat), j < g → List.getD a j e0 = List.getD b j e0) ∧ (0 : Int) = (↑g : Int) ∧ a = a ∧ b = b ∧ True) ∧ ∀ (g : Nat), let q0 := (List.getD a g e0); let q1 := (List.getD b g e0); (g ≤ List.length a ∧ ∀ (j : Nat), j < g → List.getD a j e0 = List.getD b j e0) → splitB (decide ((↑g : Int) < (↑(List.length a) : Int))) (((0 : Int) ≤ (↑g : Int) ∧ (↑g : Int) < (↑(List.length a) : Int)) ∧ ((0 : Int) ≤ (↑g : Int) ∧ (↑g : Int) < (↑(List.length b) : Int)) ∧ splitB (!eqT (Ty.pair Ty.str (Ty.pair q2 (Ty.pair q2 (Ty.pair q2 q2)))) (q0.1, q0.2.1, q0.2.2.1, q0.2.2.2.1, q0.2.2.2.2) (q1.1, q1.2.1, q1.2.2.1, q1.2.2.2.1, q1.2.2.2.2)) (false = decide (a = b) ∧ True) (fits IntKind.i64 ((↑g : Int) + (1 : Int)) ∧ ∃ (g' : Nat), (g' ≤ List.length a ∧ ∀ (j : Nat), j < g' → List.getD a j e0 = List.getD b j e0) ∧ List.length a - g' < List.length a - g ∧ (↑g : Int) + (1 : Int) = (↑g' : Int) ∧ a = a ∧ b = b ∧ True)) (true = decide (a = b) ∧ True))) := by
  kernel_rfl
theorem vc47 (a b : List Tk) : exF (env false [] []) (hSame 47 tkT tk0) 0 47 Proofs.Tryz.f47 [.one (.sl tkT a), .one (.sl tkT b)] (.val (bV (decide (a = b)))) = (splitB ((↑(List.length a) : Int) != (↑(List.length b) : Int)) (false = decide (a = b) ∧ True) ((∃ (g : Nat), (g ≤ List.length a ∧ ∀ (j : Nat), j < g → List.getD a j tk0 = List.getD b j tk0) ∧ (0 : Int) = (↑g : Int) ∧ a = a ∧ b = b ∧ True) ∧ ∀ (g : Nat), let q0 := (List.getD a g tk0); let q1 := (List.getD b g tk0); (g ≤ List.length a ∧ ∀ (j : Nat), j < g → List.getD a j tk0 = List.getD b j tk0) → splitB (decide ((↑g : Int) < (↑(List.length a) : Int))) (((0 : Int) ≤ (↑g : Int) ∧ (↑g : Int) < (↑(List.length a) : Int)) ∧ ((0 : Int) ≤ (↑g : Int) ∧ (↑g : Int) < (↑(List.length b) : Int)) ∧ splitB (!eqT (Ty.pair Ty.str (Ty.pair (Ty.int IntKind.i64) (Ty.pair (Ty.int IntKind.i64) (Ty.int IntKind.i64)))) (q0.1, q0.2.1, q0.2.2.1, q0.2.2.2) (q1.1, q1.2.1, q1.2.2.1, q1.2.2.2)) (false = decide (a = b) ∧ True) (fits IntKind.i64 ((↑g : Int) + (1 : Int)) ∧ ∃ (g' : Nat), (g' ≤ List.length a ∧ ∀ (j : Nat), j < g' → List.getD a j tk0 = List.getD b j tk0) ∧ List.length a - g' < List.length a - g ∧ (↑g : Int) + (1 : Int) = (↑g' : Int) ∧ a = a ∧ b = b ∧ True)) (true = decide (a = b) ∧ True))) := by
  kernel_rfl
theorem vc73 (a b : List Nd) : exF (env false [] []) (hSame 73 ndT nd0) 0 73 Proofs.Tryz.f73 [.one (.sl ndT a), .one (.sl ndT b)] (.val (bV (decide (a = b)))) = (let q0 := ([], (0 : Int), (0 : Int)); splitB ((↑(List.length a) : Int) != (↑(List.length b) : Int)) (false = decide (a = b) ∧ True) ((∃ (g : Nat), (g ≤ List.length a ∧ ∀ (j : Nat), j < g → List.getD a j nd0 = List.getD b j nd0) ∧ (0 : Int) = (↑g : Int) ∧ a = a ∧ b = b ∧ True) ∧ ∀ (g : Nat), (g ≤ List.length a ∧ ∀ (j : Nat), j < g → List.getD a j nd0 = List.getD b j nd0) → splitB (decide ((↑g : Int) < (↑(List.length a) : Int))) (((0 : Int) ≤ (↑g : Int) ∧ (↑g : Int) < (↑(List.length a) : Int)) ∧ ((0 : Int) ≤ (↑g : Int) ∧ (↑g : Int) < (↑(List.length b) : Int)) ∧ splitB (!eqT (Ty.pair Ty.str (Ty.pair (Ty.int IntKind.i64) (Ty.int IntKind.i64))) ((List.getD a g q0).1, (List.getD a g q0).2.1, (List.getD a g q0).2.2) ((List.getD b g q0).1, (List.getD b g q0).2.1, (List.getD b g q0).2.2)) (false = decide (a = b) ∧ True) (fits IntKind.i64 ((↑g : Int) + (1 : Int)) ∧ ∃ (g' : Nat), (g' ≤ List.length a ∧ ∀ (j : Nat), j < g' → List.getD a j nd0 = List.getD b j nd0) ∧ List.length a - g' < List.length a - g ∧ (↑g : Int) + (1 : Int) = (↑g' : Int) ∧ a = a ∧ b = b ∧ True)) (true = decide (a = b) ∧ True))) := by
  kernel_rfl
theorem vc32 (n1 : List UInt8) (f1 : Int) (l1 : List Int) (n2 : List UInt8) (f2 : Int) (l2 : List Int) : exF (env false [(44, sp44)] []) h0 0 32 Proofs.Tryz.f32 [rV n1 f1 l1, rV n2 f2 l2] (.val (bV (decide ((n1, f1, l1) = (n2, f2, l2))))) = (((bif n1 == n2 then f1 == f2 else false) = true → List.length l1 ≤ (1000000000 : Nat)) ∧ (bif bif n1 == n2 then f1 == f2 else false then decide (l1 = l2) else false) = decide ((n1, f1, l1) = (n2, f2, l2)) ∧ True) := by
  kernel_rfl
end Go.Sx

namespace Go.Sx
open U
theorem copied {α : Type} {xs : List α} {g : Nat} {d : α} (h : g < xs.length) : xs.take g ++ [xs.getD g d] = xs.take (g + 1) := by
  rw [List.take_succ_eq_append_getElem h, getD_of h]
theorem same_len {α : Type} (a b : List α) : ((a.length : Int) != (b.length : Int)) = !decide (a.length = b.length) := by
  by_cases h : a.length = b.length
  · simp [h]
  · have : ¬ (a.length : Int) = (b.length : Int) := by omega
    simp [h]
    exact this
theorem same_all {α : Type} (d : α) {a b : List α} (h : a.length = b.length) (hj : ∀ j, j < a.length → a.getD j d = b.getD j d) : a = b :=
  List.ext_getElem h fun i h1 h2 => by
    have := hj i h1
    rwa [getD_of h1, getD_of h2] at this
theorem fn34 (L : List Ed) (hl : L.length ≤ 1000000) : Fn P1 gl1 34 [.one (.sl edT L)] (.val (.one (.frs edT L))) true := by
  refine Fn.flat ?_ rfl
  refine fn_of false [] [] (hCopy 34 edT) 0 Proofs.Tryz.f34 trivial trivial (by kernel_rfl) rfl (by kernel_rfl) rfl rfl rfl ?_
  rw [vc34]
  try simp only [splitB_iff, -eq_self]
  refine ⟨⟨0, Nat.zero_le _, rfl, by trivial, by trivial, by simp⟩, fun g hg => ⟨fun hlt => ?_, fun hge => ?_⟩⟩
  · have hlt' : g < L.length := by simpa using hlt
    exact ⟨by omega, by simp only [room, List.length_take]; omega, by simp only [fits]; omega, g + 1, hlt', by omega, by simp, by trivial, by trivial, copied hlt', trivial⟩
  · have hge' : ¬ g < L.length := by simpa using hge
    exact ⟨List.take_of_length_le (by omega), trivial⟩
theorem so34_ : SpecOk P1 gl1 34 sp34 := by
  intro vs ps r h hp
  simp only [sp34] at h
  split at h
  · cases h; exact fn34 _ (hp _ (.head _))
  · cases h
theorem so34 : Sp1 34 sp34 := ⟨so34_, Proofs.Tryz.f34, _, by kernel_rfl, rfl, by kernel_rfl⟩
theorem fn57 (L : List Ed) (hl : L.length ≤ 1000000) : Fn P1 gl1 57 [.one (.sl edT L)] (.val (.one (.frs edT L))) true := by
  refine Fn.flat ?_ rfl
  refine fn_of false [] [] (hCopy 57 edT) 0 Proofs.Tryz.f57 trivial trivial (by kernel_rfl) rfl (by kernel_rfl) rfl rfl rfl ?_
  rw [vc57]
  try simp only [splitB_iff, -eq_self]
  refine ⟨⟨0, Nat.zero_le _, rfl, by trivial, by trivial, by simp⟩, fun g hg => ⟨fun hlt => ?_, fun hge => ?_⟩⟩
  · have hlt' : g < L.length := by simpa using hlt
    exact ⟨by omega, by simp only [room, List.length_take]; omega, by simp only [fits]; omega, g + 1, hlt', by omega, by simp, by trivial, by trivial, copied hlt', trivial⟩
  · have hge' : ¬ g < L.length := by simpa using hge
    exact ⟨List.take_of_length_le (by omega), trivial⟩
theorem so57_ : SpecOk P1 gl1 57 sp57 := by
  intro vs ps r h hp
  simp only [sp57] at h
  split at h
  · cases h; exact fn57 _ (hp _ (.head _))
  · cases h
theorem so57 : Sp1 57 sp57 := ⟨so57_, Proofs.Tryz.f57, _, by kernel_rfl, rfl, by kernel_rfl⟩
theorem fn48 (L : List Tk) (hl : L.length ≤ 1000000) : Fn P1 gl1 48 [.one (.sl tkT L)] (.val (.one (.frs tkT L))) true := by
  refine Fn.flat ?_ rfl
  refine fn_of false [] [] (hCopy 48 tkT) 0 Proofs.Tryz.f48 trivial trivial (by kernel_rfl) rfl (by kernel_rfl) rfl rfl rfl ?_
  rw [vc48]
  try simp only [splitB_iff, -eq_self]
  refine ⟨⟨0, Nat.zero_le _, rfl, by trivial, by trivial, by simp⟩, fun g hg => ⟨fun hlt => ?_, fun hge => ?_⟩⟩
  · have hlt' : g < L.length := by simpa using hlt
    exact ⟨by omega, by simp only [room, List.length_take]; omega, by simp only [fits]; omega, g + 1, hlt', by omega, by simp, by trivial, by trivial, copied hlt', trivial⟩
  · have hge' : ¬ g < L.length := by simpa using hge
    exact ⟨List.take_of_length_le (by omega), trivial⟩
theorem so48_ : SpecOk P1 gl1 48 sp48 := by
  intro vs ps r h hp
  simp only [sp48] at h
  split at h
  · cases h; exact fn48 _ (hp _ (.head _))
  · cases h
theorem so48 : Sp1 48 sp48 := ⟨so48_, Proofs.Tryz.f48, _, by kernel_rfl, rfl, by kernel_rfl⟩
theorem fn74 (L : List Nd) (hl : L.length ≤ 1000000) : Fn P1 gl1 74 [.one (.sl ndT L)] (.val (.one (.frs ndT L))) true := by
  refine Fn.flat ?_ rfl
  refine fn_of false [] [] (hCopy 74 ndT) 0 Proofs.Tryz.f74 trivial trivial (by kernel_rfl) rfl (by kernel_rfl) rfl rfl rfl ?_
  rw [vc74]
  try simp only [splitB_iff, -eq_self]
  refine ⟨⟨0, Nat.zero_le _, rfl, by trivial, by trivial, by simp⟩, fun g hg => ⟨fun hlt => ?_, fun hge => ?_⟩⟩
  · have hlt' : g < L.length := by simpa using hlt
    exact ⟨by omega, by simp only [room, List.length_take]; omega, by simp only [fits]; omega, g + 1, hlt', by omega, by simp, by trivial, by trivial, copied hlt', trivial⟩
  · have hge' : ¬ g < L.length := by simpa using hge
    exact ⟨List.take_of_length_le (by omega), trivial⟩
theorem so74_ : SpecOk P1 gl1 74 sp74 := by
  intro vs ps r h hp
  simp only [sp74] at h
  split at h
  · cases h; exact fn74 _ (hp _ (.head _))
  · cases h
theorem so74 : Sp1 74 sp74 := ⟨so74_, Proofs.Tryz.f74, _, by kernel_rfl, rfl, by kernel_rfl⟩
theorem fn56 (a b : List Ed) (hl : a.length ≤ 1000000) : Fn P1 gl1 56 [.one (.sl edT a), .one (.sl edT b)] (.val (bV (decide (a = b)))) true := by
  refine Fn.flat ?_ rfl
  refine fn_of false [] [] (hSame 56 edT e0) 0 Proofs.Tryz.f56 trivial trivial (by kernel_rfl) rfl (by kernel_rfl) rfl rfl rfl ?_
  rw [vc56]
  try simp only [splitB_iff, -eq_self]
  have heq : ∀ x y : Ed, eqT edT x y = true ↔ x = y := fun x y => by simp [eqT, Prod.ext_iff]
  simp only [same_len]
  refine ⟨fun h => ⟨(decide_eq_false fun e => ?_).symm, trivial⟩, fun h => ?_⟩
  · rw [e] at h; simp at h
  · have h' : a.length = b.length := by simpa using h
    refine ⟨⟨0, ⟨Nat.zero_le _, fun j hj => absurd hj (Nat.not_lt_zero _)⟩, rfl, by trivial, by trivial, trivial⟩, fun g hg => ⟨fun hlt => ?_, fun hge => ?_⟩⟩
    · have hlt' : g < a.length := by have := of_decide_eq_true hlt; omega
      refine ⟨by omega, by omega, fun hne => ⟨(decide_eq_false fun e => ?_).symm, trivial⟩, fun hq => ⟨by simp only [fits]; omega, g + 1, ⟨hlt', fun j hj => ?_⟩, by omega, by omega, by trivial, by trivial, trivial⟩⟩
      · subst e
        have hne' : (!eqT edT (a.getD g e0) (a.getD g e0)) = true := hne
        rw [(heq _ _).2 rfl] at hne'
        cases hne'
      · by_cases ej : j = g
        · subst ej
          have hq' : (!eqT edT (a.getD j e0) (b.getD j e0)) = false := hq
          exact (heq _ _).1 (by simpa using hq')
        · exact hg.2 j (by omega)
    · exact ⟨(decide_eq_true (same_all e0 h' fun j hj => hg.2 j (by have := of_decide_eq_false hge; omega))).symm, trivial⟩
theorem so56_ : SpecOk P1 gl1 56 sp56 := by
  intro vs ps r h hp
  simp only [sp56] at h
  split at h
  · cases h; exact fn56 _ _ (hp _ (.head _))
  · cases h; exact Fn.args (fn56 _ [] (hp _ (.head _))) fun H vs d => by
      obtain ⟨v0, r0, rfl, h0, v1, r1, rfl, h1, hz⟩ := d
      exact ⟨_, _, rfl, h0, _, _, rfl, nil_sl h1, hz⟩
  · cases h
theorem so56 : Sp1 56 sp56 := ⟨so56_, Proofs.Tryz.f56, _, by kernel_rfl, rfl, by kernel_rfl⟩
theorem fn47 (a b : List Tk) (hl : a.length ≤ 1000000) : Fn P1 gl1 47 [.one (.sl tkT a), .one (.sl tkT b)] (.val (bV (decide (a = b)))) true := by
  refine Fn.flat ?_ rfl
  refine fn_of false [] [] (hSame 47 tkT tk0) 0 Proofs.Tryz.f47 trivial trivial (by kernel_rfl) rfl (by kernel_rfl) rfl rfl rfl ?_
  rw [vc47]
  try simp only [splitB_iff, -eq_self]
  have heq : ∀ x y : Tk, eqT tkT x y = true ↔ x = y := fun x y => by simp [eqT, Prod.ext_iff]
  simp only [same_len]
  refine ⟨fun h => ⟨(decide_eq_false fun e => ?_).symm, trivial⟩, fun h => ?_⟩
  · rw [e] at h; simp at h
  · have h' : a.length = b.length := by simpa using h
    refine ⟨⟨0, ⟨Nat.zero_le _, fun j hj => absurd hj (Nat.not_lt_zero _)⟩, rfl, by trivial, by trivial, trivial⟩, fun g hg => ⟨fun hlt => ?_, fun hge => ?_⟩⟩
    · have hlt' : g < a.length := by have := of_decide_eq_true hlt; omega
      refine ⟨by omega, by omega, fun hne => ⟨(decide_eq_false fun e => ?_).symm, trivial⟩, fun hq => ⟨by simp only [fits]; omega, g + 1, ⟨hlt', fun j hj => ?_⟩, by omega, by omega, by trivial, by trivial, trivial⟩⟩
      · subst e
        have hne' : (!eqT tkT (a.getD g tk0) (a.getD g tk0)) = true := hne
        rw [(heq _ _).2 rfl] at hne'
        cases hne'
      · by_cases ej : j = g
        · subst ej
          have hq' : (!eqT tkT (a.getD j tk0) (b.getD j tk0)) = false := hq
          exact (heq _ _).1 (by simpa using hq')
        · exact hg.2 j (by omega)
    · exact ⟨(decide_eq_true (same_all tk0 h' fun j hj => hg.2 j (by have := of_decide_eq_false hge; omega))).symm, trivial⟩
theorem so47_ : SpecOk P1 gl1 47 sp47 := by
  intro vs ps r h hp
  simp only [sp47] at h
  split at h
  · cases h; exact fn47 _ _ (hp _ (.head _))
  · cases h; exact Fn.args (fn47 _ [] (hp _ (.head _))) fun H vs d => by
      obtain ⟨v0, r0, rfl, h0, v1, r1, rfl, h1, hz⟩ := d
      exact ⟨_, _, rfl, h0, _, _, rfl, nil_sl h1, hz⟩
  · cases h
theorem so47 : Sp1 47 sp47 := ⟨so47_, Proofs.Tryz.f47, _, by kernel_rfl, rfl, by kernel_rfl⟩
theorem fn73 (a b : List Nd) (hl : a.length ≤ 1000000) : Fn P1 gl1 73 [.one (.sl ndT a), .one (.sl ndT b)] (.val (bV (decide (a = b)))) true := by
  refine Fn.flat ?_ rfl
  refine fn_of false [] [] (hSame 73 ndT nd0) 0 Proofs.Tryz.f73 trivial trivial (by kernel_rfl) rfl (by kernel_rfl) rfl rfl rfl ?_
  rw [vc73]
  try simp only [splitB_iff, -eq_self]
  have heq : ∀ x y : Nd, eqT ndT x y = true ↔ x = y := fun x y => by simp [eqT, Prod.ext_iff]
  simp only [same_len]
  refine ⟨fun h => ⟨(decide_eq_false fun e => ?_).symm, trivial⟩, fun h => ?_⟩
  · rw [e] at h; simp at h
  · have h' : a.length = b.length := by simpa using h
    refine ⟨⟨0, ⟨Nat.zero_le _, fun j hj => absurd hj (Nat.not_lt_zero _)⟩, rfl, by trivial, by trivial, trivial⟩, fun g hg => ⟨fun hlt => ?_, fun hge => ?_⟩⟩
    · have hlt' : g < a.length := by have := of_decide_eq_true hlt; omega
      refine ⟨by omega, by omega, fun hne => ⟨(decide_eq_false fun e => ?_).symm, trivial⟩, fun hq => ⟨by simp only [fits]; omega, g + 1, ⟨hlt', fun j hj => ?_⟩, by omega, by omega, by trivial, by trivial, trivial⟩⟩
      · subst e
        have hne' : (!eqT ndT (a.getD g nd0) (a.getD g nd0)) = true := hne
        rw [(heq _ _).2 rfl] at hne'
        cases hne'
      · by_cases ej : j = g
        · subst ej
          have hq' : (!eqT ndT (a.getD j nd0) (b.getD j nd0)) = false := hq
          exact (heq _ _).1 (by simpa using hq')
        · exact hg.2 j (by omega)
    · exact ⟨(decide_eq_true (same_all nd0 h' fun j hj => hg.2 j (by have := of_decide_eq_false hge; omega))).symm, trivial⟩
theorem so73_ : SpecOk P1 gl1 73 sp73 := by
  intro vs ps r h hp
  simp only [sp73] at h
  split at h
  · cases h; exact fn73 _ _ (hp _ (.head _))
  · cases h; exact Fn.args (fn73 _ [] (hp _ (.head _))) fun H vs d => by
      obtain ⟨v0, r0, rfl, h0, v1, r1, rfl, h1, hz⟩ := d
      exact ⟨_, _, rfl, h0, _, _, rfl, nil_sl h1, hz⟩
  · cases h
theorem so73 : Sp1 73 sp73 := ⟨so73_, Proofs.Tryz.f73, _, by kernel_rfl, rfl, by kernel_rfl⟩
theorem fn32 (n1 : List UInt8) (f1 : Int) (l1 : List Int) (n2 : List UInt8) (f2 : Int) (l2 : List Int) (hl : l1.length ≤ 1000000) : Fn P1 gl1 32 [rV n1 f1 l1, rV n2 f2 l2] (.val (bV (decide ((n1, f1, l1) = (n2, f2, l2))))) true := by
  refine Fn.flat ?_ rfl
  refine fn_of false [(44, sp44)] [] h0 0 Proofs.Tryz.f32 ⟨so44, trivial⟩ trivial (by kernel_rfl) rfl (by kernel_rfl) rfl rfl rfl ?_
  rw [vc32]
  try simp only [splitB_iff, -eq_self]
  refine ⟨fun _ => by omega, ?_, trivial⟩
  rw [Bool.eq_iff_iff]
  simp only [bcond_r, Bool.and_eq_true, decide_eq_true_eq, beq_iff_eq, Prod.mk.injEq]
  exact and_assoc
theorem so32_ : SpecOk P1 gl1 32 sp32 := by
  intro vs ps r h hp
  simp only [sp32] at h
  split at h
  · cases h; exact fn32 _ _ _ _ _ _ (hp _ (.head _))
  · cases h
theorem so32 : Sp1 32 sp32 := ⟨so32_, Proofs.Tryz.f32, _, by kernel_rfl, rfl, by kernel_rfl⟩
end Go.Sx

namespace Go.Sx.U
noncomputable def hide {α : Type} (a : α) : α := Classical.choose (⟨a, rfl⟩ : ∃ f : α, f = a)
theorem hide_eq {α : Type} (a : α) : hide a = a := Classical.choose_spec (⟨a, rfl⟩ : ∃ f : α, f = a)
def bothL : List Rl := [([97], 10, [0, 100, 200, 300, 400, 500]), ([98], 50, [40, 50, 60, 70])]
def editsL (n : Int) : List Ed := [([97], 11, 14, 0, 0), ([98], n, 53, 1, -1), ([97], 15, 16, 0, 0)]
def strmL : List UInt8 := [82, 69, 69, 76, 1, 99, 0, 0, 0, 1, 70, 1, 2, 9, 126, 69, 0, 1, 1, 2]
noncomputable def aR : List Rl := hide bothL
noncomputable def aL (n : Int) : List Ed := hide (editsL n)
noncomputable def aS : List UInt8 := hide strmL
end Go.Sx.U
namespace Go.Sx
open U
end Go.Sx
namespace Go.Sx
open U
noncomputable def sp97 : FSpec := ⟨fun vs => match vs with
  | [] => some ([], .val (.one (.sl rlT aR)))
  | _ => none, false⟩
noncomputable def sp98 : FSpec := ⟨fun vs => match vs with
  | [.one (.int .i64 n)] => some ([], .val (.one (.sl edT (aL n))))
  | _ => none, false⟩
noncomputable def sp96 : FSpec := ⟨fun vs => match vs with
  | [] => some ([], .val (sV aS))
  | _ => none, true⟩
def sp18 : FSpec := ⟨fun vs => match vs with
  | [] => some ([], .val (bV true))
  | _ => none, true⟩
end Go.Sx

namespace Go.Sx
open U
theorem vc97 (_u : Unit) : exF (env false [] []) h0 0 97 Proofs.Tryz.f97 [] (.val (.one (.sl rlT aR))) = ([(Array.toList (ByteArray.data { data := #[(97 : UInt8)] }), (10 : Int), [(0 : Int), (100 : Int), (200 : Int), (300 : Int), (400 : Int), (500 : Int)]), (Array.toList (ByteArray.data { data := #[(98 : UInt8)] }), (50 : Int), [(40 : Int), (50 : Int), (60 : Int), (70 : Int)])] = aR ∧ True) := by
  kernel_rfl
theorem vc98 (n : Int) : exF (env false [] []) h0 0 98 Proofs.Tryz.f98 [iV n] (.val (.one (.sl edT (aL n)))) = ([(Array.toList (ByteArray.data { data := #[(97 : UInt8)] }), (11 : Int), (14 : Int), (0 : Int), (0 : Int)), (Array.toList (ByteArray.data { data := #[(98 : UInt8)] }), n, (53 : Int), (1 : Int), (-1 : Int)), (Array.toList (ByteArray.data { data := #[(97 : UInt8)] }), (15 : Int), (16 : Int), (0 : Int), (0 : Int))] = aL n ∧ True) := by
  kernel_rfl
theorem vc96 (_u : Unit) : exF (env false [] []) h0 0 96 Proofs.Tryz.f96 [] (.val (sV aS)) = (List.length (Array.toList (ByteArray.data { data := #[(82 : UInt8), (69 : UInt8), (69 : UInt8), (76 : UInt8), (1 : UInt8), (99 : UInt8), (0 : UInt8), (0 : UInt8), (0 : UInt8), (1 : UInt8)] })) + List.length (bytesOf [(70 : Int), (1 : Int), (2 : Int), (9 : Int), (126 : Int), (69 : Int), (0 : Int), (1 : Int), (1 : Int), (2 : Int)]) ≤ (9223372036854775807 : Nat) ∧ Array.toList (ByteArray.data { data := #[(82 : UInt8), (69 : UInt8), (69 : UInt8), (76 : UInt8), (1 : UInt8), (99 : UInt8), (0 : UInt8), (0 : UInt8), (0 : UInt8), (1 : UInt8)] }) ++ bytesOf [(70 : Int), (1 : Int), (2 : Int), (9 : Int), (126 : Int), (69 : Int), (0 : Int), (1 : Int), (1 : Int), (2 : Int)] = aS ∧ True) := by
  kernel_rfl
theorem vc18 (_u : Unit) : exF (env false [(19, sp19), (29, sp29), (27, sp27), (43, sp43), (33, sp33), (37, sp37), (35, sp35), (36, sp36), (69, sp69), (49, sp49), (50, sp50), (51, sp51), (84, sp84), (58, sp58), (60, sp60), (90, sp90), (97, sp97), (98, sp98), (96, sp96), (48, sp48), (74, sp74), (57, sp57), (32, sp32), (47, sp47), (73, sp73), (56, sp56), (44, sp44), (66, sp66)] []) h0 0 18 Proofs.Tryz.f18 [] (.val (bV true)) = (let q1 := (aL (51 : Int)); let q36 := (((25 : Int), false), ((0 : Int), (0 : Int), (0 : Int), (23 : Int)), (0 : Int)); let q0 := (if chkEds aR q1 = (0 : Int) then labsN q36 (ls q1) else []); let q25 := (ByteArray.data { data := #[(98 : UInt8)] }); let q21 := (ByteArray.data { data := #[(97 : UInt8)] }); let q22 := (chgL aR q1 (2 : Int) (-1 : Int) (1 : Int) rollL); let q2 := (List.drop (1 : Nat) q22 = [(Array.toList q25, (51 : Int), (52 : Int), (1 : Int), (-1 : Int)), (Array.toList q21, (14 : Int), (16 : Int), (0 : Int), (0 : Int))]); let q11 := (chgL aR q1 (0 : Int) (1 : Int) (0 : Int) trimL); let q16 := (List.getD q11 (0 : Nat) ([], (0 : Int), (0 : Int), (0 : Int), (0 : Int))); let q27 := (↑(List.length (partL aR q1 (5 : Int)).1) : Int); let q28 := (aL (50 : Int)); let q29 := (↑(List.length q11) : Int); let q14 := ((partL aR q1 (5 : Int)).2 = [(Array.toList q21, (15 : Int), (16 : Int), (0 : Int), (0 : Int))]); let q3 := (bif bif bif bif bif bif bif chgE aR q1 (0 : Int) (1 : Int) (0 : Int) trimL + chgE aR q1 (2 : Int) (-1 : Int) (1 : Int) rollL + partE aR q1 (5 : Int) + convE aR q1 [(1 : Int), (1 : Int)] + chkEds aR q1 + chkText q28 == (0 : Int) then chgE aR q1 (2 : Int) (1 : Int) (0 : Int) slipL == (14 : Int) else false then partE aR q1 (3 : Int) == (22 : Int) else false then q29 == (3 : Int) else false then q16.2.2.1 == (15 : Int) else false then decide q2 else false then q27 == (2 : Int) else false then decide q14 else false); let q33 := (↑(List.length q0) : Int); let q12 := (List.getD q0 (1 : Nat) ((0 : Int), (0 : Int), (0 : Int), (0 : Int))); let q37 := (Ty.int IntKind.i64); let q23 := (Ty.pair q37 (Ty.pair q37 (Ty.pair q37 q37))); let q24 := (convL aR q1 [(1 : Int), (1 : Int)] = [[(0 : Int), (1 : Int)], [(2 : Int), (3 : Int)], [(4 : Int), (5 : Int)]]); let q4 := (bif bif bif bif bif bif bif bif bif bif chgE aR q1 (0 : Int) (1 : Int) (0 : Int) trimL + chgE aR q1 (2 : Int) (-1 : Int) (1 : Int) rollL + partE aR q1 (5 : Int) + convE aR q1 [(1 : Int), (1 : Int)] + chkEds aR q1 + chkText q28 == (0 : Int) then chgE aR q1 (2 : Int) (1 : Int) (0 : Int) slipL == (14 : Int) else false then partE aR q1 (3 : Int) == (22 : Int) else false then q29 == (3 : Int) else false then q16.2.2.1 == (15 : Int) else false then decide q2 else false then q27 == (2 : Int) else false then decide q14 else false then decide q24 else false then q33 == (3 : Int) else false then eqT q23 (q12.1, q12.2.1, q12.2.2.1, q12.2.2.2) ((0 : Int), (0 : Int), (1 : Int), (1 : Int)) else false); let q5 := (bif bif bif bif chgE aR q1 (0 : Int) (1 : Int) (0 : Int) trimL + chgE aR q1 (2 : Int) (-1 : Int) (1 : Int) rollL + partE aR q1 (5 : Int) + convE aR q1 [(1 : Int), (1 : Int)] + chkEds aR q1 + chkText q28 == (0 : Int) then chgE aR q1 (2 : Int) (1 : Int) (0 : Int) slipL == (14 : Int) else false then partE aR q1 (3 : Int) == (22 : Int) else false then q29 == (3 : Int) else false then q16.2.2.1 == (15 : Int) else false); let q6 := (soundsN aR q1 = [(Array.toList q21, (11 : Int), (1 : Int), (1 : Int)), (Array.toList q21, (12 : Int), (1 : Int), (1 : Int)), (Array.toList q25, (50 : Int), (1 : Int), (1 : Int)), (Array.toList q25, (51 : Int), (1 : Int), (1 : Int)), (Array.toList q25, (52 : Int), (1 : Int), (1 : Int)), (Array.toList q21, (15 : Int), (1 : Int), (1 : Int))]); let q7 := (bif bif bif bif bif bif bif bif bif chgE aR q1 (0 : Int) (1 : Int) (0 : Int) trimL + chgE aR q1 (2 : Int) (-1 : Int) (1 : Int) rollL + partE aR q1 (5 : Int) + convE aR q1 [(1 : Int), (1 : Int)] + chkEds aR q1 + chkText q28 == (0 : Int) then chgE aR q1 (2 : Int) (1 : Int) (0 : Int) slipL == (14 : Int) else false then partE aR q1 (3 : Int) == (22 : Int) else false then q29 == (3 : Int) else false then q16.2.2.1 == (15 : Int) else false then decide q2 else false then q27 == (2 : Int) else false then decide q14 else false then decide q24 else false then q33 == (3 : Int) else false); let q8 := (List.getD (confN aR q1) (3 : Nat) [] = [(Array.toList q21, (14 : Int), (1 : Int), (2 : Int)), (Array.toList q25, (51 : Int), (1 : Int), (2 : Int))]); let q9 := (strNs (List.take (19 : Nat) aS)); let q19 := (1000000 : Nat); let q10 := ((bif bif bif bif bif bif chgE aR q1 (0 : Int) (1 : Int) (0 : Int) trimL + chgE aR q1 (2 : Int) (-1 : Int) (1 : Int) rollL + partE aR q1 (5 : Int) + convE aR q1 [(1 : Int), (1 : Int)] + chkEds aR q1 + chkText q28 == (0 : Int) then chgE aR q1 (2 : Int) (1 : Int) (0 : Int) slipL == (14 : Int) else false then partE aR q1 (3 : Int) == (22 : Int) else false then q29 == (3 : Int) else false then q16.2.2.1 == (15 : Int) else false then decide q2 else false then q27 == (2 : Int) else false) = true → List.length (partL aR q1 (5 : Int)).2 ≤ q19); let q13 := (bif bif bif chgE aR q1 (0 : Int) (1 : Int) (0 : Int) trimL + chgE aR q1 (2 : Int) (-1 : Int) (1 : Int) rollL + partE aR q1 (5 : Int) + convE aR q1 [(1 : Int), (1 : Int)] + chkEds aR q1 + chkText q28 == (0 : Int) then chgE aR q1 (2 : Int) (1 : Int) (0 : Int) slipL == (14 : Int) else false then partE aR q1 (3 : Int) == (22 : Int) else false then q29 == (3 : Int) else false); let q15 := (1000000000 : Nat); let q35 := (ByteArray.data { data := #[(99 : UInt8)] }); let q17 := (((rebuilt q9).1.1, (rebuilt q9).1.2.1, (rebuilt q9).1.2.2) = (Array.toList q35, (1 : Int), [(258 : Int)])); let q18 := (↑(List.length (confN aR q1)) : Int); let q20 := (stream (Array.toList q35) (1 : Int) [(258 : Int)]); let q26 := (List.getD q0 (2 : Nat) ((0 : Int), (0 : Int), (0 : Int), (0 : Int))); let q30 := ((bif bif q18 != (6 : Int) then true else !decide q8 then true else !decide q6) = false → List.length (needN aR q1) ≤ q19); let q31 := ((bif q18 != (6 : Int) then true else !decide q8) = false → List.length (soundsN aR q1) ≤ q19); let q32 := ((0 : Int) ≤ (0 : Int) ∧ (0 : Int) ≤ (19 : Int) ∧ (19 : Int) ≤ (↑(List.length aS) : Int)); let q34 := ((q18 != (6 : Int)) = false → List.length (List.getD (confN aR q1) (3 : Nat) []) ≤ q19); let q38 := (startsN aR q1 = [(0 : Int), (3 : Int), (5 : Int)]); let q39 := (↑(List.length q22) : Int); ReelOk (Array.toList q35) (1 : Int) [(258 : Int)] ∧ q32 ∧ (List.length q9 ≤ q19 ∧ Bytes q9) ∧ q32 ∧ (List.length q9 ≤ q19 ∧ Bytes q9) ∧ List.length aR ≤ q15 ∧ (∀ (r : Rl), r ∈ aR → List.length r.2.2 ≤ q19) ∧ List.length q28 ≤ q15 ∧ List.length aR ≤ q15 ∧ (∀ (r : Rl), r ∈ aR → List.length r.2.2 ≤ q19) ∧ List.length q1 ≤ q15 ∧ List.length aR ≤ q15 ∧ (∀ (r : Rl), r ∈ aR → List.length r.2.2 ≤ q19) ∧ List.length q1 ≤ q15 ∧ List.length aR ≤ q15 ∧ (∀ (r : Rl), r ∈ aR → List.length r.2.2 ≤ q19) ∧ List.length q1 ≤ q15 ∧ List.length aR ≤ q15 ∧ (∀ (r : Rl), r ∈ aR → List.length r.2.2 ≤ q19) ∧ List.length q1 ≤ q15 ∧ List.length aR ≤ q15 ∧ (∀ (r : Rl), r ∈ aR → List.length r.2.2 ≤ q19) ∧ List.length q1 ≤ q15 ∧ fits IntKind.i64 ((0 : Int) + (rebuilt q9).2.2) ∧ fits IntKind.i64 ((0 : Int) + (rebuilt q9).2.2 + chkEds aR q1) ∧ fits IntKind.i64 ((0 : Int) + (rebuilt q9).2.2 + chkEds aR q1 + chkEds aR q1) ∧ fits IntKind.i64 ((0 : Int) + (rebuilt q9).2.2 + chkEds aR q1 + chkEds aR q1 + chkEds aR q1) ∧ fits IntKind.i64 ((0 : Int) + (rebuilt q9).2.2 + chkEds aR q1 + chkEds aR q1 + chkEds aR q1 + chkEds aR q1) ∧ fits IntKind.i64 ((0 : Int) + (rebuilt q9).2.2 + chkEds aR q1 + chkEds aR q1 + chkEds aR q1 + chkEds aR q1 + chkEds aR q1) ∧ ((bif bif bif (0 : Int) + (rebuilt q9).2.2 + chkEds aR q1 + chkEds aR q1 + chkEds aR q1 + chkEds aR q1 + chkEds aR q1 != (0 : Int) then true else (readS q9).2 != (28 : Int) then true else chkEds aR q28 != (16 : Int) then true else bytesOf q20 != aS) = false → List.length (rebuilt q9).1.2.2 ≤ q19) ∧ ((bif bif bif bif bif (0 : Int) + (rebuilt q9).2.2 + chkEds aR q1 + chkEds aR q1 + chkEds aR q1 + chkEds aR q1 + chkEds aR q1 != (0 : Int) then true else (readS q9).2 != (28 : Int) then true else chkEds aR q28 != (16 : Int) then true else bytesOf q20 != aS then true else !decide q17 then true else (rebuilt q9).2.1) = false → List.length (startsN aR q1) ≤ q15) ∧ ((bif bif bif bif bif bif bif (0 : Int) + (rebuilt q9).2.2 + chkEds aR q1 + chkEds aR q1 + chkEds aR q1 + chkEds aR q1 + chkEds aR q1 != (0 : Int) then true else (readS q9).2 != (28 : Int) then true else chkEds aR q28 != (16 : Int) then true else bytesOf q20 != aS then true else !decide q17 then true else (rebuilt q9).2.1 then true else !decide q38 then true else lenN aR q1 != (6 : Int)) = false → List.length (playN aR q1) ≤ q15) ∧ splitB (bif bif bif bif bif bif bif bif (0 : Int) + (rebuilt q9).2.2 + chkEds aR q1 + chkEds aR q1 + chkEds aR q1 + chkEds aR q1 + chkEds aR q1 != (0 : Int) then true else (readS q9).2 != (28 : Int) then true else chkEds aR q28 != (16 : Int) then true else bytesOf q20 != aS then true else !decide q17 then true else (rebuilt q9).2.1 then true else !decide q38 then true else lenN aR q1 != (6 : Int) then true else !decide (playN aR q1 = [(100 : Int), (200 : Int), (300 : Int), (225 : Int), (60 : Int), (500 : Int)])) (false = true ∧ True) (((q18 != (6 : Int)) = false → (0 : Int) ≤ (3 : Int) ∧ (3 : Int) < q18) ∧ ((q18 != (6 : Int)) = false → (3 : Nat) < List.length (confN aR q1)) ∧ q34 ∧ q34 ∧ q31 ∧ q31 ∧ q30 ∧ q30 ∧ splitB (bif bif bif q18 != (6 : Int) then true else !decide q8 then true else !decide q6 then true else !decide (needN aR q1 = [(Array.toList q21, (11 : Int), (16 : Int)), (Array.toList q25, (50 : Int), (53 : Int))])) (false = true ∧ True) (List.length aR ≤ q15 ∧ (∀ (r : Rl), r ∈ aR → List.length r.2.2 ≤ q19) ∧ List.length q1 ≤ q15 ∧ List.length aR ≤ q15 ∧ (∀ (r : Rl), r ∈ aR → List.length r.2.2 ≤ q19) ∧ List.length q1 ≤ q15 ∧ List.length aR ≤ q15 ∧ (∀ (r : Rl), r ∈ aR → List.length r.2.2 ≤ q19) ∧ List.length q1 ≤ q15 ∧ List.length aR ≤ q15 ∧ (∀ (r : Rl), r ∈ aR → List.length r.2.2 ≤ q19) ∧ List.length q1 ≤ q15 ∧ List.length aR ≤ q15 ∧ (∀ (r : Rl), r ∈ aR → List.length r.2.2 ≤ q19) ∧ List.length q1 ≤ q15 ∧ List.length aR ≤ q15 ∧ (∀ (r : Rl), r ∈ aR → List.length r.2.2 ≤ q19) ∧ List.length q1 ≤ q15 ∧ List.length aR ≤ q15 ∧ (∀ (r : Rl), r ∈ aR → List.length r.2.2 ≤ q19) ∧ List.length q1 ≤ q15 ∧ StOk q36 ∧ List.length q28 ≤ q19 ∧ (∀ (x : Ed), x ∈ aL (50 : Int) → (∀ (n : Int), n ∈ numsE x → fits IntKind.i64 n) ∧ List.length x.1 ≤ (1000 : Nat)) ∧ fits IntKind.i64 (chgE aR q1 (0 : Int) (1 : Int) (0 : Int) trimL + chgE aR q1 (2 : Int) (-1 : Int) (1 : Int) rollL) ∧ fits IntKind.i64 (chgE aR q1 (0 : Int) (1 : Int) (0 : Int) trimL + chgE aR q1 (2 : Int) (-1 : Int) (1 : Int) rollL + partE aR q1 (5 : Int)) ∧ fits IntKind.i64 (chgE aR q1 (0 : Int) (1 : Int) (0 : Int) trimL + chgE aR q1 (2 : Int) (-1 : Int) (1 : Int) rollL + partE aR q1 (5 : Int) + convE aR q1 [(1 : Int), (1 : Int)]) ∧ fits IntKind.i64 (chgE aR q1 (0 : Int) (1 : Int) (0 : Int) trimL + chgE aR q1 (2 : Int) (-1 : Int) (1 : Int) rollL + partE aR q1 (5 : Int) + convE aR q1 [(1 : Int), (1 : Int)] + chkEds aR q1) ∧ fits IntKind.i64 (chgE aR q1 (0 : Int) (1 : Int) (0 : Int) trimL + chgE aR q1 (2 : Int) (-1 : Int) (1 : Int) rollL + partE aR q1 (5 : Int) + convE aR q1 [(1 : Int), (1 : Int)] + chkEds aR q1 + chkText q28) ∧ (q13 = true → (0 : Int) ≤ (0 : Int) ∧ (0 : Int) < q29) ∧ (q13 = true → (0 : Nat) < List.length q11) ∧ (q5 = true → List.length q22 ≤ q19) ∧ (q5 = true → (0 : Int) ≤ (1 : Int) ∧ (1 : Int) ≤ q39 ∧ q39 ≤ q39) ∧ (q5 = true → List.length (List.drop (1 : Nat) q22) ≤ q19) ∧ q10 ∧ q10 ∧ (q3 = true → List.length (convL aR q1 [(1 : Int), (1 : Int)]) ≤ q19) ∧ (q3 = true → ∀ (x : List Int), x ∈ convL aR q1 [(1 : Int), (1 : Int)] → List.length x = (2 : Nat)) ∧ (q3 = true → ∀ (x : List Int), x ∈ [[(0 : Int), (1 : Int)], [(2 : Int), (3 : Int)], [(4 : Int), (5 : Int)]] → List.length x = (2 : Nat)) ∧ (q7 = true → (0 : Int) ≤ (1 : Int) ∧ (1 : Int) < q33) ∧ (q7 = true → (1 : Nat) < List.length q0) ∧ (q4 = true → (0 : Int) ≤ (2 : Int) ∧ (2 : Int) < q33) ∧ (q4 = true → (2 : Nat) < List.length q0) ∧ (bif bif bif bif bif bif bif bif bif bif bif bif chgE aR q1 (0 : Int) (1 : Int) (0 : Int) trimL + chgE aR q1 (2 : Int) (-1 : Int) (1 : Int) rollL + partE aR q1 (5 : Int) + convE aR q1 [(1 : Int), (1 : Int)] + chkEds aR q1 + chkText q28 == (0 : Int) then chgE aR q1 (2 : Int) (1 : Int) (0 : Int) slipL == (14 : Int) else false then partE aR q1 (3 : Int) == (22 : Int) else false then q29 == (3 : Int) else false then q16.2.2.1 == (15 : Int) else false then decide q2 else false then q27 == (2 : Int) else false then decide q14 else false then decide q24 else false then q33 == (3 : Int) else false then eqT q23 (q12.1, q12.2.1, q12.2.2.1, q12.2.2.2) ((0 : Int), (0 : Int), (1 : Int), (1 : Int)) else false then eqT q23 (q26.1, q26.2.1, q26.2.2.1, q26.2.2.2) ((0 : Int), (0 : Int), (1 : Int), (3 : Int)) else false then printN q28 == Array.toList (ByteArray.data { data := #[(101 : UInt8), (100 : UInt8), (105 : UInt8), (116 : UInt8), (32 : UInt8), (97 : UInt8), (32 : UInt8), (49 : UInt8), (49 : UInt8), (32 : UInt8), (49 : UInt8), (52 : UInt8), (32 : UInt8), (48 : UInt8), (32 : UInt8), (48 : UInt8), (10 : UInt8), (101 : UInt8), (100 : UInt8), (105 : UInt8), (116 : UInt8), (32 : UInt8), (98 : UInt8), (32 : UInt8), (53 : UInt8), (48 : UInt8), (32 : UInt8), (53 : UInt8), (51 : UInt8), (32 : UInt8), (49 : UInt8), (32 : UInt8), (45 : UInt8), (49 : UInt8), (10 : UInt8), (101 : UInt8), (100 : UInt8), (105 : UInt8), (116 : UInt8), (32 : UInt8), (97 : UInt8), (32 : UInt8), (49 : UInt8), (53 : UInt8), (32 : UInt8), (49 : UInt8), (54 : UInt8), (32 : UInt8), (48 : UInt8), (32 : UInt8), (48 : UInt8), (10 : UInt8)] }) else false) = true ∧ True))) := by
  kernel_rfl
end Go.Sx

namespace Go.Sx
open U
theorem fn97   : Fn P1 gl1 97 [] (.val (.one (.sl rlT aR))) false := by
  refine fn_of false [] [] h0 0 Proofs.Tryz.f97 trivial trivial (by kernel_rfl) rfl (by kernel_rfl) rfl rfl rfl ?_
  rw [vc97 ()]
  try simp only [-eq_self]
  exact ⟨(hide_eq bothL).symm, trivial⟩
theorem so97_ : SpecOk P1 gl1 97 sp97 := by
  intro vs ps r h _
  simp only [sp97] at h
  split at h
  · cases h; exact fn97  
  · cases h
theorem so97 : Sp1 97 sp97 := ⟨so97_, Proofs.Tryz.f97, _, by kernel_rfl, rfl, by kernel_rfl⟩
theorem fn98 (n : Int)  : Fn P1 gl1 98 [iV n] (.val (.one (.sl edT (aL n)))) false := by
  refine fn_of false [] [] h0 0 Proofs.Tryz.f98 trivial trivial (by kernel_rfl) rfl (by kernel_rfl) rfl rfl rfl ?_
  rw [vc98]
  try simp only [-eq_self]
  exact ⟨(hide_eq (editsL n)).symm, trivial⟩
theorem so98_ : SpecOk P1 gl1 98 sp98 := by
  intro vs ps r h _
  simp only [sp98] at h
  split at h
  · cases h; exact fn98 _ 
  · cases h
theorem so98 : Sp1 98 sp98 := ⟨so98_, Proofs.Tryz.f98, _, by kernel_rfl, rfl, by kernel_rfl⟩
theorem fn96   : Fn P1 gl1 96 [] (.val (sV aS)) true := by
  refine Fn.flat ?_ rfl
  refine fn_of false [] [] h0 0 Proofs.Tryz.f96 trivial trivial (by kernel_rfl) rfl (by kernel_rfl) rfl rfl rfl ?_
  rw [vc96 ()]
  try simp only [-eq_self]
  exact ⟨by decide, (hide_eq strmL).symm, trivial⟩
theorem so96_ : SpecOk P1 gl1 96 sp96 := by
  intro vs ps r h _
  simp only [sp96] at h
  split at h
  · cases h; exact fn96  
  · cases h
theorem so96 : Sp1 96 sp96 := ⟨so96_, Proofs.Tryz.f96, _, by kernel_rfl, rfl, by kernel_rfl⟩
theorem fn18   : Fn P1 gl1 18 [] (.val (bV true)) true := by
  refine Fn.flat ?_ rfl
  refine fn_of false [(19, sp19), (29, sp29), (27, sp27), (43, sp43), (33, sp33), (37, sp37), (35, sp35), (36, sp36), (69, sp69), (49, sp49), (50, sp50), (51, sp51), (84, sp84), (58, sp58), (60, sp60), (90, sp90), (97, sp97), (98, sp98), (96, sp96), (48, sp48), (74, sp74), (57, sp57), (32, sp32), (47, sp47), (73, sp73), (56, sp56), (44, sp44), (66, sp66)] [] h0 0 Proofs.Tryz.f18 ⟨so19, so29, so27, so43, so33, so37, so35, so36, so69, so49, so50, so51, so84, so58, so60, so90, so97, so98, so96, so48, so74, so57, so32, so47, so73, so56, so44, so66, trivial⟩ trivial (by kernel_rfl) rfl (by kernel_rfl) rfl rfl rfl ?_
  rw [vc18 ()]
  try simp only [splitB_iff, -eq_self]
  have hR : aR = bothL := hide_eq bothL
  have hL : aL 51 = editsL 51 := hide_eq (editsL 51)
  have hM : aL 50 = editsL 50 := hide_eq (editsL 50)
  have hS : aS = strmL := hide_eq strmL
  have s1 : strNs (List.take 19 aS) = [82, 69, 69, 76, 1, 99, 0, 0, 0, 1, 70, 1, 2, 9, 126, 69, 0, 1, 1] := by rw [hS]; decide +kernel
  have s2 : rebuilt [82, 69, 69, 76, 1, 99, 0, 0, 0, 1, 70, 1, 2, 9, 126, 69, 0, 1, 1] = (([99], 1, [258]), false, 0) := by decide +kernel
  have s3 : (readS [82, 69, 69, 76, 1, 99, 0, 0, 0, 1, 70, 1, 2, 9, 126, 69, 0, 1, 1]).2 = 28 := by decide +kernel
  have s4 : bytesOf (stream [99] 1 [258]) = aS := by rw [hS]; decide +kernel
  have s5 : Bytes [82, 69, 69, 76, 1, 99, 0, 0, 0, 1, 70, 1, 2, 9, 126, 69, 0, 1, 1] := by unfold Bytes; decide
  have s6 : List.length aS = 20 := by rw [hS]; rfl
  have s7 : ReelOk [99] 1 [258] := checkReel_zero.1 (by decide +kernel)
  have s8 : StOk ((25, false), (0, 0, 0, 23), 0) := chkStZ.1 (by decide +kernel)
  have c1 : chkEds aR (aL 50) = 16 := by rw [hR, hM]; decide +kernel
  have c2 : chkEds aR (aL 51) = 0 := by rw [hR, hL]; decide +kernel
  have c3 : startsN aR (aL 51) = [0, 3, 5] := by rw [hR, hL]; decide +kernel
  have c4 : lenN aR (aL 51) = 6 := by rw [hR, hL]; decide +kernel
  have c5 : playN aR (aL 51) = [100, 200, 300, 225, 60, 500] := by rw [hR, hL]; decide +kernel
  have c6 : confN aR (aL 51) = [[([97], 11, 1, 1)], [([97], 12, 1, 1)], [([97], 13, 1, 1)], [([97], 14, 1, 2), ([98], 51, 1, 2)], [([98], 52, 1, 1)], [([97], 15, 1, 1)]] := by rw [hR, hL]; decide +kernel
  have c7 : soundsN aR (aL 51) = [([97], 11, 1, 1), ([97], 12, 1, 1), ([98], 50, 1, 1), ([98], 51, 1, 1), ([98], 52, 1, 1), ([97], 15, 1, 1)] := by rw [hR, hL]; decide +kernel
  have c8 : needN aR (aL 51) = [([97], 11, 16), ([98], 50, 53)] := by rw [hR, hL]; decide +kernel
  have d1 : chgL aR (aL 51) 0 1 0 trimL = [([97], 11, 15, 0, 0), ([98], 51, 53, 1, -1), ([97], 15, 16, 0, 0)] := by rw [hR, hL]; decide +kernel
  have d2 : chgE aR (aL 51) 0 1 0 trimL = 0 := by rw [hR, hL]; decide +kernel
  have d3 : chgL aR (aL 51) 2 (-1) 1 rollL = [([97], 11, 14, 0, 0), ([98], 51, 52, 1, -1), ([97], 14, 16, 0, 0)] := by rw [hR, hL]; decide +kernel
  have d4 : chgE aR (aL 51) 2 (-1) 1 rollL = 0 := by rw [hR, hL]; decide +kernel
  have d5 : chgE aR (aL 51) 2 1 0 slipL = 14 := by rw [hR, hL]; decide +kernel
  have d6 : partL aR (aL 51) 5 = ([([97], 11, 14, 0, 0), ([98], 51, 53, 1, -1)], [([97], 15, 16, 0, 0)]) := by rw [hR, hL]; exact Prod.ext (by decide +kernel) (by decide +kernel)
  have d7 : partE aR (aL 51) 5 = 0 := by rw [hR, hL]; decide +kernel
  have d8 : partE aR (aL 51) 3 = 22 := by rw [hR, hL]; decide +kernel
  have d9 : convL aR (aL 51) [1, 1] = [[0, 1], [2, 3], [4, 5]] := by rw [hR, hL]; decide +kernel
  have f1 : convE aR (aL 51) [1, 1] = 0 := by rw [hR, hL]; decide +kernel
  have f2 : labsN ((25, false), (0, 0, 0, 23), 0) (ls (aL 51)) = [(0, 0, 0, 23), (0, 0, 1, 1), (0, 0, 1, 3)] := by rw [hL]; decide +kernel
  have f3 : printN (aL 50) = [101, 100, 105, 116, 32, 97, 32, 49, 49, 32, 49, 52, 32, 48, 32, 48, 10, 101, 100, 105, 116, 32, 98, 32, 53, 48, 32, 53, 51, 32, 49, 32, 45, 49, 10, 101, 100, 105, 116, 32, 97, 32, 49, 53, 32, 49, 54, 32, 48, 32, 48, 10] := by rw [hM]; decide +kernel
  have f4 : chkText (aL 50) = 0 := by rw [hM]; decide +kernel
  have g1 : List.length aR = 2 := by rw [hR]; rfl
  have g2 : ∀ r : Rl, r ∈ aR → List.length r.2.2 ≤ 1000000 := by rw [hR]; decide
  have g3 : List.length (aL 51) = 3 := by rw [hL]; rfl
  have g4 : List.length (aL 50) = 3 := by rw [hM]; rfl
  have g5 : ∀ x : Ed, x ∈ aL 50 → (∀ n : Int, n ∈ numsE x → fits .i64 n) ∧ List.length x.1 ≤ 1000 := by rw [hM]; simp only [fits]; decide
  have g6 : ∀ x : List Int, x ∈ [[0, 1], [2, 3], [4, 5]] → List.length x = 2 := by decide
  have k9 : Array.toList (ByteArray.data { data := #[(99 : UInt8)] }) = [99] := rfl
  simp only [s1, s2, s3, s4, s6, c1, c2, c3, c4, c5, c6, c7, c8, d1, d2, d3, d4, d5, d6, d7, d8, d9, f1, f2, f3, f4, g1, g3, g4, if_true]
  simp only [hS, eq_true s5, eq_true s7, eq_true s8, eq_true g2, eq_true g5, eq_true g6]
  simp only [fits]
  repeat' (first | exact trivial | refine And.intro ?_ ?_ | intro _)
  all_goals first | decide +kernel | (rename_i h; exact absurd h (by decide +kernel))
theorem so18_ : SpecOk P1 gl1 18 sp18 := by
  intro vs ps r h _
  simp only [sp18] at h
  split at h
  · cases h; exact fn18  
  · cases h
theorem so18 : Sp1 18 sp18 := ⟨so18_, Proofs.Tryz.f18, _, by kernel_rfl, rfl, by kernel_rfl⟩
end Go.Sx

namespace Go.Sx
open Go.Proofs Go.RowKit Go.Shelf Go.Lib
end Go.Sx

namespace Go.Sx
def stayV : V → V
  | .one (.frs t xs) => .one (.sl t xs)
  | x => x
def staySV : SV → SV
  | .val x => .val (stayV x)
  | .tup xs => .tup (xs.map stayV)
def FSpec.frz (sp : FSpec) : FSpec := ⟨fun vs => match sp.run vs with
  | some (ps, .val (.one c)) => some (ps, .val (stayV (.one c)))
  | some (ps, .tup xs) => some (ps, .tup (xs.map stayV))
  | _ => none, false⟩
theorem stayV_den {w : World} {B : Nat} {H H2 : IH} (hh : HLe H H2) (hn : ∀ b o, B ≤ b → w.heap[b]? = some o → H2 b = some o) {x : V} {v : Value} (h : DenRV w B H x v) : DenRV w B H2 (stayV x) v := by
  have other : ∀ y : V, pureV y = true ∧ DenV ρ0 H y v → pureV y = true ∧ DenV ρ0 H2 y v := fun y hy => ⟨hy.1, DenV.mono (REq.refl 0 ρ0) hh (pureV_lt hy.1 0) hy.2⟩
  cases x with
  | agg cs => exact other _ h
  | one c =>
    cases c with
    | frs t xs =>
      have ho : OwnRow w B H v t xs := h
      show pureV (.one (.sl t xs)) = true ∧ Rd H2 (.sl t) xs [v]
      refine ⟨rfl, ?_⟩
      rcases ho with ⟨rfl, rfl⟩ | ⟨g, cap, cur, e, rfl, h2, _, ⟨fz, _, h4⟩, h5, _, _, h8⟩
      · exact ⟨none, 0, rfl, Nat.le_refl _, .inl rfl⟩
      · exact ⟨some ⟨g, 0, none⟩, cap, rfl, h5, .inr ⟨g, 0, cur, e, _, rfl, hn g _ h2 h4, fun i hi => by rw [Nat.zero_add]; exact Rd.mono hh _ _ _ (h8 i hi)⟩⟩
    | _ => exact other _ h
theorem isFrs_stay (x : V) : isFrs (stayV x) = false := by
  cases x with
  | agg cs => rfl
  | one c => cases c <;> rfl
theorem stayVs_den {w : World} {B : Nat} {H H2 : IH} (hh : HLe H H2) (hn : ∀ b o, B ≤ b → w.heap[b]? = some o → H2 b = some o) : ∀ {xs : List V} {vs : List Value}, DenRVs w B H xs vs → DenRVs w B H2 (xs.map stayV) vs
  | [], _, h => h
  | x :: r, _, ⟨v, vs', e, h1, h2, _⟩ => ⟨v, vs', e, stayV_den hh hn h1, stayVs_den hh hn h2, fun h => by rw [isFrs_stay] at h; cases h⟩
theorem Fn.frz {P : Program} {gl : Nat → Option ((t : Ty) × t.T)} {f : FuncId} {args : List V} {r : SV} {fr : Bool} (hr : ∀ x, r = .val x → ∃ c, x = .one c) (h : Fn P gl f args r fr) : Fn P gl f args (staySV r) false := by
  intro w H vs hag G hd
  refine (h w H vs hag G hd).mono ?_
  rintro e w' ⟨v, H', rfl, h1, h2, h3, h4⟩
  have hh : HLe H' (fun b => if b < w.heap.size then H b else w'.heap[b]?) := by
    intro b o ho
    show (if b < w.heap.size then H b else w'.heap[b]?) = some o
    split
    · rename_i hlt
      have := h3 b hlt
      rw [ho] at this
      split at this
      · cases this
      · exact this.symm
    · exact h2 b o ho
  have hn : ∀ b o, w.heap.size ≤ b → w'.heap[b]? = some o → (fun b => if b < w.heap.size then H b else w'.heap[b]?) b = some o := fun b o hb ho => (if_neg (by omega)).trans ho
  refine ⟨v, fun b => if b < w.heap.size then H b else w'.heap[b]?, rfl, h1, fun b o ho => ?_, fun b hb => if_pos hb, ?_⟩
  · simp only [] at ho
    split at ho
    · rename_i hlt; rw [h1.block b hlt]; exact hag b o ho
    · exact ho
  · cases r with
    | val x =>
      obtain ⟨c, rfl⟩ := hr x rfl
      have e : aggFr (stayV (.one c)) = none := by cases c <;> rfl
      have h5 : DenRV w' w.heap.size _ (.one c) v := h4
      show match aggFr (stayV (.one c)) with | none => _ | some xs => _
      rw [e]
      exact stayV_den hh hn h5
    | tup xs =>
      obtain ⟨us, e, hus⟩ := h4
      exact ⟨us, e, stayVs_den hh hn hus⟩
theorem Sp1.frz {f : FuncId} {sp : FSpec} (h : Sp1 f sp) : Sp1 f sp.frz := by
  refine ⟨fun vs ps r hr hp => ?_, h.2⟩
  unfold FSpec.frz at hr
  simp only [] at hr
  split at hr
  · rename_i ps' c hs
    cases hr
    exact (h.1 vs _ _ hs hp).frz (fun x hx => by cases hx; exact ⟨c, rfl⟩)
  · rename_i ps' xs hs
    cases hr
    exact (h.1 vs _ _ hs hp).frz (fun x hx => by cases hx)
  · cases hr
end Go.Sx

namespace Go.Sx
open Go.Proofs Go.RowKit Go.Shelf Go.Lib
def atoV (l : List UInt8) : Int := match Lib.atoiAll l with
  | .ok v => v
  | .range => Lib.atoiSat l
  | _ => 0
def atoE (l : List UInt8) : Bool := match Lib.atoiAll l with
  | .ok _ => false
  | _ => true
theorem fn_pure {P : Program} {f : FuncId} {w : World} {args : Array Value} {x : SV} {v0 : Value} (hx : ∀ w', DenRSV w' w.heap.size (fun _ => none) x v0)
    (h : Calls P f args w fun e w' => e = .returned v0 ∧ Below w.heap.size w w') :
    Calls P f args w fun e w' => ∃ v H', e = .returned v ∧ Below w.heap.size w w' ∧ Agree H' w' ∧ (∀ b, b < w.heap.size → H' b = if true then none else (fun _ => none : IH) b) ∧ DenRSV w' w.heap.size H' x v :=
  h.mono fun _ w' ⟨he, hb⟩ => ⟨_, fun _ => none, he, hb, fun _ _ h => (by cases h), fun _ _ => rfl, hx w'⟩
theorem index_fn {P : Program} {ρ : Ren} (L : Lays.n137 P ρ) {gl : Nat → Option ((t : Ty) × t.T)} (s : List UInt8) (c : Int) :
    Fn P gl (ρ.f 137) [.one (.str s), .one (.int .u8 c)] (.val (.one (.int .i64 (Lib.indexByte s c.toNat.toUInt8)))) true := by
  intro w H vs hA hG hD
  obtain ⟨v, r, rfl, hv, v2, r2, rfl, hv2, hr⟩ := hD
  obtain rfl : r2 = [] := hr
  obtain rfl : v2 = .int .u8 c := hv2
  obtain rfl : v = .string ⟨⟨s⟩⟩ := hv
  exact fn_pure (fun _ => ⟨rfl, rfl⟩) ((Any.strings_IndexByte L ⟨⟨s⟩⟩ c w).mono fun e w' ⟨he, hw⟩ => ⟨he, hw ▸ Below.refl _ _⟩)
theorem cutSuffix_fn {P : Program} {ρ : Ren} (L : Lays.n104 P ρ) {gl : Nat → Option ((t : Ty) × t.T)} (s p : List UInt8) (hs : s.length ≤ 9223372036854775807) :
    Fn P gl (ρ.f 104) [.one (.str s), .one (.str p)] (.tup [.one (.str (Lib.trimSuffix s p)), .one (.bool (Lib.hasSuffix s p))]) true := by
  intro w H vs hA hG hD
  obtain ⟨v, r, rfl, hv, v2, r2, rfl, hv2, hr⟩ := hD
  obtain rfl : r2 = [] := hr
  obtain rfl : v2 = .string ⟨⟨p⟩⟩ := hv2
  obtain rfl : v = .string ⟨⟨s⟩⟩ := hv
  exact fn_pure (fun _ => ⟨_, rfl, _, _, rfl, ⟨rfl, rfl⟩, ⟨_, _, rfl, ⟨rfl, rfl⟩, rfl, fun h => by cases h⟩, fun h => by cases h⟩)
    ((Any.strings_CutSuffix L ⟨⟨s⟩⟩ ⟨⟨p⟩⟩ w hs).mono fun e w' ⟨he, hw⟩ => ⟨he, hw ▸ Below.refl _ _⟩)
theorem trimPrefix_fn {P : Program} {ρ : Ren} (L : Lays.n101 P ρ) {gl : Nat → Option ((t : Ty) × t.T)} (s p : List UInt8) :
    Fn P gl (ρ.f 101) [.one (.str s), .one (.str p)] (.val (.one (.str (Lib.trimPrefix s p)))) true := by
  intro w H vs hA hG hD
  obtain ⟨v, r, rfl, hv, v2, r2, rfl, hv2, hr⟩ := hD
  obtain rfl : r2 = [] := hr
  obtain rfl : v2 = .string ⟨⟨p⟩⟩ := hv2
  obtain rfl : v = .string ⟨⟨s⟩⟩ := hv
  exact fn_pure (fun _ => ⟨rfl, rfl⟩) ((Any.strings_TrimPrefix L ⟨⟨s⟩⟩ ⟨⟨p⟩⟩ w).mono fun e w' ⟨he, hw⟩ => ⟨he, hw ▸ Below.refl _ _⟩)
theorem opq_cell {gl : Nat → Option ((t : Ty) × t.T)} {H : IH} {w : World} (hA : Agree H w) (hG : GlobOk gl H) {g : Nat} {e : Bool} (hgl : gl g = some ⟨.opq e, ()⟩) :
    ∃ c v t fr, w.heap[g]? = some (.cells c t fr) ∧ c = #[v] ∧ ((e = false ∧ ∃ m, v = .int .i64 m) ∨ (e = true ∧ ∃ t p, v = .iface t p)) := by
  obtain ⟨c, t, fr, h1, h2, h3⟩ := hG g _ hgl
  obtain ⟨v, hv, hx⟩ := h2
  refine ⟨c, v, t, fr, hA g _ h1, ?_, hx⟩
  have hv' : seg c 0 (Ty.opq e).sz = [v] := hv
  have h5 := seg_get (c := c) (o := 0) (n := (Ty.opq e).sz) (j := 0) (v := v) (by rw [hv']; rfl)
  have hs : c.size = 1 := h3
  apply Array.ext
  · simp [hs]
  · intro i hi hi'
    obtain rfl : i = 0 := by omega
    rw [Array.getElem?_eq_getElem (by omega)] at h5
    exact Option.some.inj h5
theorem opq_var {P : Program} {gl : Nat → Option ((t : Ty) × t.T)} {H : IH} {w : World} (hA : Agree H w) (hG : GlobOk gl H) {g : Nat} (hgl : gl g = some ⟨.opq true, ()⟩) {n : String} (hg : P.globalNamed n = some g) :
    ∃ t p, w.var? P n = some #[.iface t p] := by
  obtain ⟨c, v, t, fr, h1, rfl, h2⟩ := opq_cell hA hG hgl
  rcases h2 with ⟨h, _⟩ | ⟨_, t', p, rfl⟩
  · cases h
  · refine ⟨t', p, ?_⟩
    unfold World.var?
    rw [hg]
    simp only [Option.bind_some, h1]
theorem atoi_fn {P : Program} {ρ : Ren} (L : LaysC.n172 P ρ) {gl : Nat → Option ((t : Ty) × t.T)} {g1 g2 : Nat} (h1 : P.globalNamed "strconv.ErrSyntax" = some g1) (hg1 : gl g1 = some ⟨.opq true, ()⟩)
    (h2 : P.globalNamed "strconv.ErrRange" = some g2) (hg2 : gl g2 = some ⟨.opq true, ()⟩) (s : List UInt8) (hs : s.length ≤ 281474976710656) :
    Fn P gl (ρ.f 172) [.one (.str s)] (.tup [.one (.int .i64 (atoV s)), .one (.err (atoE s))]) true := by
  intro w H vs hA hG hD
  obtain ⟨v, r, rfl, hv, hr⟩ := hD
  obtain rfl : r = [] := hr
  obtain rfl : v = .string ⟨⟨s⟩⟩ := hv
  have key : ∀ (b : Bool) (n : Int) (x : Value), DenC ρ0 (fun _ => none) (.err b) x → ∀ w', DenRSV w' w.heap.size (fun _ => none) (.tup [.one (.int .i64 n), .one (.err b)]) (.tuple #[.int .i64 n, x]) :=
    fun b n x hx w' => ⟨_, rfl, _, _, rfl, ⟨rfl, rfl⟩, ⟨_, _, rfl, ⟨rfl, hx⟩, rfl, fun h => by cases h⟩, fun h => by cases h⟩
  unfold atoV atoE
  rcases hc : Lib.atoiAll s with n | _ | _
  · refine fn_pure (key false n .nilIface rfl) ((Any.strconv_Atoi_ok L ⟨⟨s⟩⟩ (by show s.length ≤ _; omega) n hc w).mono fun e w' ⟨he, hw⟩ => ⟨he, ?_⟩)
    rcases hw with rfl | ⟨t, rfl⟩
    · exact Below.refl _ _
    · exact Go.Joins.below_bytesWorld _ _ _ _ (Nat.le_refl _)
  · obtain ⟨t, p, hx⟩ := opq_var (P := P) hA hG hg1 h1
    exact (Any.strconv_Atoi_syntax_var L ⟨⟨s⟩⟩ hs hc t p w hx).mono fun e w' ⟨N, he, _, _, hb⟩ => ⟨_, fun _ => none, he, hb, fun _ _ h => (by cases h), fun _ _ => rfl, key true 0 _ ⟨_, _, rfl⟩ w'⟩
  · obtain ⟨t, p, hx⟩ := opq_var (P := P) hA hG hg2 h2
    exact (Any.strconv_Atoi_range_var L ⟨⟨s⟩⟩ hs hc t p w hx).mono fun e w' ⟨N, he, _, _, hb⟩ => ⟨_, fun _ => none, he, hb, fun _ _ h => (by cases h), fun _ _ => rfl, key true _ _ ⟨_, _, rfl⟩ w'⟩
theorem split_fn {P : Program} {ρ : Ren} (L : Lays.n146 P ρ) (hi9 : (P.info? (ρ.t 9)).map (fun i => (i.zero, i.size, i.bytes)) = some (some (.string ByteArray.empty), 1, 16)) {gl : Nat → Option ((t : Ty) × t.T)}
    (hgl : gl (ρ.g 1) = some ⟨.opq false, ()⟩) (s sep : List UInt8) (h1 : 1 ≤ sep.length) (h2 : s.length ≤ 1000000000) :
    Fn P gl (ρ.f 146) [.one (.str s), .one (.str sep)] (.val (.one (.frs .str (Lib.split s sep)))) true := by
  intro w H vs hA hG hD
  obtain ⟨v, r, rfl, hv, v2, r2, rfl, hv2, hr⟩ := hD
  obtain rfl : r2 = [] := hr
  obtain rfl : v2 = .string ⟨⟨sep⟩⟩ := hv2
  obtain rfl : v = .string ⟨⟨s⟩⟩ := hv
  obtain ⟨c, m, t, fr, hc, rfl, hx⟩ := opq_cell hA hG hgl
  rcases hx with ⟨_, m, rfl⟩ | ⟨h, _⟩
  case inr => cases h
  have hm : w.cell? ⟨ρ.g 1, 0, none⟩ = some (.int .i64 m) := by
    have := cell_seg (w := w) hc (o := 0) (n := 1) 0 (.int .i64 m) rfl
    exact this
  have hsz : (⟨⟨s⟩⟩ : ByteArray).size = s.length := rfl
  have hd : (Lib.splitB ⟨⟨sep⟩⟩ 0 (Lib.countB ⟨⟨s⟩⟩ ⟨⟨sep⟩⟩) ⟨⟨s⟩⟩).map (·.data.toList) = Lib.split s sep := Lib.splitB_data _ _ _ _
  have hle := Lib.countB_le ⟨⟨sep⟩⟩ h1 s.length ⟨⟨s⟩⟩ (Nat.le_refl _)
  have hln := Lib.splitB_all ⟨⟨sep⟩⟩ h1 0 _ ⟨⟨s⟩⟩ rfl
  have hl2 : (Lib.split s sep).length = Lib.countB ⟨⟨s⟩⟩ ⟨⟨sep⟩⟩ + 1 := by rw [← hd, List.length_map, hln]
  refine (Any.strings_Split L hi9 ⟨⟨s⟩⟩ ⟨⟨sep⟩⟩ m w (by rw [hsz]; omega) hm h1).mono fun e w' ⟨he, hw⟩ => ?_
  subst hw
  have hf : (w.alloc (.cells ((Lib.splitB ⟨⟨sep⟩⟩ 0 (Lib.countB ⟨⟨s⟩⟩ ⟨⟨sep⟩⟩) ⟨⟨s⟩⟩).map Value.string).toArray (ρ.t 9))).heap[w.heap.size]? = some (.cells ((Lib.splitB ⟨⟨sep⟩⟩ 0 (Lib.countB ⟨⟨s⟩⟩ ⟨⟨sep⟩⟩) ⟨⟨s⟩⟩).map Value.string).toArray (ρ.t 9) (0, 0)) := by
    show (w.heap.push _)[w.heap.size]? = _
    rw [Array.getElem?_push, if_pos rfl]
  refine ⟨_, fun _ => none, he, ⟨rfl, rfl, rfl, ?_, fun j hj => ?_⟩, fun _ _ h => (by cases h), fun _ _ => rfl, .inr ⟨w.heap.size, Lib.countB ⟨⟨s⟩⟩ ⟨⟨sep⟩⟩ + 1, _, ρ.t 9, by rw [hl2], Nat.le_refl _, rfl, ⟨(0, 0), .inl rfl, hf⟩, by omega, ?_, ?_, fun i h => ?_⟩⟩
  · show w.heap.size ≤ (w.heap.push _).size
    simp
  · show (w.heap.push _)[j]? = _
    rw [Array.getElem?_push, if_neg (by omega)]
  · simp only [maxLen]; rw [hsz] at hle; omega
  · simp [hln, Ty.sz]
  · have hi : i < (Lib.splitB ⟨⟨sep⟩⟩ 0 (Lib.countB ⟨⟨s⟩⟩ ⟨⟨sep⟩⟩) ⟨⟨s⟩⟩).length := by omega
    have e1 : (Lib.split s sep)[i] = (Lib.splitB ⟨⟨sep⟩⟩ 0 (Lib.countB ⟨⟨s⟩⟩ ⟨⟨sep⟩⟩) ⟨⟨s⟩⟩)[i].data.toList := by simp only [← hd, List.getElem_map]
    rw [e1]
    have e2 : ((Lib.splitB ⟨⟨sep⟩⟩ 0 (Lib.countB ⟨⟨s⟩⟩ ⟨⟨sep⟩⟩) ⟨⟨s⟩⟩).map Value.string).drop i = Value.string (Lib.splitB ⟨⟨sep⟩⟩ 0 (Lib.countB ⟨⟨s⟩⟩ ⟨⟨sep⟩⟩) ⟨⟨s⟩⟩)[i] :: ((Lib.splitB ⟨⟨sep⟩⟩ 0 (Lib.countB ⟨⟨s⟩⟩ ⟨⟨sep⟩⟩) ⟨⟨s⟩⟩).map Value.string).drop (i + 1) := by
      rw [List.drop_eq_getElem_cons (by simpa using hi), List.getElem_map]
    show seg _ _ _ = _
    simp only [seg, Ty.sz, Nat.mul_one, e2, List.take_succ_cons, List.take_zero]
end Go.Sx
