/- A verified symbolic run of functions, part 15: lemmas, no claim of their own. -/
import Derived.Test.YtpbipfdpoijgoaaGreatDoorS14
import Derived.Lib.AppendIntMem
import Derived.Shelf.Strconv.Itoa3
import Derived.Shelf.Strings.OnBuilder
import Derived.Shelf.LaysM
import Derived.Test.YtpbipfdpoijgoaaGreatDoorProg
namespace Go.Sx
open U
theorem frame_range {F : Int} {D : Bool} {h m s f : Int} (hr : RateOk F D) (hl : LabOk F D h m s f) : 0 ≤ frameN F D h m s f ∧ frameN F D h m s f < dayN F D := by
  obtain ⟨h1, h2, h3, h4, h5⟩ := hl
  obtain ⟨hF, hD⟩ := hr
  unfold frameN dayN
  cases D with
  | true =>
    have := hD rfl
    subst this
    simp only [if_true]
    simp only [true_and] at h5
    by_cases hm : m % 10 = 0
    · omega
    · by_cases hs : s = 0
      · have : ¬ f < 2 := fun x => h5 ⟨hm, hs, x⟩
        omega
      · omega
  | false =>
    simp only [Bool.false_eq_true, if_false]
    rcases hF with rfl | rfl | rfl <;> omega
theorem firstZ : ∀ (l : List Int), first l = 0 ↔ ∀ x ∈ l, x = 0
  | [] => by simp [first]
  | x :: r => by
    have := firstZ r
    by_cases h : x = 0 <;> simp [first, h, this]
theorem withinZ {n lo hi : Int} : within n lo hi = 0 ↔ lo ≤ n ∧ n ≤ hi := by
  unfold within
  split <;> constructor <;> intro h <;> first | omega | rfl
theorem whenZ {b : Bool} {e : Int} (he : e ≠ 0) : whenE b e = 0 ↔ b = false := by
  cases b <;> simp [whenE, he]
theorem chkRateZ {F : Int} {D : Bool} : chkRate F D = 0 ↔ RateOk F D := by
  unfold chkRate RateOk
  split
  · split
    · rename_i h; constructor
      · intro h; omega
      · intro h'; exact absurd (h'.2 h.1) h.2
    · rename_i h1 h2
      refine ⟨fun _ => ⟨h1, fun hd => Classical.byContradiction fun hn => h2 ⟨hd, hn⟩⟩, fun _ => rfl⟩
  · rename_i h; constructor
    · intro h; omega
    · intro h'; exact absurd h'.1 h
theorem chkLabZ {F : Int} {D : Bool} {h m s f : Int} : chkLab F D h m s f = 0 ↔ RateOk F D ∧ LabOk F D h m s f := by
  unfold chkLab
  rw [firstZ]
  simp only [List.mem_cons, List.not_mem_nil, or_false, forall_eq_or_imp, forall_eq, chkRateZ, withinZ, whenZ (show (7 : Int) ≠ 0 by decide)]
  unfold LabOk dropB
  refine ⟨fun ⟨h1, h2, h3, h4, h5, h6⟩ => ⟨h1, h2, h3, h4, h5, ?_⟩, fun ⟨h1, h2, h3, h4, h5, h6⟩ => ⟨h1, h2, h3, h4, h5, ?_⟩⟩
  · rintro ⟨hd, hm, hs, hf⟩
    simp [hd, hm, hs, hf] at h6
  · rw [Bool.eq_false_iff]
    intro hb
    simp only [Bool.and_eq_true, bne_iff_ne, beq_iff_eq, decide_eq_true_eq] at hb
    exact h6 ⟨hb.1.1.1, hb.1.1.2, hb.1.2, hb.2⟩
theorem chkStZ {x : St7} : chkSt x = 0 ↔ StOk x := by
  unfold chkSt chkStamp StOk
  rw [firstZ]
  simp only [List.mem_cons, List.not_mem_nil, or_false, forall_eq_or_imp, forall_eq, chkLabZ, withinZ]
  exact ⟨fun ⟨⟨a, b⟩, c, d⟩ => ⟨a, b, c, d⟩, fun ⟨a, b, c, d⟩ => ⟨⟨a, b⟩, c, d⟩⟩
theorem dayN_bd {F : Int} {D : Bool} (hr : RateOk F D) : 2073600 ≤ dayN F D ∧ dayN F D ≤ 2592000 := by
  obtain ⟨hF, hD⟩ := hr
  unfold dayN
  cases D with
  | true => have := hD rfl; subst this; simp
  | false => simp only [Bool.false_eq_true, if_false]; omega
theorem rate_bd {F : Int} {D : Bool} (hr : RateOk F D) : 0 ≤ F ∧ F ≤ 1000 := by
  obtain ⟨hF, _⟩ := hr; omega
theorem fn224 (n : Int)  : Fn P1 gl1 224 [.one (.sl (.int .i64) [24, 25, 30]), iV n] (.val (bV (decide (n = 24 ∨ n = 25 ∨ n = 30)))) true := by
  refine Fn.flat ?_ rfl
  refine fn_of false [] [fb234] (hu 4) 3 Proofs.Tryz.f224 trivial ⟨⟨by kernel_rfl, by kernel_rfl, _, rfl, by kernel_rfl⟩, trivial⟩ (by kernel_rfl) rfl (by kernel_rfl) rfl rfl rfl ?_
  rw [vc224]
  try simp only [splitB_iff, -eq_self]
  by_cases h1 : n = 24 <;> by_cases h2 : n = 25 <;> by_cases h3 : n = 30 <;> simp [h1, h2, h3, fits]
theorem so224 : Sp1 224 sp224 := by
  refine ⟨?_, Proofs.Tryz.f224, _, by kernel_rfl, rfl, by kernel_rfl⟩
  intro vs ps r h hp
  simp only [sp224] at h
  split at h
  · cases h
    have := hp _ (.head _)
    rw [this]
    exact fn224 _
  · cases h
theorem fn183 (b : Bool) (e : Int)  : Fn P1 gl1 183 [bV b, iV e] (.val (iV (whenE b e))) true := by
  refine Fn.flat ?_ rfl
  refine fn_of false [] [] h0 0 Proofs.Tryz.f183 trivial trivial (by kernel_rfl) rfl (by kernel_rfl) rfl rfl rfl ?_
  rw [vc183]
  try simp only [splitB_iff, -eq_self]
  cases b <;> simp [whenE]
theorem so183_ : SpecOk P1 gl1 183 sp183 := by
  intro vs ps r h _
  simp only [sp183] at h
  split at h
  · cases h; exact fn183 _ _ 
  · cases h
theorem so183 : Sp1 183 sp183 := ⟨so183_, Proofs.Tryz.f183, _, by kernel_rfl, rfl, by kernel_rfl⟩
theorem fn186 (n lo hi : Int)  : Fn P1 gl1 186 [iV n, iV lo, iV hi] (.val (iV (within n lo hi))) true := by
  refine Fn.flat ?_ rfl
  refine fn_of false [(183, sp183)] [] h0 0 Proofs.Tryz.f186 ⟨so183, trivial⟩ trivial (by kernel_rfl) rfl (by kernel_rfl) rfl rfl rfl ?_
  rw [vc186]
  try simp only [splitB_iff, -eq_self]
  unfold within
  by_cases h1 : n < lo <;> by_cases h2 : hi < n <;> simp [h1, h2, whenE]
theorem so186_ : SpecOk P1 gl1 186 sp186 := by
  intro vs ps r h _
  simp only [sp186] at h
  split at h
  · cases h; exact fn186 _ _ _ 
  · cases h
theorem so186 : Sp1 186 sp186 := ⟨so186_, Proofs.Tryz.f186, _, by kernel_rfl, rfl, by kernel_rfl⟩
theorem fn182 (xs : List Int) (hl : xs.length ≤ 1000000000) : Fn P1 gl1 182 [.one (.sl (.int .i64) xs)] (.val (iV (first xs))) true := by
  refine Fn.flat ?_ rfl
  refine fn_of false [] [] h182 0 Proofs.Tryz.f182 trivial trivial (by kernel_rfl) rfl (by kernel_rfl) rfl rfl rfl ?_
  rw [vc182]
  try simp only [splitB_iff, -eq_self]
  refine ⟨⟨0, by simp, by simp⟩, fun g hg => ⟨fun hlt => ?_, fun hge => ?_⟩⟩
  · have hlt' : g < xs.length := by simpa using hlt
    rw [getD_of hlt', hg.2, first_drop xs g hlt']
    refine ⟨by omega, fun h => ?_, fun h => ⟨by simp only [fits]; omega, g + 1, ⟨by omega, ?_⟩, by omega, by simp⟩⟩
    · rw [if_neg (by simpa using h)]; simp
    · rw [if_pos (by simpa using h)]
  · have hge' : ¬ g < xs.length := by simpa using hge
    rw [hg.2, List.drop_of_length_le (by omega)]
    simp [first]
theorem so182_ : SpecOk P1 gl1 182 sp182 := by
  intro vs ps r h hp
  simp only [sp182] at h
  split at h
  · cases h; exact fn182 _ (hp _ (.head _))
  · cases h
theorem so182 : Sp1 182 sp182 := ⟨so182_, Proofs.Tryz.f182, _, by kernel_rfl, rfl, by kernel_rfl⟩
theorem fn212 (F : Int) (D : Bool)  : Fn P1 gl1 212 [rtV F D] (.val (iV (chkRate F D))) true := by
  refine Fn.flat ?_ rfl
  refine fn_of false [(183, sp183), (182, sp182), (224, sp224)] [] h0 0 Proofs.Tryz.f212 ⟨so183, so182, so224, trivial⟩ trivial (by kernel_rfl) rfl (by kernel_rfl) rfl rfl rfl ?_
  rw [vc212]
  try simp only [splitB_iff, -eq_self]
  refine ⟨by omega, rfl, by omega, ?_, trivial⟩
  unfold chkRate
  by_cases h1 : F = 24 <;> by_cases h2 : F = 25 <;> by_cases h3 : F = 30 <;> cases D <;> simp [h1, h2, h3, first, whenE]
theorem so212_ : SpecOk P1 gl1 212 sp212 := by
  intro vs ps r h _
  simp only [sp212] at h
  split at h
  · cases h; exact fn212 _ _ 
  · cases h
theorem so212 : Sp1 212 sp212 := ⟨so212_, Proofs.Tryz.f212, _, by kernel_rfl, rfl, by kernel_rfl⟩
theorem fn215 (F : Int) (D : Bool) (hF : 0 ≤ F ∧ F ≤ 1000) : Fn P1 gl1 215 [rtV F D] (.val (iV (dayN F D))) true := by
  refine Fn.flat ?_ rfl
  refine fn_of false [] [] h0 0 Proofs.Tryz.f215 trivial trivial (by kernel_rfl) rfl (by kernel_rfl) rfl rfl rfl ?_
  rw [vc215]
  try simp only [splitB_iff, -eq_self]
  simp only [fits, dayN]
  cases D <;> simp <;> omega
theorem so215_ : SpecOk P1 gl1 215 sp215 := by
  intro vs ps r h hp
  simp only [sp215] at h
  split at h
  · cases h; exact fn215 _ _ (hp _ (.head _))
  · cases h
theorem so215 : Sp1 215 sp215 := ⟨so215_, Proofs.Tryz.f215, _, by kernel_rfl, rfl, by kernel_rfl⟩
theorem fn213 (F : Int) (D : Bool) (h m s f : Int) (hm : 0 ≤ m) : Fn P1 gl1 213 [lbV h m s f, rtV F D] (.val (bV (dropB D m s f))) true := by
  refine Fn.flat ?_ rfl
  refine fn_of false [] [] h0 0 Proofs.Tryz.f213 trivial trivial (by kernel_rfl) rfl (by kernel_rfl) rfl rfl rfl ?_
  rw [vc213]
  try simp only [splitB_iff, -eq_self]
  refine ⟨fun _ => ⟨hm, by omega⟩, ?_, trivial⟩
  simp only [bcond_r, dropB]
theorem so213_ : SpecOk P1 gl1 213 sp213 := by
  intro vs ps r h hp
  simp only [sp213] at h
  split at h
  · cases h; exact fn213 _ _ _ _ _ _ (hp _ (.head _))
  · cases h
theorem so213 : Sp1 213 sp213 := ⟨so213_, Proofs.Tryz.f213, _, by kernel_rfl, rfl, by kernel_rfl⟩
theorem fn188 (F : Int) (D : Bool) (h m s f : Int) (hm : 0 ≤ m) (hF : 0 ≤ F ∧ F ≤ 1000) : Fn P1 gl1 188 [rtV F D, lbV h m s f] (.val (iV (chkLab F D h m s f))) true := by
  refine Fn.flat ?_ rfl
  refine fn_of false [(212, sp212), (186, sp186), (183, sp183), (182, sp182), (213, sp213)] [] h0 0 Proofs.Tryz.f188 ⟨so212, so186, so183, so182, so213, trivial⟩ trivial (by kernel_rfl) rfl (by kernel_rfl) rfl rfl rfl ?_
  rw [vc188]
  try simp only [splitB_iff, -eq_self]
  exact ⟨by simp only [fits]; omega, hm, by omega, rfl, trivial⟩
theorem so188_ : SpecOk P1 gl1 188 sp188 := by
  intro vs ps r h hp
  simp only [sp188] at h
  split at h
  · cases h; exact fn188 _ _ _ _ _ _ (hp _ (.head _)) (hp _ (.tail _ (.head _)))
  · cases h
theorem so188 : Sp1 188 sp188 := ⟨so188_, Proofs.Tryz.f188, _, by kernel_rfl, rfl, by kernel_rfl⟩
theorem fn140 (F : Int) (D : Bool) (h m s f u : Int) (hm : 0 ≤ m) (hF : 0 ≤ F ∧ F ≤ 1000) : Fn P1 gl1 140 [stV F D h m s f u] (.val (iV (chkStamp F D h m s f u))) true := by
  refine Fn.flat ?_ rfl
  refine fn_of false [(188, sp188), (186, sp186), (182, sp182)] [] h0 0 Proofs.Tryz.f140 ⟨so188, so186, so182, trivial⟩ trivial (by kernel_rfl) rfl (by kernel_rfl) rfl rfl rfl ?_
  rw [vc140]
  try simp only [splitB_iff, -eq_self]
  exact ⟨hm, hF, by omega, rfl, trivial⟩
theorem so140_ : SpecOk P1 gl1 140 sp140 := by
  intro vs ps r h hp
  simp only [sp140] at h
  split at h
  · cases h; exact fn140 _ _ _ _ _ _ _ (hp _ (.head _)) (hp _ (.tail _ (.head _)))
  · cases h
theorem so140 : Sp1 140 sp140 := ⟨so140_, Proofs.Tryz.f140, _, by kernel_rfl, rfl, by kernel_rfl⟩
theorem fn214 (F : Int) (D : Bool) (h m s f : Int) (hr : RateOk F D) (hl : LabOk F D h m s f) : Fn P1 gl1 214 [lbV h m s f, rtV F D] (.val (iV (frameN F D h m s f))) true := by
  refine Fn.flat ?_ rfl
  refine fn_of false [] [] h0 0 Proofs.Tryz.f214 trivial trivial (by kernel_rfl) rfl (by kernel_rfl) rfl rfl rfl ?_
  rw [vc214]
  try simp only [splitB_iff, -eq_self]
  obtain ⟨⟨_, _⟩, ⟨_, _⟩, ⟨_, _⟩, ⟨_, _⟩, _⟩ := hl
  obtain ⟨hF, _⟩ := hr
  simp only [fits, frameN]
  rcases hF with rfl | rfl | rfl <;> cases D <;> simp <;> omega
theorem so214_ : SpecOk P1 gl1 214 sp214 := by
  intro vs ps r h hp
  simp only [sp214] at h
  split at h
  · cases h; exact fn214 _ _ _ _ _ _ (hp _ (.head _)) (hp _ (.tail _ (.head _)))
  · cases h
theorem so214 : Sp1 214 sp214 := ⟨so214_, Proofs.Tryz.f214, _, by kernel_rfl, rfl, by kernel_rfl⟩
theorem fn216 (F : Int) (D : Bool) (n : Int) (hr : RateOk F D) (hn : 0 ≤ n ∧ n < dayN F D) : Fn P1 gl1 216 [rtV F D, iV n] (.val (lbW (lab F D n))) true := by
  refine Fn.flat ?_ rfl
  refine fn_of false [] [] h0 0 Proofs.Tryz.f216 trivial trivial (by kernel_rfl) rfl (by kernel_rfl) rfl rfl rfl ?_
  rw [vc216]
  try simp only [splitB_iff, -eq_self]
  have hday := dayN_bd hr
  obtain ⟨hF, hD⟩ := hr
  cases D with
  | false =>
    have hs : skipN false n = n := rfl
    simp only [lab, labH, labM, labS, labF, hs, fits]
    refine ⟨fun h => (by cases h), fun _ => ?_⟩
    rcases hF with rfl | rfl | rfl <;> refine ⟨by omega, by omega, by omega, by omega, by omega, by omega, trivial, trivial, trivial, trivial, trivial⟩
  | true =>
    have := hD rfl
    subst this
    refine ⟨fun _ => ⟨by simp only [fits]; omega, by omega, by simp only [fits]; omega, by simp only [fits]; omega, fun h => ?_, fun h => ?_⟩, fun h => (by cases h)⟩
    · have h1 : 1800 ≤ n % 17982 := by simpa using h
      have hs : skipN true n = n + 18 * (n / 17982) + 2 * (1 + (n % 17982 - 1800) / 1798) := by simp only [skipN, if_true, if_pos h1]
      simp only [lab, labH, labM, labS, labF, hs, fits]
      refine ⟨by omega, by omega, by omega, by omega, by omega, by omega, by omega, by omega, by omega, by omega, by omega, trivial, trivial, trivial, trivial, trivial⟩
    · have h1 : ¬ 1800 ≤ n % 17982 := by simpa using h
      have hs : skipN true n = n + 18 * (n / 17982) := by simp only [skipN, if_true, if_neg h1]
      simp only [lab, labH, labM, labS, labF, hs, fits]
      refine ⟨by omega, by omega, by omega, by omega, by omega, by omega, trivial, trivial, trivial, trivial, trivial⟩
theorem so216_ : SpecOk P1 gl1 216 sp216 := by
  intro vs ps r h hp
  simp only [sp216] at h
  split at h
  · cases h; exact fn216 _ _ _ (hp _ (.head _)) (hp _ (.tail _ (.head _)))
  · cases h
theorem so216 : Sp1 216 sp216 := ⟨so216_, Proofs.Tryz.f216, _, by kernel_rfl, rfl, by kernel_rfl⟩
theorem fn189 (F : Int) (D : Bool) (h m s f n : Int) (hr : RateOk F D) (hl : LabOk F D h m s f) (hn : 0 ≤ n ∧ n ≤ 10000000) : Fn P1 gl1 189 [lbV h m s f, rtV F D, iV n] (.val (lbW (lab F D (addN F D h m s f n)))) true := by
  refine Fn.flat ?_ rfl
  refine fn_of false [(214, sp214), (215, sp215), (216, sp216)] [] h0 0 Proofs.Tryz.f189 ⟨so214, so215, so216, trivial⟩ trivial (by kernel_rfl) rfl (by kernel_rfl) rfl rfl rfl ?_
  rw [vc189]
  try simp only [splitB_iff, -eq_self]
  have hday := dayN_bd hr
  have hfr := frame_range hr hl
  have hb := rate_bd hr
  have hm0 := Int.emod_nonneg (frameN F D h m s f + n) (show dayN F D ≠ 0 by omega)
  have hm1 := Int.emod_lt_of_pos (frameN F D h m s f + n) (show 0 < dayN F D by omega)
  have e : ((frameN F D h m s f + n) % dayN F D + dayN F D) % dayN F D = addN F D h m s f n := by
    rw [Int.add_emod_right, Int.emod_emod_of_dvd _ (Int.dvd_refl _)]; rfl
  rw [e]
  have e2 : addN F D h m s f n = (frameN F D h m s f + n) % dayN F D := rfl
  exact ⟨hr, hl, by simp only [fits]; omega, hb, by omega, hb, by simp only [fits]; omega, hb, by omega, hr, by rw [e2]; exact ⟨hm0, hm1⟩, rfl, rfl, rfl, rfl, trivial⟩
theorem so189_ : SpecOk P1 gl1 189 sp189 := by
  intro vs ps r h hp
  simp only [sp189] at h
  split at h
  · cases h; exact fn189 _ _ _ _ _ _ _ (hp _ (.head _)) (hp _ (.tail _ (.head _))) (hp _ (.tail _ (.tail _ (.head _))))
  · cases h
theorem so189 : Sp1 189 sp189 := ⟨so189_, Proofs.Tryz.f189, _, by kernel_rfl, rfl, by kernel_rfl⟩
theorem fn141 (F : Int) (D : Bool) (h m s f n : Int) (hr : RateOk F D) (hl : LabOk F D h m s f) (hn : 0 ≤ n ∧ n ≤ 10000000) : Fn P1 gl1 141 [rtV F D, lbV h m s f, iV n] (.tup [lbW (lab F D (addN F D h m s f n)), iV 0]) true := by
  refine Fn.flat ?_ rfl
  refine fn_of false [(188, sp188), (186, sp186), (182, sp182), (189, sp189)] [] h0 0 Proofs.Tryz.f141 ⟨so188, so186, so182, so189, trivial⟩ trivial (by kernel_rfl) rfl (by kernel_rfl) rfl rfl rfl ?_
  rw [vc141]
  try simp only [splitB_iff, -eq_self]
  have h1 := chkLabZ.2 ⟨hr, hl⟩
  have h2 : within n (-10000000) 10000000 = 0 := withinZ.2 (by omega)
  rw [h1, h2]
  exact ⟨hl.2.1.1, rate_bd hr, by omega, fun h => (by simp [first] at h), fun _ => ⟨hr, hl, hn, rfl, rfl, rfl, rfl, rfl, trivial⟩⟩
theorem so141_ : SpecOk P1 gl1 141 sp141 := by
  intro vs ps r h hp
  simp only [sp141] at h
  split at h
  · cases h; exact fn141 _ _ _ _ _ _ _ (hp _ (.head _)) (hp _ (.tail _ (.head _))) (hp _ (.tail _ (.tail _ (.head _))))
  · cases h
theorem so141 : Sp1 141 sp141 := ⟨so141_, Proofs.Tryz.f141, _, by kernel_rfl, rfl, by kernel_rfl⟩
end Go.Sx

namespace Go.Sx.U
def chkCad (l : List Int) : Int := if first [whenE (decide (l.length = 0)) 12, whenE (decide (8 < l.length)) 5] ≠ 0 then first [whenE (decide (l.length = 0)) 12, whenE (decide (8 < l.length)) 5] else first (l.map fun n => within n 1 4)
def fldTo (l : List Int) : Nat → List Int
  | 0 => []
  | i + 1 => fldTo l i ++ List.replicate (l.getD (i % l.length) 0).toNat (i : Int)
def prsTo (fs : List Int) : Nat → List (List Int)
  | 0 => []
  | k + 1 => prsTo fs k ++ [[fs.getD (2 * k) 0, fs.getD (2 * k + 1) 0]]
def pullN (l : List Int) (n : Nat) : List (List Int) := prsTo (fldTo l n) ((fldTo l n).length / 2)
def pullE (l : List Int) (n : Int) : Int := first [chkCad l, within n 0 256]
def pullL (l : List Int) (n : Int) : List (List Int) := if pullE l n = 0 then pullN l n.toNat else []
def convE (R : List Rl) (L : List Ed) (l : List Int) : Int := if first [chkEds R L, chkCad l] ≠ 0 then first [chkEds R L, chkCad l] else if 256 < lenL L then 5 else 0
def convL (R : List Rl) (L : List Ed) (l : List Int) : List (List Int) := if convE R L l = 0 then pullN l (lenL L).toNat else []
def labsN (x : St7) (p : List Pl) : List Lb := p.map fun q => lab x.1.1 x.1.2 (addN x.1.1 x.1.2 x.2.1.1 x.2.1.2.1 x.2.1.2.2.1 x.2.1.2.2.2 q.2)
end Go.Sx.U
namespace Go.Sx
open U
abbrev p2T : Ty := .arr 2 (.int .i64)
def h184 : Hints := ⟨fun f k s => match f, k with
  | 184, 3 => hMapI (.int .i64) (fun n => within n 1 4) 8 9 10 5 [1] s
  | _, _ => none, 0⟩
def h187 : Hints := ⟨fun f k s => match f, k with
  | 187, 3 => match listAs s 0 (.int .i64), intOfT s 9 with
    | some l, some n => some ⟨Nat, fun i => ⟨[tI 10 i, (5, .val (.one (.own s.nx)))] ++ keepT [0, 9] s.tm, (s.nx, some (.row (.int .i64) (fldTo l i))) :: lessO s [5], s.nx + 1, s.lr⟩, fun i => i ≤ n.toNat, fun i => n.toNat - i⟩
    | _, _ => none
  | 187, 6 => match listAs s 5 (.int .i64), intOfT s 6, intOfT s 19 with
    | some o, some i, some c => some ⟨Nat, fun j => ⟨[tI 20 j, (5, .val (.one (.own s.nx)))] ++ keepT [0, 6, 9, 10, 19] s.tm, (s.nx, some (.row (.int .i64) (o ++ List.replicate j i))) :: lessO s [5], s.nx + 1, s.lr⟩, fun j => j ≤ c.toNat, fun j => c.toNat - j⟩
    | _, _, _ => none
  | 187, 12 => match listAs s 5 (.int .i64) with
    | some fs => some ⟨Nat, fun k => ⟨[tI 8 ((2 * k : Nat) : Int), (7, .val (.one (.own s.nx)))] ++ keepT [5] s.tm, (s.nx, some (.row p2T (prsTo fs k))) :: lessO s [7], s.nx + 1, s.lr⟩, fun k => k ≤ List.length fs / 2, fun k => List.length fs / 2 - k⟩
    | _ => none
  | _, _ => none, 0⟩
def h66 : Hints := ⟨fun f k s => match f, k with
  | 66, 4 => match listAs s 0 p2T, listAs s 1 p2T with
    | some a, some b => hCt s [0, 1] 5 (List.length a) fun i => ∀ j, j < i → eqT (.arr 2 (.int .i64)) (List.getD a j [0, 0]) (List.getD b j [0, 0]) = true
    | _, _ => none
  | _, _ => none, 0⟩
def h60 : Hints := ⟨fun f k s => match f, k with
  | 60, 6 => match listAs s 27 plT, ptrId s 5 with
    | some p, some b => match lookO s.ob b with
      | some (.box [.one (.int .i64 F), .one (.bool D), .one (.int .i64 h), .one (.int .i64 m), .one (.int .i64 c), .one (.int .i64 f), .one (.int .i64 u)]) => some ⟨Nat, fun i => ⟨[tI 29 i, (9, .val (.one (.own s.nx)))] ++ keepT [5, 27, 28] s.tm, (s.nx, some (.row lbT (labsN ((F, D), (h, m, c, f), u) (List.take i p)))) :: lessO s [9], s.nx + 1, s.lr⟩, fun i => i ≤ List.length p, fun i => List.length p - i⟩
      | _ => none
    | _, _ => none
  | _, _ => none, 0⟩
@[reducible] noncomputable def fb185 : Nat × Func := (185, Proofs.Tryz.f185)
end Go.Sx
namespace Go.Sx
open U
def sp184 : FSpec := ⟨fun vs => match vs with
  | [.one (.sl (.int .i64) l), .one (.fn 185 [] [])] => some ([List.length l ≤ 1000000], .val (.one (.frs (.int .i64) (List.map (fun n => within n 1 4) l))))
  | _ => none, true⟩
def sp138 : FSpec := ⟨fun vs => match vs with
  | [.one (.sl (.int .i64) l)] => some ([], .val (iV (chkCad l)))
  | _ => none, true⟩
def sp187 : FSpec := ⟨fun vs => match vs with
  | [.one (.sl (.int .i64) l), .one (.int .i64 n)] => some ([chkCad l = 0, 0 ≤ n ∧ n ≤ 256], .val (.one (.frs p2T (pullN l (Int.toNat n)))))
  | _ => none, true⟩
def sp139 : FSpec := ⟨fun vs => match vs with
  | [.one (.sl (.int .i64) l), .one (.int .i64 n)] => some ([], .tup [.one (.frs p2T (pullL l n)), iV (pullE l n)])
  | _ => none, true⟩
def sp58 : FSpec := ⟨fun vs => match vs with
  | [.one (.sl (.pair .str (.pair (.int .i64) (.sl (.int .i64)))) R), .one (.sl (.pair .str (.pair (.int .i64) (.pair (.int .i64) (.pair (.int .i64) (.int .i64))))) L), .one (.sl (.int .i64) l)] => some ([List.length R ≤ 1000000000, ∀ r ∈ (show List Rl from R), List.length r.2.2 ≤ 1000000, List.length L ≤ 1000000000], .tup [.one (.frs p2T (convL R L l)), iV (convE R L l)])
  | _ => none, true⟩
def sp60 : FSpec := ⟨fun vs => match vs with
  | [.one (.sl (.pair .str (.pair (.int .i64) (.sl (.int .i64)))) R), .one (.sl (.pair .str (.pair (.int .i64) (.pair (.int .i64) (.pair (.int .i64) (.int .i64))))) L), .agg [.one (.int .i64 F), .one (.bool D), .one (.int .i64 h), .one (.int .i64 m), .one (.int .i64 s), .one (.int .i64 f), .one (.int .i64 u)]] => some ([List.length R ≤ 1000000000, ∀ r ∈ (show List Rl from R), List.length r.2.2 ≤ 1000000, List.length L ≤ 1000000000, StOk ((F, D), (h, m, s, f), u)], .tup [.one (.frs lbT (if chkEds R L = 0 then labsN ((F, D), (h, m, s, f), u) (ls L) else [])), iV (chkEds R L)])
  | _ => none, true⟩
def sp66 : FSpec := ⟨fun vs => match vs with
  | [.one (.sl (.arr 2 (.int .i64)) a), .one (.sl (.arr 2 (.int .i64)) b)] => some ([List.length a ≤ 1000000, ∀ x ∈ (show List (List Int) from a), List.length x = 2, ∀ x ∈ (show List (List Int) from b), List.length x = 2], .val (bV (decide (a = b))))
  | _ => none, true⟩
end Go.Sx

namespace Go.Sx
open U
theorem cad_map (l : List Int) : first (l.map fun n => within n 1 4) = 0 ↔ ∀ x ∈ l, 1 ≤ x ∧ x ≤ 4 := by
  rw [first_zero_iff]
  constructor
  · intro h x hx
    exact within_zero.1 (h _ (List.mem_map_of_mem hx))
  · intro h y hy
    obtain ⟨x, hx, rfl⟩ := List.mem_map.1 hy
    exact within_zero.2 (h x hx)
theorem chkCad_ok {l : List Int} (h : chkCad l = 0) : (1 ≤ l.length ∧ l.length ≤ 8) ∧ ∀ x ∈ l, 1 ≤ x ∧ x ≤ 4 := by
  unfold chkCad at h
  split at h
  · rename_i h1; exact absurd h h1
  · rename_i h1
    have hz := (first_zero_iff _).1 (show first [whenE (decide (l.length = 0)) 12, whenE (decide (8 < l.length)) 5] = 0 by simpa using h1)
    have h2 := of_decide_eq_false ((whenE_zero (by decide)).1 (hz _ List.mem_cons_self))
    have h3 := of_decide_eq_false ((whenE_zero (by decide)).1 (hz _ (List.mem_cons_of_mem _ List.mem_cons_self)))
    exact ⟨by omega, (cad_map l).1 h⟩
section
variable {l : List Int} (h : chkCad l = 0)
include h
theorem fld_cnt (i : Nat) : 1 ≤ l.getD (i % l.length) 0 ∧ l.getD (i % l.length) 0 ≤ 4 := by
  obtain ⟨h1, h2⟩ := chkCad_ok h
  exact h2 _ (getD_mem (Nat.mod_lt _ (by omega)))
theorem fld_len : ∀ n : Nat, n ≤ (fldTo l n).length ∧ (fldTo l n).length ≤ 4 * n
  | 0 => ⟨Nat.le_refl _, Nat.le_refl _⟩
  | n + 1 => by
    have ih := fld_len n
    have := fld_cnt h n
    simp only [fldTo, List.length_append, List.length_replicate]
    omega
end
theorem prs_len (fs : List Int) : ∀ k, (prsTo fs k).length = k
  | 0 => rfl
  | k + 1 => by simp [prsTo, prs_len fs k]
theorem eq2 {a b : List Int} (ha : a.length = 2) (hb : b.length = 2) : eqT (.arr 2 (.int .i64)) a b = true ↔ a = b := by
  match a, ha, b, hb with
  | [x, y], _, [u, v], _ =>
    simp [eqT, List.range, List.range.loop]
theorem pairs_eq {a b : List (List Int)} (hl : a.length = b.length) (ha : ∀ x ∈ a, x.length = 2) (hb : ∀ x ∈ b, x.length = 2) (h : ∀ j, j < a.length → eqT (.arr 2 (.int .i64)) (a.getD j [0, 0]) (b.getD j [0, 0]) = true) : a = b := by
  apply List.ext_getElem hl
  intro i h1 h2
  have := (eq2 (ha _ (getD_mem (d := [0, 0]) h1)) (hb _ (getD_mem (d := [0, 0]) h2))).1 (h i h1)
  rwa [getD_of h1, getD_of h2] at this
end Go.Sx

namespace Go.Sx
open U
theorem vc184 (l : List Int) : exF (env false [(186, sp186)] [fb185]) h184 3 184 Proofs.Tryz.f184 [.one (.sl (.int .i64) l), .one (.fn 185 [] [])] (.val (.one (.frs (.int .i64) (List.map (fun n => within n 1 4) l)))) = (let q0 := (↑(List.length l) : Int); (∃ (g : Nat), Nat.le g (List.length l) ∧ (0 : Int) = (↑g : Int) ∧ q0 = q0 ∧ l = l ∧ List.map (fun (n : Int) => within n (1 : Int) (4 : Int)) (List.take g l) = [] ∧ True) ∧ ∀ (g : Nat), Nat.le g (List.length l) → splitB (decide ((↑g : Int) < q0)) (((0 : Int) ≤ (↑g : Int) ∧ (↑g : Int) < q0) ∧ room (List.length (List.map (fun (n : Int) => within n (1 : Int) (4 : Int)) (List.take g l)) + (1 : Nat)) (8 : Nat) ∧ fits IntKind.i64 ((↑g : Int) + (1 : Int)) ∧ ∃ (g' : Nat), Nat.le g' (List.length l) ∧ List.length l - g' < List.length l - g ∧ (↑g : Int) + (1 : Int) = (↑g' : Int) ∧ q0 = q0 ∧ l = l ∧ List.map (fun (n : Int) => within n (1 : Int) (4 : Int)) (List.take g l) ++ [within (List.getD l g (0 : Int)) (1 : Int) (4 : Int)] = List.map (fun (n : Int) => within n (1 : Int) (4 : Int)) (List.take g' l) ∧ True) (List.map (fun (n : Int) => within n (1 : Int) (4 : Int)) (List.take g l) = List.map (fun (n : Int) => within n (1 : Int) (4 : Int)) l ∧ True)) := by
  kernel_rfl
theorem vc138 (l : List Int) : exF (env false [(183, sp183), (182, sp182), (184, sp184)] []) h0 0 138 Proofs.Tryz.f138 [.one (.sl (.int .i64) l)] (.val (iV (chkCad l))) = (let q0 := (↑(List.length l) : Int); (2 : Nat) ≤ (1000000000 : Nat) ∧ splitB (first [whenE (q0 == (0 : Int)) (12 : Int), whenE (decide ((8 : Int) < q0)) (5 : Int)] != (0 : Int)) (first [whenE (q0 == (0 : Int)) (12 : Int), whenE (decide ((8 : Int) < q0)) (5 : Int)] = chkCad l ∧ True) (List.length l ≤ (1000000 : Nat) ∧ List.length (List.map (fun (n : Int) => within n (1 : Int) (4 : Int)) l) ≤ (1000000000 : Nat) ∧ first (List.map (fun (n : Int) => within n (1 : Int) (4 : Int)) l) = chkCad l ∧ True)) := by
  kernel_rfl
theorem vc187 (l : List Int) (n : Int) : exF (env false [] []) h187 0 187 Proofs.Tryz.f187 [.one (.sl (.int .i64) l), iV n] (.val (.one (.frs p2T (pullN l n.toNat)))) = (let q3 := (↑(List.length l) : Int); (∃ (g : Nat), Nat.le g (Int.toNat n) ∧ (0 : Int) = (↑g : Int) ∧ n = n ∧ l = l ∧ fldTo l g = [] ∧ True) ∧ ∀ (g : Nat), let q0 := (Int.toNat ((↑g : Int) % q3)); let q2 := (List.getD l q0 (0 : Int)); let q4 := (List.length (fldTo l g) / (2 : Nat)); let q5 := (↑(List.length (fldTo l g)) : Int); Nat.le g (Int.toNat n) → splitB (decide ((↑g : Int) < n)) (((0 : Int) ≤ (↑g : Int) ∧ (0 : Int) < q3) ∧ ((0 : Int) ≤ (↑g : Int) % q3 ∧ (↑g : Int) % q3 < q3) ∧ (∃ (g_1 : Nat), Nat.le g_1 (Int.toNat q2) ∧ (0 : Int) = (↑g_1 : Int) ∧ List.getD l q0 (0 : Int) = List.getD l q0 (0 : Int) ∧ (↑g : Int) = (↑g : Int) ∧ (↑g : Int) = (↑g : Int) ∧ n = n ∧ l = l ∧ fldTo l g = fldTo l g ++ List.replicate g_1 (↑g : Int) ∧ True) ∧ ∀ (g_1 : Nat), Nat.le g_1 (Int.toNat q2) → splitB (decide ((↑g_1 : Int) < List.getD l q0 (0 : Int))) (room (List.length (fldTo l g ++ List.replicate g_1 (↑g : Int)) + (1 : Nat)) (8 : Nat) ∧ fits IntKind.i64 ((↑g_1 : Int) + (1 : Int)) ∧ ∃ (g' : Nat), Nat.le g' (Int.toNat q2) ∧ Int.toNat q2 - g' < Int.toNat q2 - g_1 ∧ (↑g_1 : Int) + (1 : Int) = (↑g' : Int) ∧ List.getD l q0 (0 : Int) = List.getD l q0 (0 : Int) ∧ (↑g : Int) = (↑g : Int) ∧ (↑g : Int) = (↑g : Int) ∧ n = n ∧ l = l ∧ fldTo l g ++ List.replicate g_1 (↑g : Int) ++ [(↑g : Int)] = fldTo l g ++ List.replicate g' (↑g : Int) ∧ True) (fits IntKind.i64 ((↑g : Int) + (1 : Int)) ∧ ∃ (g' : Nat), Nat.le g' (Int.toNat n) ∧ Int.toNat n - g' < Int.toNat n - g ∧ (↑g : Int) + (1 : Int) = (↑g' : Int) ∧ n = n ∧ l = l ∧ fldTo l g ++ List.replicate g_1 (↑g : Int) = fldTo l g' ∧ True)) ((∃ (g_1 : Nat), Nat.le g_1 q4 ∧ (0 : Int) = (↑((2 : Nat) * g_1) : Int) ∧ prsTo (fldTo l g) g_1 = [] ∧ fldTo l g = fldTo l g ∧ True) ∧ ∀ (g_1 : Nat), let q1 := (↑((2 : Nat) * g_1) : Int); Nat.le g_1 q4 → fits IntKind.i64 (q1 + (1 : Int)) ∧ splitB (decide (q1 + (1 : Int) < q5)) (((0 : Int) ≤ q1 ∧ q1 < q5) ∧ (2 : Nat) * g_1 < List.length (fldTo l g) ∧ fits IntKind.i64 (q1 + (1 : Int)) ∧ ((0 : Int) ≤ q1 + (1 : Int) ∧ q1 + (1 : Int) < q5) ∧ Int.toNat (q1 + (1 : Int)) < List.length (fldTo l g) ∧ room (List.length (prsTo (fldTo l g) g_1) + (1 : Nat)) (16 : Nat) ∧ fits IntKind.i64 (q1 + (2 : Int)) ∧ ∃ (g' : Nat), Nat.le g' q4 ∧ List.length (fldTo l g) / (2 : Nat) - g' < List.length (fldTo l g) / (2 : Nat) - g_1 ∧ q1 + (2 : Int) = (↑((2 : Nat) * g') : Int) ∧ prsTo (fldTo l g) g_1 ++ [[List.getD (fldTo l g) ((2 : Nat) * g_1) (0 : Int), List.getD (fldTo l g) (Int.toNat (q1 + (1 : Int))) (0 : Int)]] = prsTo (fldTo l g) g' ∧ fldTo l g = fldTo l g ∧ True) (prsTo (fldTo l g) g_1 = pullN l (Int.toNat n) ∧ True))) := by
  kernel_rfl
theorem vc139 (l : List Int) (n : Int) : exF (env false [(138, sp138), (186, sp186), (182, sp182), (187, sp187)] []) h0 0 139 Proofs.Tryz.f139 [.one (.sl (.int .i64) l), iV n] (.tup [.one (.frs p2T (pullL l n)), iV (pullE l n)]) = ((2 : Nat) ≤ (1000000000 : Nat) ∧ splitB (first [chkCad l, within n (0 : Int) (256 : Int)] != (0 : Int)) (pullL l n = [] ∧ first [chkCad l, within n (0 : Int) (256 : Int)] = pullE l n ∧ True) (chkCad l = (0 : Int) ∧ ((0 : Int) ≤ n ∧ n ≤ (256 : Int)) ∧ pullN l (Int.toNat n) = pullL l n ∧ (0 : Int) = pullE l n ∧ True)) := by
  kernel_rfl
theorem vc58 (R : List Rl) (L : List Ed) (l : List Int) : exF (env false [(43, sp43), (138, sp138), (106, sp106), (120, sp120), (139, sp139)] []) h0 0 58 Proofs.Tryz.f58 [.one (.sl rlT R), .one (.sl edT L), .one (.sl (.int .i64) l)] (.tup [.one (.frs p2T (convL R L l)), iV (convE R L l)]) = (let q0 := (1000000000 : Nat); List.length R ≤ q0 ∧ (∀ (r : Rl), r ∈ R → List.length r.2.2 ≤ (1000000 : Nat)) ∧ List.length L ≤ q0 ∧ (2 : Nat) ≤ q0 ∧ splitB (first [chkEds R L, chkCad l] != (0 : Int)) (convL R L l = [] ∧ first [chkEds R L, chkCad l] = convE R L l ∧ True) (List.length R ≤ q0 ∧ EdsIn L ∧ splitB (decide ((256 : Int) < begN L (List.length L))) (convL R L l = [] ∧ (5 : Int) = convE R L l ∧ True) (pullL l (begN L (List.length L)) = convL R L l ∧ pullE l (begN L (List.length L)) = convE R L l ∧ True))) := by
  kernel_rfl
theorem vc60 (R : List Rl) (L : List Ed) (x : St7) : exF (env false [(43, sp43), (140, sp140), (106, sp106), (120, sp120), (141, sp141)] []) h60 0 60 Proofs.Tryz.f60 [.one (.sl rlT R), .one (.sl edT L), stW x] (.tup [.one (.frs lbT (if chkEds R L = 0 then labsN x (ls L) else [])), iV (chkEds R L)]) = (let q4 := (List.length L); let q0 := (plTo L q4); let q2 := ((x.1.1, x.1.2), (x.2.1.1, x.2.1.2.1, x.2.1.2.2.1, x.2.1.2.2.2), x.2.2); let q3 := (↑(List.length q0) : Int); let q5 := (1000000000 : Nat); List.length R ≤ q5 ∧ (∀ (r : Rl), r ∈ R → List.length r.2.2 ≤ (1000000 : Nat)) ∧ List.length L ≤ q5 ∧ (0 : Int) ≤ x.2.1.2.1 ∧ ((0 : Int) ≤ x.1.1 ∧ x.1.1 ≤ (1000 : Int)) ∧ (2 : Nat) ≤ q5 ∧ splitB (first [chkEds R L, chkStamp x.1.1 x.1.2 x.2.1.1 x.2.1.2.1 x.2.1.2.2.1 x.2.1.2.2.2 x.2.2] != (0 : Int)) ((if chkEds R L = (0 : Int) then labsN x (ls L) else []) = [] ∧ first [chkEds R L, chkStamp x.1.1 x.1.2 x.2.1.1 x.2.1.2.1 x.2.1.2.2.1 x.2.1.2.2.2 x.2.2] = chkEds R L ∧ True) (List.length R ≤ q5 ∧ EdsIn L ∧ (∃ (g : Nat), Nat.le g (List.length q0) ∧ (0 : Int) = (↑g : Int) ∧ q3 = q3 ∧ plTo L q4 = plTo L q4 ∧ labsN q2 (List.take g q0) = [] ∧ [chkEds R L, chkStamp x.1.1 x.1.2 x.2.1.1 x.2.1.2.1 x.2.1.2.2.1 x.2.1.2.2.2 x.2.2] = [chkEds R L, chkStamp x.1.1 x.1.2 x.2.1.1 x.2.1.2.1 x.2.1.2.2.1 x.2.1.2.2.2 x.2.2] ∧ x.1.1 = x.1.1 ∧ x.1.2 = x.1.2 ∧ x.2.1.1 = x.2.1.1 ∧ x.2.1.2.1 = x.2.1.2.1 ∧ x.2.1.2.2.1 = x.2.1.2.2.1 ∧ x.2.1.2.2.2 = x.2.1.2.2.2 ∧ x.2.2 = x.2.2 ∧ True) ∧ ∀ (g : Nat), let q1 := (lab x.1.1 x.1.2 (addN x.1.1 x.1.2 x.2.1.1 x.2.1.2.1 x.2.1.2.2.1 x.2.1.2.2.2 (List.getD q0 g pl0).2)); Nat.le g (List.length q0) → splitB (decide ((↑g : Int) < q3)) (((0 : Int) ≤ (↑g : Int) ∧ (↑g : Int) < q3) ∧ RateOk x.1.1 x.1.2 ∧ LabOk x.1.1 x.1.2 x.2.1.1 x.2.1.2.1 x.2.1.2.2.1 x.2.1.2.2.2 ∧ ((0 : Int) ≤ (List.getD q0 g pl0).2 ∧ (List.getD q0 g pl0).2 ≤ (10000000 : Int)) ∧ room (List.length (labsN q2 (List.take g q0)) + (1 : Nat)) (32 : Nat) ∧ fits IntKind.i64 ((↑g : Int) + (1 : Int)) ∧ ∃ (g' : Nat), Nat.le g' (List.length q0) ∧ List.length q0 - g' < List.length q0 - g ∧ (↑g : Int) + (1 : Int) = (↑g' : Int) ∧ q3 = q3 ∧ plTo L q4 = plTo L q4 ∧ labsN q2 (List.take g q0) ++ [(q1.1, q1.2.1, q1.2.2.1, q1.2.2.2)] = labsN q2 (List.take g' q0) ∧ [chkEds R L, chkStamp x.1.1 x.1.2 x.2.1.1 x.2.1.2.1 x.2.1.2.2.1 x.2.1.2.2.2 x.2.2] = [chkEds R L, chkStamp x.1.1 x.1.2 x.2.1.1 x.2.1.2.1 x.2.1.2.2.1 x.2.1.2.2.2 x.2.2] ∧ x.1.1 = x.1.1 ∧ x.1.2 = x.1.2 ∧ x.2.1.1 = x.2.1.1 ∧ x.2.1.2.1 = x.2.1.2.1 ∧ x.2.1.2.2.1 = x.2.1.2.2.1 ∧ x.2.1.2.2.2 = x.2.1.2.2.2 ∧ x.2.2 = x.2.2 ∧ True) ((labsN q2 (List.take g q0) = if chkEds R L = (0 : Int) then labsN x (ls L) else []) ∧ (0 : Int) = chkEds R L ∧ True))) := by
  kernel_rfl
theorem vc66 (a b : List (List Int)) : exF (env false [] []) h66 0 66 Proofs.Tryz.f66 [.one (.sl p2T a), .one (.sl p2T b)] (.val (bV (decide (a = b)))) = (let q0 := (Ty.arr (2 : Nat) (Ty.int IntKind.i64)); splitB ((↑(List.length a) : Int) != (↑(List.length b) : Int)) (false = decide (a = b) ∧ True) ((∃ (g : Nat), (g ≤ List.length a ∧ ∀ (j : Nat), j < g → eqT q0 (List.getD a j [(0 : Int), (0 : Int)]) (List.getD b j [(0 : Int), (0 : Int)]) = true) ∧ (0 : Int) = (↑g : Int) ∧ a = a ∧ b = b ∧ True) ∧ ∀ (g : Nat), (g ≤ List.length a ∧ ∀ (j : Nat), j < g → eqT q0 (List.getD a j [(0 : Int), (0 : Int)]) (List.getD b j [(0 : Int), (0 : Int)]) = true) → splitB (decide ((↑g : Int) < (↑(List.length a) : Int))) (((0 : Int) ≤ (↑g : Int) ∧ (↑g : Int) < (↑(List.length a) : Int)) ∧ ((0 : Int) ≤ (↑g : Int) ∧ (↑g : Int) < (↑(List.length b) : Int)) ∧ splitB (!eqT q0 (List.getD a g (List.replicate (2 : Nat) (0 : Int))) (List.getD b g (List.replicate (2 : Nat) (0 : Int)))) (false = decide (a = b) ∧ True) (fits IntKind.i64 ((↑g : Int) + (1 : Int)) ∧ ∃ (g' : Nat), (g' ≤ List.length a ∧ ∀ (j : Nat), j < g' → eqT q0 (List.getD a j [(0 : Int), (0 : Int)]) (List.getD b j [(0 : Int), (0 : Int)]) = true) ∧ List.length a - g' < List.length a - g ∧ (↑g : Int) + (1 : Int) = (↑g' : Int) ∧ a = a ∧ b = b ∧ True)) (true = decide (a = b) ∧ True))) := by
  kernel_rfl
end Go.Sx

namespace Go.Sx
open U
theorem fn184 (l : List Int) (hl : l.length ≤ 1000000) : Fn P1 gl1 184 [.one (.sl (.int .i64) l), .one (.fn 185 [] [])] (.val (.one (.frs (.int .i64) (List.map (fun n => within n 1 4) l)))) true := by
  refine Fn.flat ?_ rfl
  refine fn_of false [(186, sp186)] [fb185] h184 3 Proofs.Tryz.f184 ⟨so186, trivial⟩ ⟨⟨by kernel_rfl, by kernel_rfl, _, rfl, by kernel_rfl⟩, trivial⟩ (by kernel_rfl) rfl (by kernel_rfl) rfl rfl rfl ?_
  rw [vc184]
  try simp only [splitB_iff, -eq_self]
  refine ⟨⟨0, Nat.zero_le _, rfl, rfl, rfl, by simp⟩, fun g hg => ⟨fun hlt => ?_, fun hge => ?_⟩⟩
  · have hlt' : g < l.length := by simpa using hlt
    refine ⟨by omega, by simp only [room, List.length_map, List.length_take]; omega, by simp only [fits]; omega, g + 1, hlt', by omega, by simp, rfl, rfl, ?_, trivial⟩
    rw [getD_of hlt', List.take_succ_eq_append_getElem hlt', List.map_append]
    rfl
  · have hge' : ¬ g < l.length := by simpa using hge
    rw [List.take_of_length_le (by omega)]
    exact ⟨rfl, trivial⟩
theorem so184_ : SpecOk P1 gl1 184 sp184 := by
  intro vs ps r h hp
  simp only [sp184] at h
  split at h
  · cases h; exact fn184 _ (hp _ (.head _))
  · cases h
theorem so184 : Sp1 184 sp184 := ⟨so184_, Proofs.Tryz.f184, _, by kernel_rfl, rfl, by kernel_rfl⟩
theorem fn138 (l : List Int)  : Fn P1 gl1 138 [.one (.sl (.int .i64) l)] (.val (iV (chkCad l))) true := by
  refine Fn.flat ?_ rfl
  refine fn_of false [(183, sp183), (182, sp182), (184, sp184)] [] h0 0 Proofs.Tryz.f138 ⟨so183, so182, so184, trivial⟩ trivial (by kernel_rfl) rfl (by kernel_rfl) rfl rfl rfl ?_
  rw [vc138]
  try simp only [splitB_iff, -eq_self]
  simp only [len_beq]
  refine ⟨by decide, fun h => ?_, fun h => ?_⟩
  all_goals have e8 : decide ((8 : Int) < (l.length : Int)) = decide (8 < l.length) := decide_eq_decide.2 (by omega)
  all_goals have e0' : decide (l.length = 0) = decide (l.length = 0) := rfl
  all_goals rw [e8] at h
  · have h' : first [whenE (decide (l.length = 0)) 12, whenE (decide (8 < l.length)) 5] ≠ 0 := by simpa using h
    refine ⟨?_, trivial⟩
    rw [e8]
    unfold chkCad
    rw [if_pos h']
  · have h' : first [whenE (decide (l.length = 0)) 12, whenE (decide (8 < l.length)) 5] = 0 := by simpa using h
    have hz := (first_zero_iff _).1 h'
    have h3 := of_decide_eq_false ((whenE_zero (by decide)).1 (hz _ (List.mem_cons_of_mem _ List.mem_cons_self)))
    refine ⟨by omega, by rw [List.length_map]; omega, ?_, trivial⟩
    unfold chkCad
    rw [if_neg (by simpa using h')]
theorem so138_ : SpecOk P1 gl1 138 sp138 := by
  intro vs ps r h _
  simp only [sp138] at h
  split at h
  · cases h; exact fn138 _ 
  · cases h
theorem so138 : Sp1 138 sp138 := ⟨so138_, Proofs.Tryz.f138, _, by kernel_rfl, rfl, by kernel_rfl⟩
theorem fn187 (l : List Int) (n : Int) (hc : chkCad l = 0) (hn : 0 ≤ n ∧ n ≤ 256) : Fn P1 gl1 187 [.one (.sl (.int .i64) l), iV n] (.val (.one (.frs p2T (pullN l n.toNat)))) true := by
  refine Fn.flat ?_ rfl
  refine fn_of false [] [] h187 0 Proofs.Tryz.f187 trivial trivial (by kernel_rfl) rfl (by kernel_rfl) rfl rfl rfl ?_
  rw [vc187]
  try simp only [splitB_iff, -eq_self]
  have hcl := chkCad_ok hc
  refine ⟨⟨0, Nat.zero_le _, rfl, rfl, rfl, rfl, trivial⟩, fun g hg => ⟨fun hlt => ?_, fun hge => ?_⟩⟩
  · have hlt' : (g : Int) < n := of_decide_eq_true hlt
    have em : ((g : Int) % (l.length : Int)).toNat = g % l.length := by omega
    have hl := fld_len hc g
    have hx := fld_cnt hc g
    simp only [em]
    have hm : g % l.length < l.length := Nat.mod_lt _ (by omega)
    refine ⟨by omega, by omega, ⟨0, Nat.zero_le _, by trivial, by trivial, by trivial, by trivial, by trivial, by trivial, by simp, trivial⟩, fun j hj => ⟨fun hjl => ?_, fun hjg => ?_⟩⟩
    · have hjl' : (j : Int) < l.getD (g % l.length) 0 := of_decide_eq_true hjl
      have hj' : j < (l.getD (g % l.length) 0).toNat := by omega
      refine ⟨by simp only [room, List.length_append, List.length_replicate]; omega, by simp only [fits]; omega, j + 1, hj', by omega, by omega, by trivial, by trivial, by trivial, by trivial, by trivial, ?_, trivial⟩
      rw [List.replicate_succ', List.append_assoc]
    · have hjg' : ¬ (j : Int) < l.getD (g % l.length) 0 := of_decide_eq_false hjg
      have hje : (l.getD (g % l.length) 0).toNat = j := by
        have := Nat.le_of_ble_eq_true (Nat.ble_eq_true_of_le hj)
        omega
      refine ⟨by simp only [fits]; omega, g + 1, ?_, by omega, by omega, by trivial, by trivial, ?_, trivial⟩
      · show g + 1 ≤ n.toNat
        omega
      · simp only [fldTo, hje]
  · have hge' : ¬ (g : Int) < n := of_decide_eq_false hge
    have hgn : n.toNat = g := by
      have : g ≤ n.toNat := hg
      omega
    have hl := fld_len hc g
    refine ⟨⟨0, Nat.zero_le _, rfl, rfl, rfl, trivial⟩, fun k hk => ⟨by have : k ≤ (fldTo l g).length / 2 := hk; simp only [fits]; omega, fun hlt => ?_, fun hge2 => ?_⟩⟩
    · have hlt' : ((2 * k : Nat) : Int) + 1 < ((fldTo l g).length : Int) := of_decide_eq_true hlt
      have ek : (((2 * k : Nat) : Int) + 1).toNat = 2 * k + 1 := by omega
      refine ⟨by omega, by omega, by simp only [fits]; omega, by omega, by omega, by simp only [room, prs_len]; omega, by simp only [fits]; omega, k + 1, ?_, by omega, by omega, ?_, rfl, trivial⟩
      · show k + 1 ≤ (fldTo l g).length / 2
        omega
      · rw [ek]; rfl
    · have hge2' : ¬ ((2 * k : Nat) : Int) + 1 < ((fldTo l g).length : Int) := of_decide_eq_false hge2
      have : (fldTo l g).length / 2 = k := by
        have : k ≤ (fldTo l g).length / 2 := hk
        omega
      refine ⟨?_, trivial⟩
      unfold pullN
      rw [hgn, this]
theorem so187_ : SpecOk P1 gl1 187 sp187 := by
  intro vs ps r h hp
  simp only [sp187] at h
  split at h
  · cases h; exact fn187 _ _ (hp _ (.head _)) (hp _ (.tail _ (.head _)))
  · cases h
theorem so187 : Sp1 187 sp187 := ⟨so187_, Proofs.Tryz.f187, _, by kernel_rfl, rfl, by kernel_rfl⟩
theorem fn139 (l : List Int) (n : Int)  : Fn P1 gl1 139 [.one (.sl (.int .i64) l), iV n] (.tup [.one (.frs p2T (pullL l n)), iV (pullE l n)]) true := by
  refine Fn.flat ?_ rfl
  refine fn_of false [(138, sp138), (186, sp186), (182, sp182), (187, sp187)] [] h0 0 Proofs.Tryz.f139 ⟨so138, so186, so182, so187, trivial⟩ trivial (by kernel_rfl) rfl (by kernel_rfl) rfl rfl rfl ?_
  rw [vc139]
  try simp only [splitB_iff, -eq_self]
  refine ⟨by decide, fun h => ?_, fun h => ?_⟩
  · have h' : pullE l n ≠ 0 := by simpa [pullE] using h
    refine ⟨?_, rfl, trivial⟩
    unfold pullL
    rw [if_neg h']
  · have h' : pullE l n = 0 := by simpa [pullE] using h
    have hz := (first_zero_iff _).1 (show first [chkCad l, within n 0 256] = 0 from h')
    have h1 := hz _ List.mem_cons_self
    have h2 := within_zero.1 (hz _ (List.mem_cons_of_mem _ List.mem_cons_self))
    refine ⟨h1, h2, ?_, h'.symm, trivial⟩
    unfold pullL
    rw [if_pos h']
theorem so139_ : SpecOk P1 gl1 139 sp139 := by
  intro vs ps r h _
  simp only [sp139] at h
  split at h
  · cases h; exact fn139 _ _ 
  · cases h
theorem so139 : Sp1 139 sp139 := ⟨so139_, Proofs.Tryz.f139, _, by kernel_rfl, rfl, by kernel_rfl⟩
theorem fn58 (R : List Rl) (L : List Ed) (l : List Int) (hl : R.length ≤ 1000000000) (hR : ∀ r ∈ R, r.2.2.length ≤ 1000000) (hL : L.length ≤ 1000000000) : Fn P1 gl1 58 [.one (.sl rlT R), .one (.sl edT L), .one (.sl (.int .i64) l)] (.tup [.one (.frs p2T (convL R L l)), iV (convE R L l)]) true := by
  refine Fn.flat ?_ rfl
  refine fn_of false [(43, sp43), (138, sp138), (106, sp106), (120, sp120), (139, sp139)] [] h0 0 Proofs.Tryz.f58 ⟨so43, so138, so106, so120, so139, trivial⟩ trivial (by kernel_rfl) rfl (by kernel_rfl) rfl rfl rfl ?_
  rw [vc58]
  try simp only [splitB_iff, -eq_self]
  refine ⟨hl, hR, hL, by decide, fun h => ?_, fun h => ?_⟩
  · have h' : first [chkEds R L, chkCad l] ≠ 0 := by simpa using h
    have he : convE R L l = first [chkEds R L, chkCad l] := by unfold convE; rw [if_pos h']
    refine ⟨?_, he.symm, trivial⟩
    unfold convL
    rw [he, if_neg h']
  · have h' : first [chkEds R L, chkCad l] = 0 := by simpa using h
    have hz := (first_zero_iff _).1 h'
    have h1 := hz _ List.mem_cons_self
    have h2 := hz _ (List.mem_cons_of_mem _ List.mem_cons_self)
    have hk := chkEds_zero.1 h1
    have hn := lenL_nn hk
    have hN : begN L L.length = lenL L := rfl
    simp only [hN]
    refine ⟨hl, hk.eds, fun h3 => ?_, fun h3 => ?_⟩
    · have h3' : 256 < lenL L := of_decide_eq_true h3
      have he : convE R L l = 5 := by unfold convE; rw [if_neg (by simpa using h'), if_pos h3']
      refine ⟨?_, he.symm, trivial⟩
      unfold convL
      rw [he]
      rfl
    · have h3' : ¬ 256 < lenL L := of_decide_eq_false h3
      have he : convE R L l = 0 := by unfold convE; rw [if_neg (by simpa using h'), if_neg h3']
      have hp : pullE l (lenL L) = 0 := by
        unfold pullE
        rw [h2, within_zero.2 ⟨hn, by omega⟩]
        rfl
      refine ⟨?_, ?_, trivial⟩
      · unfold pullL convL
        rw [if_pos hp, if_pos he]
      · rw [hp, he]
theorem so58_ : SpecOk P1 gl1 58 sp58 := by
  intro vs ps r h hp
  simp only [sp58] at h
  split at h
  · cases h; exact fn58 _ _ _ (hp _ (.head _)) (hp _ (.tail _ (.head _))) (hp _ (.tail _ (.tail _ (.head _))))
  · cases h
theorem so58 : Sp1 58 sp58 := ⟨so58_, Proofs.Tryz.f58, _, by kernel_rfl, rfl, by kernel_rfl⟩
theorem fn60 (R : List Rl) (L : List Ed) (x : St7) (hl : R.length ≤ 1000000000) (hR : ∀ r ∈ R, r.2.2.length ≤ 1000000) (hL : L.length ≤ 1000000000) (hx : StOk x) : Fn P1 gl1 60 [.one (.sl rlT R), .one (.sl edT L), stW x] (.tup [.one (.frs lbT (if chkEds R L = 0 then labsN x (ls L) else [])), iV (chkEds R L)]) true := by
  refine Fn.flat ?_ rfl
  refine fn_of false [(43, sp43), (140, sp140), (106, sp106), (120, sp120), (141, sp141)] [] h60 0 Proofs.Tryz.f60 ⟨so43, so140, so106, so120, so141, trivial⟩ trivial (by kernel_rfl) rfl (by kernel_rfl) rfl rfl rfl ?_
  rw [vc60]
  try simp only [splitB_iff, -eq_self]
  obtain ⟨⟨F, D⟩, ⟨h, m, c, f⟩, u⟩ := x
  have hk0 : chkStamp F D h m c f u = 0 := (chkStZ (x := ((F, D), (h, m, c, f), u))).2 hx
  obtain ⟨hr, hlab, hu⟩ := hx
  have hrb := rate_bd hr
  simp only [hk0]
  refine ⟨hl, hR, hL, hlab.2.1.1, hrb, by decide, fun h => ?_, fun h => ?_⟩
  · have h' : first [chkEds R L, 0] ≠ 0 := by simpa using h
    have h1 : chkEds R L ≠ 0 := fun e => h' (by rw [e]; rfl)
    refine ⟨by rw [if_neg h1], ?_, trivial⟩
    simp [first, h1]
  · have h' : first [chkEds R L, 0] = 0 := by simpa using h
    have h1 := (first_zero_iff _).1 h' _ List.mem_cons_self
    have hk := chkEds_zero.1 h1
    have hP : plTo L L.length = ls L := rfl
    simp only [hP, h1, if_true]
    have hlen := ls_len L
    have hll := hk.len
    refine ⟨hl, hk.eds, ⟨0, Nat.zero_le _, by trivial, by trivial, by trivial, by simp [labsN], by simp⟩, fun g hg => ⟨fun hlt => ?_, fun hge => ?_⟩⟩
    · have hlt' : g < (ls L).length := by simpa using hlt
      have hb := pl_bd hk.rs hk.len hk.ed hk.big _ (getD_mem (d := pl0) hlt')
      refine ⟨by omega, hr, hlab, by omega, by simp only [room, labsN, List.length_map, List.length_take]; omega, by simp only [fits]; omega, g + 1, hlt', by omega, by omega, by trivial, by trivial, ?_, by simp⟩
      rw [getD_of hlt', List.take_succ_eq_append_getElem hlt']
      unfold labsN
      rw [List.map_append]
      rfl
    · have hge' : ¬ g < (ls L).length := by simpa using hge
      rw [List.take_of_length_le (by omega)]
      refine ⟨rfl, ?_⟩
      trivial
theorem so60_ : SpecOk P1 gl1 60 sp60 := by
  intro vs ps r h hp
  simp only [sp60] at h
  split at h
  · cases h; exact fn60 _ _ ((_, _), (_, _, _, _), _) (hp _ (.head _)) (hp _ (.tail _ (.head _))) (hp _ (.tail _ (.tail _ (.head _)))) (hp _ (.tail _ (.tail _ (.tail _ (.head _)))))
  · cases h
theorem so60 : Sp1 60 sp60 := ⟨so60_, Proofs.Tryz.f60, _, by kernel_rfl, rfl, by kernel_rfl⟩
theorem fn66 (a b : List (List Int)) (hl : a.length ≤ 1000000) (ha : ∀ x ∈ a, x.length = 2) (hb : ∀ x ∈ b, x.length = 2) : Fn P1 gl1 66 [.one (.sl p2T a), .one (.sl p2T b)] (.val (bV (decide (a = b)))) true := by
  refine Fn.flat ?_ rfl
  refine fn_of false [] [] h66 0 Proofs.Tryz.f66 trivial trivial (by kernel_rfl) rfl (by kernel_rfl) rfl rfl rfl ?_
  rw [vc66]
  try simp only [splitB_iff, -eq_self]
  have hlen : ((a.length : Int) != (b.length : Int)) = !decide (a.length = b.length) := by
    by_cases h : a.length = b.length
    · simp [h]
    · have : ¬ (a.length : Int) = (b.length : Int) := by omega
      simp [h]
      exact this
  have hrep : List.replicate 2 (0 : Int) = [0, 0] := rfl
  simp only [hlen, hrep]
  refine ⟨fun h => ?_, fun h => ?_⟩
  · have h' : ¬ a.length = b.length := by simpa using h
    exact ⟨(decide_eq_false fun e => h' (by rw [e])).symm, trivial⟩
  · have h' : a.length = b.length := by simpa using h
    refine ⟨⟨0, ⟨Nat.zero_le _, fun j hj => absurd hj (Nat.not_lt_zero _)⟩, by trivial, by trivial, by trivial, trivial⟩, fun g hg => ⟨fun hlt => ?_, fun hge => ?_⟩⟩
    · have hlt' : g < a.length := by have := of_decide_eq_true hlt; omega
      refine ⟨by omega, by omega, fun hne => ?_, fun heq => ?_⟩
      · refine ⟨(decide_eq_false fun e => ?_).symm, trivial⟩
        subst e
        have : eqT (.arr 2 (.int .i64)) (a.getD g [0, 0]) (a.getD g [0, 0]) = true := (eq2 (ha _ (getD_mem (d := [0, 0]) hlt')) (ha _ (getD_mem (d := [0, 0]) hlt'))).2 rfl
        rw [this] at hne
        exact absurd hne (by decide)
      · have heq' : eqT (.arr 2 (.int .i64)) (a.getD g [0, 0]) (b.getD g [0, 0]) = true := by simpa using heq
        refine ⟨by simp only [fits]; omega, g + 1, ⟨hlt', fun j hj => ?_⟩, by omega, by omega, by trivial, by trivial, trivial⟩
        by_cases e : j = g
        · subst e; exact heq'
        · exact hg.2 j (by omega)
    · have hge' : g = a.length := by have := of_decide_eq_false hge; have := hg.1; omega
      exact ⟨(decide_eq_true (pairs_eq h' ha hb fun j hj => hg.2 j (by omega))).symm, trivial⟩
theorem so66_ : SpecOk P1 gl1 66 sp66 := by
  intro vs ps r h hp
  simp only [sp66] at h
  split at h
  · cases h; exact fn66 _ _ (hp _ (.head _)) (hp _ (.tail _ (.head _))) (hp _ (.tail _ (.tail _ (.head _))))
  · cases h
theorem so66 : Sp1 66 sp66 := ⟨so66_, Proofs.Tryz.f66, _, by kernel_rfl, rfl, by kernel_rfl⟩
end Go.Sx

namespace Go.Sx
open Go.Proofs Go.RowKit Go.Shelf Go.Lib
theorem arr_tab {H : IH} {k : IntKind} {n : Nat} {zs : List Int} {c : Array Value} (h : Rd H (.arr n (.int k)) zs (seg c 0 (Ty.arr n (.int k)).sz)) (hs : c.size = (Ty.arr n (.int k)).sz) : c = (zs.map fun z => Value.int k z).toArray := by
  obtain ⟨h1, _, h3⟩ := h
  have hz : c.size = zs.length := by rw [hs, show zs.length = n from h1]; simp [Ty.sz]
  apply Array.ext
  · simp [hz]
  · intro i hi hi'
    have hiz : i < zs.length := by omega
    have h4 : ((seg c 0 (Ty.arr n (.int k)).sz).drop (i * (Ty.int k).sz)).take (Ty.int k).sz = [Value.int k zs[i]] := h3 i hiz
    rw [seg_seg (by rw [← hs]; simp [Ty.sz]; omega)] at h4
    have h5 := seg_get (c := c) (o := 0 + i * (Ty.int k).sz) (n := (Ty.int k).sz) (j := 0) (v := Value.int k zs[i]) (by rw [h4]; rfl)
    have e : 0 + i * (Ty.int k).sz + 0 = i := by simp [Ty.sz]
    rw [e, Array.getElem?_eq_getElem hi] at h5
    rw [Option.some.inj h5]
    simp
theorem fn_str {P : Program} {f : FuncId} {w : World} {args : Array Value} {l : List UInt8}
    (h : Calls P f args w fun e w' => e = .returned (.string ⟨l.toArray⟩) ∧ Below w.heap.size w w') :
    Calls P f args w fun e w' => ∃ v H', e = .returned v ∧ Below w.heap.size w w' ∧ Agree H' w' ∧ (∀ b, b < w.heap.size → H' b = if true then none else (fun _ => none : IH) b) ∧ DenRSV w' w.heap.size H' (.val (.one (.str l))) v :=
  h.mono fun _ _ ⟨he, hb⟩ => ⟨_, fun _ => none, he, hb, fun _ _ h => (by cases h), fun _ _ => rfl, rfl, rfl⟩
theorem itoa_fn {P : Program} {ρ : Ren} (L : LaysM.n171 P ρ) {gl : Nat → Option ((t : Ty) × t.T)} {g : Nat} (hg : P.globalNamed "internal/strconv.uint64pow10" = some g)
    (hgl : gl g = some ⟨.arr 20 (.int .u64), Lib.pow10Tab⟩) (n : Int) (hn : fits .i64 n) : Fn P gl (ρ.f 171) [.one (.int .i64 n)] (.val (.one (.str (Lib.itoa n)))) true := by
  intro w H vs hA hG hD
  obtain ⟨v, r, rfl, hv, hr⟩ := hD
  obtain rfl : r = [] := hr
  obtain rfl : v = .int .i64 n := hv
  obtain ⟨c, e, fr, h1, h2, h3⟩ := hG g _ hgl
  have ht : Lib.TabIs P w "internal/strconv.uint64pow10" .u64 Lib.pow10Tab := by
    unfold Lib.TabIs World.var?
    rw [hg]
    simp only [Option.bind_some, hA g _ h1]
    rw [arr_tab h2 h3]
  refine fn_str ((Any.strconv_Itoa L n (by simp only [fits] at hn; omega) (by simp only [fits] at hn; omega) w ht).mono fun e w' ⟨he, k, os, hw⟩ => ⟨he, ?_⟩)
  rw [hw]
  exact below_grow _ _ (Nat.le_refl _) _ _
theorem join_fn {P : Program} {ρ : Ren} (L : Lays.n156 P ρ) (X : Builder.Extra P ρ) {gl : Nat → Option ((t : Ty) × t.T)} (xs : List (List UInt8)) (sep : List UInt8) (h1 : xs.length ≤ 1000000)
    (h2 : (Lib.join xs sep).length ≤ 140737488355328) : Fn P gl (ρ.f 156) [.one (.sl .str xs), .one (.str sep)] (.val (.one (.str (Lib.join xs sep)))) true := by
  intro w H vs hA hG hD
  obtain ⟨v, r, rfl, hv, v2, r2, rfl, hv2, hr⟩ := hD
  obtain rfl : r2 = [] := hr
  obtain rfl : v2 = .string ⟨⟨sep⟩⟩ := hv2
  obtain ⟨a, cap, hc, hcap, hx⟩ := (show Rd H (.sl .str) xs [v] from hv)
  obtain rfl : v = .slice a (List.length xs) cap := by simpa using hc
  refine fn_str ?_
  rcases hx with h0 | ⟨b, off, c, e, fr, rfl, hb, hr⟩
  · obtain rfl : xs = [] := List.length_eq_zero_iff.1 h0
    exact (Any.strings_Join_none L X a cap _ w).mono fun e w' ⟨he, hw⟩ => ⟨by rw [he]; rfl, hw ▸ Below.refl _ _⟩
  · have hbw := hA b _ hb
    have hbs : b < w.heap.size := by
      rcases Nat.lt_or_ge b w.heap.size with h | h
      · exact h
      · rw [Array.getElem?_eq_none h] at hbw; cases hbw
    have e1 : ((xs.map fun x => (⟨⟨x⟩⟩ : ByteArray)).map (·.data.toList)) = xs := by simp [List.map_map, Function.comp_def]
    have := Any.strings_Join L X b off cap (xs.map fun x => (⟨⟨x⟩⟩ : ByteArray)) ⟨⟨sep⟩⟩ w (fun j x hj => ?_) hbs (by simp only [List.length_map]; omega) (by simpa using hcap) (by rw [e1]; exact h2)
    · rw [e1, List.length_map] at this
      exact this
    · rw [List.getElem?_map] at hj
      obtain ⟨y, hy, rfl⟩ := Option.map_eq_some_iff.1 hj
      obtain ⟨hlt, hyj⟩ := List.getElem?_eq_some_iff.1 hy
      have h4 : seg c (off + j * Ty.str.sz) Ty.str.sz = [.string ⟨⟨xs[j]⟩⟩] := hr j hlt
      have h5 := cell_seg (w := w) hbw (o := off + j * Ty.str.sz) (n := Ty.str.sz) 0 (.string ⟨⟨xs[j]⟩⟩) (by rw [h4]; rfl)
      rw [← hyj]
      have e2 : off + j * Ty.str.sz = off + j := by simp [Ty.sz]
      rw [e2] at h5
      exact h5
end Go.Sx

namespace Go.Proofs
open Go.Shelf
def Tryz.lays156_ren : Go.Shelf.Ren := ⟨fun | 156 => 160 | 165 => 199 | 166 => 200 | 169 => 201 | 240 => 217 | 241 => 218 | 276 => 225 | 277 => 226 | n => n, fun | 31 => 179 | 9 => 9 | 3 => 3 | 4 => 4 | 0 => 0 | 20 => 20 | 72 => 291 | 76 => 295 | 70 => 289 | 37 => 29 | 75 => 294 | 127 => 308 | 164 => 313 | 5 => 5 | 80 => 181 | n => n, fun | n => n⟩
theorem Tryz.lays156 : Go.Proofs.Lays.n156 Tryz.prog Tryz.lays156_ren := {
  mixed := by kernel_rfl
  f156 := Tryz.func160.trans (congrArg some (by kernel_rfl))
  f165 := Tryz.func199.trans (congrArg some (by kernel_rfl))
  f166 := Tryz.func200.trans (congrArg some (by kernel_rfl))
  f169 := Tryz.func201.trans (congrArg some (by kernel_rfl))
  f240 := Tryz.func217.trans (congrArg some (by kernel_rfl))
  f241 := Tryz.func218.trans (congrArg some (by kernel_rfl))
  f276 := Tryz.func225.trans (congrArg some (by kernel_rfl))
  f277 := Tryz.func226.trans (congrArg some (by kernel_rfl))
  t0 := Tryz.underlying0
  a0 := Tryz.isAgg0
  z0 := Tryz.sizeOf0
  v0 := Tryz.zeroValue0
  t3 := Tryz.underlying3
  a3 := Tryz.isAgg3
  z3 := Tryz.sizeOf3
  v3 := Tryz.zeroValue3
  t4 := Tryz.underlying4
  a4 := Tryz.isAgg4
  z4 := Tryz.sizeOf4
  v4 := Tryz.zeroValue4
  t9 := Tryz.underlying9
  a9 := Tryz.isAgg9
  z9 := Tryz.sizeOf9
  v9 := Tryz.zeroValue9
  t20 := Tryz.underlying20
  a20 := Tryz.isAgg20
  z20 := Tryz.sizeOf20
  v20 := Tryz.zeroValue20
  t31 := Tryz.underlying179
  a31 := Tryz.isAgg179
  z31 := Tryz.sizeOf179
  v31 := Tryz.zeroValue179
  t37 := Tryz.underlying29
  a37 := Tryz.isAgg29
  z37 := Tryz.sizeOf29
  v37 := Tryz.zeroValue29
  t70 := Tryz.underlying289
  a70 := Tryz.isAgg289
  z70 := Tryz.sizeOf289
  v70 := Tryz.zeroValue289
  t72 := Tryz.underlying291
  a72 := Tryz.isAgg291
  z72 := Tryz.sizeOf291
  v72 := Tryz.zeroValue291
  t75 := Tryz.underlying294
  a75 := Tryz.isAgg294
  z75 := Tryz.sizeOf294
  v75 := Tryz.zeroValue294
  t76 := Tryz.underlying295
  a76 := Tryz.isAgg295
  z76 := Tryz.sizeOf295
  v76 := Tryz.zeroValue295
  t127 := Tryz.underlying308
  a127 := Tryz.isAgg308
  z127 := Tryz.sizeOf308
  v127 := Tryz.zeroValue308
  t164 := Tryz.underlying313
  a164 := Tryz.isAgg313
  z164 := Tryz.sizeOf313
  v164 := Tryz.zeroValue313 }
theorem Tryz.Builder_Extra_156 : Builder.Extra Tryz.prog Tryz.lays156_ren := {
  sizeBuilder := by kernel_rfl
  liesBuilder := by kernel_rfl
  t5 := Tryz.underlying5
  a5 := Tryz.isAgg5
  z5 := Tryz.sizeOf5
  v5 := Tryz.zeroValue5
  infoByte := by kernel_rfl
  cellsByte := by kernel_rfl
  sizeByte := by kernel_rfl
  neB5 := by decide }
def Tryz.laysM171_ren : Go.Shelf.Ren := ⟨fun | 171 => 203 | 243 => 219 | 246 => 227 | 283 => 235 | 284 => 236 | 285 => 237 | 286 => 238 | 129 => 247 | 317 => 246 | 318 => 248 | 319 => 249 | 320 => 250 | 337 => 261 | 338 => 262 | n => n, fun | 3 => 3 | 9 => 9 | 2 => 2 | 4 => 4 | 171 => 320 | 0 => 0 | 53 => 321 | 37 => 29 | 5 => 5 | 173 => 324 | 212 => 331 | 51 => 332 | 20 => 20 | 213 => 333 | 46 => 186 | 232 => 354 | 233 => 355 | n => n, fun | 17 => 4 | 18 => 9 | 19 => 10 | n => n⟩
theorem Tryz.laysM171 : Go.Proofs.LaysM.n171 Tryz.prog Tryz.laysM171_ren := {
  mixed := by kernel_rfl
  f129 := Tryz.func247.trans (congrArg some (by kernel_rfl))
  f171 := Tryz.func203.trans (congrArg some (by kernel_rfl))
  f243 := Tryz.func219.trans (congrArg some (by kernel_rfl))
  f246 := Tryz.func227.trans (congrArg some (by kernel_rfl))
  f283 := Tryz.func235.trans (congrArg some (by kernel_rfl))
  f284 := Tryz.func236.trans (congrArg some (by kernel_rfl))
  f285 := Tryz.func237.trans (congrArg some (by kernel_rfl))
  f286 := Tryz.func238.trans (congrArg some (by kernel_rfl))
  f317 := Tryz.func246.trans (congrArg some (by kernel_rfl))
  f318 := Tryz.func248.trans (congrArg some (by kernel_rfl))
  f319 := Tryz.func249.trans (congrArg some (by kernel_rfl))
  f320 := Tryz.func250.trans (congrArg some (by kernel_rfl))
  f337 := Tryz.func261.trans (congrArg some (by kernel_rfl))
  f338 := Tryz.func262.trans (congrArg some (by kernel_rfl))
  t0 := Tryz.underlying0
  a0 := Tryz.isAgg0
  z0 := Tryz.sizeOf0
  v0 := Tryz.zeroValue0
  t2 := Tryz.underlying2
  a2 := Tryz.isAgg2
  z2 := Tryz.sizeOf2
  v2 := Tryz.zeroValue2
  t3 := Tryz.underlying3
  a3 := Tryz.isAgg3
  z3 := Tryz.sizeOf3
  v3 := Tryz.zeroValue3
  t4 := Tryz.underlying4
  a4 := Tryz.isAgg4
  z4 := Tryz.sizeOf4
  v4 := Tryz.zeroValue4
  t5 := Tryz.underlying5
  a5 := Tryz.isAgg5
  z5 := Tryz.sizeOf5
  v5 := Tryz.zeroValue5
  t9 := Tryz.underlying9
  a9 := Tryz.isAgg9
  z9 := Tryz.sizeOf9
  v9 := Tryz.zeroValue9
  t20 := Tryz.underlying20
  a20 := Tryz.isAgg20
  z20 := Tryz.sizeOf20
  v20 := Tryz.zeroValue20
  t37 := Tryz.underlying29
  a37 := Tryz.isAgg29
  z37 := Tryz.sizeOf29
  v37 := Tryz.zeroValue29
  t46 := Tryz.underlying186
  a46 := Tryz.isAgg186
  z46 := Tryz.sizeOf186
  v46 := Tryz.zeroValue186
  t51 := Tryz.underlying332
  a51 := Tryz.isAgg332
  z51 := Tryz.sizeOf332
  v51 := Tryz.zeroValue332
  t53 := Tryz.underlying321
  a53 := Tryz.isAgg321
  z53 := Tryz.sizeOf321
  v53 := Tryz.zeroValue321
  t171 := Tryz.underlying320
  a171 := Tryz.isAgg320
  z171 := Tryz.sizeOf320
  v171 := Tryz.zeroValue320
  t173 := Tryz.underlying324
  a173 := Tryz.isAgg324
  z173 := Tryz.sizeOf324
  v173 := Tryz.zeroValue324
  t212 := Tryz.underlying331
  a212 := Tryz.isAgg331
  z212 := Tryz.sizeOf331
  v212 := Tryz.zeroValue331
  t213 := Tryz.underlying333
  a213 := Tryz.isAgg333
  z213 := Tryz.sizeOf333
  t232 := Tryz.underlying354
  a232 := Tryz.isAgg354
  z232 := Tryz.sizeOf354
  v232 := Tryz.zeroValue354
  t233 := Tryz.underlying355
  a233 := Tryz.isAgg355
  z233 := Tryz.sizeOf355
  v233 := Tryz.zeroValue355
  g17 := by kernel_rfl
  g18 := by kernel_rfl
  g19 := by kernel_rfl
  i0 := by kernel_rfl
  i2 := by kernel_rfl
  i3 := by kernel_rfl
  i4 := by kernel_rfl
  i5 := by kernel_rfl
  i9 := by kernel_rfl
  i20 := by kernel_rfl
  i37 := by kernel_rfl
  i46 := by kernel_rfl
  i51 := by kernel_rfl
  i53 := by kernel_rfl
  i171 := by kernel_rfl
  i173 := by kernel_rfl
  i212 := by kernel_rfl
  i232 := by kernel_rfl
  i233 := by kernel_rfl
  m17 := by kernel_rfl
  m18 := by kernel_rfl
  m19 := by kernel_rfl }
end Go.Proofs

namespace Go.Sx
theorem itoa1 (n : Int) (hn : fits .i64 n) : Fn P1 gl1 203 [iV n] (.val (sV (Lib.itoa n))) true :=
  itoa_fn Proofs.Tryz.laysM171 (g := 4) (by kernel_rfl) rfl n hn
theorem join1 (xs : List (List UInt8)) (sep : List UInt8) (h1 : xs.length ≤ 1000000) (h2 : (Lib.join xs sep).length ≤ 140737488355328) : Fn P1 gl1 160 [.one (.sl .str xs), sV sep] (.val (sV (Lib.join xs sep))) true :=
  join_fn Proofs.Tryz.lays156 Proofs.Tryz.Builder_Extra_156 xs sep h1 h2
end Go.Sx

namespace Go.Sx.U
def tornE (x : Pl) (t : Int) : Int := whenE ((decide (x.2 < t) && decide (t < x.2 + x.1.2.2.2.1)) || (decide (x.2 < t) != decide (sndN x < t))) 22
def partA (x : Pl) (t : Int) : List Ed := if x.2 < t then (if x.2 + (x.1.2.2.1 - x.1.2.1) ≤ t then [x.1] else [(x.1.1, x.1.2.1, x.1.2.1 + t - x.2, x.1.2.2.2.1, x.1.2.2.2.2)]) else []
def partB (x : Pl) (t : Int) : List Ed := if x.2 < t then (if x.2 + (x.1.2.2.1 - x.1.2.1) ≤ t then [] else [(x.1.1, x.1.2.1 + t - x.2, x.1.2.2.1, 0, 0)]) else [x.1]
def sumTo {α : Type} (f : Nat → List α) : Nat → List α
  | 0 => []
  | i + 1 => sumTo f i ++ f i
def asN (p : List Pl) (t : Int) (i : Nat) : List Ed := sumTo (fun j => partA (p.getD j pl0) t) i
def bsN (p : List Pl) (t : Int) (i : Nat) : List Ed := sumTo (fun j => partB (p.getD j pl0) t) i
def partE (R : List Rl) (L : List Ed) (t : Int) : Int :=
  if chkEds R L ≠ 0 then chkEds R L else if within t 0 (lenL L) ≠ 0 then within t 0 (lenL L) else
  if upTo (fun j => tornE ((ls L).getD j pl0) t) L.length ≠ 0 then 22 else first [chkEds R (asN (ls L) t L.length), chkEds R (bsN (ls L) t L.length)]
def partL (R : List Rl) (L : List Ed) (t : Int) : List Ed × List Ed := if partE R L t = 0 then (asN (ls L) t L.length, bsN (ls L) t L.length) else ([], [])
def numsE (x : Ed) : List Int := [x.2.1, x.2.2.1, x.2.2.2.1, x.2.2.2.2]
def chkTx (x : Ed) : Int := if isName x.1 then first ((numsE x).map fun n => within n (-999999999) 999999999) else 8
def chkText (L : List Ed) : Int := if 16 < L.length then 5 else upTo (fun i => chkTx (L.getD i e0)) L.length
def lineE (x : Ed) : List UInt8 := Lib.join ([[101, 100, 105, 116], x.1] ++ (numsE x).map Lib.itoa) [32] ++ [10]
def printN (L : List Ed) : List UInt8 := if chkText L = 0 then Lib.join (L.map lineE) [] else []
end Go.Sx.U
namespace Go.Sx
open U
abbrev sT : Ty := .str
def h84 : Hints := ⟨fun f k s => match f, k with
  | 84, 10 => match lsAt s 10, intOfT s 2 with
    | some (p, _, _), some t => some ⟨Nat, fun i => ⟨[tI 38 i, (12, .val (.one (.own s.nx))), (13, .val (.one (.own (s.nx + 1))))] ++ keepT [0, 1, 2, 10, 36, 37] s.tm, (s.nx, some (.row edT (asN p t i))) :: (s.nx + 1, some (.row edT (bsN p t i))) :: lessO s [12, 13], s.nx + 2, s.lr⟩, fun i => i ≤ List.length p ∧ upTo (fun j => tornE (List.getD p j pl0) t) i = 0, fun i => List.length p - i⟩
    | _, _ => none
  | _, _ => none, 0⟩
def h202 : Hints := ⟨fun f k s => match f, k with
  | 202, 3 => match listAs s 8 (.int .i64) with
    | some l => some ⟨Nat, fun i => ⟨[tI 10 i, (5, .val (.one (.own s.nx)))] ++ keepT [1, 8, 9] s.tm, (s.nx, some (.row sT ((List.take i l).map Lib.itoa))) :: lessO s [5], s.nx + 1, s.lr⟩, fun i => i ≤ List.length l, fun i => List.length l - i⟩
    | _ => none
  | _, _ => none, 0⟩
def h161 : Hints := ⟨fun f k s => match f, k with
  | 161, 3 => match listAs s 8 edT with
    | some l => some ⟨Nat, fun i => ⟨[tI 10 i, (5, .val (.one (.own s.nx)))] ++ keepT [1, 8, 9] s.tm, (s.nx, some (.row sT ((List.take i l).map lineE))) :: lessO s [5], s.nx + 1, s.lr⟩, fun i => i ≤ List.length l, fun i => List.length l - i⟩
    | _ => none
  | _, _ => none, 0⟩
def hMapTx : Hints := ⟨fun f k s => match f, k with
  | 110, 3 => hMapI (.int .i64) (fun n => within n (-999999999) 999999999) 8 9 10 5 [1] s
  | _, _ => none, 0⟩
def h159 : Hints := ⟨fun f k s => match f, k with
  | 159, 4 => match listAs s 9 edT with
    | some L => some ⟨Nat, fun i => s.at [9, 10] [tI 11 i], fun i => i ≤ List.length L ∧ upTo (fun j => chkTx (List.getD L j e0)) i = 0, fun i => List.length L - i⟩
    | _ => none
  | _, _ => none, 0⟩
@[reducible] noncomputable def fb133 : Nat × Func := (133, Proofs.Tryz.f133)
@[reducible] noncomputable def fb179 : Nat × Func := (179, Proofs.Tryz.f179)
@[reducible] noncomputable def fb135 : Nat × Func := (135, Proofs.Tryz.f135)
@[reducible] noncomputable def fb181 : Nat × Func := (181, Proofs.Tryz.f181)
@[reducible] noncomputable def fb198 : Nat × Func := (198, Proofs.Tryz.f198)
def sp203 : FSpec := ⟨fun vs => match vs with
  | [.one (.int .i64 n)] => some ([fits .i64 n], .val (.one (.str (Lib.itoa n))))
  | _ => none, true⟩
def sp160 : FSpec := ⟨fun vs => match vs with
  | [.one (.sl .str xs), .one (.str sep)] => some ([List.length xs ≤ 1000000, List.length (Lib.join xs sep) ≤ 140737488355328], .val (.one (.str (Lib.join xs sep))))
  | _ => none, true⟩
end Go.Sx
namespace Go.Sx
open U
def sp49 : FSpec := ⟨fun vs => match vs with
  | [.one (.sl (.pair .str (.pair (.int .i64) (.sl (.int .i64)))) R), .one (.sl (.pair .str (.pair (.int .i64) (.pair (.int .i64) (.pair (.int .i64) (.int .i64))))) L), .one (.int .i64 i), .one (.int .i64 by_)] => some ([List.length R ≤ 1000000000, ∀ r ∈ (show List Rl from R), List.length r.2.2 ≤ 1000000, List.length L ≤ 1000000000], .tup [.one (.frs edT (chgL R L i by_ 0 trimL)), iV (chgE R L i by_ 0 trimL)])
  | _ => none, true⟩
def sp51 : FSpec := ⟨fun vs => match vs with
  | [.one (.sl (.pair .str (.pair (.int .i64) (.sl (.int .i64)))) R), .one (.sl (.pair .str (.pair (.int .i64) (.pair (.int .i64) (.pair (.int .i64) (.int .i64))))) L), .one (.int .i64 i), .one (.int .i64 by_)] => some ([List.length R ≤ 1000000000, ∀ r ∈ (show List Rl from R), List.length r.2.2 ≤ 1000000, List.length L ≤ 1000000000], .tup [.one (.frs edT (chgL R L i by_ 0 slipL)), iV (chgE R L i by_ 0 slipL)])
  | _ => none, true⟩
def sp152 : FSpec := ⟨fun vs => match vs with
  | [.one (.sl (.pair .str (.pair (.int .i64) (.sl (.int .i64)))) R), .one (.sl (.pair .str (.pair (.int .i64) (.pair (.int .i64) (.pair (.int .i64) (.int .i64))))) A), .one (.sl (.pair .str (.pair (.int .i64) (.pair (.int .i64) (.pair (.int .i64) (.int .i64))))) B)] => some ([List.length R ≤ 1000000000, ∀ r ∈ (show List Rl from R), List.length r.2.2 ≤ 1000000, List.length A ≤ 1000000000, List.length B ≤ 1000000000], .val (iV (first [chkEds R A, chkEds R B])))
  | _ => none, true⟩
def sp84 : FSpec := ⟨fun vs => match vs with
  | [.one (.sl (.pair .str (.pair (.int .i64) (.sl (.int .i64)))) R), .one (.sl (.pair .str (.pair (.int .i64) (.pair (.int .i64) (.pair (.int .i64) (.int .i64))))) L), .one (.int .i64 t)] => some ([List.length R ≤ 1000000000, ∀ r ∈ (show List Rl from R), List.length r.2.2 ≤ 1000000, List.length L ≤ 1000000000], .tup [.one (.frs edT (partL R L t).1), .one (.frs edT (partL R L t).2), iV (partE R L t)])
  | _ => none, true⟩
def sp197 : FSpec := ⟨fun vs => match vs with
  | [.agg [.one (.str nm), .one (.int .i64 a), .one (.int .i64 b), .one (.int .i64 c), .one (.int .i64 d)]] => some ([], .val (.one (.frs (.int .i64) (numsE (nm, a, b, c, d)))))
  | _ => none, true⟩
def sp202 : FSpec := ⟨fun vs => match vs with
  | [.one (.sl (.int .i64) l), .one (.fn 203 [] [])] => some ([List.length l ≤ 1000000, ∀ n ∈ (show List Int from l), fits .i64 n], .val (.one (.frs .str (l.map Lib.itoa))))
  | _ => none, true⟩
def sp162 : FSpec := ⟨fun vs => match vs with
  | [.agg [.one (.str nm), .one (.int .i64 a), .one (.int .i64 b), .one (.int .i64 c), .one (.int .i64 d)]] => some ([∀ n ∈ numsE (nm, a, b, c, d), fits .i64 n, List.length nm ≤ 1000000], .val (sV (lineE (nm, a, b, c, d))))
  | _ => none, true⟩
def sp161 : FSpec := ⟨fun vs => match vs with
  | [.one (.sl (.pair .str (.pair (.int .i64) (.pair (.int .i64) (.pair (.int .i64) (.int .i64))))) L), .one (.fn 162 [] [])] => some ([List.length L ≤ 1000000, ∀ x ∈ (show List Ed from L), (∀ n ∈ numsE x, fits .i64 n) ∧ x.1.length ≤ 1000000], .val (.one (.frs .str (List.map lineE (show List Ed from L)))))
  | _ => none, true⟩
def sp110 : FSpec := ⟨fun vs => match vs with
  | [.one (.sl (.int .i64) l), .one (.fn 198 [] [])] => some ([List.length l ≤ 1000000], .val (.one (.frs (.int .i64) (List.map (fun n => within n (-999999999) 999999999) (show List Int from l)))))
  | _ => none, true⟩
def sp159 : FSpec := ⟨fun vs => match vs with
  | [.one (.sl (.pair .str (.pair (.int .i64) (.pair (.int .i64) (.pair (.int .i64) (.int .i64))))) L)] => some ([List.length L ≤ 1000000000], .val (iV (chkText L)))
  | _ => none, true⟩
def sp90 : FSpec := ⟨fun vs => match vs with
  | [.one (.sl (.pair .str (.pair (.int .i64) (.pair (.int .i64) (.pair (.int .i64) (.int .i64))))) L)] => some ([List.length L ≤ 1000000, ∀ x ∈ (show List Ed from L), (∀ n ∈ numsE x, fits .i64 n) ∧ x.1.length ≤ 1000], .tup [sV (printN L), iV (chkText L)])
  | _ => none, true⟩
end Go.Sx

namespace Go.Sx
open U
theorem vc49 (R : List Rl) (L : List Ed) (i by_ : Int) : exF (env false [(43, sp43), (107, sp107), (109, sp109), (106, sp106)] [fb132, fb133, fb179, fb156]) h0 3 49 Proofs.Tryz.f49 [.one (.sl rlT R), .one (.sl edT L), iV i, iV by_] (.tup [.one (.frs edT (chgL R L i by_ 0 trimL)), iV (chgE R L i by_ 0 trimL)]) = (let q3 := (List.replicate (List.length L) e0); let q0 := (copyL (0 : Nat) (List.length q3) q3 L); let q2 := (List.getD q0 (Int.toNat i) e0); let q1 := (q2.1, q2.2.1, q2.2.2.1 + by_, q2.2.2.2.1, q2.2.2.2.2); let q4 := (bif decide (i < (0 : Int)) then true else decide ((↑(List.length L) : Int) ≤ i)); let q5 := (1000000000 : Nat); let q6 := (List.set q0 (Int.toNat i) q1); let q7 := ((0 : Int) ≤ i ∧ i < (↑(List.length q0) : Int)); List.length R ≤ q5 ∧ (∀ (r : Rl), r ∈ R → List.length r.2.2 ≤ (1000000 : Nat)) ∧ List.length L ≤ q5 ∧ splitB (chkEds R L != (0 : Int)) (chgL R L i by_ (0 : Int) trimL = [] ∧ chkEds R L = chgE R L i by_ (0 : Int) trimL ∧ True) ((3 : Nat) ≤ q5 ∧ splitB (first [whenE q4 (10 : Int), within by_ (-10000000 : Int) (10000000 : Int), whenE (decide (i < (0 : Int))) (21 : Int)] != (0 : Int)) (chgL R L i by_ (0 : Int) trimL = [] ∧ first [whenE q4 (10 : Int), within by_ (-10000000 : Int) (10000000 : Int), whenE (decide (i < (0 : Int))) (21 : Int)] = chgE R L i by_ (0 : Int) trimL ∧ True) ((0 : Int) ≤ (↑(List.length L) : Int) ∧ room (List.length L) (48 : Nat) ∧ (0 : Nat) + List.length q3 ≤ List.length q3 ∧ q7 ∧ Int.toNat i < List.length q0 ∧ fits IntKind.i64 (q2.2.2.1 + by_) ∧ q7 ∧ Int.toNat i < List.length q0 ∧ List.length R ≤ q5 ∧ (∀ (r : Rl), r ∈ R → List.length r.2.2 ≤ (1000000 : Nat)) ∧ List.length q6 ≤ q5 ∧ splitB (chkEds R q6 != (0 : Int)) (chgL R L i by_ (0 : Int) trimL = [] ∧ chkEds R q6 = chgE R L i by_ (0 : Int) trimL ∧ True) (List.set q0 (Int.toNat i) q1 = chgL R L i by_ (0 : Int) trimL ∧ (0 : Int) = chgE R L i by_ (0 : Int) trimL ∧ True)))) := by
  kernel_rfl
theorem vc51 (R : List Rl) (L : List Ed) (i by_ : Int) : exF (env false [(43, sp43), (107, sp107), (109, sp109), (106, sp106)] [fb132, fb135, fb181, fb156]) h0 3 51 Proofs.Tryz.f51 [.one (.sl rlT R), .one (.sl edT L), iV i, iV by_] (.tup [.one (.frs edT (chgL R L i by_ 0 slipL)), iV (chgE R L i by_ 0 slipL)]) = (let q5 := (List.replicate (List.length L) e0); let q1 := (copyL (0 : Nat) (List.length q5) q5 L); let q3 := (List.getD q1 (Int.toNat i) e0); let q0 := (List.set q1 (Int.toNat i) (q3.1, q3.2.1 + by_, q3.2.2.1, q3.2.2.2.1, q3.2.2.2.2)); let q4 := (List.getD q0 (Int.toNat i) e0); let q2 := (q4.1, q4.2.1, q4.2.2.1 + by_, q4.2.2.2.1, q4.2.2.2.2); let q6 := (bif decide (i < (0 : Int)) then true else decide ((↑(List.length L) : Int) ≤ i)); let q7 := (1000000000 : Nat); let q8 := (List.set q0 (Int.toNat i) q2); let q9 := ((0 : Int) ≤ i ∧ i < (↑(List.length q1) : Int)); let q10 := ((0 : Int) ≤ i ∧ i < (↑(List.length q0) : Int)); List.length R ≤ q7 ∧ (∀ (r : Rl), r ∈ R → List.length r.2.2 ≤ (1000000 : Nat)) ∧ List.length L ≤ q7 ∧ splitB (chkEds R L != (0 : Int)) (chgL R L i by_ (0 : Int) slipL = [] ∧ chkEds R L = chgE R L i by_ (0 : Int) slipL ∧ True) ((3 : Nat) ≤ q7 ∧ splitB (first [whenE q6 (10 : Int), within by_ (-10000000 : Int) (10000000 : Int), whenE (decide (i < (0 : Int))) (21 : Int)] != (0 : Int)) (chgL R L i by_ (0 : Int) slipL = [] ∧ first [whenE q6 (10 : Int), within by_ (-10000000 : Int) (10000000 : Int), whenE (decide (i < (0 : Int))) (21 : Int)] = chgE R L i by_ (0 : Int) slipL ∧ True) ((0 : Int) ≤ (↑(List.length L) : Int) ∧ room (List.length L) (48 : Nat) ∧ (0 : Nat) + List.length q5 ≤ List.length q5 ∧ q9 ∧ Int.toNat i < List.length q1 ∧ fits IntKind.i64 (q3.2.1 + by_) ∧ q9 ∧ Int.toNat i < List.length q1 ∧ q10 ∧ Int.toNat i < List.length q0 ∧ fits IntKind.i64 (q4.2.2.1 + by_) ∧ q10 ∧ Int.toNat i < List.length q0 ∧ List.length R ≤ q7 ∧ (∀ (r : Rl), r ∈ R → List.length r.2.2 ≤ (1000000 : Nat)) ∧ List.length q8 ≤ q7 ∧ splitB (chkEds R q8 != (0 : Int)) (chgL R L i by_ (0 : Int) slipL = [] ∧ chkEds R q8 = chgE R L i by_ (0 : Int) slipL ∧ True) (List.set q0 (Int.toNat i) q2 = chgL R L i by_ (0 : Int) slipL ∧ (0 : Int) = chgE R L i by_ (0 : Int) slipL ∧ True)))) := by
  kernel_rfl
theorem vc152 (R : List Rl) (A B : List Ed) : exF (env false [(43, sp43), (106, sp106)] []) h0 0 152 Proofs.Tryz.f152 [.one (.sl rlT R), .one (.sl edT A), .one (.sl edT B)] (.val (iV (first [chkEds R A, chkEds R B]))) = (List.length R ≤ (1000000000 : Nat) ∧ (∀ (r : Rl), r ∈ R → List.length (Prod.snd (Prod.snd r)) ≤ (1000000 : Nat)) ∧ List.length A ≤ (1000000000 : Nat) ∧ List.length R ≤ (1000000000 : Nat) ∧ (∀ (r : Rl), r ∈ R → List.length (Prod.snd (Prod.snd r)) ≤ (1000000 : Nat)) ∧ List.length B ≤ (1000000000 : Nat) ∧ (2 : Nat) ≤ (1000000000 : Nat) ∧ first [chkEds R A, chkEds R B] = first [chkEds R A, chkEds R B] ∧ True) := by
  kernel_rfl
theorem vc84 (R : List Rl) (L : List Ed) (t : Int) : exF (env false [(43, sp43), (120, sp120), (109, sp109), (130, sp130), (158, sp158), (152, sp152)] []) h84 0 84 Proofs.Tryz.f84 [.one (.sl rlT R), .one (.sl edT L), iV t] (.tup [.one (.frs edT (partL R L t).1), .one (.frs edT (partL R L t).2), iV (partE R L t)]) = (let q2 := (List.length L); let q0 := (plTo L q2); let q3 := (↑(List.length q0) : Int); let q4 := (List.length R); let q5 := (1000000000 : Nat); List.length R ≤ q5 ∧ (∀ (r : Rl), r ∈ R → List.length r.2.2 ≤ (1000000 : Nat)) ∧ List.length L ≤ q5 ∧ splitB (chkEds R L != (0 : Int)) ((partL R L t).1 = [] ∧ (partL R L t).2 = [] ∧ chkEds R L = partE R L t ∧ True) (List.length R ≤ q5 ∧ EdsIn L ∧ splitB (within t (0 : Int) (begN L q2) != (0 : Int)) ((partL R L t).1 = [] ∧ (partL R L t).2 = [] ∧ within t (0 : Int) (begN L q2) = partE R L t ∧ True) ((∃ (g : Nat), (g ≤ List.length q0 ∧ upTo (fun (j : Nat) => tornE (List.getD q0 j pl0) t) g = (0 : Int)) ∧ (0 : Int) = (↑g : Int) ∧ q3 = q3 ∧ plTo L q2 = plTo L q2 ∧ R = R ∧ L = L ∧ t = t ∧ asN q0 t g = [] ∧ bsN q0 t g = [] ∧ plTo L q2 = plTo L q2 ∧ begN L q2 = begN L q2 ∧ mapR R q4 = mapR R q4 ∧ True) ∧ ∀ (g : Nat), let q1 := (List.getD q0 g pl0); let q6 := (q1.1.1, q1.1.2.1, q1.1.2.2.1, q1.1.2.2.2.1, q1.1.2.2.2.2); g ≤ List.length q0 ∧ upTo (fun (j : Nat) => tornE (List.getD q0 j pl0) t) g = (0 : Int) → splitB (decide ((↑g : Int) < q3)) (((0 : Int) ≤ (↑g : Int) ∧ (↑g : Int) < q3) ∧ (decide (q1.2 < t) = true → fits IntKind.i64 (q1.2 + q1.1.2.2.2.1)) ∧ ((bif decide (q1.2 < t) then decide (t < q1.2 + q1.1.2.2.2.1) else false) = false → fits IntKind.i64 (q1.2 + q1.1.2.2.2.2)) ∧ splitB (bif bif decide (q1.2 < t) then decide (t < q1.2 + q1.1.2.2.2.1) else false then true else decide (q1.2 < t) != decide (q1.2 + q1.1.2.2.2.2 < t)) ((partL R L t).1 = [] ∧ (partL R L t).2 = [] ∧ (22 : Int) = partE R L t ∧ True) (splitB (!decide (q1.2 < t)) (room (List.length (bsN q0 t g) + (1 : Nat)) (48 : Nat) ∧ fits IntKind.i64 ((↑g : Int) + (1 : Int)) ∧ ∃ (g' : Nat), (g' ≤ List.length q0 ∧ upTo (fun (j : Nat) => tornE (List.getD q0 j pl0) t) g' = (0 : Int)) ∧ List.length q0 - g' < List.length q0 - g ∧ (↑g : Int) + (1 : Int) = (↑g' : Int) ∧ q3 = q3 ∧ plTo L q2 = plTo L q2 ∧ R = R ∧ L = L ∧ t = t ∧ asN q0 t g = asN q0 t g' ∧ bsN q0 t g ++ [q6] = bsN q0 t g' ∧ plTo L q2 = plTo L q2 ∧ begN L q2 = begN L q2 ∧ mapR R q4 = mapR R q4 ∧ True) (fits IntKind.i64 (q1.1.2.2.1 - q1.1.2.1) ∧ fits IntKind.i64 (q1.2 + (q1.1.2.2.1 - q1.1.2.1)) ∧ splitB (decide (q1.2 + (q1.1.2.2.1 - q1.1.2.1) ≤ t)) (room (List.length (asN q0 t g) + (1 : Nat)) (48 : Nat) ∧ fits IntKind.i64 ((↑g : Int) + (1 : Int)) ∧ ∃ (g' : Nat), (g' ≤ List.length q0 ∧ upTo (fun (j : Nat) => tornE (List.getD q0 j pl0) t) g' = (0 : Int)) ∧ List.length q0 - g' < List.length q0 - g ∧ (↑g : Int) + (1 : Int) = (↑g' : Int) ∧ q3 = q3 ∧ plTo L q2 = plTo L q2 ∧ R = R ∧ L = L ∧ t = t ∧ asN q0 t g ++ [q6] = asN q0 t g' ∧ bsN q0 t g = bsN q0 t g' ∧ plTo L q2 = plTo L q2 ∧ begN L q2 = begN L q2 ∧ mapR R q4 = mapR R q4 ∧ True) (fits IntKind.i64 (q1.1.2.1 + t) ∧ fits IntKind.i64 (q1.1.2.1 + t - q1.2) ∧ room (List.length (asN q0 t g) + (1 : Nat)) (48 : Nat) ∧ room (List.length (bsN q0 t g) + (1 : Nat)) (48 : Nat) ∧ fits IntKind.i64 ((↑g : Int) + (1 : Int)) ∧ ∃ (g' : Nat), (g' ≤ List.length q0 ∧ upTo (fun (j : Nat) => tornE (List.getD q0 j pl0) t) g' = (0 : Int)) ∧ List.length q0 - g' < List.length q0 - g ∧ (↑g : Int) + (1 : Int) = (↑g' : Int) ∧ q3 = q3 ∧ plTo L q2 = plTo L q2 ∧ R = R ∧ L = L ∧ t = t ∧ asN q0 t g ++ [(q1.1.1, q1.1.2.1, q1.1.2.1 + t - q1.2, q1.1.2.2.2.1, q1.1.2.2.2.2)] = asN q0 t g' ∧ bsN q0 t g ++ [(q1.1.1, q1.1.2.1 + t - q1.2, q1.1.2.2.1, (0 : Int), (0 : Int))] = bsN q0 t g' ∧ plTo L q2 = plTo L q2 ∧ begN L q2 = begN L q2 ∧ mapR R q4 = mapR R q4 ∧ True)))) (List.length R ≤ q5 ∧ (∀ (r : Rl), r ∈ R → List.length r.2.2 ≤ (1000000 : Nat)) ∧ List.length (asN q0 t g) ≤ q5 ∧ List.length (bsN q0 t g) ≤ q5 ∧ splitB (first [chkEds R (asN q0 t g), chkEds R (bsN q0 t g)] != (0 : Int)) ((partL R L t).1 = [] ∧ (partL R L t).2 = [] ∧ first [chkEds R (asN q0 t g), chkEds R (bsN q0 t g)] = partE R L t ∧ True) (asN q0 t g = (partL R L t).1 ∧ bsN q0 t g = (partL R L t).2 ∧ (0 : Int) = partE R L t ∧ True))))) := by
  kernel_rfl
theorem vc197 (x : Ed) : exF (env false [] []) h0 0 197 Proofs.Tryz.f197 [edV x] (.val (.one (.frs (.int .i64) (numsE x)))) = ([Prod.fst (Prod.snd x), Prod.fst (Prod.snd (Prod.snd x)), Prod.fst (Prod.snd (Prod.snd (Prod.snd x))), Prod.snd (Prod.snd (Prod.snd (Prod.snd x)))] = numsE x ∧ True) := by
  kernel_rfl
theorem vc202 (l : List Int) : exF (env false [(203, sp203)] []) h202 0 202 Proofs.Tryz.f202 [.one (.sl (.int .i64) l), .one (.fn 203 [] [])] (.val (.one (.frs .str (l.map Lib.itoa)))) = (let q0 := (↑(List.length l) : Int); (∃ (g : Nat), Nat.le g (List.length l) ∧ (0 : Int) = (↑g : Int) ∧ q0 = q0 ∧ l = l ∧ List.map Lib.itoa (List.take g l) = [] ∧ True) ∧ ∀ (g : Nat), Nat.le g (List.length l) → splitB (decide ((↑g : Int) < q0)) (((0 : Int) ≤ (↑g : Int) ∧ (↑g : Int) < q0) ∧ fits IntKind.i64 (List.getD l g (0 : Int)) ∧ room (List.length (List.map Lib.itoa (List.take g l)) + (1 : Nat)) (16 : Nat) ∧ fits IntKind.i64 ((↑g : Int) + (1 : Int)) ∧ ∃ (g' : Nat), Nat.le g' (List.length l) ∧ List.length l - g' < List.length l - g ∧ (↑g : Int) + (1 : Int) = (↑g' : Int) ∧ q0 = q0 ∧ l = l ∧ List.map Lib.itoa (List.take g l) ++ [Lib.itoa (List.getD l g (0 : Int))] = List.map Lib.itoa (List.take g' l) ∧ True) (List.map Lib.itoa (List.take g l) = List.map Lib.itoa l ∧ True)) := by
  kernel_rfl
theorem vc162 (x : Ed) : exF (env false [(197, sp197), (202, sp202), (160, sp160)] []) h0 0 162 Proofs.Tryz.f162 [edV x] (.val (sV (lineE x))) = (List.length (numsE (Prod.fst x, Prod.fst (Prod.snd x), Prod.fst (Prod.snd (Prod.snd x)), Prod.fst (Prod.snd (Prod.snd (Prod.snd x))), Prod.snd (Prod.snd (Prod.snd (Prod.snd x))))) ≤ (1000000 : Nat) ∧ (∀ (n : Int), n ∈ numsE (Prod.fst x, Prod.fst (Prod.snd x), Prod.fst (Prod.snd (Prod.snd x)), Prod.fst (Prod.snd (Prod.snd (Prod.snd x))), Prod.snd (Prod.snd (Prod.snd (Prod.snd x)))) → fits IntKind.i64 n) ∧ room ((2 : Nat) + List.length (List.map Lib.itoa (numsE (Prod.fst x, Prod.fst (Prod.snd x), Prod.fst (Prod.snd (Prod.snd x)), Prod.fst (Prod.snd (Prod.snd (Prod.snd x))), Prod.snd (Prod.snd (Prod.snd (Prod.snd x))))))) (16 : Nat) ∧ List.length ([Array.toList (ByteArray.data { data := #[(101 : UInt8), (100 : UInt8), (105 : UInt8), (116 : UInt8)] }), Prod.fst x] ++ List.map Lib.itoa (numsE (Prod.fst x, Prod.fst (Prod.snd x), Prod.fst (Prod.snd (Prod.snd x)), Prod.fst (Prod.snd (Prod.snd (Prod.snd x))), Prod.snd (Prod.snd (Prod.snd (Prod.snd x)))))) ≤ (1000000 : Nat) ∧ List.length (Lib.join ([Array.toList (ByteArray.data { data := #[(101 : UInt8), (100 : UInt8), (105 : UInt8), (116 : UInt8)] }), Prod.fst x] ++ List.map Lib.itoa (numsE (Prod.fst x, Prod.fst (Prod.snd x), Prod.fst (Prod.snd (Prod.snd x)), Prod.fst (Prod.snd (Prod.snd (Prod.snd x))), Prod.snd (Prod.snd (Prod.snd (Prod.snd x)))))) (Array.toList (ByteArray.data { data := #[(32 : UInt8)] }))) ≤ (140737488355328 : Nat) ∧ List.length (Lib.join ([Array.toList (ByteArray.data { data := #[(101 : UInt8), (100 : UInt8), (105 : UInt8), (116 : UInt8)] }), Prod.fst x] ++ List.map Lib.itoa (numsE (Prod.fst x, Prod.fst (Prod.snd x), Prod.fst (Prod.snd (Prod.snd x)), Prod.fst (Prod.snd (Prod.snd (Prod.snd x))), Prod.snd (Prod.snd (Prod.snd (Prod.snd x)))))) (Array.toList (ByteArray.data { data := #[(32 : UInt8)] }))) + List.length (Array.toList (ByteArray.data { data := #[(10 : UInt8)] })) ≤ (9223372036854775807 : Nat) ∧ Lib.join ([Array.toList (ByteArray.data { data := #[(101 : UInt8), (100 : UInt8), (105 : UInt8), (116 : UInt8)] }), Prod.fst x] ++ List.map Lib.itoa (numsE (Prod.fst x, Prod.fst (Prod.snd x), Prod.fst (Prod.snd (Prod.snd x)), Prod.fst (Prod.snd (Prod.snd (Prod.snd x))), Prod.snd (Prod.snd (Prod.snd (Prod.snd x)))))) (Array.toList (ByteArray.data { data := #[(32 : UInt8)] })) ++ Array.toList (ByteArray.data { data := #[(10 : UInt8)] }) = lineE x ∧ True) := by
  kernel_rfl
theorem vc161 (L : List Ed) : exF (env false [(162, sp162)] []) h161 0 161 Proofs.Tryz.f161 [.one (.sl edT L), .one (.fn 162 [] [])] (.val (.one (.frs .str (L.map lineE)))) = (let q1 := (↑(List.length L) : Int); (∃ (g : Nat), Nat.le g (List.length L) ∧ (0 : Int) = (↑g : Int) ∧ q1 = q1 ∧ L = L ∧ List.map lineE (List.take g L) = [] ∧ True) ∧ ∀ (g : Nat), let q0 := (List.getD L g e0); let q2 := (q0.1, q0.2.1, q0.2.2.1, q0.2.2.2.1, q0.2.2.2.2); Nat.le g (List.length L) → splitB (decide ((↑g : Int) < q1)) (((0 : Int) ≤ (↑g : Int) ∧ (↑g : Int) < q1) ∧ (∀ (n : Int), n ∈ numsE q2 → fits IntKind.i64 n) ∧ List.length q0.1 ≤ (1000000 : Nat) ∧ room (List.length (List.map lineE (List.take g L)) + (1 : Nat)) (16 : Nat) ∧ fits IntKind.i64 ((↑g : Int) + (1 : Int)) ∧ ∃ (g' : Nat), Nat.le g' (List.length L) ∧ List.length L - g' < List.length L - g ∧ (↑g : Int) + (1 : Int) = (↑g' : Int) ∧ q1 = q1 ∧ L = L ∧ List.map lineE (List.take g L) ++ [lineE q2] = List.map lineE (List.take g' L) ∧ True) (List.map lineE (List.take g L) = List.map lineE L ∧ True)) := by
  kernel_rfl
theorem vc110 (l : List Int) : exF (env false [(109, sp109)] [fb198]) hMapTx 3 110 Proofs.Tryz.f110 [.one (.sl (.int .i64) l), .one (.fn 198 [] [])] (.val (.one (.frs (.int .i64) (l.map fun n => within n (-999999999) 999999999)))) = (let q0 := (↑(List.length l) : Int); let q1 := (-999999999 : Int); let q2 := (999999999 : Int); (∃ (g : Nat), Nat.le g (List.length l) ∧ (0 : Int) = (↑g : Int) ∧ q0 = q0 ∧ l = l ∧ List.map (fun (n : Int) => within n q1 q2) (List.take g l) = [] ∧ True) ∧ ∀ (g : Nat), Nat.le g (List.length l) → splitB (decide ((↑g : Int) < q0)) (((0 : Int) ≤ (↑g : Int) ∧ (↑g : Int) < q0) ∧ room (List.length (List.map (fun (n : Int) => within n q1 q2) (List.take g l)) + (1 : Nat)) (8 : Nat) ∧ fits IntKind.i64 ((↑g : Int) + (1 : Int)) ∧ ∃ (g' : Nat), Nat.le g' (List.length l) ∧ List.length l - g' < List.length l - g ∧ (↑g : Int) + (1 : Int) = (↑g' : Int) ∧ q0 = q0 ∧ l = l ∧ List.map (fun (n : Int) => within n q1 q2) (List.take g l) ++ [within (List.getD l g (0 : Int)) q1 q2] = List.map (fun (n : Int) => within n q1 q2) (List.take g' l) ∧ True) (List.map (fun (n : Int) => within n q1 q2) (List.take g l) = List.map (fun (n : Int) => within n q1 q2) l ∧ True)) := by
  kernel_rfl
theorem vc159 (L : List Ed) : exF (env false [(108, sp108), (197, sp197), (110, sp110), (106, sp106)] []) h159 0 159 Proofs.Tryz.f159 [.one (.sl edT L)] (.val (iV (chkText L))) = (let q1 := (↑(List.length L) : Int); splitB (decide ((16 : Int) < q1)) ((5 : Int) = chkText L ∧ True) ((∃ (g : Nat), (g ≤ List.length L ∧ upTo (fun (j : Nat) => chkTx (List.getD L j e0)) g = (0 : Int)) ∧ (0 : Int) = (↑g : Int) ∧ q1 = q1 ∧ L = L ∧ True) ∧ ∀ (g : Nat), let q2 := (List.getD L g e0); let q0 := (numsE (q2.1, q2.2.1, q2.2.2.1, q2.2.2.2.1, q2.2.2.2.2)); g ≤ List.length L ∧ upTo (fun (j : Nat) => chkTx (List.getD L j e0)) g = (0 : Int) → splitB (decide ((↑g : Int) < q1)) (((0 : Int) ≤ (↑g : Int) ∧ (↑g : Int) < q1) ∧ splitB (!isName q2.1) ((8 : Int) = chkText L ∧ True) (List.length q0 ≤ (1000000 : Nat) ∧ List.length (List.map (fun (n : Int) => within n (-999999999 : Int) (999999999 : Int)) q0) ≤ (1000000000 : Nat) ∧ splitB (first (List.map (fun (n : Int) => within n (-999999999 : Int) (999999999 : Int)) q0) != (0 : Int)) (first (List.map (fun (n : Int) => within n (-999999999 : Int) (999999999 : Int)) q0) = chkText L ∧ True) (fits IntKind.i64 ((↑g : Int) + (1 : Int)) ∧ ∃ (g' : Nat), (g' ≤ List.length L ∧ upTo (fun (j : Nat) => chkTx (List.getD L j e0)) g' = (0 : Int)) ∧ List.length L - g' < List.length L - g ∧ (↑g : Int) + (1 : Int) = (↑g' : Int) ∧ q1 = q1 ∧ L = L ∧ True))) ((0 : Int) = chkText L ∧ True))) := by
  kernel_rfl
theorem vc90 (L : List Ed) : exF (env false [(159, sp159), (161, sp161), (160, sp160)] []) h0 0 90 Proofs.Tryz.f90 [.one (.sl edT L)] (.tup [sV (printN L), iV (chkText L)]) = (let q0 := (ByteArray.data { data := #[] }); List.length L ≤ (1000000000 : Nat) ∧ splitB (chkText L != (0 : Int)) (Array.toList q0 = printN L ∧ chkText L = chkText L ∧ True) (List.length L ≤ (1000000 : Nat) ∧ (∀ (x : Ed), x ∈ L → (∀ (n : Int), n ∈ numsE x → fits IntKind.i64 n) ∧ List.length x.1 ≤ (1000000 : Nat)) ∧ List.length (List.map lineE L) ≤ (1000000 : Nat) ∧ List.length (Lib.join (List.map lineE L) (Array.toList q0)) ≤ (140737488355328 : Nat) ∧ Lib.join (List.map lineE L) (Array.toList q0) = printN L ∧ (0 : Int) = chkText L ∧ True)) := by
  kernel_rfl
end Go.Sx
