/- A verified symbolic run of functions, part 17: lemmas, no claim of their own. -/
import Derived.Test.YtpfngnmgipnmlaaDoorS16
/- Contracts. -/
namespace Go.Sx
open U
theorem frame_range {F : Int} {D : Bool} {h m s f : Int} (hr : RateOk F D) (hl : LabOk F D h m s f) : 0 ≤ frameN F D h m s f ∧ frameN F D h m s f < dayN F D := by
  obtain ⟨h1, h2, h3, h4, h5⟩ := hl
  obtain ⟨hF, hD⟩ := hr
  unfold frameN dayN
  cases D with
  | true =>
    have := hD rfl
    subst this
    simp only [if_true]
    simp only [true_and] at h5
    by_cases hm : m % 10 = 0
    · omega
    · by_cases hs : s = 0
      · have : ¬ f < 2 := fun x => h5 ⟨hm, hs, x⟩
        omega
      · omega
  | false =>
    simp only [Bool.false_eq_true, if_false]
    rcases hF with rfl | rfl | rfl <;> omega

theorem lab_ok {F : Int} {D : Bool} {n : Int} (hr : RateOk F D) (h0 : 0 ≤ n) (h1 : n < dayN F D) : LabOk F D (labH F D n) (labM F D n) (labS F D n) (labF F D n) ∧ frameN F D (labH F D n) (labM F D n) (labS F D n) (labF F D n) = n := by
  obtain ⟨hF, hD⟩ := hr
  cases D with
  | true =>
    have := hD rfl
    subst this
    simp only [dayN, if_true] at h1
    have hsk : ∃ t r, n = 17982 * t + r ∧ 0 ≤ r ∧ r < 17982 ∧ 0 ≤ t ∧ t ≤ 143 ∧ ((r < 1800 ∧ skipN true n = 18000 * t + r) ∨ ∃ q u, r = 1800 + 1798 * q + u ∧ 0 ≤ q ∧ q ≤ 8 ∧ 0 ≤ u ∧ u < 1798 ∧ skipN true n = 18000 * t + 1800 * (q + 1) + 2 + u) := by
      refine ⟨n / 17982, n % 17982, by omega, by omega, by omega, by omega, by omega, ?_⟩
      unfold skipN
      simp only [if_true]
      split
      · exact .inr ⟨(n % 17982 - 1800) / 1798, (n % 17982 - 1800) % 1798, by omega, by omega, by omega, by omega, by omega, by omega⟩
      · exact .inl ⟨by omega, by omega⟩
    -- the parts of a number of frames
    have parts : ∀ N h m s f : Int, N = (60 * (60 * h + m) + s) * 30 + f → 0 ≤ h → 0 ≤ m → m ≤ 59 → 0 ≤ s → s ≤ 59 → 0 ≤ f → f ≤ 29 → N / 30 / 3600 = h ∧ N / 30 / 60 % 60 = m ∧ N / 30 % 60 = s ∧ N % 30 = f := by
      intro N h m s f e _ _ _ _ _ _ _
      have e1 : N / 30 = 60 * (60 * h + m) + s := by omega
      rw [e1]
      refine ⟨by omega, by omega, by omega, by omega⟩
    obtain ⟨t, r, e1, r0, r1, t0, t1, hc⟩ := hsk
    obtain ⟨h, k, hk, k0, k1⟩ : ∃ h k, t = 6 * h + k ∧ 0 ≤ k ∧ k ≤ 5 := ⟨t / 6, t % 6, by omega, by omega, by omega⟩
    rcases hc with ⟨c1, c2⟩ | ⟨q, u, c1, q0, q1, u0, u1, c2⟩
    · obtain ⟨s, f, hs, s0, s1, f0, f1⟩ : ∃ s f, r = 30 * s + f ∧ 0 ≤ s ∧ s ≤ 59 ∧ 0 ≤ f ∧ f ≤ 29 := ⟨r / 30, r % 30, by omega, by omega, by omega, by omega, by omega⟩
      obtain ⟨p1, p2, p3, p4⟩ := parts (skipN true n) h (10 * k) s f (by omega) (by omega) (by omega) (by omega) s0 s1 f0 f1
      unfold LabOk labH labM labS labF frameN
      rw [p1, p2, p3, p4]
      simp only [if_true, true_and]
      refine ⟨⟨by omega, by omega, by omega, by omega, by omega⟩, ?_⟩
      have : (60 * h + 10 * k) / 10 = t := by omega
      rw [this]; omega
    · obtain ⟨s, f, hs, s0, s1, f0, f1⟩ : ∃ s f, 2 + u = 30 * s + f ∧ 0 ≤ s ∧ s ≤ 59 ∧ 0 ≤ f ∧ f ≤ 29 := ⟨(2 + u) / 30, (2 + u) % 30, by omega, by omega, by omega, by omega, by omega⟩
      obtain ⟨p1, p2, p3, p4⟩ := parts (skipN true n) h (10 * k + (q + 1)) s f (by omega) (by omega) (by omega) (by omega) s0 s1 f0 f1
      unfold LabOk labH labM labS labF frameN
      rw [p1, p2, p3, p4]
      simp only [if_true, true_and]
      refine ⟨⟨by omega, by omega, by omega, by omega, by omega⟩, ?_⟩
      have : (60 * h + (10 * k + (q + 1))) / 10 = t := by omega
      rw [this]; omega
  | false =>
    simp only [dayN, Bool.false_eq_true, if_false] at h1
    unfold LabOk labH labM labS labF frameN skipN
    simp only [Bool.false_eq_true, if_false, false_and, not_false_iff, and_true]
    rcases hF with rfl | rfl | rfl <;> exact ⟨⟨by omega, by omega, by omega, by omega⟩, by omega⟩
theorem firstZ : ∀ (l : List Int), first l = 0 ↔ ∀ x ∈ l, x = 0
  | [] => by simp [first]
  | x :: r => by
    have := firstZ r
    by_cases h : x = 0 <;> simp [first, h, this]
theorem withinZ {n lo hi : Int} : within n lo hi = 0 ↔ lo ≤ n ∧ n ≤ hi := by
  unfold within
  split <;> constructor <;> intro h <;> first | omega | rfl
theorem whenZ {b : Bool} {e : Int} (he : e ≠ 0) : whenE b e = 0 ↔ b = false := by
  cases b <;> simp [whenE, he]
theorem bneZ {n : Int} : (n != 0) = true ↔ n ≠ 0 := by simp
theorem bneF {n : Int} : (n != 0) = false ↔ n = 0 := by simp
theorem eqT_key : ∀ {k : Ty}, keyTy k = true → ∀ (x y : k.T), eqT k x y = true ↔ x = y
  | .int _, _, x, y => by simp [eqT]
  | .bool, _, x, y => by simp [eqT]
  | .str, _, x, y => by simp [eqT]
  | .pair a b, hk, x, y => by
    simp only [keyTy, Bool.and_eq_true] at hk
    simp only [eqT, Bool.and_eq_true, eqT_key hk.1, eqT_key hk.2]
    exact ⟨fun h => Prod.ext h.1 h.2, fun h => by rw [h]; exact ⟨rfl, rfl⟩⟩
  | .flt _, hk, _, _ => by simp [keyTy] at hk
  | .cpx _, hk, _, _ => by simp [keyTy] at hk
  | .sl _, hk, _, _ => by simp [keyTy] at hk
  | .arr _ _, hk, _, _ => by simp [keyTy] at hk
theorem chkRateZ {F : Int} {D : Bool} : chkRate F D = 0 ↔ RateOk F D := by
  unfold chkRate RateOk
  split
  · split
    · rename_i h; constructor
      · intro h; omega
      · intro h'; exact absurd (h'.2 h.1) h.2
    · rename_i h1 h2
      refine ⟨fun _ => ⟨h1, fun hd => Classical.byContradiction fun hn => h2 ⟨hd, hn⟩⟩, fun _ => rfl⟩
  · rename_i h; constructor
    · intro h; omega
    · intro h'; exact absurd h'.1 h
theorem chkLabZ {F : Int} {D : Bool} {h m s f : Int} : chkLab F D h m s f = 0 ↔ RateOk F D ∧ LabOk F D h m s f := by
  unfold chkLab
  rw [firstZ]
  simp only [List.mem_cons, List.not_mem_nil, or_false, forall_eq_or_imp, forall_eq, chkRateZ, withinZ, whenZ (show (7 : Int) ≠ 0 by decide)]
  unfold LabOk dropB
  refine ⟨fun ⟨h1, h2, h3, h4, h5, h6⟩ => ⟨h1, h2, h3, h4, h5, ?_⟩, fun ⟨h1, h2, h3, h4, h5, h6⟩ => ⟨h1, h2, h3, h4, h5, ?_⟩⟩
  · rintro ⟨hd, hm, hs, hf⟩
    simp [hd, hm, hs, hf] at h6
  · rw [Bool.eq_false_iff]
    intro hb
    simp only [Bool.and_eq_true, bne_iff_ne, beq_iff_eq, decide_eq_true_eq] at hb
    exact h6 ⟨hb.1.1.1, hb.1.1.2, hb.1.2, hb.2⟩
theorem chkStZ {x : St7} : chkSt x = 0 ↔ StOk x := by
  unfold chkSt chkStamp StOk
  rw [firstZ]
  simp only [List.mem_cons, List.not_mem_nil, or_false, forall_eq_or_imp, forall_eq, chkLabZ, withinZ]
  exact ⟨fun ⟨⟨a, b⟩, c, d⟩ => ⟨a, b, c, d⟩, fun ⟨a, b, c, d⟩ => ⟨⟨a, b⟩, c, d⟩⟩
theorem dayN_bd {F : Int} {D : Bool} (hr : RateOk F D) : 2073600 ≤ dayN F D ∧ dayN F D ≤ 2592000 := by
  obtain ⟨hF, hD⟩ := hr
  unfold dayN
  cases D with
  | true => have := hD rfl; subst this; simp
  | false => simp only [Bool.false_eq_true, if_false]; omega
theorem rate_bd {F : Int} {D : Bool} (hr : RateOk F D) : 0 ≤ F ∧ F ≤ 1000 := by
  obtain ⟨hF, _⟩ := hr; omega
theorem jumps_succ (l : List St7) (i : Nat) : jumpsTo l (i + 1) = if 0 < i ∧ follows (l.getD i st0) (l.getD (i - 1) st0) = false then jumpsTo l i ++ [(i : Int)] else jumpsTo l i := rfl
theorem first_app : ∀ (a b : List Int), first (a ++ b) = if first a = 0 then first b else first a
  | [], b => by simp [first]
  | x :: a, b => by
    have := first_app a b
    by_cases h : x = 0
    · simp [first, h, this]
    · simp [first, h]
theorem lo4_eq : ∀ n : Nat, n < 256 → bits .and .u8 (n : Int) 15 = (n : Int) % 16 := by decide +kernel
theorem hi1_eq : ∀ n : Nat, n < 256 → bits .and .u8 (n : Int) 128 = (n : Int) / 128 * 128 := by decide +kernel
theorem lo7_eq : ∀ n : Nat, n < 256 → bits .andNot .u8 (n : Int) 128 = (n : Int) % 128 := by decide +kernel
theorem lo4_int {x : Int} (h : 0 ≤ x ∧ x ≤ 255) : bits .and .u8 x 15 = x % 16 := by
  obtain ⟨n, rfl⟩ := Int.eq_ofNat_of_zero_le h.1
  exact lo4_eq n (by omega)
theorem hi1_int {x : Int} (h : 0 ≤ x ∧ x ≤ 255) : bits .and .u8 x 128 = x / 128 * 128 := by
  obtain ⟨n, rfl⟩ := Int.eq_ofNat_of_zero_le h.1
  exact hi1_eq n (by omega)
theorem lo7_int {x : Int} (h : 0 ≤ x ∧ x ≤ 255) : bits .andNot .u8 x 128 = x % 128 := by
  obtain ⟨n, rfl⟩ := Int.eq_ofNat_of_zero_le h.1
  exact lo7_eq n (by omega)
theorem bcond_r (a b : Bool) : (bif a then b else false) = (a && b) := by cases a <;> rfl
theorem bcond_l (a b : Bool) : (bif a then true else b) = (a || b) := by cases a <;> rfl
theorem par_app (xs : List Int) (g : Nat) (h : g < xs.length) : par (xs.take (g + 1)) = bxor (par (xs.take g)) (List.getD xs g 0) := by
  rw [par_snoc xs g h, getD_of h]
theorem fn109 (n : Int)  : Fn P1 gl1 109 [.one (.sl (.int .i64) [24, 25, 30]), iV n] (.val (bV (decide (n = 24 ∨ n = 25 ∨ n = 30)))) true := by
  refine Fn.flat ?_ rfl
  refine fn_of false [] [fb143] (hu 4) 3 Proofs.Tryd.f109 trivial ⟨⟨by kernel_rfl, by kernel_rfl, _, rfl, by kernel_rfl⟩, trivial⟩ (by kernel_rfl) rfl (by kernel_rfl) rfl rfl rfl ?_
  rw [vc109]
  try simp only [splitB_iff, -eq_self]
  by_cases h1 : n = 24 <;> by_cases h2 : n = 25 <;> by_cases h3 : n = 30 <;> simp [h1, h2, h3, fits]
theorem so109 : Sp1 109 sp109 := by
  refine ⟨?_, Proofs.Tryd.f109, _, by kernel_rfl, rfl, by kernel_rfl⟩
  intro vs ps r h hp
  simp only [sp109] at h
  split at h
  · cases h
    have := hp _ (.head _)
    rw [this]
    exact fn109 _
  · cases h
theorem fn68 (b : Bool) (e : Int)  : Fn P1 gl1 68 [bV b, iV e] (.val (iV (whenE b e))) true := by
  refine Fn.flat ?_ rfl
  refine fn_of false [] [] h0 0 Proofs.Tryd.f68 trivial trivial (by kernel_rfl) rfl (by kernel_rfl) rfl rfl rfl ?_
  rw [vc68]
  try simp only [splitB_iff, -eq_self]
  cases b <;> simp [whenE]
theorem so68_ : SpecOk P1 gl1 68 sp68 := by
  intro vs ps r h _
  simp only [sp68] at h
  split at h
  · cases h; exact fn68 _ _ 
  · cases h
theorem so68 : Sp1 68 sp68 := ⟨so68_, Proofs.Tryd.f68, _, by kernel_rfl, rfl, by kernel_rfl⟩

theorem fn53 (n lo hi : Int)  : Fn P1 gl1 53 [iV n, iV lo, iV hi] (.val (iV (within n lo hi))) true := by
  refine Fn.flat ?_ rfl
  refine fn_of false [(68, sp68)] [] h0 0 Proofs.Tryd.f53 ⟨so68, trivial⟩ trivial (by kernel_rfl) rfl (by kernel_rfl) rfl rfl rfl ?_
  rw [vc53]
  try simp only [splitB_iff, -eq_self]
  unfold within
  by_cases h1 : n < lo <;> by_cases h2 : hi < n <;> simp [h1, h2, whenE]
theorem so53_ : SpecOk P1 gl1 53 sp53 := by
  intro vs ps r h _
  simp only [sp53] at h
  split at h
  · cases h; exact fn53 _ _ _ 
  · cases h
theorem so53 : Sp1 53 sp53 := ⟨so53_, Proofs.Tryd.f53, _, by kernel_rfl, rfl, by kernel_rfl⟩

theorem fn52 (xs : List Int) (hl : xs.length ≤ 1000000000) : Fn P1 gl1 52 [.one (.sl (.int .i64) xs)] (.val (iV (first xs))) true := by
  refine Fn.flat ?_ rfl
  refine fn_of false [] [] h52 0 Proofs.Tryd.f52 trivial trivial (by kernel_rfl) rfl (by kernel_rfl) rfl rfl rfl ?_
  rw [vc52]
  try simp only [splitB_iff, -eq_self]
  refine ⟨⟨0, by simp, by simp⟩, fun g hg => ⟨fun hlt => ?_, fun hge => ?_⟩⟩
  · have hlt' : g < xs.length := by simpa using hlt
    rw [getD_of hlt', hg.2, first_drop xs g hlt']
    refine ⟨by omega, fun h => ?_, fun h => ⟨by simp only [fits]; omega, g + 1, ⟨by omega, ?_⟩, by omega, by simp⟩⟩
    · rw [if_neg (by simpa using h)]; simp
    · rw [if_pos (by simpa using h)]
  · have hge' : ¬ g < xs.length := by simpa using hge
    rw [hg.2, List.drop_of_length_le (by omega)]
    simp [first]
theorem so52_ : SpecOk P1 gl1 52 sp52 := by
  intro vs ps r h hp
  simp only [sp52] at h
  split at h
  · cases h; exact fn52 _ (hp _ (.head _))
  · cases h
theorem so52 : Sp1 52 sp52 := ⟨so52_, Proofs.Tryd.f52, _, by kernel_rfl, rfl, by kernel_rfl⟩

theorem fn97 (b : Bool) (e : Int)  : Fn P1 gl1 97 [bV b, iV e] (.val (iV (whenE b e))) true := by
  refine Fn.flat ?_ rfl
  refine fn_of false [] [] h0 0 Proofs.Tryd.f97 trivial trivial (by kernel_rfl) rfl (by kernel_rfl) rfl rfl rfl ?_
  rw [vc97]
  try simp only [splitB_iff, -eq_self]
  cases b <;> simp [whenE]
theorem so97_ : SpecOk P1 gl1 97 sp97 := by
  intro vs ps r h _
  simp only [sp97] at h
  split at h
  · cases h; exact fn97 _ _ 
  · cases h
theorem so97 : Sp1 97 sp97 := ⟨so97_, Proofs.Tryd.f97, _, by kernel_rfl, rfl, by kernel_rfl⟩

theorem fn46 (n lo hi : Int)  : Fn P1 gl1 46 [iV n, iV lo, iV hi] (.val (iV (within n lo hi))) true := by
  refine Fn.flat ?_ rfl
  refine fn_of false [(97, sp97)] [] h0 0 Proofs.Tryd.f46 ⟨so97, trivial⟩ trivial (by kernel_rfl) rfl (by kernel_rfl) rfl rfl rfl ?_
  rw [vc46]
  try simp only [splitB_iff, -eq_self]
  unfold within
  by_cases h1 : n < lo <;> by_cases h2 : hi < n <;> simp [h1, h2, whenE]
theorem so46_ : SpecOk P1 gl1 46 sp46 := by
  intro vs ps r h _
  simp only [sp46] at h
  split at h
  · cases h; exact fn46 _ _ _ 
  · cases h
theorem so46 : Sp1 46 sp46 := ⟨so46_, Proofs.Tryd.f46, _, by kernel_rfl, rfl, by kernel_rfl⟩

theorem fn44 (xs : List Int) (hl : xs.length ≤ 1000000000) : Fn P1 gl1 44 [.one (.sl (.int .i64) xs)] (.val (iV (first xs))) true := by
  refine Fn.flat ?_ rfl
  refine fn_of false [] [] h44 0 Proofs.Tryd.f44 trivial trivial (by kernel_rfl) rfl (by kernel_rfl) rfl rfl rfl ?_
  rw [vc44]
  try simp only [splitB_iff, -eq_self]
  refine ⟨⟨0, by simp, by simp⟩, fun g hg => ⟨fun hlt => ?_, fun hge => ?_⟩⟩
  · have hlt' : g < xs.length := by simpa using hlt
    rw [getD_of hlt', hg.2, first_drop xs g hlt']
    refine ⟨by omega, fun h => ⟨by omega, ?_⟩, fun h => ⟨by simp only [fits]; omega, g + 1, ⟨by omega, ?_⟩, by omega, by simp⟩⟩
    · rw [if_neg (by simpa using h)]; simp
    · rw [if_pos (by simpa using h)]
  · have hge' : ¬ g < xs.length := by simpa using hge
    rw [hg.2, List.drop_of_length_le (by omega)]
    simp [first]
theorem so44_ : SpecOk P1 gl1 44 sp44 := by
  intro vs ps r h hp
  simp only [sp44] at h
  split at h
  · cases h; exact fn44 _ (hp _ (.head _))
  · cases h
theorem so44 : Sp1 44 sp44 := ⟨so44_, Proofs.Tryd.f44, _, by kernel_rfl, rfl, by kernel_rfl⟩

theorem fn107 (F : Int) (D : Bool)  : Fn P1 gl1 107 [rtV F D] (.val (iV (chkRate F D))) true := by
  refine Fn.flat ?_ rfl
  refine fn_of false [] [] h0 0 Proofs.Tryd.f107 trivial trivial (by kernel_rfl) rfl (by kernel_rfl) rfl rfl rfl ?_
  rw [vc107]
  try simp only [splitB_iff, -eq_self]
  unfold chkRate
  by_cases h1 : F = 24 <;> by_cases h2 : F = 25 <;> by_cases h3 : F = 30 <;> cases D <;> simp [h1, h2, h3]
theorem so107_ : SpecOk P1 gl1 107 sp107 := by
  intro vs ps r h _
  simp only [sp107] at h
  split at h
  · cases h; exact fn107 _ _ 
  · cases h
theorem so107 : Sp1 107 sp107 := ⟨so107_, Proofs.Tryd.f107, _, by kernel_rfl, rfl, by kernel_rfl⟩

theorem fn108 (F : Int) (D : Bool) (h m s f : Int) (hm : 0 ≤ m) : Fn P1 gl1 108 [rtV F D, lbV h m s f] (.val (bV (dropB D m s f))) true := by
  refine Fn.flat ?_ rfl
  refine fn_of false [] [] h0 0 Proofs.Tryd.f108 trivial trivial (by kernel_rfl) rfl (by kernel_rfl) rfl rfl rfl ?_
  rw [vc108]
  try simp only [splitB_iff, -eq_self]
  refine ⟨fun _ => ⟨hm, by omega⟩, ?_, trivial⟩
  simp only [bcond_r, dropB]
theorem so108_ : SpecOk P1 gl1 108 sp108 := by
  intro vs ps r h hp
  simp only [sp108] at h
  split at h
  · cases h; exact fn108 _ _ _ _ _ _ (hp _ (.head _))
  · cases h
theorem so108 : Sp1 108 sp108 := ⟨so108_, Proofs.Tryd.f108, _, by kernel_rfl, rfl, by kernel_rfl⟩

theorem fn45 (F : Int) (D : Bool) (h m s f : Int)  : Fn P1 gl1 45 [rtV F D, lbV h m s f] (.val (iV (chkLab F D h m s f))) true := by
  refine Fn.flat ?_ rfl
  refine fn_of false [(107, sp107), (46, sp46), (44, sp44), (108, sp108)] [] h0 0 Proofs.Tryd.f45 ⟨so107, so46, so44, so108, trivial⟩ trivial (by kernel_rfl) rfl (by kernel_rfl) rfl rfl rfl ?_
  rw [vc45]
  try simp only [splitB_iff, -eq_self]
  simp only [bneZ, bneF]
  refine ⟨fun h1 => ⟨by simp [chkLab, first, h1], trivial⟩, fun h1 => ⟨?_, by omega, fun h2 => ⟨?_, trivial⟩, fun h2 => ⟨?_, fun h3 => ⟨?_, trivial⟩, fun h3 => ⟨?_, trivial⟩⟩⟩⟩
  · have := rate_bd (chkRateZ.1 h1); simp only [fits]; omega
  · have e : chkLab F D h m s f = first ([chkRate F D] ++ ([within h 0 23, within m 0 59, within s 0 59, within f 0 (F - 1)] ++ [whenE (dropB D m s f) 7])) := rfl
    rw [e, first_app, first_app, if_pos (by simp [first, h1]), if_neg h2]
  · have := (firstZ _).1 h2 (within m 0 59) (by simp)
    exact (withinZ.1 this).1
  · have := (firstZ _).1 h2
    simp only [List.mem_cons, List.not_mem_nil, or_false, forall_eq_or_imp, forall_eq] at this
    simp [chkLab, first, h1, this, whenE, h3]
  · have := (firstZ _).1 h2
    simp only [List.mem_cons, List.not_mem_nil, or_false, forall_eq_or_imp, forall_eq] at this
    simp [chkLab, first, h1, this, whenE, h3]
theorem so45_ : SpecOk P1 gl1 45 sp45 := by
  intro vs ps r h _
  simp only [sp45] at h
  split at h
  · cases h; exact fn45 _ _ _ _ _ _ 
  · cases h
theorem so45 : Sp1 45 sp45 := ⟨so45_, Proofs.Tryd.f45, _, by kernel_rfl, rfl, by kernel_rfl⟩

theorem fn8 (F : Int) (D : Bool) (h m s f u : Int)  : Fn P1 gl1 8 [stV F D h m s f u] (.val (iV (chkStamp F D h m s f u))) true := by
  refine Fn.flat ?_ rfl
  refine fn_of false [(45, sp45), (46, sp46), (44, sp44)] [] h0 0 Proofs.Tryd.f8 ⟨so45, so46, so44, trivial⟩ trivial (by kernel_rfl) rfl (by kernel_rfl) rfl rfl rfl ?_
  rw [vc8]
  try simp only [splitB_iff, -eq_self]
  exact ⟨by omega, rfl, trivial⟩
theorem so8_ : SpecOk P1 gl1 8 sp8 := by
  intro vs ps r h _
  simp only [sp8] at h
  split at h
  · cases h; exact fn8 _ _ _ _ _ _ _ 
  · cases h
theorem so8 : Sp1 8 sp8 := ⟨so8_, Proofs.Tryd.f8, _, by kernel_rfl, rfl, by kernel_rfl⟩

theorem fn48 (F : Int) (D : Bool)  : Fn P1 gl1 48 [rtV F D] (.val (iV (chkRate F D))) true := by
  refine Fn.flat ?_ rfl
  refine fn_of false [(68, sp68), (52, sp52), (109, sp109)] [] h0 0 Proofs.Tryd.f48 ⟨so68, so52, so109, trivial⟩ trivial (by kernel_rfl) rfl (by kernel_rfl) rfl rfl rfl ?_
  rw [vc48]
  try simp only [splitB_iff, -eq_self]
  refine ⟨by omega, rfl, by omega, ?_, trivial⟩
  unfold chkRate
  by_cases h1 : F = 24 <;> by_cases h2 : F = 25 <;> by_cases h3 : F = 30 <;> cases D <;> simp [h1, h2, h3, first, whenE]
theorem so48_ : SpecOk P1 gl1 48 sp48 := by
  intro vs ps r h _
  simp only [sp48] at h
  split at h
  · cases h; exact fn48 _ _ 
  · cases h
theorem so48 : Sp1 48 sp48 := ⟨so48_, Proofs.Tryd.f48, _, by kernel_rfl, rfl, by kernel_rfl⟩

theorem fn49 (F : Int) (D : Bool) (hF : 0 ≤ F ∧ F ≤ 1000) : Fn P1 gl1 49 [rtV F D] (.val (iV (dayN F D))) true := by
  refine Fn.flat ?_ rfl
  refine fn_of false [] [] h0 0 Proofs.Tryd.f49 trivial trivial (by kernel_rfl) rfl (by kernel_rfl) rfl rfl rfl ?_
  rw [vc49]
  try simp only [splitB_iff, -eq_self]
  simp only [fits, dayN]
  cases D <;> simp <;> omega
theorem so49_ : SpecOk P1 gl1 49 sp49 := by
  intro vs ps r h hp
  simp only [sp49] at h
  split at h
  · cases h; exact fn49 _ _ (hp _ (.head _))
  · cases h
theorem so49 : Sp1 49 sp49 := ⟨so49_, Proofs.Tryd.f49, _, by kernel_rfl, rfl, by kernel_rfl⟩

theorem fn110 (F : Int) (D : Bool) (h m s f : Int) (hm : 0 ≤ m) : Fn P1 gl1 110 [lbV h m s f, rtV F D] (.val (bV (dropB D m s f))) true := by
  refine Fn.flat ?_ rfl
  refine fn_of false [] [] h0 0 Proofs.Tryd.f110 trivial trivial (by kernel_rfl) rfl (by kernel_rfl) rfl rfl rfl ?_
  rw [vc110]
  try simp only [splitB_iff, -eq_self]
  refine ⟨fun _ => ⟨hm, by omega⟩, ?_, trivial⟩
  simp only [bcond_r, dropB]
theorem so110_ : SpecOk P1 gl1 110 sp110 := by
  intro vs ps r h hp
  simp only [sp110] at h
  split at h
  · cases h; exact fn110 _ _ _ _ _ _ (hp _ (.head _))
  · cases h
theorem so110 : Sp1 110 sp110 := ⟨so110_, Proofs.Tryd.f110, _, by kernel_rfl, rfl, by kernel_rfl⟩

theorem fn50 (F : Int) (D : Bool) (h m s f : Int) (hm : 0 ≤ m) (hF : 0 ≤ F ∧ F ≤ 1000) : Fn P1 gl1 50 [rtV F D, lbV h m s f] (.val (iV (chkLab F D h m s f))) true := by
  refine Fn.flat ?_ rfl
  refine fn_of false [(48, sp48), (53, sp53), (68, sp68), (52, sp52), (110, sp110)] [] h0 0 Proofs.Tryd.f50 ⟨so48, so53, so68, so52, so110, trivial⟩ trivial (by kernel_rfl) rfl (by kernel_rfl) rfl rfl rfl ?_
  rw [vc50]
  try simp only [splitB_iff, -eq_self]
  exact ⟨by simp only [fits]; omega, hm, by omega, rfl, trivial⟩
theorem so50_ : SpecOk P1 gl1 50 sp50 := by
  intro vs ps r h hp
  simp only [sp50] at h
  split at h
  · cases h; exact fn50 _ _ _ _ _ _ (hp _ (.head _)) (hp _ (.tail _ (.head _)))
  · cases h
theorem so50 : Sp1 50 sp50 := ⟨so50_, Proofs.Tryd.f50, _, by kernel_rfl, rfl, by kernel_rfl⟩

theorem fn55 (F : Int) (D : Bool) (h m s f u : Int) (hm : 0 ≤ m) (hF : 0 ≤ F ∧ F ≤ 1000) : Fn P1 gl1 55 [stV F D h m s f u] (.val (iV (chkStamp F D h m s f u))) true := by
  refine Fn.flat ?_ rfl
  refine fn_of false [(50, sp50), (53, sp53), (52, sp52)] [] h0 0 Proofs.Tryd.f55 ⟨so50, so53, so52, trivial⟩ trivial (by kernel_rfl) rfl (by kernel_rfl) rfl rfl rfl ?_
  rw [vc55]
  try simp only [splitB_iff, -eq_self]
  exact ⟨hm, hF, by omega, rfl, trivial⟩
theorem so55_ : SpecOk P1 gl1 55 sp55 := by
  intro vs ps r h hp
  simp only [sp55] at h
  split at h
  · cases h; exact fn55 _ _ _ _ _ _ _ (hp _ (.head _)) (hp _ (.tail _ (.head _)))
  · cases h
theorem so55 : Sp1 55 sp55 := ⟨so55_, Proofs.Tryd.f55, _, by kernel_rfl, rfl, by kernel_rfl⟩

theorem fn51 (F : Int) (D : Bool) (h m s f : Int) (hr : RateOk F D) (hl : LabOk F D h m s f) : Fn P1 gl1 51 [lbV h m s f, rtV F D] (.val (iV (frameN F D h m s f))) true := by
  refine Fn.flat ?_ rfl
  refine fn_of false [] [] h0 0 Proofs.Tryd.f51 trivial trivial (by kernel_rfl) rfl (by kernel_rfl) rfl rfl rfl ?_
  rw [vc51]
  try simp only [splitB_iff, -eq_self]
  obtain ⟨⟨_, _⟩, ⟨_, _⟩, ⟨_, _⟩, ⟨_, _⟩, _⟩ := hl
  obtain ⟨hF, _⟩ := hr
  simp only [fits, frameN]
  rcases hF with rfl | rfl | rfl <;> cases D <;> simp <;> omega
theorem so51_ : SpecOk P1 gl1 51 sp51 := by
  intro vs ps r h hp
  simp only [sp51] at h
  split at h
  · cases h; exact fn51 _ _ _ _ _ _ (hp _ (.head _)) (hp _ (.tail _ (.head _)))
  · cases h
theorem so51 : Sp1 51 sp51 := ⟨so51_, Proofs.Tryd.f51, _, by kernel_rfl, rfl, by kernel_rfl⟩

theorem fn10 (F : Int) (D : Bool) (hr : RateOk F D) : Fn P1 gl1 10 [rtV F D] (.tup [iV (dayN F D), iV 0]) true := by
  refine Fn.flat ?_ rfl
  refine fn_of false [(48, sp48), (49, sp49)] [] h0 0 Proofs.Tryd.f10 ⟨so48, so49, trivial⟩ trivial (by kernel_rfl) rfl (by kernel_rfl) rfl rfl rfl ?_
  rw [vc10]
  try simp only [splitB_iff, -eq_self]
  have h := chkRateZ.2 hr
  rw [h]
  refine ⟨fun h => (by simp at h), fun _ => ⟨rate_bd hr, rfl, rfl, trivial⟩⟩
theorem so10_ : SpecOk P1 gl1 10 sp10 := by
  intro vs ps r h hp
  simp only [sp10] at h
  split at h
  · cases h; exact fn10 _ _ (hp _ (.head _))
  · cases h
theorem so10 : Sp1 10 sp10 := ⟨so10_, Proofs.Tryd.f10, _, by kernel_rfl, rfl, by kernel_rfl⟩

theorem fn11 (F : Int) (D : Bool) (h m s f : Int) (hr : RateOk F D) (hl : LabOk F D h m s f) : Fn P1 gl1 11 [rtV F D, lbV h m s f] (.tup [iV (frameN F D h m s f), iV 0]) true := by
  refine Fn.flat ?_ rfl
  refine fn_of false [(50, sp50), (51, sp51)] [] h0 0 Proofs.Tryd.f11 ⟨so50, so51, trivial⟩ trivial (by kernel_rfl) rfl (by kernel_rfl) rfl rfl rfl ?_
  rw [vc11]
  try simp only [splitB_iff, -eq_self]
  have h' := chkLabZ.2 ⟨hr, hl⟩
  rw [h']
  exact ⟨hl.2.1.1, rate_bd hr, fun h => (by simp at h), fun _ => ⟨hr, hl, rfl, rfl, trivial⟩⟩
theorem so11_ : SpecOk P1 gl1 11 sp11 := by
  intro vs ps r h hp
  simp only [sp11] at h
  split at h
  · cases h; exact fn11 _ _ _ _ _ _ (hp _ (.head _)) (hp _ (.tail _ (.head _)))
  · cases h
theorem so11 : Sp1 11 sp11 := ⟨so11_, Proofs.Tryd.f11, _, by kernel_rfl, rfl, by kernel_rfl⟩

theorem fn111 (F : Int) (D : Bool) (n : Int) (hr : RateOk F D) (hn : 0 ≤ n ∧ n < dayN F D) : Fn P1 gl1 111 [rtV F D, iV n] (.val (lbW (lab F D n))) true := by
  refine Fn.flat ?_ rfl
  refine fn_of false [] [] h0 0 Proofs.Tryd.f111 trivial trivial (by kernel_rfl) rfl (by kernel_rfl) rfl rfl rfl ?_
  rw [vc111]
  try simp only [splitB_iff, -eq_self]
  have hday := dayN_bd hr
  obtain ⟨hF, hD⟩ := hr
  cases D with
  | false =>
    have hs : skipN false n = n := rfl
    simp only [lab, labH, labM, labS, labF, hs, fits]
    refine ⟨fun h => (by cases h), fun _ => ?_⟩
    rcases hF with rfl | rfl | rfl <;> refine ⟨by omega, by omega, by omega, by omega, by omega, by omega, trivial, trivial, trivial, trivial, trivial⟩
  | true =>
    have := hD rfl
    subst this
    refine ⟨fun _ => ⟨by simp only [fits]; omega, by omega, by simp only [fits]; omega, by simp only [fits]; omega, fun h => ?_, fun h => ?_⟩, fun h => (by cases h)⟩
    · have h1 : 1800 ≤ n % 17982 := by simpa using h
      have hs : skipN true n = n + 18 * (n / 17982) + 2 * (1 + (n % 17982 - 1800) / 1798) := by simp only [skipN, if_true, if_pos h1]
      simp only [lab, labH, labM, labS, labF, hs, fits]
      refine ⟨by omega, by omega, by omega, by omega, by omega, by omega, by omega, by omega, by omega, by omega, by omega, trivial, trivial, trivial, trivial, trivial⟩
    · have h1 : ¬ 1800 ≤ n % 17982 := by simpa using h
      have hs : skipN true n = n + 18 * (n / 17982) := by simp only [skipN, if_true, if_neg h1]
      simp only [lab, labH, labM, labS, labF, hs, fits]
      refine ⟨by omega, by omega, by omega, by omega, by omega, by omega, trivial, trivial, trivial, trivial, trivial⟩
theorem so111_ : SpecOk P1 gl1 111 sp111 := by
  intro vs ps r h hp
  simp only [sp111] at h
  split at h
  · cases h; exact fn111 _ _ _ (hp _ (.head _)) (hp _ (.tail _ (.head _)))
  · cases h
theorem so111 : Sp1 111 sp111 := ⟨so111_, Proofs.Tryd.f111, _, by kernel_rfl, rfl, by kernel_rfl⟩

theorem fn54 (F : Int) (D : Bool) (h m s f n : Int) (hr : RateOk F D) (hl : LabOk F D h m s f) (hn : 0 ≤ n ∧ n ≤ 10000000) : Fn P1 gl1 54 [lbV h m s f, rtV F D, iV n] (.val (lbW (lab F D (addN F D h m s f n)))) true := by
  refine Fn.flat ?_ rfl
  refine fn_of false [(51, sp51), (49, sp49), (111, sp111)] [] h0 0 Proofs.Tryd.f54 ⟨so51, so49, so111, trivial⟩ trivial (by kernel_rfl) rfl (by kernel_rfl) rfl rfl rfl ?_
  rw [vc54]
  try simp only [splitB_iff, -eq_self]
  have hday := dayN_bd hr
  have hfr := frame_range hr hl
  have hb := rate_bd hr
  have hm0 := Int.emod_nonneg (frameN F D h m s f + n) (show dayN F D ≠ 0 by omega)
  have hm1 := Int.emod_lt_of_pos (frameN F D h m s f + n) (show 0 < dayN F D by omega)
  have e : ((frameN F D h m s f + n) % dayN F D + dayN F D) % dayN F D = addN F D h m s f n := by
    rw [Int.add_emod_right, Int.emod_emod_of_dvd _ (Int.dvd_refl _)]; rfl
  rw [e]
  have e2 : addN F D h m s f n = (frameN F D h m s f + n) % dayN F D := rfl
  exact ⟨hr, hl, by simp only [fits]; omega, hb, by omega, hb, by simp only [fits]; omega, hb, by omega, hr, by rw [e2]; exact ⟨hm0, hm1⟩, rfl, rfl, rfl, rfl, trivial⟩
theorem so54_ : SpecOk P1 gl1 54 sp54 := by
  intro vs ps r h hp
  simp only [sp54] at h
  split at h
  · cases h; exact fn54 _ _ _ _ _ _ _ (hp _ (.head _)) (hp _ (.tail _ (.head _))) (hp _ (.tail _ (.tail _ (.head _))))
  · cases h
theorem so54 : Sp1 54 sp54 := ⟨so54_, Proofs.Tryd.f54, _, by kernel_rfl, rfl, by kernel_rfl⟩

theorem fn12 (F : Int) (D : Bool) (h m s f n : Int) (hr : RateOk F D) (hl : LabOk F D h m s f) (hn : 0 ≤ n ∧ n ≤ 10000000) : Fn P1 gl1 12 [rtV F D, lbV h m s f, iV n] (.tup [lbW (lab F D (addN F D h m s f n)), iV 0]) true := by
  refine Fn.flat ?_ rfl
  refine fn_of false [(50, sp50), (53, sp53), (52, sp52), (54, sp54)] [] h0 0 Proofs.Tryd.f12 ⟨so50, so53, so52, so54, trivial⟩ trivial (by kernel_rfl) rfl (by kernel_rfl) rfl rfl rfl ?_
  rw [vc12]
  try simp only [splitB_iff, -eq_self]
  have h1 := chkLabZ.2 ⟨hr, hl⟩
  have h2 : within n (-10000000) 10000000 = 0 := withinZ.2 (by omega)
  rw [h1, h2]
  exact ⟨hl.2.1.1, rate_bd hr, by omega, fun h => (by simp [first] at h), fun _ => ⟨hr, hl, hn, rfl, rfl, rfl, rfl, rfl, trivial⟩⟩
theorem so12_ : SpecOk P1 gl1 12 sp12 := by
  intro vs ps r h hp
  simp only [sp12] at h
  split at h
  · cases h; exact fn12 _ _ _ _ _ _ _ (hp _ (.head _)) (hp _ (.tail _ (.head _))) (hp _ (.tail _ (.tail _ (.head _))))
  · cases h
theorem so12 : Sp1 12 sp12 := ⟨so12_, Proofs.Tryd.f12, _, by kernel_rfl, rfl, by kernel_rfl⟩

theorem fn66 (xs : List Int) (hl : xs.length ≤ 1000000000) (hb : Bytes xs) : Fn P1 gl1 66 [.one (.sl (.int .u8) xs)] (.val (uV (par xs))) true := by
  refine Fn.flat ?_ rfl
  refine fn_of false [] [] h66 0 Proofs.Tryd.f66 trivial trivial (by kernel_rfl) rfl (by kernel_rfl) rfl rfl rfl ?_
  rw [vc66]
  try simp only [splitB_iff, -eq_self]
  refine ⟨⟨0, Nat.zero_le _, by simp [par]⟩, fun g hg => ⟨fun hlt => ?_, fun hge => ?_⟩⟩
  · have hlt' : g < xs.length := by simpa using hlt
    refine ⟨by omega, by simp only [fits]; omega, g + 1, hlt', by omega, by simp, ?_, by simp⟩
    rw [par_app xs g hlt']; rfl
  · have hge' : ¬ g < xs.length := by simpa using hge
    rw [List.take_of_length_le (by omega)]
    simp
theorem so66_ : SpecOk P1 gl1 66 sp66 := by
  intro vs ps r h hp
  simp only [sp66] at h
  split at h
  · cases h; exact fn66 _ (hp _ (.head _)) (hp _ (.tail _ (.head _)))
  · cases h
theorem so66 : Sp1 66 sp66 := ⟨so66_, Proofs.Tryd.f66, _, by kernel_rfl, rfl, by kernel_rfl⟩

theorem fn56 (F : Int) (D : Bool) (h m s f u : Int) (hr : RateOk F D) (hl : LabOk F D h m s f) (hus : 0 ≤ u ∧ u ≤ 65535) : Fn P1 gl1 56 [stV F D h m s f u] (.val (aV 10 (wordS F D h m s f u))) true := by
  refine Fn.flat ?_ rfl
  refine fn_of false [(66, sp66)] [fb67] (hu 5) 3 Proofs.Tryd.f56 ⟨so66, trivial⟩ ⟨⟨by kernel_rfl, by kernel_rfl, _, rfl, by kernel_rfl⟩, trivial⟩ (by kernel_rfl) rfl (by kernel_rfl) rfl rfl rfl ?_
  rw [vc56]
  try simp only [splitB_iff, -eq_self]
  obtain ⟨⟨_, _⟩, ⟨_, _⟩, ⟨_, _⟩, ⟨_, _⟩, _⟩ := hl
  obtain ⟨hF, _⟩ := hr
  have hb : ∀ x : Int, 0 ≤ x → x ≤ 255 → Bytes [(f / 10 * 16 + f % 10) % 256, (s / 10 * 16 + s % 10) % 256, (m / 10 * 16 + m % 10) % 256, (h / 10 * 16 + h % 10) % 256, x, u / 256 % 256, u % 256] := by
    intro x hx0 hx1 y hy
    simp only [List.mem_cons, List.not_mem_nil, or_false] at hy
    rcases hy with rfl | rfl | rfl | rfl | rfl | rfl | rfl <;> omega
  have hB1 := hb (F % 256 + 128) (by omega) (by omega)
  have hB2 := hb (F % 256) (by omega) (by omega)
  have hbit : IntKind.bits IntKind.i64 = 64 := rfl
  simp only [fits, hbit]
  refine ⟨by omega, by omega, by omega, by omega, by omega, by omega, by omega, by omega, by omega, by omega, by omega, by omega, by omega, by omega, by omega, by omega, by omega, by omega, by omega, by omega, by omega, by omega, by omega, by omega, by omega, by omega, by omega, by omega, by omega, by omega, by omega, by omega, by omega, by omega, fun hD => ?_, fun hD => ?_⟩
  · subst hD
    (repeat' apply And.intro) <;> first | trivial | omega | exact hB1 | simp [wordS, word0, bcd]
  · subst hD
    (repeat' apply And.intro) <;> first | trivial | omega | exact hB2 | simp [wordS, word0, bcd]
theorem so56_ : SpecOk P1 gl1 56 sp56 := by
  intro vs ps r h hp
  simp only [sp56] at h
  split at h
  · cases h; exact fn56 _ _ _ _ _ _ _ (hp _ (.head _)) (hp _ (.tail _ (.head _))) (hp _ (.tail _ (.tail _ (.head _))))
  · cases h
theorem so56 : Sp1 56 sp56 := ⟨so56_, Proofs.Tryd.f56, _, by kernel_rfl, rfl, by kernel_rfl⟩

theorem fn13 (F : Int) (D : Bool) (h m s f u : Int) (hr : RateOk F D) (hl : LabOk F D h m s f) (hus : 0 ≤ u ∧ u ≤ 65535) : Fn P1 gl1 13 [stV F D h m s f u] (.tup [aV 10 (wordS F D h m s f u), iV 0]) true := by
  refine Fn.flat ?_ rfl
  refine fn_of false [(55, sp55), (56, sp56)] [] h0 0 Proofs.Tryd.f13 ⟨so55, so56, trivial⟩ trivial (by kernel_rfl) rfl (by kernel_rfl) rfl rfl rfl ?_
  rw [vc13]
  try simp only [splitB_iff, -eq_self]
  have h' : chkStamp F D h m s f u = 0 := chkStZ (x := ((F, D), (h, m, s, f), u)) |>.2 ⟨hr, hl, hus⟩
  rw [h']
  exact ⟨hl.2.1.1, rate_bd hr, fun h => (by simp at h), fun _ => ⟨hr, hl, hus, rfl, rfl, trivial⟩⟩
theorem so13_ : SpecOk P1 gl1 13 sp13 := by
  intro vs ps r h hp
  simp only [sp13] at h
  split at h
  · cases h; exact fn13 _ _ _ _ _ _ _ (hp _ (.head _)) (hp _ (.tail _ (.head _))) (hp _ (.tail _ (.tail _ (.head _))))
  · cases h
theorem so13 : Sp1 13 sp13 := ⟨so13_, Proofs.Tryd.f13, _, by kernel_rfl, rfl, by kernel_rfl⟩

theorem fn18 (d : List Int) (hd : d.length = 10) (hb : Bytes d) (hk : okW d) : Fn P1 gl1 18 [aV 10 d] (.tup [stW (stOf d), iV 0]) true := by
  refine Fn.flat ?_ rfl
  refine fn_of false [(66, sp66), (48, sp48), (55, sp55)] [fb67] (hu 5) 3 Proofs.Tryd.f18 ⟨so66, so48, so55, trivial⟩ ⟨⟨by kernel_rfl, by kernel_rfl, _, rfl, by kernel_rfl⟩, trivial⟩ (by kernel_rfl) rfl (by kernel_rfl) rfl rfl rfl ?_
  rw [vc18]
  try simp only [splitB_iff, -eq_self]
  obtain ⟨k8, k9, kp, ⟨k0, k1, k2, k3⟩, kst⟩ := hk
  have hst := chkStZ.1 kst
  have kst' : chkStamp (bits .andNot .u8 (d.getD 4 0) 128) (decide (0 < bits .and .u8 (d.getD 4 0) 128)) (d.getD 3 0 / 16 * 10 + bits .and .u8 (d.getD 3 0) 15) (d.getD 2 0 / 16 * 10 + bits .and .u8 (d.getD 2 0) 15) (d.getD 1 0 / 16 * 10 + bits .and .u8 (d.getD 1 0) 15) (d.getD 0 0 / 16 * 10 + bits .and .u8 (d.getD 0 0) 15) (d.getD 5 0 * 256 + d.getD 6 0) = 0 := kst
  have krt : chkRate (bits .andNot .u8 (d.getD 4 0) 128) (decide (0 < bits .and .u8 (d.getD 4 0) 128)) = 0 := chkRateZ.2 hst.1
  have kF : 0 ≤ bits .andNot .u8 (d.getD 4 0) 128 ∧ bits .andNot .u8 (d.getD 4 0) 128 ≤ 1000 := rate_bd hst.1
  have bd : ∀ i, i < 10 → 0 ≤ d.getD i 0 ∧ d.getD i 0 ≤ 255 := fun i hi => byAt hb (by omega)
  have b0 := bd 0 (by omega)
  have b1 := bd 1 (by omega)
  have b2 := bd 2 (by omega)
  have b3 := bd 3 (by omega)
  have b5 := bd 5 (by omega)
  have b6 := bd 6 (by omega)
  have l0 := lo4_int b0
  have l1 := lo4_int b1
  have l2 := lo4_int b2
  have l3 := lo4_int b3
  have dg : ∀ x : Int, digOk x → (bif decide (9 < x / 16) then true else decide (9 < bits .and .u8 x 15)) = false := by
    intro x hx
    have h1 : decide (9 < x / 16) = false := by simp; exact hx.1
    have h2 : decide (9 < bits .and .u8 x 15) = false := by simp; exact hx.2
    rw [h1, h2]; rfl
  have he : eqT (.arr 2 (.int .u8)) (List.take 2 (List.drop 8 d)) [63, 253] = true := by
    rw [eqT_int .u8 2 _ _ (by simp; omega) rfl, decide_eq_true_eq]
    apply List.ext_getElem
    · simp; omega
    · intro i h1 h2
      have hi : i < 2 := by simpa using h2
      rw [List.getElem_take, List.getElem_drop]
      have h3 : d[8 + i]'(by omega) = d.getD (8 + i) 0 := (getD_of _).symm
      rw [h3]
      have h01 : i = 0 ∨ i = 1 := by omega
      rcases h01 with rfl | rfl
      · exact k8
      · exact k9
  have hbit : IntKind.bits IntKind.i64 = 64 := rfl
  have hbit8 : IntKind.bits IntKind.u8 = 8 := rfl
  have ht7 : (List.take 7 d).length = 7 := by simp; omega
  have ht2 : (List.take 2 (List.drop 8 d)).length = 2 := by simp; omega
  have hby : Bytes (List.take 7 d) := byTake hb 7
  have e0 : ∀ p : Prop, ((0 : Int) != 0) = true → p := fun p h => by simp at h
  have en : ∀ p : Prop, (par (List.take 7 d) != d.getD 7 0) = true → p := fun p h => by rw [kp] at h; simp at h
  have ed : ∀ (x : Int) (p : Prop), digOk x → (bif decide (9 < x / 16) then true else decide (9 < bits .and .u8 x 15)) = true → p := fun x p hx h => by rw [dg x hx] at h; cases h
  rw [he, krt, kst']
  simp only [fits, hbit, hbit8]
  refine ⟨by omega, by omega, ht2, fun h => (by cases h), fun _ => ⟨by omega, ht7, by omega, hby, by omega, by omega, en _, fun _ => ⟨by omega, by omega, by omega, by omega, fun _ => by omega, fun _ => by omega, ed _ _ k0, fun _ =>
    ⟨by omega, by omega, by omega, by omega, by omega, by omega, by omega, by omega, by omega, by omega, by omega, by omega, by omega, by omega, fun _ => by omega, fun _ => by omega, ed _ _ k1, fun _ =>
    ⟨by omega, by omega, by omega, by omega, by omega, by omega, by omega, by omega, by omega, by omega, by omega, by omega, by omega, by omega, fun _ => by omega, fun _ => by omega, ed _ _ k2, fun _ =>
    ⟨by omega, by omega, by omega, by omega, by omega, by omega, by omega, by omega, by omega, by omega, by omega, by omega, by omega, by omega, fun _ => by omega, fun _ => by omega, ed _ _ k3, fun _ =>
    ⟨by omega, by omega, by omega, by omega, by omega, by omega, by omega, by omega, by omega, by omega, by omega, by omega, by omega, by omega, by omega, by omega, by omega, by omega, by omega, by omega, by omega, by omega, by omega, e0 _, fun _ =>
    ⟨by omega, kF, e0 _, fun _ => ⟨rfl, rfl, rfl, rfl, rfl, rfl, rfl, trivial, trivial⟩⟩⟩⟩⟩⟩⟩⟩⟩
theorem so18_ : SpecOk P1 gl1 18 sp18 := by
  intro vs ps r h hp
  simp only [sp18] at h
  split at h
  · cases h; exact fn18 _ (hp _ (.head _)) (hp _ (.tail _ (.head _))) (hp _ (.tail _ (.tail _ (.head _))))
  · cases h
theorem so18 : Sp1 18 sp18 := ⟨so18_, Proofs.Tryd.f18, _, by kernel_rfl, rfl, by kernel_rfl⟩

theorem fn69 (l : List St7) (hl : l.length ≤ 1000000) (hs : ∀ x ∈ l, StOk x) : Fn P1 gl1 69 [.one (.sl stT l), .one (.fn 55 [] [])] (.val (.one (.frs (.int .i64) (List.map chkSt l)))) true := by
  refine Fn.flat ?_ rfl
  refine fn_of false [(55, sp55)] [] h69 0 Proofs.Tryd.f69 ⟨so55, trivial⟩ trivial (by kernel_rfl) rfl (by kernel_rfl) rfl rfl rfl ?_
  rw [vc69]
  try simp only [splitB_iff, -eq_self]
  refine ⟨⟨0, Nat.zero_le _, by simp⟩, fun g hg => ⟨fun hlt => ?_, fun hge => ?_⟩⟩
  · have hlt' : g < l.length := by simpa using hlt
    have hx := hs l[g] (List.getElem_mem hlt')
    rw [getD_of hlt']
    refine ⟨by omega, hx.2.1.2.1.1, rate_bd hx.1, by simp only [room, List.length_map, List.length_take]; omega, by simp only [fits]; omega, g + 1, hlt', by omega, by simp, rfl, rfl, ?_, trivial⟩
    rw [List.take_succ_eq_append_getElem hlt', List.map_append]
    rfl
  · have hge' : ¬ g < l.length := by simpa using hge
    rw [List.take_of_length_le (by omega)]
    exact ⟨rfl, trivial⟩
theorem so69_ : SpecOk P1 gl1 69 sp69 := by
  intro vs ps r h hp
  simp only [sp69] at h
  split at h
  · cases h; exact fn69 _ (hp _ (.head _)) (hp _ (.tail _ (.head _)))
  · cases h
theorem so69 : Sp1 69 sp69 := ⟨so69_, Proofs.Tryd.f69, _, by kernel_rfl, rfl, by kernel_rfl⟩

theorem fn70 (x o : St7) (a b : Int) (ho : StOk o) : Fn P1 gl1 70 [.agg [.one (.int .i64 x.1.1), .one (.bool x.1.2), .one (.int .i64 x.2.1.1), .one (.int .i64 x.2.1.2.1), .one (.int .i64 x.2.1.2.2.1), .one (.int .i64 x.2.1.2.2.2), .one (.int .i64 x.2.2), .one (.int .i64 a)], .agg [.one (.int .i64 o.1.1), .one (.bool o.1.2), .one (.int .i64 o.2.1.1), .one (.int .i64 o.2.1.2.1), .one (.int .i64 o.2.1.2.2.1), .one (.int .i64 o.2.1.2.2.2), .one (.int .i64 o.2.2), .one (.int .i64 b)]] (.val (bV (follows x o))) true := by
  refine Fn.flat ?_ rfl
  refine fn_of false [(54, sp54)] [] h0 0 Proofs.Tryd.f70 ⟨so54, trivial⟩ trivial (by kernel_rfl) rfl (by kernel_rfl) rfl rfl rfl ?_
  rw [vc70]
  try simp only [splitB_iff, -eq_self]
  refine ⟨fun _ => ho.1, fun _ => ho.2.1, fun _ => by omega, ?_, trivial⟩
  rw [bcond_r]
  unfold follows
  congr 1
  · rw [Bool.eq_iff_iff, eqT_key rfl, decide_eq_true_eq]
  · rw [Bool.eq_iff_iff, eqT_key rfl, decide_eq_true_eq]
theorem so70_ : SpecOk P1 gl1 70 sp70 := by
  intro vs ps r h hp
  simp only [sp70] at h
  split at h
  · cases h; exact fn70 ((_, _), (_, _, _, _), _) ((_, _), (_, _, _, _), _) _ _ (hp _ (.head _))
  · cases h
theorem so70 : Sp1 70 sp70 := ⟨so70_, Proofs.Tryd.f70, _, by kernel_rfl, rfl, by kernel_rfl⟩

theorem fn19 (l : List St7) (hl : l.length ≤ 256) (hs : ∀ x ∈ l, StOk x) : Fn P1 gl1 19 [.one (.sl stT l)] (.tup [.one (.frs (.int .i64) (jumpsTo l l.length)), iV 0]) true := by
  refine Fn.flat ?_ rfl
  refine fn_of false [(68, sp68), (52, sp52), (69, sp69), (70, sp70)] [] h19 0 Proofs.Tryd.f19 ⟨so68, so52, so69, so70, trivial⟩ trivial (by kernel_rfl) rfl (by kernel_rfl) rfl rfl rfl ?_
  rw [vc19]
  try simp only [splitB_iff, -eq_self]
  have hz : first (List.map chkSt l) = 0 := by
    rw [firstZ]
    intro x hx
    obtain ⟨y, hy, rfl⟩ := List.mem_map.1 hx
    exact chkStZ.2 (hs y hy)
  have hw : whenE (decide ((256 : Int) < (l.length : Int))) 5 = 0 := by
    have : decide ((256 : Int) < (l.length : Int)) = false := by simp; omega
    rw [this]; rfl
  rw [hz, hw]
  have jl : ∀ i, (jumpsTo l i).length ≤ i := by
    intro i
    induction i with
    | zero => simp [jumpsTo]
    | succ i ih =>
      unfold jumpsTo
      split
      · simp; omega
      · omega
  refine ⟨fun h => (by simp at h), fun _ => ⟨by omega, hs, by simp; omega, fun h => (by simp at h), fun _ => ⟨⟨0, Nat.zero_le _, rfl, rfl, rfl, rfl, rfl, rfl, trivial⟩, fun g hg => ⟨fun hlt => ?_, fun hge => ?_⟩⟩⟩⟩
  · have hlt' : g < l.length := by simpa using hlt
    have hjl := jl g
    have hg1 : Int.toNat ((g : Int) - 1) = g - 1 := by omega
    have hst : decide ((0 : Int) < (g : Int)) = true → StOk (List.getD l (g - 1) st0) := by
      intro h
      have hp : (0 : Int) < (g : Int) := by simpa using h
      rw [getD_of (show g - 1 < l.length by omega)]
      exact hs _ (List.getElem_mem _)
    rw [hg1]
    have hp : decide ((0 : Int) < (g : Int)) = true → 0 < g := by
      intro h
      have : (0 : Int) < (g : Int) := by simpa using h
      omega
    refine ⟨fun _ => by omega, fun _ => by simp only [fits]; omega, fun h => (by have := hp h; omega), fun _ => by simp only [fits]; omega, hst, ?_, ?_⟩
    · intro h
      refine ⟨by simp only [room]; omega, by simp only [fits]; omega, g + 1, hlt', by omega, by simp, rfl, rfl, rfl, ?_, rfl, trivial⟩
      have : 0 < g ∧ follows (List.getD l g st0) (List.getD l (g - 1) st0) = false := by
        have h2 := h
        rw [bcond_r, Bool.and_eq_true, decide_eq_true_eq, Bool.not_eq_true'] at h2
        exact ⟨by omega, h2.2⟩
      rw [jumps_succ, if_pos this]
    · intro h
      refine ⟨by simp only [fits]; omega, g + 1, hlt', by omega, by simp, rfl, rfl, rfl, ?_, rfl, trivial⟩
      have : ¬ (0 < g ∧ follows (List.getD l g st0) (List.getD l (g - 1) st0) = false) := by
        rintro ⟨h1, h2⟩
        rw [bcond_r] at h
        have h2' : (!follows (List.getD l g st0) (List.getD l (g - 1) st0)) = true := by rw [h2]; rfl
        have h1' : decide ((0 : Int) < (g : Int)) = true := by simp; omega
        rw [h1'] at h
        exact absurd (h2'.symm.trans h) (by decide)
      rw [jumps_succ, if_neg this]
  · have hge' : ¬ g < l.length := by simpa using hge
    have : g = l.length := by have : g ≤ l.length := hg; omega
    subst this
    exact ⟨rfl, rfl, trivial⟩
theorem so19_ : SpecOk P1 gl1 19 sp19 := by
  intro vs ps r h hp
  simp only [sp19] at h
  split at h
  · cases h; exact fn19 _ (hp _ (.head _)) (hp _ (.tail _ (.head _)))
  · cases h
theorem so19 : Sp1 19 sp19 := ⟨so19_, Proofs.Tryd.f19, _, by kernel_rfl, rfl, by kernel_rfl⟩

end Go.Sx

/- Plain laws: a frame with one byte changed is refused; packets of a stream in which one frame is damaged. -/
namespace Go.Sx
open U

theorem bxor_eq (a b : Int) : bxor a b = ((BitVec.ofInt 8 a ^^^ BitVec.ofInt 8 b).toNat : Int) := by
  have h : bxor a b = (((BitVec.ofInt 8 a ^^^ BitVec.ofInt 8 b).toNat : Nat) : Int) % 256 := rfl
  rw [h]
  have := (BitVec.ofInt 8 a ^^^ BitVec.ofInt 8 b).isLt
  omega
theorem ofInt8_inj {a b : Int} (ha : 0 ≤ a ∧ a ≤ 255) (hb : 0 ≤ b ∧ b ≤ 255) (h : BitVec.ofInt 8 a = BitVec.ofInt 8 b) : a = b := by
  have h1 := congrArg BitVec.toNat h
  rw [BitVec.toNat_ofInt, BitVec.toNat_ofInt] at h1
  omega
theorem bxor_inj {a b c : Int} (ha : 0 ≤ a ∧ a ≤ 255) (hb : 0 ≤ b ∧ b ≤ 255) (h : bxor a c = bxor b c) : a = b := by
  rw [bxor_eq, bxor_eq] at h
  have h1 : BitVec.ofInt 8 a ^^^ BitVec.ofInt 8 c = BitVec.ofInt 8 b ^^^ BitVec.ofInt 8 c := BitVec.eq_of_toNat_eq (by omega)
  have h2 := congrArg (· ^^^ BitVec.ofInt 8 c) h1
  simp only [BitVec.xor_assoc, BitVec.xor_self, BitVec.xor_zero] at h2
  exact ofInt8_inj ha hb h2
theorem bxor_comm (a b : Int) : bxor a b = bxor b a := by rw [bxor_eq, bxor_eq, BitVec.xor_comm]
theorem bxor_ne {a m : Int} (ha : 0 ≤ a ∧ a ≤ 255) (hm : 1 ≤ m ∧ m ≤ 255) : bxor a m ≠ a := by
  intro h
  have h0 : bxor a 0 = a := by
    rw [bxor_eq]
    have : BitVec.ofInt 8 a ^^^ BitVec.ofInt 8 0 = BitVec.ofInt 8 a := by
      have : BitVec.ofInt 8 0 = 0#8 := rfl
      rw [this, BitVec.xor_zero]
    rw [this, BitVec.toNat_ofInt]; omega
  have h2 : bxor m a = bxor 0 a := by rw [bxor_comm m a, bxor_comm 0 a, h, h0]
  have := bxor_inj (by omega) (by omega) h2
  omega
theorem fold_bd : ∀ (l : List Int) (x : Int), 0 ≤ x ∧ x ≤ 255 → 0 ≤ l.foldl bxor x ∧ l.foldl bxor x ≤ 255
  | [], _, h => h
  | _ :: l, _, _ => fold_bd l _ (bxor_bd _ _)
theorem fold_inj : ∀ (l : List Int) (x y : Int), 0 ≤ x ∧ x ≤ 255 → 0 ≤ y ∧ y ≤ 255 → l.foldl bxor x = l.foldl bxor y → x = y
  | [], _, _, _, _, h => h
  | c :: l, x, y, hx, hy, h => bxor_inj hx hy (fold_inj l _ _ (bxor_bd _ _) (bxor_bd _ _) h)
theorem par_set {l : List Int} {j : Nat} {y : Int} (hb : Bytes l) (hj : j < l.length) (hy : 0 ≤ y ∧ y ≤ 255) (h : par (l.set j y) = par l) : y = l.getD j 0 := by
  have e1 : l = l.take j ++ l.getD j 0 :: l.drop (j + 1) := by
    rw [getD_of hj, List.getElem_cons_drop, List.take_append_drop]
  have e2 : l.set j y = l.take j ++ y :: l.drop (j + 1) := by rw [List.set_eq_take_append_cons_drop, if_pos hj]
  unfold par at h
  rw [e2] at h
  have h' : (l.take j ++ y :: l.drop (j + 1)).foldl bxor 0 = (l.take j ++ l.getD j 0 :: l.drop (j + 1)).foldl bxor 0 := by rw [h]; exact congrArg (fun z => List.foldl bxor 0 z) e1
  rw [List.foldl_append, List.foldl_append, List.foldl_cons, List.foldl_cons] at h'
  have h1 := fold_inj _ _ _ (bxor_bd _ _) (bxor_bd _ _) h'
  rw [bxor_comm _ y, bxor_comm _ (l.getD j 0)] at h1
  have hg : 0 ≤ l.getD j 0 ∧ l.getD j 0 ≤ 255 := byAt hb hj
  exact bxor_inj hy hg h1

/-! ### A frame with one byte changed. -/

theorem getD_snoc (X : List Int) (p : Int) (n : Nat) (h : X.length = n) : (X ++ [p]).getD n 0 = p := by
  subst h
  simp [List.getD_eq_getElem?_getD]
/-- A list of bytes that is a frame of its own parts. -/
def IsFr (s : List Int) : Prop := frame (s.getD 1 0) (s.getD 2 0) (dat s) = s
theorem isFr_par {s : List Int} (hs : s.length = 16) (h : IsFr s) : par ((s.take 13).drop 1) = s.getD 13 0 ∧ s.drop 14 = word (sum 251 65521 (s.take 14)) := by
  have hd : (dat s).length = 10 := by simp [dat, hs]
  have e0 : (frame0 (s.getD 1 0) (s.getD 2 0) (dat s)).length = 13 := by simp [frame0, hd]
  have e1 : (frame1 (s.getD 1 0) (s.getD 2 0) (dat s)).length = 14 := by unfold frame1; rw [List.length_append, e0]; rfl
  have t13 : s.take 13 = frame0 (s.getD 1 0) (s.getD 2 0) (dat s) := by
    conv => lhs; rw [← h]
    unfold frame frame1
    rw [List.append_assoc, List.take_append_of_le_length (by omega), List.take_of_length_le (by omega)]
  have t14 : s.take 14 = frame1 (s.getD 1 0) (s.getD 2 0) (dat s) := by
    conv => lhs; rw [← h]
    unfold frame
    rw [List.take_append_of_le_length (by omega), List.take_of_length_le (by omega)]
  refine ⟨?_, ?_⟩
  · rw [t13]
    have : s.getD 13 0 = (s.take 14).getD 13 0 := by
      rw [List.getD_eq_getElem?_getD, List.getD_eq_getElem?_getD, List.getElem?_take_of_lt (by omega)]
    rw [this, t14]
    unfold frame1
    rw [getD_snoc _ _ _ e0]
  · rw [t14]
    conv => lhs; rw [← h]
    unfold frame
    rw [List.drop_append, e1, List.drop_of_length_le (by omega)]
    simp
theorem frame_isFr {k c : Int} (hk : 0 ≤ k ∧ k ≤ 255) (hc : 0 ≤ c ∧ c ≤ 255) {d : List Int} (hd : d.length = 10) : IsFr (frame k c d) ∧ (frame k c d).getD 0 0 = 171 ∧ (frame k c d).getD 1 0 = k ∧ (frame k c d).getD 2 0 = c ∧ dat (frame k c d) = d := by
  have e : frame k c d = 171 :: (k % 256) :: (c % 256) :: (d ++ ([par ((frame0 k c d).drop 1)] ++ word (sum 251 65521 (frame1 k c d)))) := by
    simp [frame, frame1, frame0]
  have g1 : (frame k c d).getD 1 0 = k := by
    rw [e]
    show k % 256 = k
    omega
  have g2 : (frame k c d).getD 2 0 = c := by
    rw [e]
    show c % 256 = c
    omega
  have g3 : dat (frame k c d) = d := by
    unfold dat
    rw [e]
    show List.take 10 (d ++ _) = d
    rw [List.take_append, List.take_of_length_le (by omega), hd]
    simp
  exact ⟨by unfold IsFr; rw [g1, g2, g3], by rw [e]; rfl, g1, g2, g3⟩
theorem isFr_set {s : List Int} {j : Nat} {y : Int} (hs : s.length = 16) (hb : Bytes s) (h : IsFr s) (h1 : 1 ≤ j) (hj : j < 16) (hy : 0 ≤ y ∧ y ≤ 255) (hne : y ≠ s.getD j 0) : ¬ IsFr (s.set j y) := by
  intro h'
  obtain ⟨p1, p2⟩ := isFr_par hs h
  obtain ⟨q1, q2⟩ := isFr_par (by simpa using hs) h'
  have other : ∀ i, i ≠ j → (s.set j y).getD i 0 = s.getD i 0 := by
    intro i hi
    rw [List.getD_eq_getElem?_getD, List.getD_eq_getElem?_getD, List.getElem?_set_ne (Ne.symm hi)]
  have self : (s.set j y).getD j 0 = y := by
    rw [List.getD_eq_getElem?_getD, List.getElem?_set_self (by omega)]; rfl
  by_cases c1 : j ≤ 12
  · rw [other 13 (by omega), ← p1] at q1
    have e : (List.take 13 (s.set j y)).drop 1 = ((s.take 13).drop 1).set (j - 1) y := by
      apply List.ext_getElem?
      intro i
      rw [List.getElem?_drop, List.getElem?_take, List.getElem?_set, List.getElem?_set, List.getElem?_drop, List.getElem?_take]
      simp only [List.length_drop, List.length_take]
      by_cases hi : 1 + i < 13
      · by_cases hij : j = 1 + i
        · subst hij
          rw [if_pos hi, if_pos rfl, if_pos (by omega), if_pos (by omega), if_pos (by omega)]
        · rw [if_pos hi, if_neg hij, if_neg (by omega), if_pos hi]
      · rw [if_neg hi]
        split
        · rename_i e; rw [if_neg (by omega)]
        · rfl
    rw [e] at q1
    have := par_set (l := (s.take 13).drop 1) (byDrop (byTake hb _) _) (by simp; omega) hy q1
    apply hne
    rw [this, List.getD_eq_getElem?_getD, List.getElem?_drop, List.getElem?_take_of_lt (by omega), show 1 + (j - 1) = j by omega, List.getD_eq_getElem?_getD]
  · by_cases c2 : j = 13
    · subst c2
      rw [self] at q1
      have e : List.take 13 (s.set 13 y) = s.take 13 := by
        apply List.ext_getElem?
        intro i
        rw [List.getElem?_take, List.getElem?_take]
        split
        · rw [List.getElem?_set_ne (by omega)]
        · rfl
      rw [e, p1] at q1
      exact hne q1.symm
    · have e : List.take 14 (s.set j y) = s.take 14 := by
        apply List.ext_getElem?
        intro i
        rw [List.getElem?_take, List.getElem?_take]
        split
        · rw [List.getElem?_set_ne (by omega)]
        · rfl
      rw [e, ← p2] at q2
      apply hne
      have h3 := congrArg (fun l => List.getD l (j - 14) 0) q2
      simp only [List.getD_eq_getElem?_getD, List.getElem?_drop, show 14 + (j - 14) = j by omega] at h3
      rw [List.getElem?_set_self (by omega)] at h3
      rw [List.getD_eq_getElem?_getD]
      exact h3

/-! ### What is received. -/

theorem rst_good {S : List Int} {j : Nat} {p : Pk} (h0 : (rst S (16 * j)).2.2 ≤ ((16 * j : Nat) : Int)) (hb : (blk S (16 * j)).length = 16) (hd : pkDec (blk S (16 * j)) = (p, 0)) :
    rst S (16 * (j + 1)) = ((rst S (16 * j)).1 ++ [p], (rst S (16 * j)).2.1, ((16 * (j + 1) : Nat) : Int)) := by
  have step : ∀ t, t < 16 → rst S (16 * j + 1 + t) = ((rst S (16 * j)).1 ++ [p], (rst S (16 * j)).2.1, ((16 * (j + 1) : Nat) : Int)) := by
    intro t
    induction t with
    | zero =>
      intro _
      rw [Nat.add_zero, rst_succ]
      conv => lhs; unfold rstep
      rw [if_neg (by omega), if_pos ⟨hb, by rw [hd]⟩, hd]
      simp only [Prod.mk.injEq, true_and]
      omega
    | succ t iht =>
      intro ht
      rw [← Nat.add_assoc, rst_succ, iht (by omega)]
      unfold rstep
      rw [if_pos (by simp only []; omega)]
  have := step 15 (by omega)
  rw [show 16 * (j + 1) = 16 * j + 1 + 15 by omega, this]
  simp only [Prod.mk.injEq, true_and]
  omega
theorem rst_bad {S : List Int} {j : Nat} (h0 : (rst S (16 * j)).2.2 ≤ ((16 * j : Nat) : Int)) (hbad : ∀ t, t < 16 → ¬ ((blk S (16 * j + t)).length = 16 ∧ (pkDec (blk S (16 * j + t))).2 = 0)) :
    (rst S (16 * (j + 1))).1 = (rst S (16 * j)).1 ∧ (rst S (16 * (j + 1))).2.2 ≤ ((16 * (j + 1) : Nat) : Int) := by
  have step : ∀ t, t ≤ 16 → (rst S (16 * j + t)).1 = (rst S (16 * j)).1 ∧ (rst S (16 * j + t)).2.2 ≤ ((16 * j + t : Nat) : Int) := by
    intro t
    induction t with
    | zero => intro _; exact ⟨rfl, h0⟩
    | succ t iht =>
      intro ht
      obtain ⟨i1, i2⟩ := iht (by omega)
      rw [← Nat.add_assoc, rst_succ]
      unfold rstep
      rw [if_neg (by omega), if_neg (hbad t (by omega))]
      exact ⟨i1, by simp only []; omega⟩
  exact step 16 (Nat.le_refl _)
end Go.Sx

/- Plain functions and hints: tape, the small functions. -/
namespace Go.Sx.U
/-- A byte that a name may have at a place. -/
def nameAt (l : List UInt8) (i : Nat) : Bool :=
  ((65 ≤ (l.getD i 0).toNat && (l.getD i 0).toNat ≤ 90) || (97 ≤ (l.getD i 0).toNat && (l.getD i 0).toNat ≤ 122)) || (i != 0 && ((48 ≤ (l.getD i 0).toNat && (l.getD i 0).toNat ≤ 57) || (l.getD i 0).toNat == 95))
def isName (l : List UInt8) : Bool := (List.range l.length).all (nameAt l) && (decide (l ≠ []) && decide (l.length ≤ 24))
def plain (l : List UInt8) : Bool := l.all fun b => decide (b.toNat < 128)
def wf16 (l : List Int) : List Int := l.map fun n => within n 0 65535
def checkReel (nm : List UInt8) (f : Int) (l : List Int) : Int :=
  if first [whenE (!isName nm) 8, within f 0 10000000, whenE (decide (l.length = 0)) 12, whenE (decide (256 < l.length)) 5] = 0 then
    if first (wf16 l) = 0 then whenE (decide (10000000 < f + (l.length : Int))) 4 else first (wf16 l)
  else first [whenE (!isName nm) 8, within f 0 10000000, whenE (decide (l.length = 0)) 12, whenE (decide (256 < l.length)) 5]
def record (k a b : Int) : List Int := [k, a / 256 % 256, a % 256, b / 256 % 256, b % 256]
def tframe (i c : Int) : List Int := record 70 c ((263 * (263 * i + c) + 97) % 65521)
def isum (l : List Int) : Int := l.foldl (· + ·) 0
def tlast (l : List Int) : List Int := record 69 (l.length : Int) (isum l % 65521)
def number (s : List Int) : Int := s.foldl (fun x b => 256 * x + b) 0
end Go.Sx.U
namespace Go.Sx
open U
def h78 : Hints := ⟨fun f k s => match f, k with
  | 78, 2 => hFirst 5 6 7 s
  | _, _ => none, 0⟩
def h123 : Hints := ⟨fun f k s => match f, k with
  | 123, 3 => match listAs s 8 (.int .i64) with
    | some xs => some ⟨Nat, fun i => ⟨[tI 10 i, (5, .val (.one (.own s.nx)))] ++ keepT [1, 8, 9] s.tm, (s.nx, some (.row (.int .i64) ((List.take i xs).map fun n => within n 0 65535))) :: lessO s [5], s.nx + 1, s.lr⟩, fun i => i ≤ List.length xs, fun i => List.length xs - i⟩
    | _ => none
  | _, _ => none, 0⟩
/-- The loop over a string. -/
def hStr (t : Nat) (keep : List Nat) (q : List UInt8 → Nat → Prop) (s : St) : Option LInv := match lookT s.tm t with
  | some (.val (.one (.ptr id 0))) => match lookO s.ob id with
    | some (.sit l _) => some ⟨Nat, fun i => ⟨keepT (t :: keep) s.tm, [(id, some (.sit l i))], s.nx, s.lr⟩, fun i => i ≤ List.length l ∧ q l i, fun i => List.length l - i⟩
    | _ => none
  | _ => none
def nameTo (l : List UInt8) (i : Nat) : Prop := ∀ j, j < i → nameAt l j = true
def plainTo (l : List UInt8) (i : Nat) : Prop := ∀ j, j < i → (l.getD j 0).toNat < 128
def h121 : Hints := ⟨fun f k s => match f, k with
  | 121, 2 => hStr 7 [0] nameTo s
  | _, _ => none, 0⟩
def h127 : Hints := ⟨fun f k s => match f, k with
  | 127, 2 => hStr 6 [0] plainTo s
  | _, _ => none, 0⟩
def h74 : Hints := ⟨fun f k s => match f, k with
  | 74, 3 => match listAs s 6 (.int .i64) with
    | some xs => some ⟨Nat, fun i => s.at [0, 2, 6, 7] [tI 8 i, tI 3 (isum (List.take i xs))], fun i => i ≤ List.length xs, fun i => List.length xs - i⟩
    | _ => none
  | _, _ => none, 0⟩
def h128 : Hints := ⟨fun f k s => match f, k with
  | 128, 3 => match listAs s 6 (.int .u8) with
    | some xs => some ⟨Nat, fun i => s.at [6, 7] [tI 8 i, tI 3 (number (List.take i xs))], fun i => i ≤ List.length xs, fun i => List.length xs - i⟩
    | _ => none
  | _, _ => none, 0⟩
def h17 : Hints := ⟨fun f k s => match f, k with
  | 17, 4 => match listAs s 0 (.int .i64), listAs s 1 (.int .i64) with
    | some xs, some ys => some ⟨Nat, fun i => s.at [0, 1] [tI 5 i], fun i => i ≤ List.length xs ∧ List.take i xs = List.take i ys, fun i => List.length xs - i⟩
    | _, _ => none
  | _, _ => none, 0⟩
@[reducible] noncomputable def fb79 : Nat × Func := (79, Proofs.Tryd.f79)
@[reducible] noncomputable def fb122 : Nat × Func := (122, Proofs.Tryd.f122)
@[reducible] noncomputable def fb124 : Nat × Func := (124, Proofs.Tryd.f124)
@[reducible] noncomputable def fb125 : Nat × Func := (125, Proofs.Tryd.f125)
end Go.Sx
