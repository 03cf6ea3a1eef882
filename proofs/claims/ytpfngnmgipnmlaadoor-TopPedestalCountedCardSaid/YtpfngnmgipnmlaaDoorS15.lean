/- A verified symbolic run of functions, part 15: lemmas, no claim of their own. -/
import Derived.Test.YtpfngnmgipnmlaaDoorS14
/- Contracts: Lost. -/
namespace Go.Sx
open U

theorem fn61 (l : List Pk) (hl : l.length ≤ 1000000) : Fn P1 gl1 61 [.one (.sl pT l), .one (.fn 57 [] [])] (.val (.one (.frs (.int .i64) (List.map (fun (p : Pk) => pcheck p.1 p.2.1) l)))) true := by
  refine Fn.flat ?_ rfl
  refine fn_of false [(57, sp57)] [] hMap57 0 Proofs.Tryd.f61 ⟨so57, trivial⟩ trivial (by kernel_rfl) rfl (by kernel_rfl) rfl rfl rfl ?_
  rw [vc61]
  try simp only [splitB_iff, -eq_self]
  refine ⟨⟨0, Nat.zero_le _, by simp⟩, fun g hg => ⟨fun hlt => ?_, fun hge => ?_⟩⟩
  · have hlt' : g < l.length := by simpa using hlt
    refine ⟨by omega, by simp only [room, List.length_map, List.length_take]; omega, by simp only [fits]; omega, g + 1, hlt', by omega, by simp, rfl, rfl, ?_, trivial⟩
    rw [getD_of hlt', List.take_succ_eq_append_getElem hlt', List.map_append]
    rfl
  · have hge' : ¬ g < l.length := by simpa using hge
    rw [List.take_of_length_le (by omega)]
    exact ⟨rfl, trivial⟩
theorem so61_ : SpecOk P1 gl1 61 sp61 := by
  intro vs ps r h hp
  simp only [sp61] at h
  split at h
  · cases h
    exact fn61 _ (hp _ (List.mem_singleton.2 rfl))
  · cases h
theorem so61 : Sp1 61 sp61 := ⟨so61_, Proofs.Tryd.f61, _, by kernel_rfl, rfl, by kernel_rfl⟩

theorem first_zero : ∀ (l : List Int), (∀ x ∈ l, x = 0) → first l = 0
  | [], _ => rfl
  | x :: r, h => by
    have hx := h x (by simp)
    simp only [first, hx, if_true]
    exact first_zero r (fun y hy => h y (by simp [hy]))

theorem band255 (x : Int) (h0 : 0 ≤ x) (h1 : x < 9223372036854775808) : bits .and .i64 x 255 = x % 256 := by
  obtain ⟨n, rfl⟩ := Int.eq_ofNat_of_zero_le h0
  show IntKind.wrap .i64 (((BitVec.ofInt 64 (n : Int) &&& BitVec.ofInt 64 255).toNat : Nat) : Int) = _
  have e1 : (BitVec.ofInt 64 (n : Int) &&& BitVec.ofInt 64 255).toNat = n % 256 := by
    rw [BitVec.toNat_and]
    have h2 : (BitVec.ofInt 64 (n : Int)).toNat = n := by
      rw [BitVec.toNat_ofInt]; omega
    have h3 : (BitVec.ofInt 64 255).toNat = 2 ^ 8 - 1 := rfl
    rw [h2, h3, Nat.and_two_pow_sub_one_eq_mod]
  rw [e1]
  have : IntKind.wrap .i64 ((n % 256 : Nat) : Int) = ((n % 256 : Nat) : Int) := fits_wrap (by simp only [fits]; omega)
  rw [this]
  omega

theorem eqT_pk (k a b : Int) (d : List Int) : eqT pT (a, b, d) (k, b, d) = decide (a = k) := by
  have h : eqT pT (a, b, d) (k, b, d) = ((a == k) && ((b == b) && (List.range 10).all fun i => (List.getD d i 0 == List.getD d i 0))) := rfl
  rw [h]
  by_cases e : a = k <;> simp [e]

theorem gap_len (a b : Int) : (gap a b).length = ((b - a - 1) % 256).toNat := by simp [gap]

theorem gap_at (a b : Int) (j : Nat) (h : j < (gap a b).length) : (gap a b)[j] = (a + 1 + j) % 256 := by simp [gap]

theorem cnt_bd {l : List Pk} (h : ∀ p ∈ l, pcheck p.1 p.2.1 = 0) (i : Nat) (hi : i < l.length) : 0 ≤ cnt l i ∧ cnt l i ≤ 255 := by
  unfold cnt
  rw [getD_of hi]
  have := h _ (List.getElem_mem hi)
  unfold pcheck at this
  simp only [first] at this
  split at this
  · split at this
    · rename_i h1 h2
      unfold within at h2
      split at h2 <;> omega
    · omega
  · omega

theorem lostTo_mono (l : List Pk) (i j : Nat) (h : i ≤ j) : (lostTo l i).length ≤ (lostTo l j).length := by
  induction j with
  | zero => have : i = 0 := by omega
            subst this; exact Nat.le_refl _
  | succ j ih =>
    by_cases e : i = j + 1
    · subst e; exact Nat.le_refl _
    · have := ih (by omega)
      simp only [lostTo, List.length_append]
      omega

theorem fn16 (l : List Pk) (k : Int) (h1 : l.length ≤ 1024) (h2 : ∀ p ∈ l, p.1 = k ∧ pcheck p.1 p.2.1 = 0) (hk : within k 0 255 = 0) (h3 : (lostTo l (l.length - 1)).length ≤ 256) :
    Fn P1 gl1 16 [.one (.sl pT l), iV k] (.tup [.one (.frs (.int .i64) (lostTo l (l.length - 1))), iV 0]) true := by
  refine Fn.flat ?_ rfl
  refine fn_of false [(57, sp57), (60, sp60), (62, sp62), (61, sp61)] [fb64, fb63, fb116, fb65] h16 4 Proofs.Tryd.f16 ⟨so57, so60, so62, so61, trivial⟩
    ⟨⟨by kernel_rfl, by kernel_rfl, _, rfl, by kernel_rfl⟩, ⟨by kernel_rfl, by kernel_rfl, _, rfl, by kernel_rfl⟩, ⟨by kernel_rfl, by kernel_rfl, _, rfl, by kernel_rfl⟩, ⟨by kernel_rfl, by kernel_rfl, _, rfl, by kernel_rfl⟩, trivial⟩ (by kernel_rfl) rfl (by kernel_rfl) rfl rfl rfl ?_
  rw [vc16]
  try simp only [splitB_iff, -eq_self]
  have hf : first [first (List.map (fun (p : Pk) => pcheck (Prod.fst p) (Prod.fst (Prod.snd p))) l), within k (0 : Int) (255 : Int)] = 0 := by
    rw [first_zero (List.map _ l) (by intro x hx; obtain ⟨p, hp, rfl⟩ := List.mem_map.1 hx; exact (h2 p hp).2), hk]
    rfl
  rw [hf]
  simp only [eq_self, and_true, true_and, bne_self_eq_false, Bool.false_eq_true, false_implies, Bool.bne_false, decide_eq_true_eq, decide_eq_false_iff_not, List.length_map, forall_const]
  have hcb := fun i hi => cnt_bd (l := l) (fun p hp => (h2 p hp).2) i hi
  refine ⟨fun h => by omega, fun _ => ⟨by omega, by omega, by omega, fun b hb => ⟨fun hbt => ?_, fun hbf => ?_⟩⟩⟩
  · have hl0 : l = [] := List.length_eq_zero_iff.1 (hb hbt)
    subst hl0
    refine ⟨⟨0, Nat.zero_le _, rfl⟩, fun g hg => ⟨⟨0, .inl rfl, rfl, rfl⟩, fun g hg => ?_⟩⟩
    have : g = 0 := by omega
    subst this; rfl
  · refine ⟨by simp only [room]; omega, ⟨0, Nat.zero_le _, rfl⟩, fun g hg => ⟨fun hlt => ⟨by omega, by omega, fun he => ?_, fun he => ?_⟩, fun hge => ⟨⟨0, .inl rfl, rfl, rfl⟩, fun g hg => ⟨fun hlt => ?_, fun hge => ?_⟩⟩⟩⟩
    · have hg' : g < l.length := by omega
      rw [eqT_pk, getD_of hg', (h2 _ (List.getElem_mem hg')).1] at he
      simp at he
    · exact ⟨by simp only [fits]; omega, g + 1, by show g + 1 ≤ _; omega, by omega, by simp⟩
    · have e1 : ((g : Int) + 1 - 1).toNat = g := by omega
      have e2 : ((g : Int) + 1).toNat = g + 1 := by omega
      rw [e1, e2]
      have hlt' : g + 1 < l.length := by omega
      have c1 := hcb g (by omega)
      have c2 := hcb (g + 1) hlt'
      have d1 : (l.getD g (0, 0, List.replicate 10 0)).2.1 = cnt l g := rfl
      have d2 : (l.getD (g + 1) (0, 0, List.replicate 10 0)).2.1 = cnt l (g + 1) := rfl
      rw [d1, d2]
      have hgl := gap_len (cnt l g) (cnt l (g + 1))
      have hlm := lostTo_mono l (g + 1) (l.length - 1) (by omega)
      simp only [lostTo, List.length_append] at hlm
      refine ⟨by simp only [fits]; omega, by omega, by omega, by simp only [fits]; omega, ⟨0, Nat.zero_le _, ?_, by simp⟩, fun j hj => ⟨by omega, hlt', fun hne => ⟨fun h256 => ?_, fun h256 => ?_⟩, fun heq => ?_⟩⟩
      · rw [band255 _ (by omega) (by omega)]
        simp
      · have hj' : j ≤ (gap (cnt l g) (cnt l (g + 1))).length := hj
        have hne' : ¬ (cnt l g + 1 + (j : Int)) % 256 = cnt l (g + 1) := by simpa using hne
        have hjl : ¬ j = (gap (cnt l g) (cnt l (g + 1))).length := by
          intro e
          apply hne'
          omega
        have : (lostTo l g ++ List.take j (gap (cnt l g) (cnt l (g + 1)))).length = 256 := by
          have := beq_iff_eq.1 h256
          omega
        rw [List.length_append, List.length_take] at this
        omega
      · have hj' : j ≤ (gap (cnt l g) (cnt l (g + 1))).length := hj
        have hne' : ¬ (cnt l g + 1 + (j : Int)) % 256 = cnt l (g + 1) := by simpa using hne
        have hjl : j < (gap (cnt l g) (cnt l (g + 1))).length := by
          rcases Nat.lt_or_ge j (gap (cnt l g) (cnt l (g + 1))).length with h | h
          · exact h
          · exact absurd (by omega) hne'
        refine ⟨by simp only [room, List.length_append, List.length_take]; omega, by simp only [fits]; omega, j + 1, hjl, by omega, ?_, ?_⟩
        · rw [band255 _ (by omega) (by omega)]
          omega
        · rw [List.take_succ_eq_append_getElem hjl, gap_at, List.append_assoc]
      · have hj' : j ≤ (gap (cnt l g) (cnt l (g + 1))).length := hj
        have heq' : (cnt l g + 1 + (j : Int)) % 256 = cnt l (g + 1) := by simpa using heq
        have hjl : j = (gap (cnt l g) (cnt l (g + 1))).length := by omega
        refine ⟨by simp only [fits]; omega, g + 1, .inr hlt', by omega, by simp, ?_⟩
        rw [hjl, List.take_length]
        rfl
    · have : l.length - 1 = g := by omega
      rw [this]
def sp16 : FSpec := ⟨fun vs => match vs with
  | [.one (.sl (.pair (.int .i64) (.pair (.int .i64) (.arr 10 (.int .u8)))) l), .one (.int .i64 k)] =>
    some ([List.length l ≤ 1024 ∧ (∀ p ∈ (show List Pk from l), p.1 = k ∧ pcheck p.1 p.2.1 = 0) ∧ within k 0 255 = 0 ∧ (lostTo l (List.length l - 1)).length ≤ 256], .tup [.one (.frs (.int .i64) (lostTo l (List.length l - 1))), iV 0])
  | _ => none, true⟩
theorem so16_ : SpecOk P1 gl1 16 sp16 := by
  intro vs ps r h hp
  simp only [sp16] at h
  split at h
  · cases h
    have := hp _ (List.mem_singleton.2 rfl)
    exact fn16 _ _ this.1 this.2.1 this.2.2.1 this.2.2.2
  · cases h
theorem so16 : Sp1 16 sp16 := ⟨so16_, Proofs.Tryd.f16, _, by kernel_rfl, rfl, by kernel_rfl⟩
def sp15 : FSpec := ⟨fun vs => match vs with
  | [.one (.sl (.int .u8) s)] => some ([Bytes s ∧ List.length s ≤ 1000000000], .tup [.one (.frs pT (received s).1), .one (.frs spT (received s).2.1), iV (received s).2.2])
  | _ => none, true⟩
theorem so15_ : SpecOk P1 gl1 15 sp15 := by
  intro vs ps r h hp
  simp only [sp15] at h
  split at h
  · cases h
    have := hp _ (List.mem_singleton.2 rfl)
    exact Fn.flat (fn15 _ this.1 this.2) rfl
  · cases h
theorem so15 : Sp1 15 sp15 := ⟨so15_, Proofs.Tryd.f15, _, by kernel_rfl, rfl, by kernel_rfl⟩
end Go.Sx

/- Plain functions and hints. -/
namespace Go.Sx.U
def RateOk (F : Int) (D : Bool) : Prop := (F = 24 ∨ F = 25 ∨ F = 30) ∧ (D = true → F = 30)
def dayN (F : Int) (D : Bool) : Int := if D then 86400 * F - 2592 else 86400 * F
def frameN (F : Int) (D : Bool) (h m s f : Int) : Int := if D then (60 * (60 * h + m) + s) * F + f - 2 * ((60 * h + m) - (60 * h + m) / 10) else (60 * (60 * h + m) + s) * F + f
def skipN (D : Bool) (n : Int) : Int := if D then (if 1800 ≤ n % 17982 then n + 18 * (n / 17982) + 2 * (1 + (n % 17982 - 1800) / 1798) else n + 18 * (n / 17982)) else n
def LabOk (F : Int) (D : Bool) (h m s f : Int) : Prop := (0 ≤ h ∧ h ≤ 23) ∧ (0 ≤ m ∧ m ≤ 59) ∧ (0 ≤ s ∧ s ≤ 59) ∧ (0 ≤ f ∧ f ≤ F - 1) ∧ ¬ (D = true ∧ m % 10 ≠ 0 ∧ s = 0 ∧ f < 2)
def labH (F : Int) (D : Bool) (n : Int) : Int := skipN D n / F / 3600
def labM (F : Int) (D : Bool) (n : Int) : Int := skipN D n / F / 60 % 60
def labS (F : Int) (D : Bool) (n : Int) : Int := skipN D n / F % 60
def labF (F : Int) (D : Bool) (n : Int) : Int := skipN D n % F
def chkRate (F : Int) (D : Bool) : Int := if F = 24 ∨ F = 25 ∨ F = 30 then (if D = true ∧ F ≠ 30 then 24 else 0) else 13
def dropB (D : Bool) (m s f : Int) : Bool := D && (m % 10 != 0) && (s == 0) && decide (f < 2)
def chkLab (F : Int) (D : Bool) (h m s f : Int) : Int := first [chkRate F D, within h 0 23, within m 0 59, within s 0 59, within f 0 (F - 1), whenE (dropB D m s f) 7]
def chkStamp (F : Int) (D : Bool) (h m s f u : Int) : Int := first [chkLab F D h m s f, within u 0 65535]
abbrev Lb := Int × Int × Int × Int
abbrev St7 := (Int × Bool) × Lb × Int
def chkSt (x : St7) : Int := chkStamp x.1.1 x.1.2 x.2.1.1 x.2.1.2.1 x.2.1.2.2.1 x.2.1.2.2.2 x.2.2
def addN (F : Int) (D : Bool) (h m s f n : Int) : Int := (frameN F D h m s f + n) % dayN F D
def lab (F : Int) (D : Bool) (n : Int) : Lb := (labH F D n, labM F D n, labS F D n, labF F D n)
def bcd (n : Int) : Int := (n / 10 * 16 + n % 10) % 256
def word0 (F : Int) (D : Bool) (h m s f u : Int) : List Int := [bcd f, bcd s, bcd m, bcd h, F % 256 + (if D then 128 else 0), u / 256 % 256, u % 256]
def wordS (F : Int) (D : Bool) (h m s f u : Int) : List Int := word0 F D h m s f u ++ [par (word0 F D h m s f u), 63, 253]
def zero10w : List Int := List.replicate 10 0
def lo4 (x : Int) : Int := bits .and .u8 x 15
def dig (x : Int) : Int := x / 16 * 10 + lo4 x
def stOf (d : List Int) : St7 := ((bits .andNot .u8 (d.getD 4 0) 128, decide (0 < bits .and .u8 (d.getD 4 0) 128)), (dig (d.getD 3 0), dig (d.getD 2 0), dig (d.getD 1 0), dig (d.getD 0 0)), d.getD 5 0 * 256 + d.getD 6 0)
def digOk (x : Int) : Prop := x / 16 ≤ 9 ∧ lo4 x ≤ 9
def okW (d : List Int) : Prop := d.getD 8 0 = 63 ∧ d.getD 9 0 = 253 ∧ par (d.take 7) = d.getD 7 0 ∧ (digOk (d.getD 0 0) ∧ digOk (d.getD 1 0) ∧ digOk (d.getD 2 0) ∧ digOk (d.getD 3 0)) ∧ chkSt (stOf d) = 0
def StOk (x : St7) : Prop := RateOk x.1.1 x.1.2 ∧ LabOk x.1.1 x.1.2 x.2.1.1 x.2.1.2.1 x.2.1.2.2.1 x.2.1.2.2.2 ∧ 0 ≤ x.2.2 ∧ x.2.2 ≤ 65535
def follows (x o : St7) : Bool := decide (x.1 = o.1) && decide (x.2.1 = lab o.1.1 o.1.2 (addN o.1.1 o.1.2 o.2.1.1 o.2.1.2.1 o.2.1.2.2.1 o.2.1.2.2.2 1))
def st0 : St7 := ((0, false), (0, 0, 0, 0), 0)
/-- The indices at which stamps jump. -/
def jumpsTo (l : List St7) : Nat → List Int
  | 0 => []
  | i + 1 => if 0 < i ∧ follows (l.getD i st0) (l.getD (i - 1) st0) = false then jumpsTo l i ++ [(i : Int)] else jumpsTo l i
end Go.Sx.U
namespace Go.Sx
open U
abbrev rtT : Ty := .pair (.int .i64) .bool
abbrev lbT : Ty := .pair (.int .i64) (.pair (.int .i64) (.pair (.int .i64) (.int .i64)))
abbrev stT : Ty := .pair (.pair (.int .i64) .bool) (.pair (.pair (.int .i64) (.pair (.int .i64) (.pair (.int .i64) (.int .i64)))) (.int .i64))
@[reducible] def rtV (F : Int) (D : Bool) : V := .agg [.one (.int .i64 F), .one (.bool D)]
@[reducible] def lbV (h m s f : Int) : V := .agg [.one (.int .i64 h), .one (.int .i64 m), .one (.int .i64 s), .one (.int .i64 f)]
@[reducible] def lbW (l : Lb) : V := lbV l.1 l.2.1 l.2.2.1 l.2.2.2
@[reducible] def stV (F : Int) (D : Bool) (h m s f u : Int) : V := .agg [.one (.int .i64 F), .one (.bool D), .one (.int .i64 h), .one (.int .i64 m), .one (.int .i64 s), .one (.int .i64 f), .one (.int .i64 u)]
@[reducible] def stW (x : St7) : V := stV x.1.1 x.1.2 x.2.1.1 x.2.1.2.1 x.2.1.2.2.1 x.2.1.2.2.2 x.2.2
/-- The loop that makes a list of what a function says. -/
def hMapI (u : Ty) (g : u.T → Int) (tl tn ti to : Nat) (keep : List Nat) (s : St) : Option LInv := match listAs s tl u with
  | some xs => some ⟨Nat, fun i => ⟨[tI ti i, (to, .val (.one (.own s.nx)))] ++ keepT (keep ++ [tl, tn]) s.tm, (s.nx, some (.row (.int .i64) ((List.take i xs).map g))) :: lessO s [to], s.nx + 1, s.lr⟩, fun i => i ≤ List.length xs, fun i => List.length xs - i⟩
  | _ => none
def h52 : Hints := ⟨fun f k s => match f, k with
  | 52, 2 => hFirst 5 6 7 s
  | _, _ => none, 0⟩
def h44 : Hints := ⟨fun f k s => match f, k with
  | 44, 2 => hFirst 0 2 3 s
  | _, _ => none, 0⟩
def h66 : Hints := hPar 66 3 6 7 8 3 []
def h69 : Hints := ⟨fun f k s => match f, k with
  | 69, 3 => hMapI stT chkSt 8 9 10 5 [1] s
  | _, _ => none, 0⟩
def h19 : Hints := ⟨fun f k s => match f, k with
  | 19, 9 => match listAs s 21 stT with
    | some xs => some ⟨Nat, fun i => ⟨[tI 23 i, (6, .val (.one (.own s.nx)))] ++ keepT [0, 21, 22] s.tm, (s.nx, some (.row (.int .i64) (jumpsTo xs i))) :: lessO s [6], s.nx + 1, s.lr⟩, fun i => i ≤ List.length xs, fun i => List.length xs - i⟩
    | _ => none
  | _, _ => none, 0⟩
@[reducible] noncomputable def fb143 : Nat × Func := (143, Proofs.Tryd.f143)
@[reducible] noncomputable def fb67 : Nat × Func := (67, Proofs.Tryd.f67)
def sp109 : FSpec := ⟨fun vs => match vs with
  | [.one (.sl (.int .i64) xs), .one (.int .i64 n)] => some ([xs = [24, 25, 30]], .val (bV (decide (n = 24 ∨ n = 25 ∨ n = 30))))
  | _ => none, true⟩
end Go.Sx
namespace Go.Sx
open U
def sp68 : FSpec := ⟨fun vs => match vs with
  | [.one (.bool b), .one (.int .i64 e)] => some ([], .val (iV (whenE b e)))
  | _ => none, true⟩
def sp53 : FSpec := ⟨fun vs => match vs with
  | [.one (.int .i64 n), .one (.int .i64 lo), .one (.int .i64 hi)] => some ([], .val (iV (within n lo hi)))
  | _ => none, true⟩
def sp52 : FSpec := ⟨fun vs => match vs with
  | [.one (.sl (.int .i64) xs)] => some ([List.length xs ≤ 1000000000], .val (iV (first xs)))
  | _ => none, true⟩
def sp97 : FSpec := ⟨fun vs => match vs with
  | [.one (.bool b), .one (.int .i64 e)] => some ([], .val (iV (whenE b e)))
  | _ => none, true⟩
def sp46 : FSpec := ⟨fun vs => match vs with
  | [.one (.int .i64 n), .one (.int .i64 lo), .one (.int .i64 hi)] => some ([], .val (iV (within n lo hi)))
  | _ => none, true⟩
def sp44 : FSpec := ⟨fun vs => match vs with
  | [.one (.sl (.int .i64) xs)] => some ([List.length xs ≤ 1000000000], .val (iV (first xs)))
  | _ => none, true⟩
def sp107 : FSpec := ⟨fun vs => match vs with
  | [.agg [.one (.int .i64 F), .one (.bool D)]] => some ([], .val (iV (chkRate F D)))
  | _ => none, true⟩
def sp108 : FSpec := ⟨fun vs => match vs with
  | [.agg [.one (.int .i64 F), .one (.bool D)], .agg [.one (.int .i64 h), .one (.int .i64 m), .one (.int .i64 s), .one (.int .i64 f)]] => some ([0 ≤ m], .val (bV (dropB D m s f)))
  | _ => none, true⟩
def sp45 : FSpec := ⟨fun vs => match vs with
  | [.agg [.one (.int .i64 F), .one (.bool D)], .agg [.one (.int .i64 h), .one (.int .i64 m), .one (.int .i64 s), .one (.int .i64 f)]] => some ([], .val (iV (chkLab F D h m s f)))
  | _ => none, true⟩
def sp8 : FSpec := ⟨fun vs => match vs with
  | [.agg [.one (.int .i64 F), .one (.bool D), .one (.int .i64 h), .one (.int .i64 m), .one (.int .i64 s), .one (.int .i64 f), .one (.int .i64 u)]] => some ([], .val (iV (chkStamp F D h m s f u)))
  | _ => none, true⟩
def sp48 : FSpec := ⟨fun vs => match vs with
  | [.agg [.one (.int .i64 F), .one (.bool D)]] => some ([], .val (iV (chkRate F D)))
  | _ => none, true⟩
def sp49 : FSpec := ⟨fun vs => match vs with
  | [.agg [.one (.int .i64 F), .one (.bool D)]] => some ([0 ≤ F ∧ F ≤ 1000], .val (iV (dayN F D)))
  | _ => none, true⟩
def sp110 : FSpec := ⟨fun vs => match vs with
  | [.agg [.one (.int .i64 h), .one (.int .i64 m), .one (.int .i64 s), .one (.int .i64 f)], .agg [.one (.int .i64 F), .one (.bool D)]] => some ([0 ≤ m], .val (bV (dropB D m s f)))
  | _ => none, true⟩
def sp50 : FSpec := ⟨fun vs => match vs with
  | [.agg [.one (.int .i64 F), .one (.bool D)], .agg [.one (.int .i64 h), .one (.int .i64 m), .one (.int .i64 s), .one (.int .i64 f)]] => some ([0 ≤ m, 0 ≤ F ∧ F ≤ 1000], .val (iV (chkLab F D h m s f)))
  | _ => none, true⟩
def sp55 : FSpec := ⟨fun vs => match vs with
  | [.agg [.one (.int .i64 F), .one (.bool D), .one (.int .i64 h), .one (.int .i64 m), .one (.int .i64 s), .one (.int .i64 f), .one (.int .i64 u)]] => some ([0 ≤ m, 0 ≤ F ∧ F ≤ 1000], .val (iV (chkStamp F D h m s f u)))
  | _ => none, true⟩
def sp51 : FSpec := ⟨fun vs => match vs with
  | [.agg [.one (.int .i64 h), .one (.int .i64 m), .one (.int .i64 s), .one (.int .i64 f)], .agg [.one (.int .i64 F), .one (.bool D)]] => some ([RateOk F D, LabOk F D h m s f], .val (iV (frameN F D h m s f)))
  | _ => none, true⟩
def sp10 : FSpec := ⟨fun vs => match vs with
  | [.agg [.one (.int .i64 F), .one (.bool D)]] => some ([RateOk F D], .tup [iV (dayN F D), iV 0])
  | _ => none, true⟩
def sp11 : FSpec := ⟨fun vs => match vs with
  | [.agg [.one (.int .i64 F), .one (.bool D)], .agg [.one (.int .i64 h), .one (.int .i64 m), .one (.int .i64 s), .one (.int .i64 f)]] => some ([RateOk F D, LabOk F D h m s f], .tup [iV (frameN F D h m s f), iV 0])
  | _ => none, true⟩
def sp111 : FSpec := ⟨fun vs => match vs with
  | [.agg [.one (.int .i64 F), .one (.bool D)], .one (.int .i64 n)] => some ([RateOk F D, 0 ≤ n ∧ n < dayN F D], .val (lbW (lab F D n)))
  | _ => none, true⟩
def sp54 : FSpec := ⟨fun vs => match vs with
  | [.agg [.one (.int .i64 h), .one (.int .i64 m), .one (.int .i64 s), .one (.int .i64 f)], .agg [.one (.int .i64 F), .one (.bool D)], .one (.int .i64 n)] => some ([RateOk F D, LabOk F D h m s f, 0 ≤ n ∧ n ≤ 10000000], .val (lbW (lab F D (addN F D h m s f n))))
  | _ => none, true⟩
def sp12 : FSpec := ⟨fun vs => match vs with
  | [.agg [.one (.int .i64 F), .one (.bool D)], .agg [.one (.int .i64 h), .one (.int .i64 m), .one (.int .i64 s), .one (.int .i64 f)], .one (.int .i64 n)] => some ([RateOk F D, LabOk F D h m s f, 0 ≤ n ∧ n ≤ 10000000], .tup [lbW (lab F D (addN F D h m s f n)), iV 0])
  | _ => none, true⟩
def sp66 : FSpec := ⟨fun vs => match vs with
  | [.one (.sl (.int .u8) xs)] => some ([List.length xs ≤ 1000000000, Bytes xs], .val (uV (par xs)))
  | _ => none, true⟩
def sp56 : FSpec := ⟨fun vs => match vs with
  | [.agg [.one (.int .i64 F), .one (.bool D), .one (.int .i64 h), .one (.int .i64 m), .one (.int .i64 s), .one (.int .i64 f), .one (.int .i64 u)]] => some ([RateOk F D, LabOk F D h m s f, 0 ≤ u ∧ u ≤ 65535], .val (aV 10 (wordS F D h m s f u)))
  | _ => none, true⟩
def sp13 : FSpec := ⟨fun vs => match vs with
  | [.agg [.one (.int .i64 F), .one (.bool D), .one (.int .i64 h), .one (.int .i64 m), .one (.int .i64 s), .one (.int .i64 f), .one (.int .i64 u)]] => some ([RateOk F D, LabOk F D h m s f, 0 ≤ u ∧ u ≤ 65535], .tup [aV 10 (wordS F D h m s f u), iV 0])
  | _ => none, true⟩
def sp18 : FSpec := ⟨fun vs => match vs with
  | [.agg [.arr 10 (.int .u8) d]] => some ([List.length d = 10, Bytes d, okW d], .tup [stW (stOf d), iV 0])
  | _ => none, true⟩
def sp69 : FSpec := ⟨fun vs => match vs with
  | [.one (.sl (.pair (.pair (.int .i64) .bool) (.pair (.pair (.int .i64) (.pair (.int .i64) (.pair (.int .i64) (.int .i64)))) (.int .i64))) l), .one (.fn 55 [] [])] => some ([List.length l ≤ 1000000, ∀ x ∈ (show List St7 from l), StOk x], .val (.one (.frs (.int .i64) (List.map chkSt (show List St7 from l)))))
  | _ => none, true⟩
def sp70 : FSpec := ⟨fun vs => match vs with
  | [.agg [.one (.int .i64 F), .one (.bool D), .one (.int .i64 h), .one (.int .i64 m), .one (.int .i64 s), .one (.int .i64 f), .one (.int .i64 u), .one (.int .i64 a)], .agg [.one (.int .i64 F'), .one (.bool D'), .one (.int .i64 h'), .one (.int .i64 m'), .one (.int .i64 s'), .one (.int .i64 f'), .one (.int .i64 u'), .one (.int .i64 b)]] => some ([StOk ((F', D'), (h', m', s', f'), u')], .val (bV (follows ((F, D), (h, m, s, f), u) ((F', D'), (h', m', s', f'), u'))))
  | _ => none, true⟩
def sp19 : FSpec := ⟨fun vs => match vs with
  | [.one (.sl (.pair (.pair (.int .i64) .bool) (.pair (.pair (.int .i64) (.pair (.int .i64) (.pair (.int .i64) (.int .i64)))) (.int .i64))) l)] => some ([List.length l ≤ 256, ∀ x ∈ (show List St7 from l), StOk x], .tup [.one (.frs (.int .i64) (jumpsTo (show List St7 from l) (List.length l))), iV 0])
  | _ => none, true⟩
end Go.Sx
