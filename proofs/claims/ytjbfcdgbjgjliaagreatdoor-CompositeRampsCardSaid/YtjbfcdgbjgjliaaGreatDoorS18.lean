/- A verified symbolic run of functions, part 18: lemmas, no claim of their own. -/
import Derived.Test.YtjbfcdgbjgjliaaGreatDoorS17
/- Plain functions and hints. -/
namespace Go.Sx
open U
def arr3 (s : St) (t : Nat) : Option (List (List Nat)) := match lookT s.tm t with
  | some (.val (.agg [.arr 3 (.sl (.flt .f32)) x])) => some x
  | _ => none
def h83 : Hints := ⟨fun f k s => match f, k with
  | 83, 4 => match arr3 s 27 with
    | some x => some ⟨Nat, fun i => s.at [27] [tI 28 i], fun i => i ≤ 3 ∧ ∀ j, j < i → notBig 4800 (List.getD x j []) = true, fun i => 3 - i⟩
    | _ => none
  | 83, 7 => match listAs s 31 (.flt .f32) with
    | some l => some ⟨Nat, fun i => s.at [27, 28, 31, 32] [tI 33 i], fun i => i ≤ List.length l ∧ ∀ j, j < i → (-4800 ≤ six (List.getD l j 0) ∧ six (List.getD l j 0) ≤ 4800), fun i => List.length l - i⟩
    | _ => none
  | _, _ => none, 0⟩
end Go.Sx
namespace Go.Sx
open U
def sp83 : FSpec := ⟨fun vs => match vs with
  | [.agg [.one (.sl (.flt .f32) y), .one (.sl (.flt .f32) u), .one (.sl (.flt .f32) v)]] => some ([], .val (bV (plainP (y, u, v))))
  | _ => none, true⟩
end Go.Sx

/- What the engine asks, written out (printed by a program). -/
namespace Go.Sx
open U
theorem vc83 (y u v : List Nat) : exF (env false [(18, sp18), (23, sp23)] []) h83 0 83 Proofs.Tryz.f83 [ptV y u v] (.val (bV (plainP (y, u, v)))) = (((!shortP y u v) = false → List.length y ≤ (1000000000 : Nat)) ∧ splitB (bif bif !shortP y u v then true else chkPt y u v != (0 : Int) then true else decide ((24 : Int) < (↑(List.length y) : Int))) (false = plainP (y, u, v) ∧ True) ((∃ (g : Nat), (g ≤ (3 : Nat) ∧ ∀ (j : Nat), j < g → notBig (4800 : Int) (List.getD [y, u, v] j []) = true) ∧ (0 : Int) = (↑g : Int) ∧ [y, u, v] = [y, u, v] ∧ y = y ∧ u = u ∧ v = v ∧ True) ∧ ∀ (g : Nat), let q0 := (List.getD [y, u, v] g []); let q1 := (↑(List.length q0) : Int); (g ≤ (3 : Nat) ∧ ∀ (j : Nat), j < g → notBig (4800 : Int) (List.getD [y, u, v] j []) = true) → splitB (decide ((↑g : Int) < (3 : Int))) (((0 : Int) ≤ (↑g : Int) ∧ (↑g : Int) < (3 : Int)) ∧ (∃ (g_1 : Nat), (g_1 ≤ List.length q0 ∧ ∀ (j : Nat), j < g_1 → (-4800 : Int) ≤ six (List.getD q0 j (0 : Nat)) ∧ six (List.getD q0 j (0 : Nat)) ≤ (4800 : Int)) ∧ (0 : Int) = (↑g_1 : Int) ∧ q1 = q1 ∧ List.getD [y, u, v] g [] = List.getD [y, u, v] g [] ∧ (↑g : Int) = (↑g : Int) ∧ [y, u, v] = [y, u, v] ∧ y = y ∧ u = u ∧ v = v ∧ True) ∧ ∀ (g_1 : Nat), (g_1 ≤ List.length q0 ∧ ∀ (j : Nat), j < g_1 → (-4800 : Int) ≤ six (List.getD q0 j (0 : Nat)) ∧ six (List.getD q0 j (0 : Nat)) ≤ (4800 : Int)) → splitB (decide ((↑g_1 : Int) < q1)) (((0 : Int) ≤ (↑g_1 : Int) ∧ (↑g_1 : Int) < q1) ∧ splitB (bif Ieee.Format.order (FloatKind.format FloatKind.f32) (List.getD q0 g_1 (0 : Nat)) (1133903872 : Nat) == some Ordering.gt then true else Ieee.Format.order (FloatKind.format FloatKind.f32) (List.getD q0 g_1 (0 : Nat)) (3281387520 : Nat) == some Ordering.lt) (false = plainP (y, u, v) ∧ True) (fits IntKind.i64 ((↑g_1 : Int) + (1 : Int)) ∧ ∃ (g' : Nat), (g' ≤ List.length q0 ∧ ∀ (j : Nat), j < g' → (-4800 : Int) ≤ six (List.getD q0 j (0 : Nat)) ∧ six (List.getD q0 j (0 : Nat)) ≤ (4800 : Int)) ∧ List.length q0 - g' < List.length q0 - g_1 ∧ (↑g_1 : Int) + (1 : Int) = (↑g' : Int) ∧ q1 = q1 ∧ List.getD [y, u, v] g [] = List.getD [y, u, v] g [] ∧ (↑g : Int) = (↑g : Int) ∧ [y, u, v] = [y, u, v] ∧ y = y ∧ u = u ∧ v = v ∧ True)) (fits IntKind.i64 ((↑g : Int) + (1 : Int)) ∧ ∃ (g' : Nat), (g' ≤ (3 : Nat) ∧ ∀ (j : Nat), j < g' → notBig (4800 : Int) (List.getD [y, u, v] j []) = true) ∧ (3 : Nat) - g' < (3 : Nat) - g ∧ (↑g : Int) + (1 : Int) = (↑g' : Int) ∧ [y, u, v] = [y, u, v] ∧ y = y ∧ u = u ∧ v = v ∧ True)) (true = plainP (y, u, v) ∧ True))) := by
  kernel_rfl
end Go.Sx

/- Contracts. -/
namespace Go.Sx
open U
theorem fn83 (y u v : List Nat)  : Fn P1 gl1 83 [ptV y u v] (.val (bV (plainP (y, u, v)))) true := by
  refine Fn.flat ?_ rfl
  refine fn_of false [(18, sp18), (23, sp23)] [] h83 0 Proofs.Tryz.f83 ⟨so18, so23, trivial⟩ trivial (by kernel_rfl) rfl (by kernel_rfl) rfl rfl rfl ?_
  rw [vc83]
  try simp only [splitB_iff, -eq_self]
  refine ⟨fun h => by have := shortP_len (y := y) (u := u) (v := v) (by simpa using h); omega, fun h => ?_, fun h => ?_⟩
  · have e : plainP (y, u, v) = false := by
      unfold plainP
      simp only [bcond_l, Bool.or_eq_true, Bool.not_eq_true', bne_iff_ne, decide_eq_true_eq] at h
      have : (shortP y u v && (decide (chkPt y u v = 0) && decide (y.length ≤ 24))) = false := by
        rcases h with (h | h) | h
        · rw [h]; rfl
        · rw [decide_eq_false h]; simp
        · rw [decide_eq_false (show ¬ y.length ≤ 24 by omega)]; simp
      show ((shortP y u v && (decide (chkPt y u v = 0) && decide (y.length ≤ 24))) && _) = false
      rw [this]; rfl
    rw [e]
    exact ⟨rfl, trivial⟩
  · simp only [bcond_l, Bool.or_eq_false_iff, Bool.not_eq_false', bne_eq_false_iff_eq, decide_eq_false_iff_not] at h
    obtain ⟨⟨h1, h2⟩, h3⟩ := h
    obtain ⟨c1, c2, c3, c4, c5⟩ := chkPt_zero.1 h2
    have cy := (chkSig_zero.1 c1).2.2
    have hl := shortP_len h1
    have e : plainP (y, u, v) = (notBig 4800 y && (notBig 4800 u && notBig 4800 v)) := by
      show ((shortP y u v && (decide (chkPt y u v = 0) && decide (y.length ≤ 24))) && (notBig 4800 y && (notBig 4800 u && notBig 4800 v))) = _
      rw [h1, decide_eq_true h2, decide_eq_true (show y.length ≤ 24 by omega)]
      rfl
    have hk : ∀ g, g < 3 → OkS (List.getD [y, u, v] g []) ∧ (List.getD [y, u, v] g []).length ≤ 260 := fun g hg => by
      rcases (show g = 0 ∨ g = 1 ∨ g = 2 by omega) with rfl | rfl | rfl
      · exact ⟨cy, hl.1⟩
      · exact ⟨c4, by show u.length ≤ 260; omega⟩
      · exact ⟨c5, by show v.length ≤ 260; omega⟩
    refine ⟨⟨0, ⟨by omega, fun j hj => absurd hj (by omega)⟩, rfl, rfl, rfl, rfl, rfl, trivial⟩, fun g hg => ⟨fun hlt => ?_, fun hge => ?_⟩⟩
    · have hlt : (g : Int) < 3 := of_decide_eq_true hlt
      obtain ⟨k1, k2⟩ := hk g (by omega)
      generalize hL : List.getD [y, u, v] g [] = L at *
      refine ⟨by omega, ⟨0, ⟨by omega, fun j hj => absurd hj (by omega)⟩, rfl, rfl, rfl, rfl, rfl, rfl, rfl, rfl, trivial⟩, fun q hq => ⟨fun hl2 => ?_, fun hg2 => ?_⟩⟩
      · have hl2 : (q : Int) < (L.length : Int) := of_decide_eq_true hl2
        have o := isS_chk (k1 _ (getD_mem' (d := 0) (show q < L.length by omega)))
        have r1 : (Ieee.Format.order (FloatKind.format FloatKind.f32) (List.getD L q 0) 1133903872 == some Ordering.gt) = decide (4800 < six (List.getD L q 0)) := gt_s o isS_300
        have r2 : (Ieee.Format.order (FloatKind.format FloatKind.f32) (List.getD L q 0) 3281387520 == some Ordering.lt) = decide (six (List.getD L q 0) < -4800) := lt_s o isS_n300
        rw [r1, r2]
        refine ⟨by omega, fun k => ?_, fun k => ?_⟩
        · simp only [bcond_l, Bool.or_eq_true, decide_eq_true_eq] at k
          have nb : notBig 4800 L = false := by
            unfold notBig
            refine List.all_eq_false.2 ⟨List.getD L q 0, getD_mem' (by omega), ?_⟩
            simp only [Bool.and_eq_true, decide_eq_true_eq]
            omega
          have : plainP (y, u, v) = false := by
            rw [e]
            rcases (show g = 0 ∨ g = 1 ∨ g = 2 by omega) with rfl | rfl | rfl
            · have : y = L := hL
              rw [this, nb]; rfl
            · have : u = L := hL
              rw [this, nb]; simp
            · have : v = L := hL
              rw [this, nb]; simp
          rw [this]
          exact ⟨rfl, trivial⟩
        · simp only [bcond_l, Bool.or_eq_false_iff, decide_eq_false_iff_not] at k
          refine ⟨by simp only [fits]; omega, q + 1, ⟨by omega, fun j hj => ?_⟩, by omega, by simp, rfl, rfl, rfl, rfl, rfl, rfl, rfl, trivial⟩
          by_cases ej : j = q
          · subst ej; omega
          · exact hq.2 j (by omega)
      · have hg2 : ¬ (q : Int) < (L.length : Int) := of_decide_eq_false hg2
        refine ⟨by simp only [fits]; omega, g + 1, ⟨by omega, fun j hj => ?_⟩, by omega, by simp, rfl, rfl, rfl, rfl, trivial⟩
        by_cases ej : j = g
        · subst ej
          rw [hL]
          unfold notBig
          refine (all_get (d := 0)).2 fun i hi => ?_
          have := hq.2 i (by omega)
          simp only [Bool.and_eq_true, decide_eq_true_eq]
          exact this
        · exact hg.2 j (by omega)
    · have hge : ¬ (g : Int) < 3 := of_decide_eq_false hge
      have n0 : notBig 4800 y = true := hg.2 0 (by omega)
      have n1 : notBig 4800 u = true := hg.2 1 (by omega)
      have n2 : notBig 4800 v = true := hg.2 2 (by omega)
      rw [e, n0, n1, n2]
      exact ⟨rfl, trivial⟩
theorem so83_ : SpecOk P1 gl1 83 sp83 := by
  intro vs ps r h _
  simp only [sp83] at h
  split at h
  · cases h; exact fn83 _ _ _ 
  · cases h
theorem so83 : Sp1 83 sp83 := ⟨so83_, Proofs.Tryz.f83, _, by kernel_rfl, rfl, by kernel_rfl⟩
end Go.Sx

/- Plain functions of composite: the law Ramps. -/
namespace Go.Sx.U
open Ieee
def kbF (k : Nat) : Nat := FloatKind.nearest .f32 (k : Int)
theorem kbF_is {k : Nat} (h : k < 3) : isS (kbF k) (16 * (k : Int)) := by
  rcases (show k = 0 ∨ k = 1 ∨ k = 2 by omega) with rfl | rfl | rfl
  · exact isS_lit _ false 0 (-149) _ (by decide +kernel) (by decide)
  · exact isS_lit _ false 8388608 (-23) _ (by decide +kernel) (by decide)
  · exact isS_lit _ false 8388608 (-22) _ (by decide +kernel) (by decide)
def rampB (t : Nat) (a b : List Nat) (i : Nat) : Nat := (single.add (List.getD a i 0) ((single.mul t (List.getD b i 0)).getD 0)).getD 0
theorem ramp_at {t k : Nat} {a b : List Nat} {i : Nat} (hk : k < 3) (ht : isS t (16 * (k : Int))) (ha : OkS a) (hb : OkS b) (h1 : Bd 4800 (sixs a)) (h2 : Bd 1600 (sixs b)) (hi : i < a.length) (hl : b.length = a.length) :
    (single.mul t (List.getD b i 0)).isSome = true ∧ (single.add (List.getD a i 0) ((single.mul t (List.getD b i 0)).getD 0)).isSome = true ∧ isS (rampB t a b i) (List.getD (sixs a) i 0 + k * List.getD (sixs b) i 0) := by
  have a1 := isS_chk (ha _ (getD_mem' (d := 0) hi))
  have b1 := isS_chk (hb _ (getD_mem' (d := 0) (show i < b.length by omega)))
  have a2 := bd_get h1 (i := i) (by omega)
  have b2 := bd_get h2 (i := i) (by omega)
  rw [sixs_get] at a2 b2
  rw [sixs_get, sixs_get]
  generalize six (List.getD a i 0) = m at *
  generalize six (List.getD b i 0) = n at *
  have q : (k : Int) * n = 0 ∨ (k : Int) * n = n ∨ (k : Int) * n = 2 * n := by
    rcases (show k = 0 ∨ k = 1 ∨ k = 2 by omega) with rfl | rfl | rfl
    · exact .inl (by simp)
    · exact .inr (.inl (by simp))
    · exact .inr (.inr rfl)
  obtain ⟨z, z1, z2⟩ := mul_s ht b1 (by rcases q with q | q | q <;> rw [q] <;> omega)
  obtain ⟨w, w1, w2⟩ := add_s a1 z2 (by rcases q with q | q | q <;> rw [q] <;> omega)
  unfold rampB
  rw [z1, Option.getD_some, w1]
  exact ⟨rfl, rfl, w2⟩
def RampPre (a b : List Nat) (t : Nat) : Prop := (∃ k : Nat, k < 3 ∧ isS t (16 * (k : Int))) ∧ OkS a ∧ OkS b ∧ Bd 4800 (sixs a) ∧ Bd 1600 (sixs b) ∧ b.length = a.length ∧ a.length ≤ 1000
def rampL (t : Nat) (a b : List Nat) : List Nat := tab a.length (rampB t a b)
def rmp (t : Nat) (x c : Pt) : Pt := (rampL t x.1 c.1, rampL t x.2.1 c.2.1, rampL t x.2.2 c.2.2)
structure RmpOk (x c : Pt) : Prop where
  px : plainP x = true
  pc : plainP c = true
  len : c.1.length = x.1.length
  sm : bigP 1600 c = true
theorem rmp_small {x c : Pt} (h : RmpOk x c) : Bd 1600 (sixs c.1) ∧ Bd 1600 (sixs c.2.1) ∧ Bd 1600 (sixs c.2.2) := by
  have := h.sm
  unfold bigP at this
  simp only [Bool.and_eq_true, notBig_bd] at this
  exact ⟨this.1, this.2.1, this.2.2⟩
theorem rmp_lens {x c : Pt} (h : RmpOk x c) : x.1.length % 4 = 0 ∧ x.2.1.length = x.1.length / 4 ∧ x.2.2.length = x.1.length / 4 ∧ c.2.1.length = x.2.1.length ∧ c.2.2.length = x.2.2.length := by
  obtain ⟨i1, i2, i3⟩ := (chkP_it (plain_of h.px).1).1
  obtain ⟨j1, j2, j3⟩ := (chkP_it (plain_of h.pc).1).1
  have hl := h.len
  rw [sixs_len] at i1 i2 i3 j1 j2 j3
  rw [sixs_len] at i2 i3 j2 j3
  omega
def rmI (k : Nat) (a b : List Int) : List Int := tab a.length fun i => List.getD a i 0 + k * List.getD b i 0
theorem rmI_len (k : Nat) (a b : List Int) : (rmI k a b).length = a.length := by unfold rmI; rw [tab_len]
theorem rampL_ok {k : Nat} {a b : List Nat} (hk : k < 3) (ha : OkS a) (hb : OkS b) (h1 : Bd 4800 (sixs a)) (h2 : Bd 1600 (sixs b)) (hl : b.length = a.length) :
    OkS (rampL (kbF k) a b) ∧ sixs (rampL (kbF k) a b) = rmI k (sixs a) (sixs b) ∧ Bd 8000 (rmI k (sixs a) (sixs b)) ∧ (rampL (kbF k) a b).length = a.length := by
  have hB : Bd 8000 (rmI k (sixs a) (sixs b)) := by
    unfold rmI
    refine bd_tab fun i _ => ?_
    have a2 := bd_get h1 (i := i) (by omega)
    have b2 := bd_get h2 (i := i) (by omega)
    rcases (show k = 0 ∨ k = 1 ∨ k = 2 by omega) with rfl | rfl | rfl <;> omega
  have key : ∀ i, i < a.length → isS (rampB (kbF k) a b i) (List.getD (sixs a) i 0 + k * List.getD (sixs b) i 0) := fun i hi => (ramp_at hk (kbF_is hk) ha hb h1 h2 hi hl).2.2
  have hs : sixs (rampL (kbF k) a b) = rmI k (sixs a) (sixs b) := by
    unfold rampL sixs rmI
    rw [tab_map, List.length_map]
    exact tab_ext fun i hi => isS_six (key i hi)
  refine ⟨fun x hx => ?_, hs, hB, by unfold rampL; rw [tab_len]⟩
  obtain ⟨i, hi, e⟩ := mem_tab hx
  rw [← e]
  have hb2 := bd_get hB (i := i) (by omega)
  unfold rmI at hb2
  rw [tab_get (by rw [sixs_len]; exact hi)] at hb2
  exact isS_to_chk (key i hi) (by omega) (by omega)
structure RmFacts (x c : Pt) (k : Nat) : Prop where
  chk : chkP (rmp (kbF k) x c) = 0
  len : (rmp (kbF k) x c).1.length = x.1.length
  y : sixs (rmp (kbF k) x c).1 = rmI k (sixs x.1) (sixs c.1)
  u : sixs (rmp (kbF k) x c).2.1 = rmI k (sixs x.2.1) (sixs c.2.1)
  v : sixs (rmp (kbF k) x c).2.2 = rmI k (sixs x.2.2) (sixs c.2.2)
  by' : Bd 8000 (rmI k (sixs x.1) (sixs c.1))
  bu : Bd 8000 (rmI k (sixs x.2.1) (sixs c.2.1))
  bv : Bd 8000 (rmI k (sixs x.2.2) (sixs c.2.2))
  lu : (rmp (kbF k) x c).2.1.length = x.2.1.length
  lv : (rmp (kbF k) x c).2.2.length = x.2.2.length
theorem rm_facts {x c : Pt} (h : RmpOk x c) {k : Nat} (hk : k < 3) : RmFacts x c k := by
  obtain ⟨hc, hl, hy, hu, hv⟩ := plain_of h.px
  obtain ⟨_, k1, k2, k3⟩ := chkP_it hc
  obtain ⟨_, c1, c2, c3⟩ := chkP_it (plain_of h.pc).1
  obtain ⟨s1, s2, s3⟩ := rmp_small h
  obtain ⟨l0, l1, l2, l3, l4⟩ := rmp_lens h
  obtain ⟨y1, y2, y3, y4⟩ := rampL_ok hk k1 c1 hy s1 h.len
  obtain ⟨u1, u2, u3, u4⟩ := rampL_ok hk k2 c2 hu s2 l3
  obtain ⟨v1, v2, v3, v4⟩ := rampL_ok hk k3 c3 hv s3 l4
  refine ⟨?_, y4, y2, u2, v2, y3, u3, v3, u4, v4⟩
  refine chkPt_zero.2 ⟨chkSig_zero.2 ⟨?_, ?_, y1⟩, ?_, ?_, u1, v1⟩
  · show (rampL _ _ _).length ≤ _; rw [y4]; omega
  · show (rampL _ _ _).length % 4 = 0; rw [y4]; omega
  · show (rampL _ _ _).length = (rampL _ _ _).length / 4; rw [y4, u4]; omega
  · show (rampL _ _ _).length = (rampL _ _ _).length / 4; rw [y4, v4]; omega
def rsg (x c : Pt) (k : Nat) : List Int := sgI (rmp (kbF k) x c) k
theorem rsg_bd {x c : Pt} (h : RmpOk x c) {k : Nat} (hk : k < 3) : Bd 16000 (rsg x c k) := by
  have f := rm_facts h hk
  unfold rsg sgI
  rw [f.y, f.u, f.v]
  exact bd_line (A := 8000) (B := 8000) (by omega) (by omega) (signI_cases _) f.by' f.bu f.bv
theorem rsg_len {x c : Pt} (h : RmpOk x c) {k : Nat} (hk : k < 3) : (rsg x c k).length = x.1.length := by
  unfold rsg
  rw [sgI_len]
  exact (rm_facts h hk).len
theorem rsg_get {x c : Pt} (h : RmpOk x c) {k : Nat} (hk : k < 3) {n : Nat} (hn : n < x.1.length) : List.getD (rsg x c k) n 0 = (List.getD (sixs x.1) n 0 + k * List.getD (sixs c.1) n 0) + carN (List.getD (sixs x.2.1) (n / 4) 0 + k * List.getD (sixs c.2.1) (n / 4) 0) (List.getD (sixs x.2.2) (n / 4) 0 + k * List.getD (sixs c.2.2) (n / 4) 0) (n % 4) (signI k) := by
  have f := rm_facts h hk
  obtain ⟨l0, l1, l2, l3, l4⟩ := rmp_lens h
  unfold rsg sgI
  rw [f.y, f.u, f.v, lineI_get (by rw [rmI_len, sixs_len]; exact hn)]
  unfold rmI
  rw [tab_get (by rw [sixs_len]; exact hn), tab_get (by rw [sixs_len]; omega), tab_get (by rw [sixs_len]; omega)]
def rampF (x c : Pt) : Fld := tab 3 fun k => (rsg x c k).map smp
def rmpS (x c : Pt) : List Pt := tab 3 fun k => rmp (kbF k) x c
theorem three_cases {i : Nat} (h : i < 3) : i = 0 ∨ i = 1 ∨ i = 2 := by omega
theorem rampF_get (x c : Pt) {i : Nat} (h : i < 3) : List.getD (rampF x c) i [] = (rsg x c i).map smp := by unfold rampF; rw [tab_get h]
theorem rmpS_get (x c : Pt) {i : Nat} (h : i < 3) : pAt (rmpS x c) i = rmp (kbF i) x c := by unfold rmpS pAt; rw [tab_get h]
theorem rmp_enc {x c : Pt} (h : RmpOk x c) : encFE (rmpS x c) = 0 ∧ encFN (rmpS x c) = rampF x c := by
  have hl : (rmpS x c).length = 3 := by unfold rmpS; rw [tab_len]
  have c0 : chkLs (rmpS x c) = 0 := by
    refine chkLs_zero.2 ⟨by omega, fun i hi => ?_⟩
    rw [rmpS_get x c (by omega), rmpS_get x c (by omega), (rm_facts h (show i < 3 by omega)).len, (rm_facts h (show 0 < 3 by omega)).len]
    exact ⟨(rm_facts h (show i < 3 by omega)).chk, rfl⟩
  have hP : ∀ i, i < 3 → encP (rmpS x c) i = rsg x c i := fun i hi => by
    unfold encP
    rw [rmpS_get x c hi]
    exact encI_sg (rm_facts h hi).chk i
  have hE : encFE (rmpS x c) = 0 := by
    unfold encFE
    rw [if_pos c0, hl]
    refine upTo_zero.2 fun i hi => ?_
    rw [hP i hi]
    exact lgE_of (bd_le (rsg_bd h hi) (by omega))
  refine ⟨hE, ?_⟩
  unfold encFN
  rw [if_pos hE, hl]
  exact tab_ext fun i hi => by rw [hP i hi, smpsN_of (bd_le (rsg_bd h hi) (by omega))]
theorem ramp_fld {x c : Pt} (h : RmpOk x c) : chkFld (rampF x c) = 0 := by
  obtain ⟨l0, _⟩ := rmp_lens h
  have hl := (plain_of h.px).2.1
  refine chkFld_zero.2 ⟨by unfold rampF; rw [tab_len]; omega, fun i hi => ?_⟩
  have hi : i < 3 := by unfold rampF at hi; rwa [tab_len] at hi
  rw [rampF_get x c hi, rampF_get x c (by omega), List.length_map, List.length_map, rsg_len h hi, rsg_len h (by omega)]
  exact ⟨chkSig_zero.2 ⟨by rw [List.length_map, rsg_len h hi]; omega, by rw [List.length_map, rsg_len h hi]; exact l0, smp_ok (bd_le (rsg_bd h hi) (by omega))⟩, rfl⟩
theorem ramp_rw {x c : Pt} (h : RmpOk x c) {k : Nat} (hk : k < 3) : rwI ((rampF x c).map sixs) (k : Int) = rsg x c k := by
  rw [rwI_nat, rampF_get x c hk, six_smps (bd_le (rsg_bd h hk) (by omega))]
theorem thr_get {x c : Pt} (h : RmpOk x c) {n : Nat} (hn : n < x.1.length) : List.getD (thrL ((rampF x c).map sixs) 1) n 0 = 4 * carN (List.getD (sixs x.2.1) (n / 4) 0 + List.getD (sixs c.2.1) (n / 4) 0) (List.getD (sixs x.2.2) (n / 4) 0 + List.getD (sixs c.2.2) (n / 4) 0) (n % 4) (-1) := by
  have e0 := ramp_rw h (k := 0) (by omega)
  have e1 := ramp_rw h (k := 1) (by omega)
  have e2 := ramp_rw h (k := 2) (by omega)
  unfold thrL
  have e0' : rwI ((rampF x c).map sixs) (1 - 1) = rsg x c 0 := e0
  have e1' : rwI ((rampF x c).map sixs) 1 = rsg x c 1 := e1
  have e2' : rwI ((rampF x c).map sixs) (1 + 1) = rsg x c 2 := e2
  rw [e0', e1', e2', thrD_tab (by rw [rsg_len h (by omega), rsg_len h (by omega)]), tab_get (by rw [rsg_len h (by omega)]; exact hn), rsg_get h (by omega) hn, rsg_get h (by omega) hn, rsg_get h (by omega) hn]
  have s0 : signI ((0 : Nat) : Int) = 1 := rfl
  have s1 : signI ((1 : Nat) : Int) = -1 := rfl
  have s2 : signI ((2 : Nat) : Int) = 1 := rfl
  rw [s0, s1, s2]
  generalize List.getD (sixs x.1) n 0 = a
  generalize List.getD (sixs c.1) n 0 = b
  generalize List.getD (sixs x.2.1) (n / 4) 0 = u
  generalize List.getD (sixs c.2.1) (n / 4) 0 = du
  generalize List.getD (sixs x.2.2) (n / 4) 0 = v
  generalize List.getD (sixs c.2.2) (n / 4) 0 = dv
  unfold carN
  split <;> omega
theorem thrL_len {x c : Pt} (h : RmpOk x c) : (thrL ((rampF x c).map sixs) 1).length = x.1.length := by
  have e1 : rwI ((rampF x c).map sixs) 1 = rsg x c 1 := ramp_rw h (k := 1) (by omega)
  unfold thrL
  rw [thrD_len, e1, rsg_len h (by omega)]
theorem thr_diff {x c : Pt} (h : RmpOk x c) {q : Nat} (hq : q < x.2.1.length) : diffAt 0 (thrL ((rampF x c).map sixs) 1) q 1 8 = List.getD (sixs x.2.1) q 0 + List.getD (sixs c.2.1) q 0 ∧ diffAt 1 (thrL ((rampF x c).map sixs) 1) q 1 8 = List.getD (sixs x.2.2) q 0 + List.getD (sixs c.2.2) q 0 := by
  obtain ⟨l0, l1, l2, l3, l4⟩ := rmp_lens h
  have p0 := place4 q 0 (by omega)
  have p1 := place4 q 1 (by omega)
  have p2 := place4 q 2 (by omega)
  have p3 := place4 q 3 (by omega)
  have s1 : signI 1 = -1 := rfl
  unfold diffAt
  rw [Nat.add_assoc (4 * q) 0 2, Nat.add_assoc (4 * q) 1 2, s1]
  show roundI (-1 * (_ - List.getD _ (4 * q + 2) 0)) 8 = _ ∧ roundI (-1 * (_ - List.getD _ (4 * q + 3) 0)) 8 = _
  rw [thr_get h (by omega), thr_get h (by omega), thr_get h (by omega), thr_get h (by omega), p0.1, p0.2, p1.1, p1.2, p2.1, p2.2, p3.1, p3.2]
  unfold carN roundI
  simp only
  omega
theorem ramp_use {x c : Pt} {k : Nat} (hk : k < 3) {lim : Int} {q : Nat} (hu : useC ((rampF x c).map sixs) k lim q = true) : k = 1 := by
  have := useC_in hu
  rw [List.length_map] at this
  unfold rampF at this
  rw [tab_len] at this
  omega
theorem cho_near {x c : Pt} (h : RmpOk x c) {k : Nat} (hk : k < 3) (lim : Int) {q : Nat} (hq : q < x.2.1.length) :
    (-8000 ≤ choC 0 ((rampF x c).map sixs) k lim q - (List.getD (sixs x.2.1) q 0 + k * List.getD (sixs c.2.1) q 0) ∧ choC 0 ((rampF x c).map sixs) k lim q - (List.getD (sixs x.2.1) q 0 + k * List.getD (sixs c.2.1) q 0) ≤ 8000) ∧
    (-8000 ≤ choC 1 ((rampF x c).map sixs) k lim q - (List.getD (sixs x.2.2) q 0 + k * List.getD (sixs c.2.2) q 0) ∧ choC 1 ((rampF x c).map sixs) k lim q - (List.getD (sixs x.2.2) q 0 + k * List.getD (sixs c.2.2) q 0) ≤ 8000) := by
  obtain ⟨l0, l1, l2, l3, l4⟩ := rmp_lens h
  by_cases hu : useC ((rampF x c).map sixs) k lim q = true
  · have hk1 := ramp_use hk hu
    subst hk1
    rw [choC_t 0 hu, choC_t 1 hu]
    obtain ⟨d0, d1⟩ := thr_diff h hq
    have d0' : diffAt 0 (thrL ((rampF x c).map sixs) ((1 : Nat) : Int)) q ((1 : Nat) : Int) 8 = _ := d0
    have d1' : diffAt 1 (thrL ((rampF x c).map sixs) ((1 : Nat) : Int)) q ((1 : Nat) : Int) 8 = _ := d1
    rw [d0', d1']
    omega
  · have hu : useC ((rampF x c).map sixs) k lim q = false := by simpa using hu
    rw [choC_f 0 hu, choC_f 1 hu, ramp_rw h hk]
    have f := rm_facts h hk
    have un := bd_un f.by' (by omega)
    have hz := unev_nonneg (rmI k (sixs x.1) (sixs c.1))
    have nb := band_near (y := rmI k (sixs x.1) (sixs c.1)) (u := rmI k (sixs x.2.1) (sixs c.2.1)) (v := rmI k (sixs x.2.2) (sixs c.2.2)) (line := k) (c := q) (by rw [rmI_len, sixs_len]; omega)
    have e : rsg x c k = lineI (rmI k (sixs x.1) (sixs c.1)) (rmI k (sixs x.2.1) (sixs c.2.1)) (rmI k (sixs x.2.2) (sixs c.2.2)) (signI k) := by
      unfold rsg sgI
      rw [f.y, f.u, f.v]
    have eu : List.getD (rmI k (sixs x.2.1) (sixs c.2.1)) q 0 = List.getD (sixs x.2.1) q 0 + k * List.getD (sixs c.2.1) q 0 := by unfold rmI; rw [tab_get (by rw [sixs_len]; exact hq)]
    have ev : List.getD (rmI k (sixs x.2.2) (sixs c.2.2)) q 0 = List.getD (sixs x.2.2) q 0 + k * List.getD (sixs c.2.2) q 0 := by unfold rmI; rw [tab_get (by rw [sixs_len]; omega)]
    rw [← e, eu, ev] at nb
    generalize diffAt 0 (rsg x c k) q k 2 = D at *
    generalize diffAt 1 (rsg x c k) q k 2 = E at *
    omega
theorem choY_eq {x c : Pt} (h : RmpOk x c) {k : Nat} (hk : k < 3) (lim : Int) (n : Nat) : choY ((rampF x c).map sixs) k lim n = List.getD (rsg x c k) n 0 - carN (choC 0 ((rampF x c).map sixs) k lim (n / 4)) (choC 1 ((rampF x c).map sixs) k lim (n / 4)) (n % 4) (signI k) := by
  by_cases hu : useC ((rampF x c).map sixs) k lim (n / 4) = true
  · rw [choY_t hu rfl, choC_t 0 hu, choC_t 1 hu, ramp_rw h hk]
    rfl
  · have hu : useC ((rampF x c).map sixs) k lim (n / 4) = false := by simpa using hu
    rw [choY_f hu rfl, choC_f 0 hu, choC_f 1 hu, ramp_rw h hk]
    rfl
theorem ramp_val {x c : Pt} (h : RmpOk x c) {k : Nat} (hk : k < 3) : (∀ i, -8000 ≤ List.getD (sixs x.1) i 0 + k * List.getD (sixs c.1) i 0 ∧ List.getD (sixs x.1) i 0 + k * List.getD (sixs c.1) i 0 ≤ 8000) ∧ (∀ i, -8000 ≤ List.getD (sixs x.2.1) i 0 + k * List.getD (sixs c.2.1) i 0 ∧ List.getD (sixs x.2.1) i 0 + k * List.getD (sixs c.2.1) i 0 ≤ 8000) ∧ (∀ i, -8000 ≤ List.getD (sixs x.2.2) i 0 + k * List.getD (sixs c.2.2) i 0 ∧ List.getD (sixs x.2.2) i 0 + k * List.getD (sixs c.2.2) i 0 ≤ 8000) := by
  obtain ⟨_, _, hy, hu, hv⟩ := plain_of h.px
  obtain ⟨s1, s2, s3⟩ := rmp_small h
  refine ⟨fun i => ?_, fun i => ?_, fun i => ?_⟩
  · have a := bd_get hy (i := i) (by omega)
    have b := bd_get s1 (i := i) (by omega)
    rcases three_cases hk with rfl | rfl | rfl <;> omega
  · have a := bd_get hu (i := i) (by omega)
    have b := bd_get s2 (i := i) (by omega)
    rcases three_cases hk with rfl | rfl | rfl <;> omega
  · have a := bd_get hv (i := i) (by omega)
    have b := bd_get s3 (i := i) (by omega)
    rcases three_cases hk with rfl | rfl | rfl <;> omega
theorem choI_len' {x c : Pt} (h : RmpOk x c) {k : Nat} (hk : k < 3) (lim : Int) : (choI ((rampF x c).map sixs) k lim).1.length = x.1.length ∧ (choI ((rampF x c).map sixs) k lim).2.1.length = x.2.1.length ∧ (choI ((rampF x c).map sixs) k lim).2.2.length = x.2.1.length ∧ (choU ((rampF x c).map sixs) k lim).length = x.2.1.length := by
  obtain ⟨l0, l1, l2, l3, l4⟩ := rmp_lens h
  unfold choI choU
  rw [ramp_rw h hk, rsg_len h hk]
  refine ⟨tab_len _ _, ?_, ?_, ?_⟩
  · show (tab _ _).length = _; rw [tab_len]; omega
  · show (tab _ _).length = _; rw [tab_len]; omega
  · rw [tab_len]; omega
theorem choI_bd {x c : Pt} (h : RmpOk x c) {k : Nat} (hk : k < 3) (lim : Int) : Bd 16000 (choI ((rampF x c).map sixs) k lim).1 ∧ Bd 16000 (choI ((rampF x c).map sixs) k lim).2.1 ∧ Bd 16000 (choI ((rampF x c).map sixs) k lim).2.2 := by
  obtain ⟨l0, l1, l2, l3, l4⟩ := rmp_lens h
  obtain ⟨v1, v2, v3⟩ := ramp_val h hk
  unfold choI
  rw [ramp_rw h hk, rsg_len h hk]
  refine ⟨bd_tab fun n hn => ?_, bd_tab fun q hq => ?_, bd_tab fun q hq => ?_⟩
  · rw [choY_eq h hk, rsg_get h hk hn]
    obtain ⟨n1, n2⟩ := cho_near h hk lim (q := n / 4) (by omega)
    have e := carN_sub (choC 0 ((rampF x c).map sixs) k lim (n / 4)) (choC 1 ((rampF x c).map sixs) k lim (n / 4)) (List.getD (sixs x.2.1) (n / 4) 0 + k * List.getD (sixs c.2.1) (n / 4) 0) (List.getD (sixs x.2.2) (n / 4) 0 + k * List.getD (sixs c.2.2) (n / 4) 0) (n % 4) (signI k)
    have b := carN_bd (k := n % 4) (signI_cases k) n1 n2
    have w := v1 n
    generalize List.getD (sixs x.1) n 0 + (k : Int) * List.getD (sixs c.1) n 0 = A at *
    omega
  · obtain ⟨n1, _⟩ := cho_near h hk lim (q := q) (by omega)
    have w := v2 q
    generalize List.getD (sixs x.2.1) q 0 + (k : Int) * List.getD (sixs c.2.1) q 0 = A at *
    omega
  · obtain ⟨_, n1⟩ := cho_near h hk lim (q := q) (by omega)
    have w := v3 q
    generalize List.getD (sixs x.2.2) q 0 + (k : Int) * List.getD (sixs c.2.2) q 0 = A at *
    omega
def rdP (x c : Pt) (k : Nat) (lim : Int) : Pt := ((choI ((rampF x c).map sixs) k lim).1.map smp, (choI ((rampF x c).map sixs) k lim).2.1.map smp, (choI ((rampF x c).map sixs) k lim).2.2.map smp)
theorem rd_parts {x c : Pt} (h : RmpOk x c) {k : Nat} (hk : k < 3) (lim : Int) : partsE (choI ((rampF x c).map sixs) k lim) = 0 ∧ partsP (choI ((rampF x c).map sixs) k lim) = rdP x c k lim := by
  obtain ⟨b1, b2, b3⟩ := choI_bd h hk lim
  exact parts_ok (bd_le b1 (by omega)) (bd_le b2 (by omega)) (bd_le b3 (by omega))
theorem ramp_dec {x c : Pt} (h : RmpOk x c) {lim : Int} (hl : 0 ≤ lim ∧ lim ≤ 1048576) : decB (rampF x c) lim = 0 ∧ decE (rampF x c) lim = 0 ∧ decP (rampF x c) lim = (tab 3 fun k => rdP x c k lim) ∧ decU (rampF x c) lim = tab 3 fun k => choU ((rampF x c).map sixs) k lim := by
  have hn : (rampF x c).length = 3 := by unfold rampF; rw [tab_len]
  have hB : decB (rampF x c) lim = 0 := by
    unfold decB
    refine first_zero.2 fun e he => ?_
    rcases List.mem_cons.1 he with rfl | he
    · exact ramp_fld h
    · rcases List.mem_cons.1 he with rfl | he
      · exact within_zero.2 hl
      · cases he
  have hE : decE (rampF x c) lim = 0 := by
    rw [decE_of hB, hn]
    exact upTo_zero.2 fun i hi => (rd_parts h hi lim).1
  refine ⟨hB, hE, ?_, ?_⟩
  · unfold decP
    rw [if_pos hE, hn]
    exact tab_ext fun i hi => (rd_parts h hi lim).2
  · unfold decU
    rw [if_pos hE, hn]
theorem ramp_neg {x c : Pt} (h : RmpOk x c) : decE (rampF x c) (-1) = 3 := by
  have hB : decB (rampF x c) (-1) = 3 := by
    unfold decB
    rw [ramp_fld h]
    decide
  unfold decE
  rw [if_neg (by rw [hB]; decide), hB]
theorem mid_eq {x c : Pt} (h : RmpOk x c) {lim : Int} (hu : ∀ q, q < x.2.1.length → useC ((rampF x c).map sixs) 1 lim q = true) : choI ((rampF x c).map sixs) 1 lim = (sixs (rmp (kbF 1) x c).1, sixs (rmp (kbF 1) x c).2.1, sixs (rmp (kbF 1) x c).2.2) := by
  obtain ⟨l0, l1, l2, l3, l4⟩ := rmp_lens h
  have f := rm_facts h (k := 1) (by omega)
  have e1 : rwI ((rampF x c).map sixs) 1 = rsg x c 1 := ramp_rw h (k := 1) (by omega)
  have hc0 : ∀ q, q < x.2.1.length → choC 0 ((rampF x c).map sixs) 1 lim q = List.getD (sixs x.2.1) q 0 + List.getD (sixs c.2.1) q 0 := fun q hq => by rw [choC_t 0 (hu q hq), (thr_diff h hq).1]
  have hc1 : ∀ q, q < x.2.1.length → choC 1 ((rampF x c).map sixs) 1 lim q = List.getD (sixs x.2.2) q 0 + List.getD (sixs c.2.2) q 0 := fun q hq => by rw [choC_t 1 (hu q hq), (thr_diff h hq).2]
  rw [f.y, f.u, f.v]
  unfold choI rmI
  rw [e1, rsg_len h (by omega), sixs_len, sixs_len, sixs_len, l1, l2]
  refine Prod.ext (tab_ext fun n hn => ?_) (Prod.ext (tab_ext fun q hq => ?_) (tab_ext fun q hq => ?_))
  · have e := choY_eq h (k := 1) (by omega) lim n
    have e' : choY ((rampF x c).map sixs) 1 lim n = _ := e
    rw [e', rsg_get h (by omega) hn]
    have c0 : choC 0 ((rampF x c).map sixs) ((1 : Nat) : Int) lim (n / 4) = _ := hc0 (n / 4) (by omega)
    have c1 : choC 1 ((rampF x c).map sixs) ((1 : Nat) : Int) lim (n / 4) = _ := hc1 (n / 4) (by omega)
    rw [c0, c1]
    have o : ∀ z : Int, ((1 : Nat) : Int) * z = z := fun z => Int.one_mul z
    rw [o, o, o]
    omega
  · rw [hc0 q (by omega)]
    show _ = _ + 1 * _
    omega
  · rw [hc1 q (by omega)]
    show _ = _ + 1 * _
    omega
theorem use_great {x c : Pt} (h : RmpOk x c) {q : Nat} : useC ((rampF x c).map sixs) 1 1048576 q = true := by
  have e0 : rwI ((rampF x c).map sixs) (1 - 1) = rsg x c 0 := ramp_rw h (k := 0) (by omega)
  have e2 : rwI ((rampF x c).map sixs) (1 + 1) = rsg x c 2 := ramp_rw h (k := 2) (by omega)
  have hd := dstTo_bd (rsg_bd h (k := 0) (by omega)) (rsg_bd h (k := 2) (by omega)) (by omega) q 4
  unfold useC
  rw [e0, e2, List.length_map]
  have hn : (rampF x c).length = 3 := by unfold rampF; rw [tab_len]
  rw [hn]
  have : dstTo (rsg x c 0) (rsg x c 2) q 4 ≤ 1048576 := by
    have : ((4 : Nat) : Int) * (2 * 16000) = 128000 := by decide
    omega
  simp [this]
theorem rd_mid {x c : Pt} (h : RmpOk x c) {lim : Int} (hu : ∀ q, q < x.2.1.length → useC ((rampF x c).map sixs) 1 lim q = true) : sameP (rdP x c 1 lim) (rmp (kbF 1) x c) = true := by
  have f := rm_facts h (k := 1) (by omega)
  obtain ⟨_, k1, k2, k3⟩ := chkP_it f.chk
  have e := mid_eq h hu
  have key : ∀ l : List Nat, OkS l → sameS ((sixs l).map smp) l = true := fun l hl => by
    rw [sameS_six (smp_ok (bd_sixs hl)) hl, six_smps (bd_sixs hl)]
    simp
  unfold rdP
  have e' : choI ((rampF x c).map sixs) ((1 : Nat) : Int) lim = _ := e
  rw [e']
  unfold sameP
  simp only
  rw [key _ k1, key _ k2, key _ k3]
  rfl
theorem ramp_three {x c : Pt} (h : RmpOk x c) : errE (threeE (rampF x c) 1) (threeL (rampF x c) 1) = 0 ∧ sameP (errP (threeE (rampF x c) 1) (threeL (rampF x c) 1)) (rmp (kbF 1) x c) = true := by
  obtain ⟨l0, l1, l2, l3, l4⟩ := rmp_lens h
  have hn : (rampF x c).length = 3 := by unfold rampF; rw [tab_len]
  have hE : threeE (rampF x c) 1 = 0 := threeE_zero.2 ⟨ramp_fld h, by omega, by rw [hn]; decide⟩
  have e1 : rwI ((rampF x c).map sixs) 1 = rsg x c 1 := ramp_rw h (k := 1) (by omega)
  have hT : threeL (rampF x c) 1 = choI ((rampF x c).map sixs) 1 1048576 := by
    have t1 : threeL (rampF x c) 1 = apartI (rwI ((rampF x c).map sixs) 1) (thrL ((rampF x c).map sixs) 1) 1 8 := by
      unfold threeL threeI thrL lnI
      rw [rwI_map, rwI_map, rwI_map]
    rw [t1, apartI_eq (by rw [thrL_len h, e1, rsg_len h (by omega)]) (by rw [e1, rsg_len h (by omega)]; exact l0)]
    unfold choI diffN
    rw [thrL_len h, e1, rsg_len h (by omega)]
    refine Prod.ext (tab_ext fun n _ => ?_) (Prod.ext (tab_ext fun q _ => ?_) (tab_ext fun q _ => ?_))
    · rw [choY_t (use_great h) rfl, e1]
    · rw [choC_t 0 (use_great h)]
    · rw [choC_t 1 (use_great h)]
  obtain ⟨p1, p2⟩ := rd_parts h (k := 1) (by omega) 1048576
  have p1' : partsE (choI ((rampF x c).map sixs) 1 1048576) = 0 := p1
  have p2' : partsP (choI ((rampF x c).map sixs) 1 1048576) = rdP x c 1 1048576 := p2
  unfold errE errP
  rw [if_pos hE, if_pos hE, hT, p1', p2']
  exact ⟨rfl, rd_mid h fun q _ => use_great h⟩
theorem rd_chk {x c : Pt} (h : RmpOk x c) {k : Nat} (hk : k < 3) (lim : Int) : chkP (rdP x c k lim) = 0 ∧ (rdP x c k lim).1.length = x.1.length ∧ (rdP x c k lim).2.1.length = x.2.1.length ∧ (rdP x c k lim).2.2.length = x.2.1.length := by
  obtain ⟨l0, l1, l2, l3, l4⟩ := rmp_lens h
  have hl := (plain_of h.px).2.1
  obtain ⟨b1, b2, b3⟩ := choI_bd h hk lim
  obtain ⟨e1, e2, e3, _⟩ := choI_len' h hk lim
  refine ⟨chk_parts (bd_le b1 (by omega)) (bd_le b2 (by omega)) (bd_le b3 (by omega)) (by omega) ⟨by omega, by omega, by omega⟩, ?_, ?_, ?_⟩ <;> unfold rdP <;> simp only [List.length_map] <;> assumption
theorem rd_sg {x c : Pt} (h : RmpOk x c) {k : Nat} (hk : k < 3) (lim : Int) : sgI (rdP x c k lim) k = rsg x c k := by
  obtain ⟨l0, l1, l2, l3, l4⟩ := rmp_lens h
  obtain ⟨b1, b2, b3⟩ := choI_bd h hk lim
  have e1 : sixs (rdP x c k lim).1 = (choI ((rampF x c).map sixs) k lim).1 := six_smps (bd_le b1 (by omega))
  have e2 : sixs (rdP x c k lim).2.1 = (choI ((rampF x c).map sixs) k lim).2.1 := six_smps (bd_le b2 (by omega))
  have e3 : sixs (rdP x c k lim).2.2 = (choI ((rampF x c).map sixs) k lim).2.2 := six_smps (bd_le b3 (by omega))
  unfold sgI
  rw [e1, e2, e3]
  obtain ⟨n1, _⟩ := choI_len' h hk lim
  unfold lineI
  rw [n1]
  refine (eq_tab 0 (rsg_len h hk) fun i hi => ?_).symm
  unfold choI
  rw [ramp_rw h hk, rsg_len h hk, tab_get hi, tab_get (by omega), tab_get (by omega), choY_eq h hk]
  omega
theorem rd_list {x c : Pt} (h : RmpOk x c) (lim : Int) : chkLs (tab 3 fun k => rdP x c k lim) = 0 ∧ encFE (tab 3 fun k => rdP x c k lim) = 0 ∧ encFN (tab 3 fun k => rdP x c k lim) = rampF x c := by
  have hl : (tab 3 fun k => rdP x c k lim).length = 3 := tab_len _ _
  have hg : ∀ i, i < 3 → pAt (tab 3 fun k => rdP x c k lim) i = rdP x c i lim := fun i hi => by unfold pAt; rw [tab_get hi]
  have c0 : chkLs (tab 3 fun k => rdP x c k lim) = 0 := by
    refine chkLs_zero.2 ⟨by omega, fun i hi => ?_⟩
    rw [hl] at hi
    rw [hg i hi, hg 0 (by omega), (rd_chk h hi lim).2.1, (rd_chk h (show 0 < 3 by omega) lim).2.1]
    exact ⟨(rd_chk h hi lim).1, rfl⟩
  have hP : ∀ i, i < 3 → encP (tab 3 fun k => rdP x c k lim) i = rsg x c i := fun i hi => by
    unfold encP
    rw [hg i hi, encI_sg (rd_chk h hi lim).1 i, rd_sg h hi]
  have hE : encFE (tab 3 fun k => rdP x c k lim) = 0 := by
    unfold encFE
    rw [if_pos c0, hl]
    refine upTo_zero.2 fun i hi => ?_
    rw [hP i hi]
    exact lgE_of (bd_le (rsg_bd h hi) (by omega))
  refine ⟨c0, hE, ?_⟩
  unfold encFN
  rw [if_pos hE, hl]
  exact tab_ext fun i hi => by rw [hP i hi, smpsN_of (bd_le (rsg_bd h hi) (by omega))]
theorem ramp_band {x c : Pt} (h : RmpOk x c) {k : Nat} (hk : k < 3) : bndE ((rsg x c k).map smp) k = 0 ∧ bndP ((rsg x c k).map smp) k = ((bandI (rsg x c k) k).1.map smp, (bandI (rsg x c k) k).2.1.map smp, (bandI (rsg x c k) k).2.2.map smp) ∧ (bandI (rsg x c k) k).2.1.length = x.2.1.length ∧ (bandI (rsg x c k) k).2.2.length = x.2.1.length := by
  obtain ⟨l0, l1, l2, l3, l4⟩ := rmp_lens h
  have hl := (plain_of h.px).2.1
  have hB := bd_le (rsg_bd h hk) (show (16000 : Int) ≤ 16384 by omega)
  have hs : chkSig ((rsg x c k).map smp) = 0 := chkSig_zero.2 ⟨by rw [List.length_map, rsg_len h hk]; omega, by rw [List.length_map, rsg_len h hk]; exact l0, smp_ok hB⟩
  have hf : first [chkSig ((rsg x c k).map smp), within (k : Int) 0 10000000] = 0 := by
    refine first_zero.2 fun e he => ?_
    rcases List.mem_cons.1 he with rfl | he
    · exact hs
    · rcases List.mem_cons.1 he with rfl | he
      · exact within_zero.2 (by omega)
      · cases he
  have hu : ∀ q, useC ((rampF x c).map sixs) k (-1) q = false := fun q => by
    unfold useC
    have := dstTo_nonneg (rwI ((rampF x c).map sixs) ((k : Int) - 1)) (rwI ((rampF x c).map sixs) ((k : Int) + 1)) q 4
    rw [decide_eq_false (show ¬ dstTo _ _ q 4 ≤ -1 by omega)]
    simp
  have e : choI ((rampF x c).map sixs) k (-1) = bandI (rsg x c k) k := by
    rw [band_eq (by rw [rsg_len h hk]; exact l0)]
    unfold choI diffN
    rw [ramp_rw h hk]
    refine Prod.ext (tab_ext fun n _ => ?_) (Prod.ext (tab_ext fun q _ => ?_) (tab_ext fun q _ => ?_))
    · rw [choY_f (hu _) rfl, ramp_rw h hk]
    · rw [choC_f 0 (hu _), ramp_rw h hk]
    · rw [choC_f 1 (hu _), ramp_rw h hk]
  obtain ⟨p1, p2⟩ := rd_parts h hk (-1)
  obtain ⟨_, n2, n3, _⟩ := choI_len' h hk (-1)
  unfold rdP at p2
  rw [e] at p1 p2 n2 n3
  unfold bndE bndP
  rw [if_neg (fun q => q hf), if_neg (fun q => q hf), six_smps hB]
  exact ⟨p1, p2, n2, n3⟩
theorem rd_cyc {x c : Pt} (h : RmpOk x c) {k : Nat} (hk : k < 3) (lim : Int) {q : Nat} (hq : q < x.2.1.length) :
    (useC ((rampF x c).map sixs) k lim q = false → List.getD (rdP x c k lim).2.1 q 0 = List.getD ((bandI (rsg x c k) k).2.1.map smp) q 0 ∧ List.getD (rdP x c k lim).2.2 q 0 = List.getD ((bandI (rsg x c k) k).2.2.map smp) q 0) ∧
    (useC ((rampF x c).map sixs) k lim q = true → Op.floatEq .f32 (List.getD (rdP x c k lim).2.1 q 0) (List.getD (rmp (kbF 1) x c).2.1 q 0) = true ∧ Op.floatEq .f32 (List.getD (rdP x c k lim).2.2 q 0) (List.getD (rmp (kbF 1) x c).2.2 q 0) = true) := by
  obtain ⟨l0, l1, l2, l3, l4⟩ := rmp_lens h
  obtain ⟨e1, e2, e3, _⟩ := choI_len' h hk lim
  have g0 : List.getD (rdP x c k lim).2.1 q 0 = smp (choC 0 ((rampF x c).map sixs) k lim q) := by
    unfold rdP
    simp only
    rw [map_smp_get (by rw [e2]; exact hq)]
    unfold choI
    rw [ramp_rw h hk, rsg_len h hk]
    simp only
    rw [tab_get (by omega)]
  have g1 : List.getD (rdP x c k lim).2.2 q 0 = smp (choC 1 ((rampF x c).map sixs) k lim q) := by
    unfold rdP
    simp only
    rw [map_smp_get (by rw [e3]; exact hq)]
    unfold choI
    rw [ramp_rw h hk, rsg_len h hk]
    simp only
    rw [tab_get (by omega)]
  constructor
  · intro hu
    obtain ⟨_, _, n2, n3⟩ := ramp_band h hk
    rw [g0, g1, map_smp_get (by rw [n2]; exact hq), map_smp_get (by rw [n3]; exact hq), choC_f 0 hu, choC_f 1 hu, ramp_rw h hk, band_eq (by rw [rsg_len h hk]; exact l0)]
    unfold diffN
    simp only
    rw [rsg_len h hk, tab_get (by omega), tab_get (by omega)]
    exact ⟨rfl, rfl⟩
  · intro hu
    have hk1 := ramp_use hk hu
    subst hk1
    have f := rm_facts h (k := 1) (by omega)
    obtain ⟨_, k1, k2, k3⟩ := chkP_it f.chk
    have o2 := k2 _ (getD_mem' (d := 0) (show q < (rmp (kbF 1) x c).2.1.length by rw [f.lu]; exact hq))
    have o3 := k3 _ (getD_mem' (d := 0) (show q < (rmp (kbF 1) x c).2.2.length by rw [f.lv]; omega))
    have s2 : six (List.getD (rmp (kbF 1) x c).2.1 q 0) = List.getD (sixs x.2.1) q 0 + List.getD (sixs c.2.1) q 0 := by
      rw [← sixs_get, f.u]
      unfold rmI
      rw [tab_get (by rw [sixs_len]; exact hq)]
      show _ + 1 * _ = _
      omega
    have s3 : six (List.getD (rmp (kbF 1) x c).2.2 q 0) = List.getD (sixs x.2.2) q 0 + List.getD (sixs c.2.2) q 0 := by
      rw [← sixs_get, f.v]
      unfold rmI
      rw [tab_get (by rw [sixs_len]; omega)]
      show _ + 1 * _ = _
      omega
    obtain ⟨d0, d1⟩ := thr_diff h hq
    have d0' : diffAt 0 (thrL ((rampF x c).map sixs) ((1 : Nat) : Int)) q ((1 : Nat) : Int) 8 = _ := d0
    have d1' : diffAt 1 (thrL ((rampF x c).map sixs) ((1 : Nat) : Int)) q ((1 : Nat) : Int) 8 = _ := d1
    rw [g0, g1, choC_t 0 hu, choC_t 1 hu, d0', d1']
    have r2 := chk_six o2
    have r3 := chk_six o3
    rw [s2] at r2
    rw [s3] at r3
    rw [eq_six (chk_smp r2.1 r2.2) o2, eq_six (chk_smp r3.1 r3.2) o3, six_smp (by omega), six_smp (by omega), s2, s3]
    simp
theorem ramp_pre {x c : Pt} (h : RmpOk x c) {k : Nat} (hk : k < 3) : RampPre x.1 c.1 (kbF k) ∧ RampPre x.2.1 c.2.1 (kbF k) ∧ RampPre x.2.2 c.2.2 (kbF k) := by
  obtain ⟨hc, hl, hy, hu, hv⟩ := plain_of h.px
  obtain ⟨_, k1, k2, k3⟩ := chkP_it hc
  obtain ⟨_, c1, c2, c3⟩ := chkP_it (plain_of h.pc).1
  obtain ⟨s1, s2, s3⟩ := rmp_small h
  obtain ⟨l0, l1, l2, l3, l4⟩ := rmp_lens h
  exact ⟨⟨⟨k, hk, kbF_is hk⟩, k1, c1, hy, s1, h.len, by omega⟩, ⟨⟨k, hk, kbF_is hk⟩, k2, c2, hu, s2, l3, by omega⟩, ⟨⟨k, hk, kbF_is hk⟩, k3, c3, hv, s3, l4, by omega⟩⟩
end Go.Sx.U

/- Plain functions and hints. -/
namespace Go.Sx
open U
def fltT (s : St) (t : Nat) : Option Nat := match lookT s.tm t with
  | some (.val (.one (.flt .f32 b))) => some b
  | _ => none
def hr84 : Hints := ⟨fun f k s => match f, k with
  | 84, 3 => match listAs s 0 (.flt .f32), listAs s 1 (.flt .f32), fltT s 2 with
    | some a, some b, some t => some ⟨Nat, fun i => ⟨[tI 11 i, (7, .val (.one (.own s.nx)))] ++ keepM [0, 1, 2, 10] s.tm, (s.nx, some (.row (.flt .f32) (tab i (rampB t a b)))) :: lessO s [7], s.nx + 1, s.lr⟩, fun i => i ≤ List.length a, fun i => List.length a - i⟩
    | _, _, _ => none
  | _, _ => none, 0⟩
end Go.Sx
namespace Go.Sx
open U
def sp84 : FSpec := ⟨fun vs => match vs with
  | [.one (.sl (.flt .f32) a), .one (.sl (.flt .f32) b), .one (.flt .f32 t)] => some ([RampPre a b t], .val (.one (.frs (.flt .f32) (rampL t a b))))
  | _ => none, true⟩
end Go.Sx

/- What the engine asks, written out (printed by a program). -/
namespace Go.Sx
open U
theorem vc84 (a b : List Nat) (t : Nat) : exF (env false [] []) hr84 0 84 Proofs.Tryz.f84 [.one (.sl (.flt .f32) a), .one (.sl (.flt .f32) b), fV t] (.val (.one (.frs (.flt .f32) (rampL t a b)))) = (let q1 := (↑(List.length a) : Int); (∃ (g : Nat), Nat.le g (List.length a) ∧ (0 : Int) = (↑g : Int) ∧ a = a ∧ b = b ∧ t = t ∧ q1 = q1 ∧ tab g (rampB t a b) = [] ∧ True) ∧ ∀ (g : Nat), let q2 := (Ieee.Format.mul (FloatKind.format FloatKind.f32) t (List.getD b g (0 : Nat))); let q0 := (Ieee.Format.add (FloatKind.format FloatKind.f32) (List.getD a g (0 : Nat)) (Option.getD q2 (0 : Nat))); Nat.le g (List.length a) → splitB (decide ((↑g : Int) < q1)) (((0 : Int) ≤ (↑g : Int) ∧ (↑g : Int) < q1) ∧ ((0 : Int) ≤ (↑g : Int) ∧ (↑g : Int) < (↑(List.length b) : Int)) ∧ Option.isSome q2 = true ∧ Option.isSome q0 = true ∧ room (List.length (tab g (rampB t a b)) + (1 : Nat)) (4 : Nat) ∧ fits IntKind.i64 ((↑g : Int) + (1 : Int)) ∧ ∃ (g' : Nat), Nat.le g' (List.length a) ∧ List.length a - g' < List.length a - g ∧ (↑g : Int) + (1 : Int) = (↑g' : Int) ∧ a = a ∧ b = b ∧ t = t ∧ q1 = q1 ∧ tab g (rampB t a b) ++ [Option.getD q0 (0 : Nat)] = tab g' (rampB t a b) ∧ True) (tab g (rampB t a b) = rampL t a b ∧ True)) := by
  kernel_rfl
end Go.Sx

/- Contracts. -/
namespace Go.Sx
open U
theorem fn84 (a b : List Nat) (t : Nat) (h : RampPre a b t) : Fn P1 gl1 84 [.one (.sl (.flt .f32) a), .one (.sl (.flt .f32) b), fV t] (.val (.one (.frs (.flt .f32) (rampL t a b)))) true := by
  refine Fn.flat ?_ rfl
  refine fn_of false [] [] hr84 0 Proofs.Tryz.f84 trivial trivial (by kernel_rfl) rfl (by kernel_rfl) rfl rfl rfl ?_
  rw [vc84]
  try simp only [splitB_iff, -eq_self]
  obtain ⟨⟨k, hk, ht⟩, h1, h2, h3, h4, h5, h6⟩ := h
  refine ⟨⟨0, Nat.zero_le _, rfl, rfl, rfl, rfl, rfl, rfl, trivial⟩, fun g hg => ⟨fun hlt => ?_, fun hge => ?_⟩⟩
  · have hlt : (g : Int) < (a.length : Int) := of_decide_eq_true hlt
    have hgl : g < a.length := by omega
    obtain ⟨q1, q2, _⟩ := ramp_at hk ht h1 h2 h3 h4 hgl h5
    refine ⟨by omega, by omega, q1, q2, by simp only [room, tab_len]; omega, by simp only [fits]; omega, g + 1, hgl, by omega, by simp, rfl, rfl, rfl, rfl, ?_, trivial⟩
    exact (tab_succ g (rampB t a b)).symm
  · have hge : ¬ (g : Int) < (a.length : Int) := of_decide_eq_false hge
    have hg : g ≤ a.length := hg
    have e : g = a.length := by omega
    subst e
    exact ⟨rfl, trivial⟩
theorem so84_ : SpecOk P1 gl1 84 sp84 := by
  intro vs ps r h hp
  simp only [sp84] at h
  split at h
  · cases h; exact fn84 _ _ _ (hp _ (.head _))
  · cases h
theorem so84 : Sp1 84 sp84 := ⟨so84_, Proofs.Tryz.f84, _, by kernel_rfl, rfl, by kernel_rfl⟩
end Go.Sx

/- Plain functions and hints. -/
namespace Go.Sx
open U
def boxP (s : St) (t : Nat) : Option (Nat × Pt) := match lookT s.tm t with
  | some (.val (.one (.ptr id 0))) => match lookO s.ob id with
    | some (.box [.one (.sl (.flt .f32) y), .one (.sl (.flt .f32) u), .one (.sl (.flt .f32) v)]) => some (id, y, u, v)
    | _ => none
  | _ => none
@[reducible] def obP (i : Nat) (x : Pt) : Nat × Option AObj := (i, some (.box [.one (.sl (.flt .f32) x.1), .one (.sl (.flt .f32) x.2.1), .one (.sl (.flt .f32) x.2.2)]))
def h13 : Hints := ⟨fun f k s => match f, k with
  | 13, 4 => match arr3 s 61, boxP s 2, boxP s 3 with
    | some a, some (i, x), some (j, c) => some ⟨Nat, fun g => ⟨tI 62 g :: keepM [2, 3, 61] s.tm, [obP i x, obP j c], s.nx, s.lr⟩, fun g => g ≤ 3 ∧ ∀ j, j < g → notBig 1600 (List.getD a j []) = true, fun g => 3 - g⟩
    | _, _, _ => none
  | 13, 7 => match listAs s 65 (.flt .f32), boxP s 2, boxP s 3 with
    | some l, some (i, x), some (j, c) => some ⟨Nat, fun g => ⟨tI 67 g :: keepM [2, 3, 61, 62, 65, 66] s.tm, [obP i x, obP j c], s.nx, s.lr⟩, fun g => g ≤ List.length l ∧ ∀ j, j < g → (-1600 ≤ six (List.getD l j 0) ∧ six (List.getD l j 0) ≤ 1600), fun g => List.length l - g⟩
    | _, _, _ => none
  | 13, 16 => match boxP s 2, boxP s 3 with
    | some (i, x), some (j, c) => some ⟨Nat, fun g => ⟨[tI 80 g, (10, .val (.one (.own s.nx)))] ++ keepM [2, 3, 9] s.tm, [(s.nx, some (.row pT (tab g fun k => rmp (kbF k) x c))), obP i x, obP j c], s.nx + 1, s.lr⟩, fun g => g ≤ 3, fun g => 3 - g⟩
    | _, _ => none
  | 13, 1000021 => match boxP s 2, boxP s 3 with
    | some (i, x), some (j, c) => some ⟨List Pt, fun l => ⟨(10, .val (plV l)) :: keepM [2, 3] s.tm, [obP i x, obP j c], s.nx, s.lr⟩, fun l => l = rmpS x c, fun _ => 0⟩
    | _, _ => none
  | 13, 1000024 => match boxP s 2, boxP s 3 with
    | some (i, x), some (j, c) => some ⟨Fld, fun f => ⟨(13, .val (fldV f)) :: keepM [2, 3, 10] s.tm, [obP i x, obP j c], s.nx, s.lr⟩, fun f => f = rampF x c, fun _ => 0⟩
    | _, _ => none
  | 13, 1000026 => match boxP s 2, boxP s 3, boxP s 15, intOfT s 16, intOfT s 19, listAs s 17 pT, listAs s 18 blT with
    | some (i, x), some (j, c), some (k, z), some e1, some e2, some P, some U => some ⟨(Int × Int) × Pt × List Pt × List (List Bool), fun g => ⟨[(16, .val (iV g.1.1)), (19, .val (iV g.1.2)), (17, .val (plV g.2.2.1)), (18, .val (blV g.2.2.2))] ++ keepM [2, 3, 10, 13, 15] s.tm, [obP i x, obP j c, obP k g.2.1], s.nx, s.lr⟩, fun g => (g.1.1 = e1 ∧ g.1.2 = e2) ∧ g.2.1 = z ∧ g.2.2.1 = P ∧ g.2.2.2 = U, fun _ => 0⟩
    | _, _, _, _, _, _, _ => none
  | 13, 1000028 => match boxP s 2, boxP s 3 with
    | some (i, x), some (j, c) => some ⟨Nat, fun _ => ⟨keepM [2, 3, 10, 13, 18] s.tm, [obP i x, obP j c], s.nx, s.lr⟩, fun _ => True, fun _ => 0⟩
    | _, _ => none
  | 13, 29 => match listAs s 188 .bool, boxP s 2, boxP s 3 with
    | some l, some (i, x), some (j, c) => some ⟨Nat, fun g => ⟨tI 190 g :: keepM [2, 3, 10, 13, 188, 189] s.tm, [obP i x, obP j c], s.nx, s.lr⟩, fun g => g ≤ List.length l, fun g => List.length l - g⟩
    | _, _, _ => none
  | 13, 1000037 => match boxP s 2, boxP s 3 with
    | some (i, x), some (j, c) => some ⟨Nat, fun _ => ⟨keepM [2, 3, 10, 13] s.tm, [obP i x, obP j c], s.nx, s.lr⟩, fun _ => True, fun _ => 0⟩
    | _, _ => none
  | 13, 1000040 => match boxP s 2, boxP s 3, listAs s 25 pT, listAs s 26 blT with
    | some (i, x), some (j, c), some P, some U => some ⟨List Pt × List (List Bool), fun g => ⟨[(25, .val (plV g.1)), (26, .val (blV g.2))] ++ keepM [2, 3, 10, 13] s.tm, [obP i x, obP j c], s.nx, s.lr⟩, fun g => g.1 = P ∧ g.2 = U, fun _ => 0⟩
    | _, _, _, _ => none
  | 13, 1000047 => match boxP s 2, boxP s 3, boxP s 31, intOfT s 32 with
    | some (i, x), some (j, c), some (k, z), some e => some ⟨Int × Pt, fun g => ⟨[(32, .val (iV g.1))] ++ keepM [2, 3, 10, 13, 25, 26, 30, 31, 247, 248] s.tm, [obP i x, obP j c, obP k g.2], s.nx, s.lr⟩, fun g => g.1 = e ∧ g.2 = z, fun _ => 0⟩
    | _, _, _, _ => none
  | 13, 44 => match listAs s 25 pT, boxP s 2, boxP s 3 with
    | some l, some (i, x), some (j, c) => some ⟨Nat, fun g => ⟨tI 248 g :: keepM [2, 3, 10, 13, 25, 26, 247] s.tm, [obP i x, obP j c], s.nx, s.lr⟩, fun g => g ≤ List.length l, fun g => List.length l - g⟩
    | _, _, _ => none
  | 13, 50 => match listAs s 319 .bool, boxP s 2, boxP s 3, boxP s 31 with
    | some l, some (i, x), some (j, c), some (k, z) => some ⟨Nat, fun g => ⟨tI 321 g :: keepM [2, 3, 10, 13, 25, 26, 30, 31, 247, 248, 319, 320] s.tm, [obP i x, obP j c, obP k z], s.nx, s.lr⟩, fun g => g ≤ List.length l, fun g => List.length l - g⟩
    | _, _, _, _ => none
  | _, _ => none, 0⟩
end Go.Sx

/- What the engine asks, written out (printed by a program). -/
namespace Go.Sx
open U
theorem vc13 (y u v y' u' v' : List Nat) : exF (env false [(83, sp83), (19, sp19), (84, sp84), (32, sp32), (31, sp31), (40, sp40), (39, sp39), (48, sp48), (49, sp49), (46, sp46), (45, sp45), (54, sp54), (35, sp35), (42, sp42), (34, sp34), (43, sp43)] []) h13 0 13 Proofs.Tryz.f13 [ptV y u v, ptV y' u' v'] (.val (bV true)) = (let q10 := (1000000 : Nat); let q11 := (↑(List.length u) : Int); let q12 := (FloatKind.format FloatKind.f32); let q15 := (false = true ∧ True); let q18 := (1000000000 : Nat); let q24 := (1048576 : Int); splitB (bif bif !plainP (y, u, v) then true else !plainP (y', u', v') then true else (↑(List.length y) : Int) != (↑(List.length y') : Int)) (true = true ∧ True) ((∃ (g : Nat), (g ≤ (3 : Nat) ∧ ∀ (j : Nat), j < g → notBig (1600 : Int) (List.getD [y', u', v'] j []) = true) ∧ (0 : Int) = (↑g : Int) ∧ [y', u', v'] = [y', u', v'] ∧ y = y ∧ u = u ∧ v = v ∧ y' = y' ∧ u' = u' ∧ v' = v' ∧ True) ∧ ∀ (g : Nat), let q3 := (List.getD [y', u', v'] g []); let q21 := (↑(List.length q3) : Int); (g ≤ (3 : Nat) ∧ ∀ (j : Nat), j < g → notBig (1600 : Int) (List.getD [y', u', v'] j []) = true) → splitB (decide ((↑g : Int) < (3 : Int))) (((0 : Int) ≤ (↑g : Int) ∧ (↑g : Int) < (3 : Int)) ∧ (∃ (g_1 : Nat), (g_1 ≤ List.length q3 ∧ ∀ (j : Nat), j < g_1 → (-1600 : Int) ≤ six (List.getD q3 j (0 : Nat)) ∧ six (List.getD q3 j (0 : Nat)) ≤ (1600 : Int)) ∧ (0 : Int) = (↑g_1 : Int) ∧ [y', u', v'] = [y', u', v'] ∧ (↑g : Int) = (↑g : Int) ∧ List.getD [y', u', v'] g [] = List.getD [y', u', v'] g [] ∧ q21 = q21 ∧ y = y ∧ u = u ∧ v = v ∧ y' = y' ∧ u' = u' ∧ v' = v' ∧ True) ∧ ∀ (g_1 : Nat), (g_1 ≤ List.length q3 ∧ ∀ (j : Nat), j < g_1 → (-1600 : Int) ≤ six (List.getD q3 j (0 : Nat)) ∧ six (List.getD q3 j (0 : Nat)) ≤ (1600 : Int)) → splitB (decide ((↑g_1 : Int) < q21)) (((0 : Int) ≤ (↑g_1 : Int) ∧ (↑g_1 : Int) < q21) ∧ splitB (bif Ieee.Format.order q12 (List.getD q3 g_1 (0 : Nat)) (1120403456 : Nat) == some Ordering.gt then true else Ieee.Format.order q12 (List.getD q3 g_1 (0 : Nat)) (3267887104 : Nat) == some Ordering.lt) (true = true ∧ True) (fits IntKind.i64 ((↑g_1 : Int) + (1 : Int)) ∧ ∃ (g' : Nat), (g' ≤ List.length q3 ∧ ∀ (j : Nat), j < g' → (-1600 : Int) ≤ six (List.getD q3 j (0 : Nat)) ∧ six (List.getD q3 j (0 : Nat)) ≤ (1600 : Int)) ∧ List.length q3 - g' < List.length q3 - g_1 ∧ (↑g_1 : Int) + (1 : Int) = (↑g' : Int) ∧ [y', u', v'] = [y', u', v'] ∧ (↑g : Int) = (↑g : Int) ∧ List.getD [y', u', v'] g [] = List.getD [y', u', v'] g [] ∧ q21 = q21 ∧ y = y ∧ u = u ∧ v = v ∧ y' = y' ∧ u' = u' ∧ v' = v' ∧ True)) (fits IntKind.i64 ((↑g : Int) + (1 : Int)) ∧ ∃ (g' : Nat), (g' ≤ (3 : Nat) ∧ ∀ (j : Nat), j < g' → notBig (1600 : Int) (List.getD [y', u', v'] j []) = true) ∧ (3 : Nat) - g' < (3 : Nat) - g ∧ (↑g : Int) + (1 : Int) = (↑g' : Int) ∧ [y', u', v'] = [y', u', v'] ∧ y = y ∧ u = u ∧ v = v ∧ y' = y' ∧ u' = u' ∧ v' = v' ∧ True)) ((∃ (g : Nat), Nat.le g (3 : Nat) ∧ (0 : Int) = (↑g : Int) ∧ (tab g fun (k : Nat) => rmp (kbF k) (y, u, v) (y', u', v')) = [] ∧ y = y ∧ u = u ∧ v = v ∧ y' = y' ∧ u' = u' ∧ v' = v' ∧ True) ∧ ∀ (g : Nat), let q13 := (FloatKind.nearest FloatKind.f32 (↑g : Int)); Nat.le g (3 : Nat) → splitB (decide ((↑g : Int) < (3 : Int))) (RampPre y y' q13 ∧ RampPre u u' q13 ∧ RampPre v v' q13 ∧ room (List.length (tab g fun (k : Nat) => rmp (kbF k) (y, u, v) (y', u', v')) + (1 : Nat)) (72 : Nat) ∧ fits IntKind.i64 ((↑g : Int) + (1 : Int)) ∧ ∃ (g' : Nat), Nat.le g' (3 : Nat) ∧ (3 : Nat) - g' < (3 : Nat) - g ∧ (↑g : Int) + (1 : Int) = (↑g' : Int) ∧ ((tab g fun (k : Nat) => rmp (kbF k) (y, u, v) (y', u', v')) ++ [(rampL q13 y y', rampL q13 u u', rampL q13 v v')] = tab g' fun (k : Nat) => rmp (kbF k) (y, u, v) (y', u', v')) ∧ y = y ∧ u = u ∧ v = v ∧ y' = y' ∧ u' = u' ∧ v' = v' ∧ True) ((∃ (g_1 : List Pt), g_1 = rmpS (y, u, v) (y', u', v') ∧ (tab g fun (k : Nat) => rmp (kbF k) (y, u, v) (y', u', v')) = g_1 ∧ y = y ∧ u = u ∧ v = v ∧ y' = y' ∧ u' = u' ∧ v' = v' ∧ True) ∧ ∀ (g : List Pt), let q1 := (List.getD g (1 : Nat) ([], [], [])); let q32 := (↑(List.length g) : Int); let q36 := (q1.1, q1.2.1, q1.2.2); g = rmpS (y, u, v) (y', u', v') → List.length g ≤ q10 ∧ (∀ (x : Pt), x ∈ g → List.length x.1 ≤ q10 ∧ List.length x.2.1 ≤ q10 ∧ List.length x.2.2 ≤ q10) ∧ (∀ (x : Pt), x ∈ g → List.length x.1 ≤ q18) ∧ splitB (bif bif encFE g != (0 : Int) then true else chkFld (encFN g) != (0 : Int) then true else (↑(List.length (encFN g)) : Int) != (3 : Int)) q15 ((∃ (g_1 : Fld), g_1 = rampF (y, u, v) (y', u', v') ∧ encFN g = g_1 ∧ g = g ∧ y = y ∧ u = u ∧ v = v ∧ y' = y' ∧ u' = u' ∧ v' = v' ∧ True) ∧ ∀ (g_1 : List (List Nat)), let q34 := (threeE g_1 (1 : Int)); let q35 := (threeL g_1 (1 : Int)); let q7 := (errP q34 q35); let q37 := (decP g_1 (0 : Int)); let q8 := (bif bif decE g_1 (0 : Int) != (0 : Int) then true else (↑(List.length q37) : Int) != (3 : Int) then true else (↑(List.length (decU g_1 (0 : Int))) : Int) != (3 : Int)); g_1 = rampF (y, u, v) (y', u', v') → List.length g_1 ≤ q10 ∧ (∀ (x : List Nat), x ∈ g_1 → List.length x ≤ q10) ∧ List.length g_1 ≤ q10 ∧ (∀ (x : List Nat), x ∈ g_1 → List.length x ≤ q10) ∧ (∃ (g_2 : (Int × Int) × Pt × List Pt × List (List Bool)), ((g_2.1.1 = errE q34 q35 ∧ g_2.1.2 = decE g_1 q24) ∧ g_2.2.1 = (q7.1, q7.2.1, q7.2.2) ∧ g_2.2.2.1 = decP g_1 q24 ∧ g_2.2.2.2 = decU g_1 q24) ∧ errE q34 q35 = g_2.1.1 ∧ decE g_1 q24 = g_2.1.2 ∧ decP g_1 q24 = g_2.2.2.1 ∧ decU g_1 q24 = g_2.2.2.2 ∧ g = g ∧ g_1 = g_1 ∧ y = y ∧ u = u ∧ v = v ∧ y' = y' ∧ u' = u' ∧ v' = v' ∧ q7.1 = g_2.2.1.1 ∧ q7.2.1 = g_2.2.1.2.1 ∧ q7.2.2 = g_2.2.1.2.2 ∧ True) ∧ ∀ (g_2 : (Int × Int) × Pt × List Pt × List (List Bool)), let q31 := (g_2.2.1.1, g_2.2.1.2.1, g_2.2.1.2.2); let q19 := (↑(List.length g_2.2.2.2) : Int); let q23 := (List.getD g_2.2.2.2 (1 : Nat) []); let q4 := (List.length q23); let q26 := (↑(List.length g_2.2.2.1) : Int); let q0 := (bif bif bif bif g_2.1.1 + g_2.1.2 != (0 : Int) then true else !sameP q31 q36 then true else q26 != (3 : Int) then true else q19 != (3 : Int) then true else (↑q4 : Int) != q11); let q14 := (List.getD g_2.2.2.1 (1 : Nat) ([], [], [])); let q25 := (g_2.1.1 + g_2.1.2 != (0 : Int)); (g_2.1.1 = errE q34 q35 ∧ g_2.1.2 = decE g_1 q24) ∧ g_2.2.1 = (q7.1, q7.2.1, q7.2.2) ∧ g_2.2.2.1 = decP g_1 q24 ∧ g_2.2.2.2 = decU g_1 q24 → fits IntKind.i64 (g_2.1.1 + g_2.1.2) ∧ (q25 = false → (0 : Int) ≤ (1 : Int) ∧ (1 : Int) < q32) ∧ (q25 = false → List.length g_2.2.1.1 ≤ q18) ∧ (q25 = false → List.length g_2.2.1.2.1 ≤ q18) ∧ (q25 = false → List.length g_2.2.1.2.2 ≤ q18) ∧ ((bif bif bif g_2.1.1 + g_2.1.2 != (0 : Int) then true else !sameP q31 q36 then true else q26 != (3 : Int) then true else q19 != (3 : Int)) = false → (0 : Int) ≤ (1 : Int) ∧ (1 : Int) < q19) ∧ (q0 = false → (0 : Int) ≤ (1 : Int) ∧ (1 : Int) < q26) ∧ (q0 = false → (0 : Int) ≤ (1 : Int) ∧ (1 : Int) < q32) ∧ (q0 = false → List.length q14.1 ≤ q18) ∧ (q0 = false → List.length q14.2.1 ≤ q18) ∧ (q0 = false → List.length q14.2.2 ≤ q18) ∧ splitB (bif bif bif bif bif g_2.1.1 + g_2.1.2 != (0 : Int) then true else !sameP q31 q36 then true else q26 != (3 : Int) then true else q19 != (3 : Int) then true else (↑q4 : Int) != q11 then true else !sameP (q14.1, q14.2.1, q14.2.2) q36) q15 ((∃ (g_3 : Nat), True ∧ g = g ∧ g_1 = g_1 ∧ g_2.2.2.2 = g_2.2.2.2 ∧ y = y ∧ u = u ∧ v = v ∧ y' = y' ∧ u' = u' ∧ v' = v' ∧ True) ∧ ∀ (g_3 : Nat), True → ((0 : Int) ≤ (1 : Int) ∧ (1 : Int) < q19) ∧ (∃ (g_4 : Nat), Nat.le g_4 q4 ∧ (0 : Int) = (↑g_4 : Int) ∧ g = g ∧ g_1 = g_1 ∧ List.getD g_2.2.2.2 (1 : Nat) [] = List.getD g_2.2.2.2 (1 : Nat) [] ∧ (↑q4 : Int) = (↑q4 : Int) ∧ y = y ∧ u = u ∧ v = v ∧ y' = y' ∧ u' = u' ∧ v' = v' ∧ True) ∧ ∀ (g_4 : Nat), Nat.le g_4 q4 → splitB (decide ((↑g_4 : Int) < (↑q4 : Int))) (((0 : Int) ≤ (↑g_4 : Int) ∧ (↑g_4 : Int) < (↑q4 : Int)) ∧ splitB (!List.getD q23 g_4 false) q15 (fits IntKind.i64 ((↑g_4 : Int) + (1 : Int)) ∧ ∃ (g' : Nat), Nat.le g' q4 ∧ List.length q23 - g' < List.length q23 - g_4 ∧ (↑g_4 : Int) + (1 : Int) = (↑g' : Int) ∧ g = g ∧ g_1 = g_1 ∧ List.getD g_2.2.2.2 (1 : Nat) [] = List.getD g_2.2.2.2 (1 : Nat) [] ∧ (↑q4 : Int) = (↑q4 : Int) ∧ y = y ∧ u = u ∧ v = v ∧ y' = y' ∧ u' = u' ∧ v' = v' ∧ True)) (List.length g_1 ≤ q10 ∧ (∀ (x : List Nat), x ∈ g_1 → List.length x ≤ q10) ∧ splitB (decE g_1 (-1 : Int) != (3 : Int)) q15 ((∃ (g_5 : Nat), True ∧ g = g ∧ g_1 = g_1 ∧ y = y ∧ u = u ∧ v = v ∧ y' = y' ∧ u' = u' ∧ v' = v' ∧ True) ∧ ∀ (g_5 : Nat), True → List.length g_1 ≤ q10 ∧ (∀ (x : List Nat), x ∈ g_1 → List.length x ≤ q10) ∧ (q8 = false → List.length q37 ≤ q10) ∧ (q8 = false → ∀ (x : Pt), x ∈ decP g_1 (0 : Int) → List.length x.1 ≤ q10 ∧ List.length x.2.1 ≤ q10 ∧ List.length x.2.2 ≤ q10) ∧ (q8 = false → ∀ (x : Pt), x ∈ decP g_1 (0 : Int) → List.length x.1 ≤ q18) ∧ splitB (bif bif bif decE g_1 (0 : Int) != (0 : Int) then true else (↑(List.length q37) : Int) != (3 : Int) then true else (↑(List.length (decU g_1 (0 : Int))) : Int) != (3 : Int) then true else chkLs q37 != (0 : Int)) q15 ((∃ (g_6 : List Pt × List (List Bool)), (g_6.1 = decP g_1 (0 : Int) ∧ g_6.2 = decU g_1 (0 : Int)) ∧ decP g_1 (0 : Int) = g_6.1 ∧ decU g_1 (0 : Int) = g_6.2 ∧ g = g ∧ g_1 = g_1 ∧ y = y ∧ u = u ∧ v = v ∧ y' = y' ∧ u' = u' ∧ v' = v' ∧ True) ∧ ∀ (g_6 : List Pt × List (List Bool)), let q38 := (List.length g_6.1); let q5 := (↑q38 : Int); g_6.1 = decP g_1 (0 : Int) ∧ g_6.2 = decU g_1 (0 : Int) → List.length g_6.1 ≤ q10 ∧ (∀ (x : Pt), x ∈ g_6.1 → List.length x.1 ≤ q10 ∧ List.length x.2.1 ≤ q10 ∧ List.length x.2.2 ≤ q10) ∧ List.length g_6.1 ≤ q10 ∧ (∀ (x : Pt), x ∈ g_6.1 → List.length x.1 ≤ q10 ∧ List.length x.2.1 ≤ q10 ∧ List.length x.2.2 ≤ q10) ∧ (∀ (x : Pt), x ∈ g_6.1 → List.length x.1 ≤ q18) ∧ ((encFE g_6.1 != (0 : Int)) = false → List.length (encFN g_6.1) ≤ q10) ∧ ((encFE g_6.1 != (0 : Int)) = false → ∀ (x : List Nat), x ∈ encFN g_6.1 → List.length x ≤ q10) ∧ splitB (bif encFE g_6.1 != (0 : Int) then true else !sameF (encFN g_6.1) g_1) q15 ((∃ (g_7 : Nat), Nat.le g_7 q38 ∧ (0 : Int) = (↑g_7 : Int) ∧ g = g ∧ g_1 = g_1 ∧ g_6.1 = g_6.1 ∧ g_6.2 = g_6.2 ∧ q5 = q5 ∧ y = y ∧ u = u ∧ v = v ∧ y' = y' ∧ u' = u' ∧ v' = v' ∧ True) ∧ ∀ (g_7 : Nat), let q2 := (List.getD g_6.1 g_7 ([], [], [])); let q17 := (List.getD g_6.2 g_7 []); let q6 := (List.length q17); let q30 := (List.getD g_1 g_7 []); let q9 := (bndP q30 (↑g_7 : Int)); let q22 := (↑(List.length q2.2.1) : Int); let q29 := (↑(List.length q2.2.2) : Int); let q40 := ((0 : Int) ≤ (↑g_7 : Int) ∧ (↑g_7 : Int) < q5); Nat.le g_7 q38 → splitB (decide ((↑g_7 : Int) < q5)) (((0 : Int) ≤ (↑g_7 : Int) ∧ (↑g_7 : Int) < (↑(List.length g_1) : Int)) ∧ List.length q30 ≤ q10 ∧ (∃ (g_8 : Int × Pt), (g_8.1 = bndE q30 (↑g_7 : Int) ∧ g_8.2 = (q9.1, q9.2.1, q9.2.2)) ∧ bndE q30 (↑g_7 : Int) = g_8.1 ∧ g = g ∧ g_1 = g_1 ∧ g_6.1 = g_6.1 ∧ g_6.2 = g_6.2 ∧ (↑g_7 : Int) = (↑g_7 : Int) ∧ q5 = q5 ∧ (↑g_7 : Int) = (↑g_7 : Int) ∧ y = y ∧ u = u ∧ v = v ∧ y' = y' ∧ u' = u' ∧ v' = v' ∧ q9.1 = g_8.2.1 ∧ q9.2.1 = g_8.2.2.1 ∧ q9.2.2 = g_8.2.2.2 ∧ True) ∧ ∀ (g_8 : Int × Pt), let q20 := (↑(List.length g_8.2.2.1) : Int); let q33 := (↑(List.length g_8.2.2.2) : Int); g_8.1 = bndE q30 (↑g_7 : Int) ∧ g_8.2 = (q9.1, q9.2.1, q9.2.2) → ((bif g_8.1 != (0 : Int) then true else q20 != q11) = false → (0 : Int) ≤ (↑g_7 : Int) ∧ (↑g_7 : Int) < q5) ∧ ((bif bif g_8.1 != (0 : Int) then true else q20 != q11 then true else q22 != q11) = false → (0 : Int) ≤ (↑g_7 : Int) ∧ (↑g_7 : Int) < q5) ∧ ((bif bif bif bif g_8.1 != (0 : Int) then true else q20 != q11 then true else q22 != q11 then true else q29 != q11 then true else q33 != q11) = false → (0 : Int) ≤ (↑g_7 : Int) ∧ (↑g_7 : Int) < (↑(List.length g_6.2) : Int)) ∧ splitB (bif bif bif bif bif g_8.1 != (0 : Int) then true else q20 != q11 then true else q22 != q11 then true else q29 != q11 then true else q33 != q11 then true else (↑q6 : Int) != q11) q15 (((0 : Int) ≤ (↑g_7 : Int) ∧ (↑g_7 : Int) < (↑(List.length g_6.2) : Int)) ∧ (∃ (g_9 : Nat), Nat.le g_9 q6 ∧ (0 : Int) = (↑g_9 : Int) ∧ g = g ∧ g_1 = g_1 ∧ g_6.1 = g_6.1 ∧ g_6.2 = g_6.2 ∧ (↑g_7 : Int) = (↑g_7 : Int) ∧ q5 = q5 ∧ (↑g_7 : Int) = (↑g_7 : Int) ∧ List.getD g_6.2 g_7 [] = List.getD g_6.2 g_7 [] ∧ (↑q6 : Int) = (↑q6 : Int) ∧ y = y ∧ u = u ∧ v = v ∧ y' = y' ∧ u' = u' ∧ v' = v' ∧ g_8.2.1 = g_8.2.1 ∧ g_8.2.2.1 = g_8.2.2.1 ∧ g_8.2.2.2 = g_8.2.2.2 ∧ True) ∧ ∀ (g_9 : Nat), let q16 := (List.getD q2.2.1 g_9 (0 : Nat)); let q27 := (Ieee.Format.order q12 q16 (List.getD g_8.2.2.1 g_9 (0 : Nat)) != some Ordering.eq); let q28 := (Ieee.Format.order q12 q16 (List.getD q1.2.1 g_9 (0 : Nat)) != some Ordering.eq); let q39 := ((0 : Int) ≤ (↑g_9 : Int) ∧ (↑g_9 : Int) < q22); Nat.le g_9 q6 → splitB (decide ((↑g_9 : Int) < (↑q6 : Int))) (((0 : Int) ≤ (↑g_9 : Int) ∧ (↑g_9 : Int) < (↑q6 : Int)) ∧ ((0 : Int) ≤ (↑g_9 : Int) ∧ (↑g_9 : Int) < q20) ∧ ((0 : Int) ≤ (↑g_9 : Int) ∧ (↑g_9 : Int) < q33) ∧ splitB (bif List.getD q17 g_9 false then (↑g_7 : Int) != (1 : Int) else false) q15 (splitB (List.getD q17 g_9 false) (((0 : Int) ≤ (1 : Int) ∧ (1 : Int) < q32) ∧ ((0 : Int) ≤ (↑g_9 : Int) ∧ (↑g_9 : Int) < (↑(List.length q1.2.1) : Int)) ∧ ((0 : Int) ≤ (1 : Int) ∧ (1 : Int) < q32) ∧ ((0 : Int) ≤ (↑g_9 : Int) ∧ (↑g_9 : Int) < (↑(List.length q1.2.2) : Int)) ∧ q40 ∧ q39 ∧ (q28 = false → (0 : Int) ≤ (↑g_7 : Int) ∧ (↑g_7 : Int) < q5) ∧ (q28 = false → (0 : Int) ≤ (↑g_9 : Int) ∧ (↑g_9 : Int) < q29) ∧ splitB (bif Ieee.Format.order q12 q16 (List.getD q1.2.1 g_9 (0 : Nat)) != some Ordering.eq then true else Ieee.Format.order q12 (List.getD q2.2.2 g_9 (0 : Nat)) (List.getD q1.2.2 g_9 (0 : Nat)) != some Ordering.eq) q15 (fits IntKind.i64 ((↑g_9 : Int) + (1 : Int)) ∧ ∃ (g' : Nat), Nat.le g' q6 ∧ List.length q17 - g' < List.length q17 - g_9 ∧ (↑g_9 : Int) + (1 : Int) = (↑g' : Int) ∧ g = g ∧ g_1 = g_1 ∧ g_6.1 = g_6.1 ∧ g_6.2 = g_6.2 ∧ (↑g_7 : Int) = (↑g_7 : Int) ∧ q5 = q5 ∧ (↑g_7 : Int) = (↑g_7 : Int) ∧ List.getD g_6.2 g_7 [] = List.getD g_6.2 g_7 [] ∧ (↑q6 : Int) = (↑q6 : Int) ∧ y = y ∧ u = u ∧ v = v ∧ y' = y' ∧ u' = u' ∧ v' = v' ∧ g_8.2.1 = g_8.2.1 ∧ g_8.2.2.1 = g_8.2.2.1 ∧ g_8.2.2.2 = g_8.2.2.2 ∧ True)) (q40 ∧ q39 ∧ (q27 = false → (0 : Int) ≤ (↑g_7 : Int) ∧ (↑g_7 : Int) < q5) ∧ (q27 = false → (0 : Int) ≤ (↑g_9 : Int) ∧ (↑g_9 : Int) < q29) ∧ splitB (bif Ieee.Format.order q12 q16 (List.getD g_8.2.2.1 g_9 (0 : Nat)) != some Ordering.eq then true else Ieee.Format.order q12 (List.getD q2.2.2 g_9 (0 : Nat)) (List.getD g_8.2.2.2 g_9 (0 : Nat)) != some Ordering.eq) q15 (fits IntKind.i64 ((↑g_9 : Int) + (1 : Int)) ∧ ∃ (g' : Nat), Nat.le g' q6 ∧ List.length q17 - g' < List.length q17 - g_9 ∧ (↑g_9 : Int) + (1 : Int) = (↑g' : Int) ∧ g = g ∧ g_1 = g_1 ∧ g_6.1 = g_6.1 ∧ g_6.2 = g_6.2 ∧ (↑g_7 : Int) = (↑g_7 : Int) ∧ q5 = q5 ∧ (↑g_7 : Int) = (↑g_7 : Int) ∧ List.getD g_6.2 g_7 [] = List.getD g_6.2 g_7 [] ∧ (↑q6 : Int) = (↑q6 : Int) ∧ y = y ∧ u = u ∧ v = v ∧ y' = y' ∧ u' = u' ∧ v' = v' ∧ g_8.2.1 = g_8.2.1 ∧ g_8.2.2.1 = g_8.2.2.1 ∧ g_8.2.2.2 = g_8.2.2.2 ∧ True)))) (fits IntKind.i64 ((↑g_7 : Int) + (1 : Int)) ∧ ∃ (g' : Nat), Nat.le g' q38 ∧ List.length g_6.1 - g' < List.length g_6.1 - g_7 ∧ (↑g_7 : Int) + (1 : Int) = (↑g' : Int) ∧ g = g ∧ g_1 = g_1 ∧ g_6.1 = g_6.1 ∧ g_6.2 = g_6.2 ∧ q5 = q5 ∧ y = y ∧ u = u ∧ v = v ∧ y' = y' ∧ u' = u' ∧ v' = v' ∧ True))) (true = true ∧ True))))))))))) := by
  kernel_rfl
end Go.Sx

/- Contracts. -/
namespace Go.Sx
open U
set_option maxHeartbeats 1000000 in
theorem fn13 (y u v y' u' v' : List Nat)  : Fn P1 gl1 13 [ptV y u v, ptV y' u' v'] (.val (bV true)) true := by
  refine Fn.flat ?_ rfl
  refine fn_of false [(83, sp83), (19, sp19), (84, sp84), (32, sp32), (31, sp31), (40, sp40), (39, sp39), (48, sp48), (49, sp49), (46, sp46), (45, sp45), (54, sp54), (35, sp35), (42, sp42), (34, sp34), (43, sp43)] [] h13 0 Proofs.Tryz.f13 ⟨so83, so19, so84, so32, so31, so40, so39, so48, so49, so46, so45, so54, so35, so42, so34, so43, trivial⟩ trivial (by kernel_rfl) rfl (by kernel_rfl) rfl rfl rfl ?_
  rw [vc13]
  try simp only [splitB_iff, -eq_self]
  simp only [eq_self, true_and, and_true, and_self]
  refine ⟨fun _ => trivial, fun h0 => ?_⟩
  simp only [bcond_l, Bool.or_eq_false_iff, Bool.not_eq_false', bne_eq_false_iff_eq] at h0
  obtain ⟨⟨px, pc⟩, hl⟩ := h0
  have hl : y'.length = y.length := by omega
  have pk := plain_of pc
  obtain ⟨⟨i1, i2, i3⟩, ok1, ok2, ok3⟩ := chkP_it pk.1
  simp only [sixs_len] at i1 i2 i3
  have i4 := pk.2.1
  dsimp only at i1 i2 i3 i4
  refine ⟨⟨0, ⟨by omega, fun j hj => absurd hj (by omega)⟩, rfl⟩, fun g hg => ⟨fun hlt => ?_, fun hge => ?_⟩⟩
  · have hlt : (g : Int) < 3 := of_decide_eq_true hlt
    have kk : OkS (List.getD [y', u', v'] g []) ∧ (List.getD [y', u', v'] g []).length ≤ 24 := by
      rcases (show g = 0 ∨ g = 1 ∨ g = 2 by omega) with rfl | rfl | rfl
      · exact ⟨ok1, i4⟩
      · exact ⟨ok2, by show u'.length ≤ 24; omega⟩
      · exact ⟨ok3, by show v'.length ≤ 24; omega⟩
    obtain ⟨kk, kl⟩ := kk
    generalize hL : List.getD [y', u', v'] g [] = L at *
    refine ⟨by omega, ⟨0, ⟨Nat.zero_le _, fun j hj => absurd hj (by omega)⟩, rfl⟩, fun q hq => ⟨fun hl2 => ?_, fun hg2 => ?_⟩⟩
    · have hl2 : (q : Int) < (L.length : Int) := of_decide_eq_true hl2
      have o := isS_chk (kk _ (getD_mem' (d := 0) (show q < L.length by omega)))
      have r1 : (Ieee.Format.order (FloatKind.format FloatKind.f32) (List.getD L q 0) 1120403456 == some Ordering.gt) = decide (1600 < six (List.getD L q 0)) := gt_s o isS_100
      have r2 : (Ieee.Format.order (FloatKind.format FloatKind.f32) (List.getD L q 0) 3267887104 == some Ordering.lt) = decide (six (List.getD L q 0) < -1600) := lt_s o isS_n100
      rw [r1, r2]
      refine ⟨by omega, fun _ => trivial, fun k => ⟨by simp only [fits]; omega, q + 1, ⟨by omega, fun j hj => ?_⟩, by omega, by simp⟩⟩
      simp only [bcond_l, Bool.or_eq_false_iff, decide_eq_false_iff_not] at k
      rcases Nat.lt_succ_iff_lt_or_eq.1 hj with hj | rfl
      · exact hq.2 j hj
      · omega
    · have hg2 : ¬ (q : Int) < (L.length : Int) := of_decide_eq_false hg2
      refine ⟨by simp only [fits]; omega, g + 1, ⟨by omega, fun j hj => ?_⟩, by omega, by simp⟩
      rcases Nat.lt_succ_iff_lt_or_eq.1 hj with hj | rfl
      · exact hg.2 j hj
      · rw [hL]
        unfold notBig
        refine List.all_eq_true.2 fun b hb => ?_
        obtain ⟨i, hi, rfl⟩ := List.mem_iff_getElem.1 hb
        have := hq.2 i (by omega)
        rw [getD_of hi] at this
        simp only [Bool.and_eq_true, decide_eq_true_eq]
        exact this
  · have hge : ¬ (g : Int) < 3 := of_decide_eq_false hge
    have R : RmpOk (y, u, v) (y', u', v') := ⟨px, pc, hl, by
      unfold bigP
      simp only [Bool.and_eq_true]
      exact ⟨hg.2 0 (by omega), hg.2 1 (by omega), hg.2 2 (by omega)⟩⟩
    obtain ⟨l0, l1, l2, l3, l4⟩ := rmp_lens R
    have hy24 : y.length ≤ 24 := (plain_of px).2.1
    clear hge hg
    dsimp only at l0 l1 l2 l3 l4
    refine ⟨⟨0, Nat.zero_le _, rfl, rfl⟩, fun i hi => ⟨fun hlt => ?_, fun hge => ?_⟩⟩
    · have hlt : (i : Int) < 3 := of_decide_eq_true hlt
      obtain ⟨p1, p2, p3⟩ := ramp_pre R (k := i) (by omega)
      exact ⟨p1, p2, p3, by simp only [room, tab_len]; omega, by simp only [fits]; omega, i + 1, (show i + 1 ≤ 3 by omega), by omega, by simp, (tab_succ i fun k => rmp (kbF k) (y, u, v) (y', u', v')).symm⟩
    · have hge : ¬ (i : Int) < 3 := of_decide_eq_false hge
      have hi : i ≤ 3 := hi
      have ei : i = 3 := by omega
      subst ei
      clear hi hge
      refine ⟨⟨_, rfl, rfl⟩, fun l hl => ?_⟩
      have hl3 : l.length = 3 := by rw [hl]; exact tab_len _ _
      have hlm : ∀ p ∈ l, p.1.length ≤ 24 ∧ p.2.1.length ≤ 24 ∧ p.2.2.length ≤ 24 := by
        intro p hp
        obtain ⟨j, hj, rfl⟩ := List.mem_iff_getElem.1 hp
        have hj3 : j < 3 := by omega
        have e : l[j] = rmp (kbF j) (y, u, v) (y', u', v') := by
          rw [← getD_of (d := ([], [], [])) hj, hl]; exact rmpS_get _ _ hj3
        have F := rm_facts R hj3
        have f1 := F.len
        have f2 := F.lu
        have f3 := F.lv
        dsimp only at f1 f2 f3
        rw [e]
        omega
      have hM : List.getD l 1 ([], [], []) = rmp (kbF 1) (y, u, v) (y', u', v') := by rw [hl]; exact rmpS_get _ _ (by omega)
      obtain ⟨e1, e2⟩ := rmp_enc R
      rw [← hl] at e1 e2
      have e3 := ramp_fld R
      have e4 : (rampF (y, u, v) (y', u', v')).length = 3 := tab_len _ _
      rw [e1, e2, e3, e4]
      refine ⟨by omega, fun p hp => by have := hlm p hp; omega, fun p hp => by have := hlm p hp; omega, fun hb => absurd hb (by simp), fun _ => ⟨⟨_, rfl, rfl⟩, fun f hf => ?_⟩⟩
      rw [← hf] at e3 e4
      have hfr : ∀ k, k < 3 → List.getD f k [] = (rsg (y, u, v) (y', u', v') k).map smp := fun k hk => by rw [hf]; exact rampF_get _ _ hk
      have hfm : ∀ s ∈ f, s.length ≤ 1000000 := by
        intro s hs
        obtain ⟨j, hj, rfl⟩ := List.mem_iff_getElem.1 hs
        have hj3 : j < 3 := by omega
        rw [← getD_of (d := []) hj, hfr j hj3, List.length_map, rsg_len R hj3]
        dsimp only
        omega
      obtain ⟨t1, t2⟩ := ramp_three R
      obtain ⟨_, d1, d2, d3⟩ := ramp_dec R (lim := 1048576) ⟨by decide, by decide⟩
      obtain ⟨_, c1, c2, c3⟩ := ramp_dec R (lim := 0) ⟨by decide, by decide⟩
      have dn := ramp_neg R
      rw [← hf] at t1 t2 d1 d2 d3 c1 c2 c3 dn
      have hcl : ∀ (k : Nat), k < 3 → ∀ lim, (choU (f.map sixs) k lim).length = u.length := fun k hk lim => by
        have := (choI_len' R hk lim).2.2.2
        rw [← hf] at this
        exact this
      have hcg : ∀ (k : Nat), k < 3 → ∀ lim q, q < u.length → List.getD (choU (f.map sixs) k lim) q false = useC (f.map sixs) k lim q := fun k hk lim q hq => by
        unfold choU
        rw [hf, ramp_rw R hk, rsg_len R hk]
        exact tab_get (by dsimp only; omega)
      refine ⟨by omega, hfm, by omega, hfm, ⟨((_, _), (_, _, _), _, _), ⟨⟨rfl, rfl⟩, rfl, rfl, rfl⟩, rfl, rfl, rfl, rfl, rfl, rfl, rfl⟩, ?_⟩
      rintro ⟨⟨n1, n2⟩, ⟨z1, z2, z3⟩, P, Us⟩ ⟨⟨a1, a2⟩, a3, a4, a5⟩
      dsimp only at a1 a2 a3 a4 a5 ⊢
      rw [t1] at a1
      rw [d1] at a2
      rw [d2] at a4
      rw [d3] at a5
      subst a1 a2
      have s1 : sameP (z1, z2, z3) ((List.getD l 1 ([], [], [])).1, (List.getD l 1 ([], [], [])).2.1, (List.getD l 1 ([], [], [])).2.2) = true := by rw [a3, hM]; exact t2
      have hP3 : P.length = 3 := by rw [a4]; exact tab_len _ _
      have hU3 : Us.length = 3 := by rw [a5]; exact tab_len _ _
      have hP1 : List.getD P 1 ([], [], []) = rdP (y, u, v) (y', u', v') 1 1048576 := by rw [a4]; exact tab_get (by omega)
      have hU1 : List.getD Us 1 [] = choU (f.map sixs) 1 1048576 := by rw [a5]; exact tab_get (by omega)
      have s2 : sameP ((List.getD P 1 ([], [], [])).1, (List.getD P 1 ([], [], [])).2.1, (List.getD P 1 ([], [], [])).2.2) ((List.getD l 1 ([], [], [])).1, (List.getD l 1 ([], [], [])).2.1, (List.getD l 1 ([], [], [])).2.2) = true := by
        rw [hP1, hM]
        exact rd_mid R fun q _ => use_great R
      have zl : z1.length = y.length ∧ z2.length = u.length ∧ z3.length = u.length := by
        have F := rm_facts R (k := 1) (by omega)
        have f1 := F.len
        have f2 := F.lu
        have f3 := F.lv
        dsimp only at f1 f2 f3
        rw [hM] at s1
        unfold sameP sameS at s1
        simp only [Bool.and_eq_true, decide_eq_true_eq] at s1
        omega
      obtain ⟨_, r1, r2, r3⟩ := rd_chk R (k := 1) (by omega) 1048576
      rw [← hP1] at r1 r2 r3
      dsimp only at r1 r2 r3
      have sU : (List.getD Us 1 []).length = u.length := by rw [hU1]; exact hcl 1 (by omega) _
      refine ⟨by simp only [fits]; omega, fun _ => by omega, fun _ => by omega, fun _ => by omega, fun _ => by omega, fun _ => by omega, fun _ => by omega, fun _ => by omega, fun _ => by omega, fun _ => by omega, fun _ => by omega, fun hb => ?_, fun _ => ⟨⟨0, trivial⟩, fun _ _ => ⟨by omega, ⟨0, Nat.zero_le _, rfl⟩, fun q hq => ⟨fun hlt => ?_, fun _ => ?_⟩⟩⟩⟩
      · rw [s1, s2, hP3, hU3, sU] at hb
        simp at hb
      · have hlt : (q : Int) < ((List.getD Us 1 []).length : Int) := of_decide_eq_true hlt
        have ht : List.getD (List.getD Us 1 []) q false = true := by
          rw [hU1]
          exact (hcg 1 (by omega) 1048576 q (by omega)).trans (by rw [hf]; exact use_great R)
        rw [ht]
        exact ⟨by omega, fun hb => absurd hb (by decide), fun _ => ⟨by simp only [fits]; omega, q + 1, (show q + 1 ≤ _ by omega), by omega, by simp⟩⟩
      · clear s1 s2 hP1 hU1 hP3 hU3 a3 a4 a5 zl r1 r2 r3 sU
        have hc3 : (decP f 0).length = 3 := by rw [c2]; exact tab_len _ _
        have hu3 : (decU f 0).length = 3 := by rw [c3]; exact tab_len _ _
        have hPm : ∀ p ∈ decP f 0, p.1.length ≤ 24 ∧ p.2.1.length ≤ 24 ∧ p.2.2.length ≤ 24 := by
          intro p hp
          obtain ⟨j, hj, rfl⟩ := List.mem_iff_getElem.1 hp
          have hj3 : j < 3 := by omega
          have e : (decP f 0)[j] = rdP (y, u, v) (y', u', v') j 0 := by
            rw [← getD_of (d := ([], [], [])) hj, c2]; exact tab_get hj3
          obtain ⟨_, f1, f2, f3⟩ := rd_chk R hj3 0
          dsimp only at f1 f2 f3
          rw [e]
          omega
        obtain ⟨b1, b2, b3⟩ := rd_list R 0
        rw [← c2] at b1 b2 b3
        rw [dn, c1, hc3, hu3, b1]
        refine ⟨by omega, hfm, fun hb => absurd hb (by decide), fun _ => ⟨⟨0, trivial⟩, fun _ _ => ⟨by omega, hfm, fun _ => by omega, fun _ x hx => by have := hPm x hx; omega, fun _ x hx => by have := hPm x hx; omega, fun hb => absurd hb (by simp), fun _ => ⟨⟨(_, _), ⟨rfl, rfl⟩, rfl, rfl⟩, ?_⟩⟩⟩⟩
        rintro ⟨P, Us⟩ ⟨a4, a5⟩
        dsimp only at a4 a5 ⊢
        rw [← a4] at b1 b2 b3 hc3 hPm c2
        rw [← a5] at hu3 c3
        rw [b2, b3, ← hf, hc3, hu3, e4]
        refine ⟨by omega, fun x hx => by have := hPm x hx; omega, by omega, fun x hx => by have := hPm x hx; omega, fun x hx => by have := hPm x hx; omega, fun _ => by omega, fun _ => hfm, fun hb => ?_, fun _ => ⟨⟨0, Nat.zero_le _, rfl⟩, fun k hk => ⟨fun hlt => ?_, fun _ => trivial⟩⟩⟩
        · have : sameF f f = true := sameF_self fun x hx => by
            obtain ⟨j, hj, rfl⟩ := List.mem_iff_getElem.1 hx
            have hj3 : j < 3 := by omega
            rw [← getD_of (d := []) hj, hfr j hj3]
            exact smp_ok (bd_le (rsg_bd R hj3) (by omega))
          rw [this] at hb
          simp at hb
        · have hlt : (k : Int) < 3 := of_decide_eq_true hlt
          have hk3 : k < 3 := by omega
          have hs := hfr k hk3
          obtain ⟨n1, n2, n3, n4⟩ := ramp_band R hk3
          rw [← hs] at n1 n2
          have hPk : List.getD P k ([], [], []) = rdP (y, u, v) (y', u', v') k 0 := by rw [c2]; exact tab_get hk3
          have hUk : List.getD Us k [] = choU (f.map sixs) k 0 := by rw [c3]; exact tab_get hk3
          obtain ⟨r0, r1, r2, r3⟩ := rd_chk R hk3 0
          obtain ⟨_, _, o2, o3⟩ := chkP_it r0
          rw [← hPk] at r1 r2 r3 o2 o3
          dsimp only at r1 r2 r3
          have sU : (List.getD Us k []).length = u.length := by rw [hUk]; exact hcl k hk3 0
          have F := rm_facts R (k := 1) (by omega)
          have m1 := F.lu
          have m2 := F.lv
          rw [← hM] at m1 m2
          dsimp only at m1 m2 n3 n4
          refine ⟨by omega, hfm _ (getD_mem' (by omega)), ⟨(_, (_, _, _)), ⟨rfl, rfl⟩, rfl, rfl, rfl, rfl⟩, ?_⟩
          rintro ⟨n, w1, w2, w3⟩ ⟨a1, a2⟩
          dsimp only at a1 a2 ⊢
          rw [n1] at a1
          rw [n2] at a2
          simp only [Prod.mk.injEq] at a2
          obtain ⟨b1', b2', b3'⟩ := a2
          have v2 : w2.length = u.length := by rw [b2', List.length_map]; exact n3
          have v3 : w3.length = u.length := by rw [b3', List.length_map]; exact n4
          subst a1
          refine ⟨fun _ => by omega, fun _ => by omega, fun _ => by omega, fun hb => ?_, fun _ => ⟨by omega, ⟨0, Nat.zero_le _, rfl⟩, fun q hq => ⟨fun hlt => ?_, fun _ => ⟨by simp only [fits]; omega, k + 1, (show k + 1 ≤ _ by omega), by omega, by simp⟩⟩⟩⟩
          · rw [v2, r2, r3, v3, sU] at hb
            simp at hb
          · have hlt : (q : Int) < ((List.getD Us k []).length : Int) := of_decide_eq_true hlt
            have hq' : q < u.length := by omega
            have hu : List.getD (List.getD Us k []) q false = useC (f.map sixs) k 0 q := by rw [hUk]; exact hcg k hk3 0 q hq'
            obtain ⟨y1, y2⟩ := rd_cyc R hk3 0 (q := q) hq'
            rw [← hf, ← hPk] at y1 y2
            rw [← b2', ← b3'] at y1
            rw [← hM] at y2
            rw [hu]
            have fin : fits .i64 ((q : Int) + 1) ∧ ∃ g', Nat.le g' (List.length (List.getD Us k [])) ∧ List.length (List.getD Us k []) - g' < List.length (List.getD Us k []) - q ∧ (q : Int) + 1 = (g' : Int) := ⟨by simp only [fits]; omega, q + 1, (show q + 1 ≤ _ by omega), by omega, by simp⟩
            cases hc : useC (f.map sixs) k 0 q with
            | false =>
              obtain ⟨x1, x2⟩ := y1 hc
              have z1 : (Ieee.Format.order (FloatKind.format FloatKind.f32) (List.getD (List.getD P k ([], [], [])).2.1 q 0) (List.getD w2 q 0) == some Ordering.eq) = true := by rw [← x1]; exact floatEq_self (o2 _ (getD_mem' (by omega)))
              have z2 : (Ieee.Format.order (FloatKind.format FloatKind.f32) (List.getD (List.getD P k ([], [], [])).2.2 q 0) (List.getD w3 q 0) == some Ordering.eq) = true := by rw [← x2]; exact floatEq_self (o3 _ (getD_mem' (by omega)))
              refine ⟨by omega, by omega, by omega, fun hb => absurd hb (by simp), fun _ => ⟨fun hb => absurd hb (by decide), fun _ => ⟨by omega, by omega, fun _ => by omega, fun _ => by omega, fun hb => ?_, fun _ => fin⟩⟩⟩
              simp only [bne, z1, z2] at hb
              simp at hb
            | true =>
              obtain ⟨x1, x2⟩ := y2 hc
              have k1 : k = 1 := ramp_use hk3 (by rw [← hf]; exact hc)
              have z1 : (Ieee.Format.order (FloatKind.format FloatKind.f32) (List.getD (List.getD P k ([], [], [])).2.1 q 0) (List.getD (List.getD l 1 ([], [], [])).2.1 q 0) == some Ordering.eq) = true := x1
              have z2 : (Ieee.Format.order (FloatKind.format FloatKind.f32) (List.getD (List.getD P k ([], [], [])).2.2 q 0) (List.getD (List.getD l 1 ([], [], [])).2.2 q 0) == some Ordering.eq) = true := x2
              refine ⟨by omega, by omega, by omega, fun hb => ?_, fun _ => ⟨fun _ => ⟨by omega, by omega, by omega, by omega, by omega, by omega, fun _ => by omega, fun _ => by omega, fun hb => ?_, fun _ => fin⟩, fun hb => absurd hb (by decide)⟩⟩
              · rw [k1] at hb
                simp at hb
              · simp only [bne, z1, z2] at hb
                simp at hb
end Go.Sx
