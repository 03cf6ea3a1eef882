/- A verified symbolic run of functions, part 19: lemmas, no claim of their own. -/
import Derived.Test.YtjbfcdgbjgjliaaGreatDoorS18
import Derived.OpenShut
import Derived.ProofKit
import Derived.Carry
import Derived.OpenVars
import Derived.Lib.LaidTab
import Derived.ChangeSame
import Derived.WalkKit
import Derived.Deep.DeepHandedRow
import Derived.JoinedCond
import Derived.KernelRfl
import Derived.Test.YtjbfcdgbjgjliaaGreatDoorProg
import Derived.Test.YtjbfcdgbjgjliaaGreatDoorCards
/- Contracts. -/
namespace Go.Sx
open U
theorem fn85 (a b : List Nat) (ha : OkS a) (hb : OkS b) (hl : a.length ≤ 1000) : Fn P1 gl1 85 [.one (.sl (.flt .f32) a), .one (.sl (.flt .f32) b)] (.val (iV (prS a b))) true := by
  refine Fn.flat ?_ rfl
  refine fn_of false [(86, sp86)] [] h85 0 Proofs.Tryz.f85 ⟨so86, trivial⟩ trivial (by kernel_rfl) rfl (by kernel_rfl) rfl rfl rfl ?_
  rw [vc85]
  try simp only [splitB_iff, -eq_self]
  simp only [eq_self, true_and, and_true, and_self]
  refine ⟨fun h => ?_, fun h => ⟨⟨0, Nat.zero_le _, rfl, rfl⟩, fun g hg => ⟨fun hlt => ?_, fun hge => ?_⟩⟩⟩
  · have h : ¬ (a.length : Int) = b.length := bne_iff_ne.1 h
    unfold prS
    rw [if_neg (by omega)]
  · have h : (a.length : Int) = b.length := by simpa using h
    have hlt : (g : Int) < a.length := of_decide_eq_true hlt
    have h1 := ha _ (getD_mem' (d := 0) (show g < a.length by omega))
    have h2 := hb _ (getD_mem' (d := 0) (show g < b.length by omega))
    have b1 := chk_six h1
    have b2 := chk_six h2
    have hm := mul_bd b1 b2
    have hp := prT_bd (bd_sixs ha) (bd_sixs hb) (by omega) (by omega) g
    refine ⟨by omega, h1, by omega, h2, by simp only [fits]; omega, by simp only [fits]; omega, by simp only [fits]; omega, g + 1, (show g + 1 ≤ a.length by omega), by omega, by simp, rfl⟩
  · have h : (a.length : Int) = b.length := by simpa using h
    have hge : ¬ (g : Int) < a.length := of_decide_eq_false hge
    have hg : g ≤ a.length := hg
    have e : g = a.length := by omega
    unfold prS
    rw [if_pos (by omega), e]
theorem so85_ : SpecOk P1 gl1 85 sp85 := by
  intro vs ps r h hp
  simp only [sp85] at h
  split at h
  · cases h; exact fn85 _ _ (hp _ (.head _)) (hp _ (.tail _ (.head _))) (hp _ (.tail _ (.tail _ (.head _))))
  · cases h
theorem so85 : Sp1 85 sp85 := ⟨so85_, Proofs.Tryz.f85, _, by kernel_rfl, rfl, by kernel_rfl⟩
set_option maxHeartbeats 1000000 in
theorem fn14 (A B : List (List Int)) (T : List Int) (hA : A.length = 4) (hA' : ∀ x ∈ A, x.length = 4) (hB : B.length = 4) (hB' : ∀ x ∈ B, x.length = 4) (hT : T.length ≤ 9223372036854775807) (hT' : ∀ x ∈ T, -128 ≤ x ∧ x ≤ 127) : Fn P1 gl1 14 [.agg [.arr 4 (.arr 4 (.int .i8)) A], .agg [.arr 4 (.arr 4 (.int .i8)) B], .one (.sl (.int .i8) T)] (.val (bV true)) true := by
  refine Fn.flat ?_ rfl
  refine fn_of true [(19, sp19), (34, sp34), (73, sp73), (74, sp74), (75, sp75), (39, sp39), (80, sp80), (81, sp81), (85, sp85), (36, sp36), (33, sp33), (72, sp72)] [] h14 0 Proofs.Tryz.f14 ⟨so19, so34, so73, so74, so75, so39, so80, so81, so85, so36, so33, so72, trivial⟩ trivial (by kernel_rfl) rfl (by kernel_rfl) rfl rfl rfl ?_
  rw [vc14]
  try simp only [splitB_iff, -eq_self]
  have fw : ∀ n : Int, -1000000000000 ≤ n ∧ n ≤ 1000000000000 → IntKind.wrap .i64 n = n := fun n h => fitw (by omega)
  simp only [eq_self, true_and, and_true, and_self]
  refine ⟨fun _ => trivial, fun h => ?_⟩
  simp only [bcond_l, Bool.or_eq_false_iff, decide_eq_false_iff_not] at h
  obtain ⟨h1, h2⟩ := h
  refine ⟨⟨0, Nat.zero_le _, rfl, rfl⟩, fun g hg => ⟨fun hlt => ?_, fun hge => ?_⟩⟩
  · have hlt : (g : Int) < T.length := of_decide_eq_true hlt
    have hx := hT' _ (getD_mem' (d := 0) (show g < T.length by omega))
    exact ⟨by omega, by simp only [fits]; omega, by decide, by simp only [room, tp_len]; omega, g + 1, (show g + 1 ≤ T.length by omega), by omega, (fw _ (by omega)).trans (by simp), (tab_succ _ _).symm⟩
  · have hge : ¬ (g : Int) < T.length := of_decide_eq_false hge
    have hg : g ≤ T.length := hg
    have ht : chkTap (tpL T g) = 0 := tp_chk (by omega)
    have h9 := tp_bd T g
    have hl8 : (tpL T g).length ≤ 8 := by rw [tp_len]; omega
    generalize tpL T g = t at *
    clear hge hg h1 h2 hT hT'
    refine ⟨⟨0, Nat.zero_le _, rfl, rfl, rfl, rfl, rfl⟩, fun i hi => ⟨fun hlt => ?_, fun hge => ?_⟩⟩
    · have hlt : (i : Int) < 4 := of_decide_eq_true hlt
      have eA : List.getD A i (List.replicate 4 0) = List.getD A i [] := by rw [getD_of (show i < A.length by omega), getD_of (show i < A.length by omega)]
      have eB : List.getD B i (List.replicate 4 0) = List.getD B i [] := by rw [getD_of (show i < B.length by omega), getD_of (show i < B.length by omega)]
      have lA : (List.getD A i []).length = 4 := hA' _ (getD_mem' (by omega))
      have lB : (List.getD B i []).length = 4 := hB' _ (getD_mem' (by omega))
      refine ⟨⟨0, Nat.zero_le _, rfl, rfl, rfl⟩, fun q hq => ⟨fun hlt2 => ?_, fun hge2 => ?_⟩⟩
      · have hlt2 : (q : Int) < 4 := of_decide_eq_true hlt2
        simp only [eA, eB, Nat.zero_add, Nat.mul_one, Nat.div_one, Nat.mod_one]
        have a0 := avI_bd A i q
        have b0 := avI_bd B i q
        have a1 : Ieee.Format.div (FloatKind.format .f32) (FloatKind.nearest .f32 (Int.tmod (List.getD (List.getD A i []) q 0) 33)) 1098907648 = some (avS A i q) := (smp_num (n := avI A i q) (by omega)).1
        have b1 : Ieee.Format.div (FloatKind.format .f32) (FloatKind.nearest .f32 (Int.tmod (List.getD (List.getD B i []) q 0) 33)) 1098907648 = some (avS B i q) := (smp_num (n := avI B i q) (by omega)).1
        rw [a1, b1]
        exact ⟨by omega, by omega, by omega, trivial, by omega, by decide, rfl, by simp only [room, avR_len]; omega, by omega, by omega, by omega, trivial, by omega, by decide, rfl, by simp only [room, avR_len]; omega, q + 1, (show q + 1 ≤ 4 by omega), by omega, (fw _ (by omega)).trans (by simp), (tab_succ _ _).symm, (tab_succ _ _).symm⟩
      · have hge2 : ¬ (q : Int) < 4 := of_decide_eq_false hge2
        have hq : q ≤ 4 := hq
        have eq : q = 4 := by omega
        subst eq
        exact ⟨by simp only [room, avX_len, avR_len]; omega, by simp only [room, avX_len, avR_len]; omega, by simp only [room, avF_len]; omega, by simp only [room, avF_len]; omega, i + 1, (show i + 1 ≤ 4 by omega), by omega, (fw _ (by omega)).trans (by simp), avX_next A i, avX_next B i, (tab_succ _ _).symm, (tab_succ _ _).symm⟩
    · have hge : ¬ (i : Int) < 4 := of_decide_eq_false hge
      have hi : i ≤ 4 := hi
      have ei : i = 4 := by omega
      subst ei
      clear hge hi
      refine ⟨⟨((_, _), (_, _), _), ⟨rfl, rfl, rfl, rfl, rfl⟩, rfl, rfl, rfl, rfl, rfl⟩, ?_⟩
      rintro ⟨⟨x, y⟩, ⟨f, g'⟩, t'⟩ ⟨ex, ey, ef, eg, et⟩
      dsimp only at ex ey ef eg et ⊢
      subst et
      have lx : x.length = 16 := by rw [ex, avX_len]
      have ly : y.length = 16 := by rw [ey, avX_len]
      have lf : f.length = 4 := by rw [ef, avF_len]
      have lg : g'.length = 4 := by rw [eg, avF_len]
      have mf : ∀ s ∈ f, s.length ≤ 1000000 := fun s hs => by rw [ef] at hs; have := (avF_mem hs).1; omega
      have mg : ∀ s ∈ g', s.length ≤ 1000000 := fun s hs => by rw [eg] at hs; have := (avF_mem hs).1; omega
      refine ⟨by omega, by omega, by omega, by omega, by omega, mf, by omega, .inl (by omega), by omega, mg, by omega, .inl (by omega), ⟨(((_, _), (_, _)), (_, _), (_, _)), ⟨⟨rfl, rfl, rfl, rfl⟩, rfl, rfl, rfl, rfl⟩, rfl, rfl, rfl, rfl, rfl, rfl, rfl, rfl⟩, ?_⟩
      rintro ⟨⟨⟨e1, e2⟩, ⟨e3, e4⟩⟩, ⟨p, r⟩, ⟨m, n⟩⟩ ⟨⟨a1, a2, a3, a4⟩, b1, b2, b3, b4⟩
      dsimp only at a1 a2 a3 a4 b1 b2 b3 b4 ⊢
      rw [ex] at a1 b1
      rw [ey] at a2 b2
      rw [ef] at a3 b3
      rw [eg] at a4 b4
      obtain ⟨c1, c2, okp, okr, lp, lr, hadj⟩ := adj_line (A := A) (B := B) ht h9 b1 b2
      have c3 := (cmb_av (A := A) (w := 1) ht h9).1
      have c4 := (cmb_av (A := B) (w := -1) ht h9).1
      obtain ⟨lm, rm⟩ := cmb_row ht h9 b3
      obtain ⟨ln, rn⟩ := cmb_row ht h9 b4
      rw [c1] at a1
      rw [c2] at a2
      rw [c3] at a3
      rw [c4] at a4
      subst a1 a2 a3 a4
      rw [← ex, ← ey] at hadj
      have w0 : IntKind.wrap .i64 (IntKind.wrap .i64 (IntKind.wrap .i64 ((0 : Int) + 0) + 0) + 0) = 0 := by
        have z : IntKind.wrap .i64 0 = 0 := fw 0 (by omega)
        simp only [Int.add_zero, z]
      have hfield := adj_field ht h9 b3 b4
      rw [← ef, ← eg] at hfield
      rw [w0, hadj, lp, lr, lm, ln]
      refine ⟨fun _ => okp, fun _ => by rw [ey]; exact avX_ok _ _, fun _ => by omega, fun _ => by rw [ex]; exact avX_ok _ _, fun _ => okr, fun _ => by omega, fun hb => absurd hb (by simp), fun _ => ⟨⟨(_, (_, _), (_, _)), ⟨rfl, ⟨rfl, rfl⟩, rfl, rfl⟩, rfl, rfl, rfl, rfl, rfl⟩, ?_⟩⟩
      rintro ⟨t2, ⟨f2, g2⟩, ⟨m2, n2⟩⟩ ⟨d1, ⟨d2, d3⟩, d4, d5⟩
      dsimp only at d1 d2 d3 d4 d5 ⊢
      subst d1 d2 d3 d4 d5
      clear hadj okp okr lp lr b1 b2 c1 c2 c3 c4 lx ly ex ey
      have gf : ∀ i, i < 4 → (List.getD f2 i []).length = 4 ∧ OkS (List.getD f2 i []) ∧ Bd 32 (sixs (List.getD f2 i [])) := fun i hi => by
        rw [ef, avF_get A hi]; exact ⟨avR_len _ _ _, avR_ok _ _ _, avR_bd _ _ _⟩
      have gg : ∀ i, i < 4 → (List.getD g2 i []).length = 4 ∧ OkS (List.getD g2 i []) ∧ Bd 32 (sixs (List.getD g2 i [])) := fun i hi => by
        rw [eg, avF_get B hi]; exact ⟨avR_len _ _ _, avR_ok _ _ _, avR_bd _ _ _⟩
      have bm : ∀ i, i < 4 → Bd 2304 (sixs (List.getD m2 i [])) := fun i hi => by
        rw [(rm i hi).2.2]; exact bd_tab fun a _ => avF_val hl8 h9 i a
      have bn : ∀ i, i < 4 → Bd 2304 (sixs (List.getD n2 i [])) := fun i hi => by
        rw [(rn i hi).2.2]; exact bd_tab fun a _ => avF_val hl8 h9 i a
      have pm : ∀ i, i < 4 → -4294967296 ≤ prS (List.getD m2 i []) (List.getD g2 i []) ∧ prS (List.getD m2 i []) (List.getD g2 i []) ≤ 4294967296 := fun i hi =>
        prS_bd (bm i hi) (gg i hi).2.2 (by omega) (by omega) (by have := (rm i hi).1; omega) (by decide)
      have pn : ∀ i, i < 4 → -4294967296 ≤ prS (List.getD f2 i []) (List.getD n2 i []) ∧ prS (List.getD f2 i []) (List.getD n2 i []) ≤ 4294967296 := fun i hi =>
        prS_bd (gf i hi).2.2 (bn i hi) (by omega) (by omega) (by have := (gf i hi).1; omega) (by decide)
      refine ⟨⟨0, Nat.zero_le _, rfl, rfl, rfl⟩, fun i hi => ⟨fun hlt => ?_, fun hge => ?_⟩⟩
      · have hlt : (i : Int) < 4 := of_decide_eq_true hlt
        have hi4 : i < 4 := by omega
        obtain ⟨m1, mo, _⟩ := rm i hi4
        obtain ⟨n1, no, _⟩ := rn i hi4
        obtain ⟨f1, fo, _⟩ := gf i hi4
        obtain ⟨g1, go, _⟩ := gg i hi4
        have q1 := prF_bd pm i (by omega)
        have q2 := prF_bd pn i (by omega)
        have q3 := pm i hi4
        have q4 := pn i hi4
        rw [m1, n1]
        exact ⟨by omega, fun _ => by omega, fun hb => absurd hb (by simp), fun _ => ⟨by omega, by omega, mo, go, by omega, by omega, by omega, fo, no, by omega, i + 1, (show i + 1 ≤ 4 by omega), by omega, (fw _ (by omega)).trans (by simp), fw _ (by omega), fw _ (by omega)⟩⟩
      · have hge : ¬ (i : Int) < 4 := of_decide_eq_false hge
        have hi : i ≤ 4 := hi
        have ei : i = 4 := by omega
        subst ei
        have f0 : List.getD f2 0 [] = avR A 0 4 := by rw [ef, avF_get A (by omega)]
        rw [hfield, f0, avR_len]
        refine ⟨fun hb => absurd hb (by simp), fun _ => ⟨⟨0, trivial⟩, fun _ _ => ⟨by omega, by omega, by omega, by simp only [room]; omega, by omega, by simp only [room, List.length_append, avR_len]; omega, by omega, by simp only [room, List.length_append, avR_len]; omega, ⟨_, rfl, rfl⟩, fun ag hag => ?_⟩⟩⟩
        have hag : ag = agN A := hag
        refine ⟨by omega, ⟨(_, _), ⟨rfl, rfl⟩, rfl, rfl⟩, ?_⟩
        rintro ⟨z, e5⟩ ⟨z1, z2⟩
        dsimp only at z1 z2 ⊢
        rw [hag] at z1 z2
        obtain ⟨y1, y2, y3, y4⟩ := ag_flt ht h9 z1
        rw [y1] at z2
        subst z2
        rw [y2, y3]
        have s0 : chkSig (avR A 0 4) = 0 := chkSig_zero.2 ⟨by rw [avR_len]; decide, by rw [avR_len], avR_ok _ _ _⟩
        refine ⟨fun hb => absurd hb (by simp), fun _ => ⟨by omega, by omega, by omega, by omega, ⟨((_, _, _), (_, _), _), ⟨⟨rfl, rfl, rfl⟩, rfl, rfl, rfl⟩, rfl, rfl, rfl, rfl, rfl, rfl⟩, ?_⟩⟩
        rintro ⟨⟨u1, u2, u3⟩, ⟨W, I⟩, R⟩ ⟨⟨v1, v2, v3⟩, v4, v5, v6⟩
        dsimp only at v1 v2 v3 v4 v5 v6 ⊢
        rw [s0] at v1
        rw [ht] at v3
        subst v1 v2 v3
        have lW : W.length = 1 := by rw [v4, panN_len, if_pos s0, avR_len]
        have lI : I.length = 4 := by rw [v5, panN_len, if_pos y2, y3]
        have w1 : IntKind.wrap .i64 (IntKind.wrap .i64 ((0 : Int) + 0) + 0) = 0 := by
          have z : IntKind.wrap .i64 0 = 0 := fw 0 (by omega)
          simp only [Int.add_zero, z]
        rw [w1, lW, lI]
        refine ⟨fun hb => absurd hb (by simp), fun _ => ⟨⟨((_, _), _), ⟨⟨rfl, rfl⟩, rfl⟩, rfl, rfl, rfl⟩, ?_⟩⟩
        rintro ⟨⟨W', I'⟩, R'⟩ ⟨⟨x1, x2⟩, x3⟩
        dsimp only at x1 x2 x3 ⊢
        subst x1 x2 x3
        refine ⟨⟨0, Nat.zero_le _, by omega⟩, fun c hc => ⟨fun hlt => ⟨⟨0, Nat.zero_le _, rfl⟩, fun k hk => ⟨fun hlt2 => ?_, fun hge2 => ?_⟩⟩, fun _ => trivial⟩⟩
        · have hlt : (2 : Int) + c < 4 := of_decide_eq_true hlt
          have hlt2 : (k : Int) < 4 := of_decide_eq_true hlt2
          have hk4 : k < 4 := by omega
          have eW : List.getD (List.getD W' 0 (List.replicate 4 (0, 0))) k (0, 0) = (smp (qu (tab 4 (avI A 0)) k).1, smp (qu (tab 4 (avI A 0)) k).2) := by
            rw [v4]
            unfold panN
            rw [if_pos s0, avR_len, tab_get (show 0 < 4 / 4 by decide)]
            unfold panI
            rw [tab_get hk4, avR_sx]
            rfl
          have eI : List.getD (List.getD I' (Int.toNat (2 + (c : Int))) (List.replicate 4 (0, 0))) k (0, 0) = (smp (qu (cyL (tab 4 (avI A 0)) t2 t2.length) k).1, smp (qu (cyL (tab 4 (avI A 0)) t2 t2.length) k).2) := by
            rw [v5, show Int.toNat (2 + (c : Int)) = 2 + c by omega]
            unfold panN
            rw [if_pos y2, y3, tab_get (show 2 + c < 16 / 4 by omega)]
            unfold panI
            rw [tab_get hk4, y4, ag_cyc ht (by omega)]
          have lR : R'.length = 4 := by
            rw [v6]
            unfold resN
            rw [if_pos ht, tab_len]
          have eR : List.getD R' k (0, 0) = rsC (qu t2 k) := by
            rw [v6]
            unfold resN
            rw [if_pos ht, tab_get hk4]
          obtain ⟨zz, ⟨aa, bb, r1, r2, r3⟩, cc, dd, r4, r5, r6, r7⟩ := pan_resp (A := A) ht h9 hk4
          rw [eW, eI, eR]
          dsimp only
          rw [r1, r2, r4, r5]
          simp only [Option.getD_some]
          rw [r3]
          simp only [Option.getD_some, r6, r7]
          exact ⟨by omega, by omega, ⟨rfl, rfl⟩, by omega, by omega, ⟨rfl, rfl⟩, by omega, by omega, rfl, fun hb => absurd hb (by decide), fun _ => ⟨k + 1, (show k + 1 ≤ 4 by omega), by omega, (fw _ (by omega)).trans (by simp)⟩⟩
        · have hc : c ≤ 2 := hc
          have hlt : (2 : Int) + c < 4 := of_decide_eq_true hlt
          exact ⟨c + 1, (show c + 1 ≤ 2 by omega), by omega, (fw _ (by omega)).trans (by omega)⟩
end Go.Sx

/- From readings of arguments to pure data. -/
namespace Go.Sx
open Go.RowKit
def WF : (t : Ty) → t.T → Prop
  | .int k, n => (Lit.int k n).wf = true
  | .bool, _ => True
  | .str, l => List.length l ≤ maxLen
  | .flt k, n => (Lit.float k n).wf = true
  | .cpx _, _ => True
  | .fnp, _ => True
  | .sl t, xs => List.length xs ≤ maxLen ∧ ∀ i (h : i < List.length xs), WF t (xs[i]'h)
  | .arr n t, xs => List.length xs = n ∧ ∀ i (h : i < List.length xs), WF t (xs[i]'h)
  | .pair a b, x => WF a x.1 ∧ WF b x.2
mutual
def rdChk (P : Program) : Nat → TypeId → Ty → Bool
  | 0, _, _ => false
  | n + 1, t, u => match P.underlying t with
      | some (.int k) => decide (u = .int k)
      | some .bool => decide (u = .bool)
      | some .string => decide (u = .str)
      | some (.float k) => decide (u = .flt k)
      | some (.slice e) => match u with
        | .sl v => decide (P.cellsOf e = v.sz) && decide (v.sz ≠ 0) && rdChk P n e v
        | _ => false
      | some (.array m e) => match u with
        | .arr m' v => decide (m = m') && decide (P.cellsOf e = v.sz) && decide (P.cellsOf t = m * v.sz) && rdChk P n e v
        | _ => false
      | some (.struct fs) => decide (P.cellsOf t = u.sz) && rdFs P n 0 fs.toList u
      | _ => false
def rdFs (P : Program) : Nat → Nat → List Field → Ty → Bool
  | 0, _, _, _ => false
  | n + 1, off, [f], u => decide (f.offset = off) && decide (P.cellsOf f.type = u.sz) && rdChk P n f.type u
  | n + 1, off, f :: r, .pair a b => decide (f.offset = off) && decide (P.cellsOf f.type = a.sz) && rdChk P n f.type a && rdFs P n (off + a.sz) r b
  | _, _, _, _ => false
end
def HW (w : World) : IH := fun b => w.heap[b]?
theorem addp (b off i : Nat) : (Addr.mk b off none).add i = ⟨b, off + i, none⟩ := by
  unfold Addr.add; split <;> simp_all
theorem cells_seg {w : World} {base : Nat} {a : Addr} {n : Nat} {cs : List Value} (h : w.cells? base a n = some cs) (hn : 0 < n) :
    ∃ b off c e fr, a = ⟨b, off, none⟩ ∧ w.heap[b]? = some (.cells c e fr) ∧ seg c off n = cs := by
  obtain ⟨_, hl, hc⟩ := World.cells?_some h
  obtain ⟨b, off, sp⟩ := a
  have h0 := hc 0 hn
  rw [List.getElem?_eq_getElem (by omega)] at h0
  have hs : sp = none := by
    have := World.cell?_spot h0
    simp only [Addr.add] at this
    cases sp with
    | none => rfl
    | some x => simp at this
  subst hs
  have hb : ∃ c e fr, w.heap[b]? = some (.cells c e fr) := by
    simp only [World.cell?, Addr.add] at h0
    split at h0
    · exact ⟨_, _, _, ‹_›⟩
    · cases h0
  obtain ⟨c, e, fr, hb⟩ := hb
  refine ⟨b, off, c, e, fr, rfl, hb, ?_⟩
  have hi : ∀ i, i < n → c[off + i]? = cs[i]? := by
    intro i hi
    have := hc i hi
    rw [addp] at this
    simpa [World.cell?, hb] using this
  apply List.ext_getElem?
  intro i
  simp only [seg, List.getElem?_take, List.getElem?_drop]
  split
  · rename_i h1
    rw [← hi i h1]; simp
  · rename_i h1
    rw [List.getElem?_eq_none (by omega)]
theorem choose_list {α : Type} (n : Nat) (p : Nat → α → Prop) (h : ∀ i, i < n → ∃ y, p i y) : ∃ ys : List α, ys.length = n ∧ ∀ i (hi : i < ys.length), p i (ys[i]'hi) := by
  induction n with
  | zero => exact ⟨[], rfl, fun i hi => by simp at hi⟩
  | succ n ih =>
    obtain ⟨ys, h1, h2⟩ := ih fun i hi => h i (by omega)
    obtain ⟨y, hy⟩ := h n (by omega)
    refine ⟨ys ++ [y], by simp [h1], fun i hi => ?_⟩
    by_cases hlt : i < ys.length
    · rw [List.getElem_append_left hlt]; exact h2 i hlt
    · simp at hi
      have : i = ys.length := by omega
      subst this
      simp
      rw [h1]; exact hy
theorem trod_rd_all {X : Type} {enc : TypeId × Value → X} {P : Program} {w : World} {base : Nat} {spare : Nat → Bool} {held : Bool} : ∀ (n : Nat),
    (∀ (t : TypeId) (u : Ty) (fuel : Nat) (cs : List Value) (x : DataW X × List MemPlace), rdChk P n t u = true → DataW.trod enc P w base spare held fuel t cs = some x → ∃ y : u.T, Rd (HW w) u y cs ∧ WF u y) ∧
    (∀ (off : Nat) (fs : List Field) (u : Ty) (fuel : Nat) (cs : List Value), rdFs P n off fs u = true → cs.length = off + u.sz →
      (∀ f ∈ fs, ∃ x, DataW.trod enc P w base spare held fuel f.type ((cs.drop f.offset).take (P.cellsOf f.type)) = some x) → ∃ y : u.T, Rd (HW w) u y (cs.drop off) ∧ WF u y) := by
  intro n
  induction n with
  | zero => exact ⟨fun _ _ _ _ _ h => by simp [rdChk] at h, fun _ _ _ _ _ h => by simp [rdFs] at h⟩
  | succ n ih =>
    refine ⟨?_, ?_⟩
    · intro t u fuel cs x h hx
      unfold rdChk at h
      split at h
      · rename_i k hu
        simp at h; subst h
        obtain ⟨m, rfl, _, hw⟩ := DataW.trod_int hu hx
        exact ⟨m, rfl, hw⟩
      · rename_i hu
        simp at h; subst h
        obtain ⟨m, rfl, _⟩ := DataW.trod_bool hu hx
        exact ⟨m, rfl, trivial⟩
      · rename_i hu
        simp at h; subst h
        obtain ⟨s, rfl, _, hw⟩ := DataW.trod_string hu hx
        refine ⟨s.data.toList, rfl, ?_⟩
        show s.data.toList.length ≤ maxLen
        rw [Array.length_toList]; exact hw
      · rename_i k hu
        simp at h; subst h
        cases fuel with
        | zero => simp [DataW.trod] at hx
        | succ m =>
          unfold DataW.trod at hx
          rw [hu] at hx
          have : ∃ b, cs = [.float k b] ∧ (Lit.float k b).wf = true := by split at hx <;> simp_all
          obtain ⟨b, rfl, hw⟩ := this
          exact ⟨b, rfl, hw⟩
      · rename_i e hu
        split at h
        · rename_i v
          simp only [Bool.and_eq_true, decide_eq_true_eq] at h
          obtain ⟨⟨h1, h2⟩, h3⟩ := h
          rcases DataW.trod_slice hu hx with ⟨rfl, _⟩ | ⟨a, len, cap, elems, rest, m, _, rfl, _, _, hlc, hm, hel, hei, _, _⟩
          · exact ⟨[], ⟨none, 0, rfl, Nat.le_refl _, .inl rfl⟩, by simp [WF]⟩
          · have hone : ∀ i, i < len → ∃ cs', w.cells? base (a.add (i * P.cellsOf e)) (P.cellsOf e) = some cs' ∧ ∃ y : v.T, Rd (HW w) v y cs' ∧ WF v y := by
              intro i hi
              have := hei i hi
              rw [List.getElem?_eq_getElem (by omega)] at this
              obtain ⟨cs', hc1, hc2⟩ := Option.bind_eq_some_iff.1 this
              exact ⟨cs', hc1, ih.1 _ _ _ _ _ h3 hc2⟩
            obtain ⟨ys, hy1, hy2⟩ := choose_list len (fun i (y : v.T) => ∃ cs', w.cells? base (a.add (i * P.cellsOf e)) (P.cellsOf e) = some cs' ∧ Rd (HW w) v y cs' ∧ WF v y)
              (fun i hi => by obtain ⟨cs', h1, y, h2⟩ := hone i hi; exact ⟨y, cs', h1, h2⟩)
            refine ⟨ys, ⟨some a, cap, by rw [hy1], by rw [hy1]; exact hlc, ?_⟩, by rw [hy1]; omega, fun i hi => ?_⟩
            · rcases Nat.eq_zero_or_pos ys.length with h0 | h0
              · exact .inl h0
              · right
                obtain ⟨cs0, hc0, _⟩ := hy2 0 h0
                obtain ⟨b, off, c, e', fr, ha, hb, _⟩ := cells_seg hc0 (by omega)
                have ha' : a = ⟨b, off, none⟩ := by rw [← ha]; simp [Addr.add]
                refine ⟨b, off, c, e', fr, by rw [ha'], hb, fun i hi => ?_⟩
                obtain ⟨cs', hc', hr, _⟩ := hy2 i hi
                obtain ⟨b', off', c', e'', fr', hab, hb', hsg⟩ := cells_seg hc' (by omega)
                rw [ha', addp] at hab
                simp only [Addr.mk.injEq] at hab
                obtain ⟨rfl, rfl, _⟩ := hab
                rw [hb] at hb'
                cases hb'
                rw [h1] at hsg
                rw [hsg]; exact hr
            · obtain ⟨_, _, _, hwf⟩ := hy2 i hi
              exact hwf
        · cases h
      · rename_i m e hu
        split at h
        · rename_i m' v
          simp only [Bool.and_eq_true, decide_eq_true_eq] at h
          obtain ⟨⟨⟨rfl, h1⟩, h2⟩, h3⟩ := h
          obtain ⟨xs, k, _, _, hl, hxl, hxi⟩ := DataW.trod_array hu hx
          obtain ⟨ys, hy1, hy2⟩ := choose_list m (fun i (y : v.T) => Rd (HW w) v y ((cs.drop (i * P.cellsOf e)).take (P.cellsOf e)) ∧ WF v y)
            (fun i hi => by
              have := hxi i hi
              rw [List.getElem?_eq_getElem (by omega)] at this
              exact ih.1 _ _ _ _ _ h3 this)
          refine ⟨ys, ⟨hy1, by rw [hl, h2], fun i hi => ?_⟩, hy1, fun i hi => (hy2 i hi).2⟩
          have := (hy2 i hi).1
          rw [h1] at this
          exact this
        · cases h
      · rename_i fs hu
        simp only [Bool.and_eq_true, decide_eq_true_eq] at h
        obtain ⟨xs, k, _, _, hl, hxl, hxi⟩ := DataW.trod_struct hu hx
        have := ih.2 0 fs.toList u k cs h.2 (by rw [hl, h.1]; omega) (fun f hf => by
          obtain ⟨i, hi, rfl⟩ := List.mem_iff_getElem.1 hf
          simp at hi
          have := hxi i fs[i] (by simp [hi])
          rw [List.getElem?_eq_getElem (by omega)] at this
          exact ⟨_, by simpa using this⟩)
        simpa using this
      · cases h
    · intro off fs u fuel cs h hl hf
      match fs, u, h, hl, hf with
      | [], u, h, _, _ => simp [rdFs] at h
      | [f], u, h, hl, hf =>
        simp only [rdFs, Bool.and_eq_true, decide_eq_true_eq] at h
        obtain ⟨⟨rfl, h1⟩, h2⟩ := h
        obtain ⟨x, hx⟩ := hf f (by simp)
        rw [h1, List.take_of_length_le (by simp; omega)] at hx
        exact ih.1 _ _ _ _ _ h2 hx
      | f :: g :: r, .pair a b, h, hl, hf =>
        simp only [rdFs, Bool.and_eq_true, decide_eq_true_eq] at h
        obtain ⟨⟨⟨rfl, h1⟩, h2⟩, h3⟩ := h
        simp only [Ty.sz] at hl
        obtain ⟨x, hx⟩ := hf f (by simp)
        rw [h1] at hx
        obtain ⟨y1, hy1, hw1⟩ := ih.1 _ _ _ _ _ h2 hx
        obtain ⟨y2, hy2, hw2⟩ := ih.2 _ _ _ fuel cs h3 (by omega) (fun g' hg => hf g' (List.mem_cons_of_mem _ hg))
        refine ⟨(y1, y2), ⟨hy1, ?_⟩, hw1, hw2⟩
        rw [List.drop_drop]; exact hy2
      | _ :: _ :: _, .int _, h, _, _ => simp [rdFs] at h
      | _ :: _ :: _, .bool, h, _, _ => simp [rdFs] at h
      | _ :: _ :: _, .str, h, _, _ => simp [rdFs] at h
      | _ :: _ :: _, .flt _, h, _, _ => simp [rdFs] at h
      | _ :: _ :: _, .cpx _, h, _, _ => simp [rdFs] at h
      | _ :: _ :: _, .sl _, h, _, _ => simp [rdFs] at h
      | _ :: _ :: _, .arr _ _, h, _, _ => simp [rdFs] at h
theorem trod_rd {X : Type} {enc : TypeId × Value → X} {P : Program} {w : World} {base : Nat} {spare : Nat → Bool} {held : Bool} (n : Nat)
    {t : TypeId} {u : Ty} (h : rdChk P n t u = true) {fuel : Nat} {cs : List Value} {x : DataW X × List MemPlace} (hx : DataW.trod enc P w base spare held fuel t cs = some x) : ∃ y : u.T, Rd (HW w) u y cs ∧ WF u y :=
  (trod_rd_all n).1 t u fuel cs x h hx
end Go.Sx

/- From readings of arguments to pure data: arguments, variables, what is left behind. -/
namespace Go.Sx
open Go.RowKit Go.ChangeShapes Go.WideShapes Go.ChangeAt
section
variable {X : Type} {enc : TypeId × Value → X} {P : Program} {w : World} {base base' : Nat} {spare : Nat → Bool} {held : Bool} {n : Nat} {t : TypeId} {u : Ty} {v : Value} {d : DataW X} {ps : List MemPlace}
theorem cells_one (hv : ∀ cs, v ≠ .agg cs) : v.cells.toList = [v] := by
  cases v <;> simp_all [Value.cells]
theorem okWide_one (ha : aggOf P t = false) (hok : Value.okWide P w .any base' t v) : ∀ cs, v ≠ .agg cs := by
  intro cs hv
  subst hv
  unfold aggOf at ha
  unfold Value.okWide at hok
  split at hok
  · rename_i h; rw [h] at ha; cases ha
  · rename_i h; rw [h] at ha; cases ha
  · unfold Cell.okWide at hok
    split at hok <;> try (rename_i h; cases h; done)
    all_goals first | (rename_i h _; cases h; done) | skip
    all_goals first | (unfold Cell.ok at hok; split at hok <;> first | (exact hok) | (rename_i h; cases h; done) | (rename_i h _; cases h; done) | simp_all; done) | simp_all
theorem arg_one (h : rdChk P n t u = true) (ha : aggOf P t = false) (hok : Value.okWide P w .any base' t v) (hT : DataW.Trod enc P w base spare held t v d ps) : ∃ y : u.T, Rd (HW w) u y [v] ∧ WF u y := by
  obtain ⟨fuel, hT⟩ := hT
  rw [cells_one (okWide_one ha hok)] at hT
  exact trod_rd n h hT
theorem arg_agg (h : rdChk P n t u = true) (ha : aggOf P t = true) (hok : Value.okWide P w .any base' t v) (hT : DataW.Trod enc P w base spare held t v d ps) : ∃ (vs : List Value) (y : u.T), v = .agg ⟨vs⟩ ∧ Rd (HW w) u y vs ∧ WF u y := by
  obtain ⟨fuel, hT⟩ := hT
  have hv : ∃ cs, v = .agg cs := by
    unfold aggOf at ha
    unfold Value.okWide at hok
    split at hok
    · exact ⟨_, hok.choose_spec.1⟩
    · exact ⟨_, hok.choose_spec.1⟩
    · rename_i h1 h2
      split at ha
      · exact absurd ‹_› (h1 _)
      · exact absurd ‹_› (h2 _ _)
      · cases ha
  obtain ⟨cs, rfl⟩ := hv
  obtain ⟨y, h1, h2⟩ := trod_rd n h hT
  exact ⟨cs.toList, y, rfl, h1, h2⟩
end
theorem trodAll_below {X : Type} {enc : TypeId × Value → X} {P : Program} (hl : laidOutB P = true) {W W' : World} (hb : Below W.heap.size W W') : ∀ {ts : List TypeId} {vs : List Value} {ds : List (DataW X)} {ps : List MemPlace},
    (ts.all fun t => P.readableRec t && decide (t < P.types.size)) = true → DataW.TrodAll enc P W 0 (fun _ => true) true ts vs ds ps → (∀ x ∈ ps, x.block < W.heap.size) → DataW.TrodAll enc P W' 0 (fun b => decide (b < W.heap.size)) true ts vs ds ps
  | [], vs, ds, ps, _, h, _ => by
    cases vs <;> cases ds <;> simp_all [DataW.TrodAll]
  | t :: ts, vs, ds, ps, ht, h, hlt => by
    obtain ⟨v, vs', d, ds', p, q, rfl, rfl, rfl, h1, h2⟩ := trodAll_cons h
    simp only [List.all_cons, Bool.and_eq_true, decide_eq_true_eq] at ht
    refine trodAll_cons_mk (Below.trod hl ht.1.1 ht.1.2 h1 hb fun x hx => hlt x (by simp [hx])) (trodAll_below hl hb ht.2 h2 fun x hx => hlt x (by simp [hx]))
theorem law_post {X : Type} {enc : TypeId × Value → X} {P : Program} (hl : laidOutB P = true) {s : ChangeSpec} {f : Func} {tb : TypeId} {W W' : World} {args : Array Value} {ds gs : List (DataW X)} {before : List MemPlace} {r : Value}
    (hvars : s.vars = []) (hts : (f.params.toList.all fun t => P.readableRec t && decide (t < P.types.size)) = true) (hres : f.resultTypes = #[tb]) (htb : P.underlying tb = some .bool)
    (hfn : s.fn X ds = { results := [.lit (.bool true)], args := ds })
    (hW : DataW.Whole enc P f.params.toList s.vars false W args.toList ds gs before) (hb : Below W.heap.size W W') (hr : r = .bool true) :
    s.post enc P f false true false false W args r W' := by
  subst hr
  have hW' := hW
  obtain ⟨p, q, hA, hV, rfl, hfz, hnd⟩ := hW
  rw [hvars] at hV
  obtain ⟨rfl, rfl⟩ := trodVars_none hV
  have hlt : ∀ x ∈ p, x.block < W.heap.size := fun x hx => hW'.lt x (by simp [hx])
  refine ⟨ds, [], p ++ [], [], p, [], hW', ?_, ?_, ?_, hb.frame _, fun h => by cases h⟩
  · rw [List.append_nil, hfn, hres]
    exact trodAll_cons_mk (shut_bool htb _) trodAll_mk0
  · rw [List.append_nil, hfn]
    exact trodAll_below hl hb hts hA hlt
  · rw [List.append_nil, hfn, hvars]
    rfl
theorem law_calls {X : Type} {enc : TypeId × Value → X} {P : Program} (hl : laidOutB P = true) {s : ChangeSpec} {f : Func} {tb : TypeId} {fid : FuncId} {W : World} {args : Array Value} {ds gs : List (DataW X)} {before : List MemPlace}
    (hvars : s.vars = []) (hts : (f.params.toList.all fun t => P.readableRec t && decide (t < P.types.size)) = true) (hres : f.resultTypes = #[tb]) (htb : P.underlying tb = some .bool)
    (hfn : s.fn X ds = { results := [.lit (.bool true)], args := ds })
    (hW : DataW.Whole enc P f.params.toList s.vars false W args.toList ds gs before)
    {gl : Nat → Option ((t : Ty) × t.T)} {avs : List V} (hF : Fn P gl fid avs (.val (.one (.bool true))) true) (hg : GlobOk gl (HW W)) (ha : DenVs ρ0 (HW W) avs args.toList) :
    Calls P fid args W fun e W' => ∃ v, e = .returned v ∧ s.post enc P f false true false false W args v W' := by
  refine (hF W (HW W) args.toList (fun b o h => h) hg ha).mono fun e W' h => ?_
  obtain ⟨v, H', rfl, hb, _, _, hd⟩ := h
  exact ⟨v, rfl, law_post hl hvars hts hres htb hfn hW hb hd.2⟩
theorem glob_tab {P : Program} {W : World} {name : String} {k : IntKind} {zs : List Int} {g : Nat} (h : Lib.TabIs P W name k zs) (hg : P.globalNamed name = some g) :
    ∃ c e fr, HW W g = some (.cells c e fr) ∧ Rd (HW W) (.arr zs.length (.int k)) zs (seg c 0 (zs.length * 1)) ∧ c.size = zs.length * 1 := by
  unfold Lib.TabIs at h
  simp only [World.var?, hg, Option.bind_some] at h
  split at h
  · rename_i cs e fr hh
    cases h
    refine ⟨_, _, _, hh, ?_, by simp⟩
    have e1 : seg (zs.map fun z => Value.int k z).toArray 0 (zs.length * 1) = zs.map fun z => Value.int k z := by
      simp [seg, List.take_of_length_le]
    rw [e1]
    refine ⟨rfl, by simp [Ty.sz], fun i hi => ?_⟩
    show List.take 1 (List.drop (i * 1) (List.map (fun z => Value.int k z) zs)) = [Value.int k zs[i]]
    simp only [Nat.mul_one]
    rw [List.drop_eq_getElem_cons (by simpa using hi)]
    simp
  · cases h
end Go.Sx

/- What a row's list of variables gives, wherever a variable stands on it. -/
namespace Go.Sx
open Go.RowKit
theorem laid_at {P : Program} {W : World} {name : String} {d : DataW Unit} {l : List (String × DataW Unit)} (h : laidMet P l W) (hm : (name, d) ∈ l) :
    ∃ g t cs fuel p, P.globalNamed name = some g ∧ (P.globals[g]?).map (·.type) = some t ∧ W.var? P name = some cs ∧ DataW.trod (fun _ => ()) P W 0 (fun _ => true) false fuel t cs.toList = some (d, p) := by
  obtain ⟨ps, h, hrest⟩ := h
  clear hrest
  induction l generalizing ps with
  | nil => cases hm
  | cons x r ih =>
    obtain ⟨n, e⟩ := x
    obtain ⟨g, t, cs, fuel, p, q, h1, h2, h3, h4, h5, h6⟩ := h
    rcases List.mem_cons.1 hm with e | hm
    · cases e; exact ⟨g, t, cs, fuel, p, h1, h2, h3, h4⟩
    · exact ih hm _ h5
theorem tab_at {P : Program} {W : World} {name : String} {k : IntKind} {zs : List Int} {l : List (String × DataW Unit)} {g : Nat} {t e : TypeId} {n : Nat} (hm : (name, Lib.tabData k zs) ∈ l)
    (hg : P.globalNamed name = some g) (hty : (P.globals[g]?).map (·.type) = some t) (ht : P.underlying t = some (.array n e)) (he : P.underlying e = some (.int k)) (hce : P.cellsOf e = 1) (hct : P.cellsOf t = n)
    (h : laidMet P l W) : Lib.TabIs P W name k zs := by
  obtain ⟨g', t', cs, fuel, p, h1, h2, h3, h4⟩ := laid_at h hm
  obtain rfl := Option.some.inj (hg.symm.trans h1)
  obtain rfl := Option.some.inj (hty.symm.trans h2)
  unfold Lib.TabIs
  rw [h3, ← Lib.cells_of_tab ht he hce hct h4]
theorem var_heap {P : Program} {W : World} {name : String} {g : Nat} {cs : Array Value} (hg : P.globalNamed name = some g) (h : W.var? P name = some cs) : ∃ e fr, W.heap[g]? = some (.cells cs e fr) := by
  simp only [World.var?, hg, Option.bind_some] at h
  split at h
  · rename_i cs' e fr hh
    cases h
    exact ⟨e, fr, hh⟩
  · cases h
def intB (P : Program) (t : TypeId) (k : IntKind) : Bool := match P.underlying t with
  | some (.int q) => decide (q = k)
  | _ => false
theorem intB_ok {P : Program} {t : TypeId} {k : IntKind} (h : intB P t k = true) : P.underlying t = some (.int k) := by
  unfold intB at h
  split at h
  · rename_i q hq
    rw [hq, of_decide_eq_true h]
  · cases h
def pairB (P : Program) (t : TypeId) (k k' : IntKind) : Bool := match P.underlying t with
  | some (.struct fs) => match fs.toList with
    | [f0, f1] => decide (f0.offset = 0) && decide (f1.offset = 1) && decide (P.cellsOf f0.type = 1) && decide (P.cellsOf f1.type = 1) && intB P f0.type k && intB P f1.type k' && decide (P.cellsOf t = 2)
    | _ => false
  | _ => false
theorem wf_i8 {n : Int} (h : (Lit.int .i8 n).wf = true) : fits .i8 n := by
  simp [Lit.wf, IntKind.min, IntKind.max, IntKind.signed, IntKind.bits] at h
  simp only [fits]
  omega
theorem wf_mem {t : Ty} {xs : List t.T} (h : WF (.sl t) xs) : ∀ x ∈ xs, WF t x := by
  intro x hx
  obtain ⟨i, hi, rfl⟩ := List.mem_iff_getElem.1 hx
  exact h.2 i hi
end Go.Sx

/- What a row's list of variables gives: rows of pairs of numbers; what every row of this seat asks of the program. -/
namespace Go.Sx
open Go.RowKit
theorem pair_cells {P : Program} {W : World} {k k' : IntKind} {a b : Int} {t : TypeId} {fuel : Nat} {cs : List Value} {p : List MemPlace} (hc : pairB P t k k' = true)
    (h : DataW.trod (fun _ => ()) P W 0 (fun _ => true) false fuel t cs = some (.agg [.lit (.int k a), .lit (.int k' b)], p)) : cs = [.int k a, .int k' b] := by
  unfold pairB at hc
  split at hc
  · rename_i fs ht
    split at hc
    · rename_i f0 f1 hfs
      simp only [Bool.and_eq_true, decide_eq_true_eq] at hc
      obtain ⟨⟨⟨⟨⟨⟨ho0, ho1⟩, hc0⟩, hc1⟩, hu0⟩, hu1⟩, hct⟩ := hc
      cases fuel with
      | zero => simp [DataW.trod] at h
      | succ fuel =>
        simp only [DataW.trod, ht, hct, hfs, hc0, hc1, ho0, ho1, List.mapM_cons, List.mapM_nil] at h
        split at h
        · rename_i hl
          obtain ⟨xs, hx1, hx2⟩ := Option.map_eq_some_iff.1 h
          simp only [Option.bind_eq_bind, Option.bind_eq_some_iff, Option.pure_def, Option.some.injEq] at hx1
          obtain ⟨y0, hy0, r, ⟨y1, hy1, r2, rfl, rfl⟩, rfl⟩ := hx1
          obtain ⟨m0, e0, hz0, _⟩ := DataW.trod_int (intB_ok hu0) hy0
          obtain ⟨m1, e1, hz1, _⟩ := DataW.trod_int (intB_ok hu1) hy1
          subst hz0 hz1
          simp only [List.map_cons, List.map_nil, Prod.mk.injEq, DataW.agg.injEq, List.cons.injEq, DataW.lit.injEq, Lit.int.injEq, true_and, and_true] at hx2
          obtain ⟨⟨rfl, rfl⟩, _⟩ := hx2
          match cs, hl with
          | [u, v], _ =>
            simp at e0 e1
            rw [e0, e1]
        · cases h
    · cases hc
  · cases hc
theorem pairs_at {P : Program} {W : World} {name : String} {k : IntKind} {zs : List (Int × Int)} {l : List (String × DataW Unit)} {g : Nat} {t e : TypeId} {n : Nat}
    (hm : (name, .agg (zs.map fun z => .agg [.lit (.int k z.1), .lit (.int k z.2)])) ∈ l) (hg : P.globalNamed name = some g) (hty : (P.globals[g]?).map (·.type) = some t) (ht : P.underlying t = some (.array n e))
    (hn : zs.length = n) (hce : P.cellsOf e = 2) (hct : P.cellsOf t = n * 2) (hc : pairB P e k k = true) (h : laidMet P l W) :
    ∃ c e fr, HW W g = some (.cells c e fr) ∧ Rd (HW W) (.arr n (.pair (.int k) (.int k))) zs (seg c 0 (n * 2)) ∧ c.size = n * 2 := by
  obtain ⟨g', t', cs, fuel, p, h1, h2, h3, h4⟩ := laid_at h hm
  obtain rfl := Option.some.inj (hg.symm.trans h1)
  obtain rfl := Option.some.inj (hty.symm.trans h2)
  obtain ⟨ee, fr, hh⟩ := var_heap hg h3
  obtain ⟨xs, m, _, hx, hl, hxl, hi⟩ := DataW.trod_array ht h4
  have hx1 : (zs.map fun z => (.agg [.lit (.int k z.1), .lit (.int k z.2)] : DataW Unit)) = xs.map (·.1) := by
    have := congrArg Prod.fst hx
    simpa using this
  have hs : cs.size = n * 2 := by rw [← Array.length_toList, hl, hct]
  have hseg : seg cs 0 (n * 2) = cs.toList := by
    unfold seg
    rw [List.drop_zero, List.take_of_length_le (by rw [Array.length_toList]; omega)]
  refine ⟨cs, ee, fr, hh, ?_, hs⟩
  rw [hseg]
  refine ⟨hn, by rw [Array.length_toList, hs]; rfl, fun i hiz => ?_⟩
  have hin : i < n := by rw [← hn]; exact hiz
  have hix : i < xs.length := by rw [hxl]; exact hin
  have q := hi i hin
  rw [List.getElem?_eq_getElem hix, hce] at q
  have e1 : xs[i].1 = .agg [.lit (.int k zs[i].1), .lit (.int k zs[i].2)] := by
    have := congrArg (fun l => l[i]?) hx1
    simp only [List.getElem?_map, List.getElem?_eq_getElem hix, List.getElem?_eq_getElem hiz, Option.map_some, Option.some.injEq] at this
    exact this.symm
  have q' : DataW.trod (fun _ => ()) P W 0 (fun _ => true) false m e ((cs.toList.drop (i * 2)).take 2) = some (.agg [.lit (.int k zs[i].1), .lit (.int k zs[i].2)], xs[i].2) := by
    rw [q, ← e1]
  have hcell := pair_cells hc q'
  show Rd (HW W) (.pair (.int k) (.int k)) zs[i] ((cs.toList.drop (i * 2)).take 2)
  rw [hcell]
  exact ⟨rfl, rfl⟩
theorem j4a : laidOutB Proofs.Tryz.prog = true := by kernel_rfl
theorem j4b : mapsRowed Proofs.Tryz.prog = true := by kernel_rfl
theorem j4c : Proofs.Tryz.prog.stopsHeard = true := by kernel_rfl
theorem j4d : Proofs.Tryz.prog.mayEnter = true := by kernel_rfl
end Go.Sx
