/- A verified symbolic run of functions, part 5: lemmas, no claim of their own. -/
import Derived.Test.YtlgimjcnnndbhaaS4
namespace Go.Sx.U
open Ieee
def valDD : Datum → Int
  | .number s m e => signed s m (e + 1074).toNat
  | _ => 0
def vWD (b : Nat) : Int := valDD (double.read b)
def numWD (b : Nat) : Bool := isNum (double.read b)
theorem double_binadeD : double.binade = 4503599627370496 := by decide
theorem double_infD : double.infRung = 9218868437227405312 := by decide
theorem double_signD : double.signWeight = 9223372036854775808 := by decide
theorem double_leastD : double.leastPlace = -1074 := by decide
theorem double_fracD : double.fractionBits = 52 := rfl
theorem read_numD {b : Nat} {s : Bool} {m : Nat} {e : Int} (h : double.read b = .number s m e) : -1074 ≤ e ∧ m < 9007199254740992 := by
  unfold Format.read at h
  simp only [double_binadeD, double_infD, double_signD, double_leastD] at h
  split at h
  · cases h; omega
  · split at h
    · cases h; omega
    · split at h <;> cases h
theorem word_readD {neg : Bool} {m : Nat} {last : Int} (h1 : -1074 ≤ last) (h2 : last ≤ 971) (h3 : m < 9007199254740992) (h4 : -1074 < last → 4503599627370496 ≤ m) :
    double.read (double.word neg (min ((last - -1074).toNat * 4503599627370496 + m) 9218868437227405312)) = .number neg m last := by
  have hr : min ((last - -1074).toNat * 4503599627370496 + m) 9218868437227405312 = (last - -1074).toNat * 4503599627370496 + m := by omega
  rw [hr]
  have hlt : (last - -1074).toNat * 4503599627370496 + m < 9218868437227405312 := by omega
  unfold Format.read Format.word
  simp only [double_binadeD, double_infD, double_signD, double_leastD]
  have e1 : (if neg then 9223372036854775808 + ((last - -1074).toNat * 4503599627370496 + m) else ((last - -1074).toNat * 4503599627370496 + m)) % 9223372036854775808 = (last - -1074).toNat * 4503599627370496 + m := by split <;> omega
  have e2 : ((if neg then 9223372036854775808 + ((last - -1074).toNat * 4503599627370496 + m) else ((last - -1074).toNat * 4503599627370496 + m)) / 9223372036854775808 % 2 == 1) = neg := by
    cases neg
    · have : ((last - -1074).toNat * 4503599627370496 + m) / 9223372036854775808 = 0 := by omega
      simp only [Bool.false_eq_true, if_false, this]; rfl
    · have : (9223372036854775808 + ((last - -1074).toNat * 4503599627370496 + m)) / 9223372036854775808 = 1 := by omega
      simp only [if_true, this]; rfl
  rw [e1, e2]
  by_cases hl : (last - -1074).toNat * 4503599627370496 + m < 4503599627370496
  · rw [if_pos hl]
    have : last = -1074 := by omega
    subst this
    have e3 : ((-1074 : Int) - -1074).toNat * 4503599627370496 + m = m := by omega
    rw [e3]
  · rw [if_neg hl, if_pos hlt]
    have hm : 4503599627370496 ≤ m := by
      by_cases h : -1074 < last
      · exact h4 h
      · omega
    have q1 : ((last - -1074).toNat * 4503599627370496 + m) % 4503599627370496 = m - 4503599627370496 := by omega
    have q2 : ((last - -1074).toNat * 4503599627370496 + m) / 4503599627370496 = (last - -1074).toNat + 1 := by omega
    have q3 : 4503599627370496 + (m - 4503599627370496) = m := by omega
    have q4 : (-1074 : Int) + (((last - -1074).toNat + 1 - 1 : Nat) : Int) = last := by omega
    rw [q1, q2, q3, q4]
theorem nearest_exactD {neg : Bool} {mag c k : Nat} {place : Int} (hm : mag = c * 2 ^ k) (hc : c ≠ 0) (h53 : c < 9007199254740992) (hp : -1074 ≤ place + k) (ht : place + mag.log2 ≤ 1023) :
    ∃ m last, double.read (double.nearest neg mag place) = .number neg m last ∧ m * 2 ^ (last + 1074).toNat = c * 2 ^ (place + k + 1074).toNat := by
  have hk : 0 < 2 ^ k := Nat.two_pow_pos k
  have hne : mag ≠ 0 := by rw [hm]; exact Nat.mul_ne_zero hc (by omega)
  have hL : mag.log2 = c.log2 + k := by rw [hm, log2_shift hc]
  have hc2 : c.log2 ≤ 52 := by
    have := (Nat.log2_lt hc (k := 53)).2 (by omega)
    omega
  unfold Format.nearest
  rw [if_neg hne]
  simp only [double_fracD, double_leastD, double_binadeD, double_infD]
  generalize hlast : max (place + mag.log2 - (52 : Nat)) (-1074 : Int) = last
  have hl1 : -1074 ≤ last := by omega
  have hl2 : last ≤ place + k := by omega
  have hl3 : place + mag.log2 - 52 ≤ last := by omega
  have hl4 : last ≤ 971 := by omega
  obtain ⟨q, hq⟩ : ∃ q, q = c * 2 ^ (place + k - last).toNat := ⟨_, rfl⟩
  have hq0 : q ≠ 0 := by rw [hq]; exact Nat.mul_ne_zero hc (by have := Nat.two_pow_pos (place + k - last).toNat; omega)
  have hcut : Toward.even.cut neg (mag <<< (place - last).toNat) (last - place).toNat = q := by
    apply cut_exact _ hq0
    rw [Nat.shiftLeft_eq, hm, hq, Nat.mul_assoc, Nat.mul_assoc, ← Nat.pow_add, ← Nat.pow_add]
    congr 2
    omega
  rw [hcut]
  have hqL : q.log2 = c.log2 + (place + k - last).toNat := by rw [hq, log2_shift hc]
  have hq53 : q < 9007199254740992 := by
    have : q.log2 < 53 := by omega
    have := (Nat.log2_lt hq0 (k := 53)).1 this
    omega
  have hqge : -1074 < last → 4503599627370496 ≤ q := by
    intro h
    have h1 : q.log2 = 52 := by omega
    have := Nat.log2_self_le hq0
    rw [h1] at this
    exact this
  refine ⟨q, last, word_readD hl1 hl4 hq53 hqge, ?_⟩
  rw [hq, Nat.mul_assoc, ← Nat.pow_add]
  congr 2
  omega
theorem vW_numD {b : Nat} {s : Bool} {m : Nat} {e : Int} (h : double.read b = .number s m e) : vWD b = signed s m (e + 1074).toNat := by
  unfold vWD; rw [h]; rfl
theorem num_ofD {b : Nat} (h : numWD b = true) : ∃ s m e, double.read b = .number s m e := by
  unfold numWD isNum at h
  split at h
  · exact ⟨_, _, _, by assumption⟩
  · cases h
theorem numW_ofD {b : Nat} {s : Bool} {m : Nat} {e : Int} (h : double.read b = .number s m e) : numWD b = true := by
  unfold numWD; rw [h]; rfl
theorem order_valD {a b : Nat} (ha : numWD a = true) (hb : numWD b = true) : double.order a b = some (compare (vWD a) (vWD b)) := by
  obtain ⟨s, m, i, e1⟩ := num_ofD ha
  obtain ⟨t, n, j, e2⟩ := num_ofD hb
  have h1 := (read_numD e1).1
  have h2 := (read_numD e2).1
  rw [vW_numD e1, vW_numD e2]
  unfold Format.order
  rw [e1, e2]
  simp only [Datum.order]
  congr 1
  have q1 : (i + 1074).toNat = (i - min i j).toNat + (min i j + 1074).toNat := by omega
  have q2 : (j + 1074).toNat = (j - min i j).toNat + (min i j + 1074).toNat := by omega
  rw [q1, q2, signed_add, signed_add, compare_scale]
  exact Int.natCast_pos.2 (Nat.two_pow_pos _)
theorem read_16D : double.read 4625196817309499392 = .number false 4503599627370496 (-48) := by decide
theorem nearest_0D (s : Bool) (e : Int) : double.read (double.nearest s 0 e) = .number s 0 (-1074) := by
  unfold Format.nearest
  rw [if_pos rfl]
  cases s <;> decide
theorem log_leD {m : Nat} {e : Int} (hm : m ≠ 0) (he : -1074 ≤ e) (L T : Nat) (hT : T ≤ L + 1 + 1074) (h : m * 2 ^ (e + 1074).toNat < 2 ^ T) : m.log2 + e ≤ L := by
  have h1 := Nat.log2_self_le hm
  have h2 : 2 ^ (m.log2 + (e + 1074).toNat) < 2 ^ T := by
    rw [Nat.pow_add]
    exact Nat.lt_of_le_of_lt (Nat.mul_le_mul_right _ h1) h
  have := (Nat.pow_lt_pow_iff_right (a := 2) (by omega)).1 h2
  omega
theorem mul_16D {b T : Nat} (h : numWD b = true) (hT : T ≤ 1085) (hv : (vWD b).natAbs < 2 ^ T) : ∃ y, double.mul 4625196817309499392 b = some y ∧ numWD y = true ∧ vWD y = 16 * vWD b := by
  obtain ⟨s, m, e, e1⟩ := num_ofD h
  obtain ⟨h1, h2⟩ := read_numD e1
  rw [vW_numD e1, natAbs_signed] at hv
  unfold Format.mul
  rw [read_16D, e1]
  simp only [Datum.product, Option.map_some, Format.write, Bool.false_xor]
  refine ⟨_, rfl, ?_⟩
  by_cases hm : m = 0
  · subst hm
    rw [Nat.mul_zero]
    have := nearest_0D s (-48 + e)
    refine ⟨numW_ofD this, ?_⟩
    rw [vW_numD this, vW_numD e1, signed_eq, signed_eq]
    simp
  · obtain ⟨q, last, r1, r2⟩ := nearest_exactD (neg := s) (mag := 4503599627370496 * m) (c := m) (k := 52) (place := -48 + e) (by rw [Nat.mul_comm]) hm h2 (by omega) (by
      have : (4503599627370496 * m).log2 = m.log2 + 52 := by rw [Nat.mul_comm]; exact log2_shift (k := 52) hm
      have := log_leD hm h1 10 T hT hv
      omega)
    refine ⟨numW_ofD r1, ?_⟩
    rw [vW_numD r1, vW_numD e1, signed_eq, signed_eq, r2]
    have : (-48 + e + ((52 : Nat) : Int) + 1074).toNat = (e + 1074).toNat + 4 := by omega
    have e2 : m * (2 ^ (e + 1074).toNat * 2 ^ 4) = 16 * (m * 2 ^ (e + 1074).toNat) := by rw [← Nat.mul_assoc, Nat.mul_comm]
    rw [this, Nat.pow_add, e2]
    generalize m * 2 ^ (e + 1074).toNat = q
    cases s <;> simp <;> omega
def U : Nat := 1074
def U2 : Nat := 925
theorem U_eq : U = 1074 := rfl
theorem U2_eq : U2 = 925 := rfl
theorem conv_num {b : Nat} (h : numW b = true) : ∃ y, double.write (single.read b) = y ∧ (double.read y).isInfinity = false ∧ numWD y = true ∧ vWD y = vW b * ((2 ^ U2 : Nat) : Int) := by
  obtain ⟨s, m, e, e1⟩ := num_of h
  obtain ⟨h1, h2⟩ := read_num e1
  rw [vW_num e1, e1]
  refine ⟨_, rfl, ?_⟩
  simp only [Format.write]
  by_cases hm : m = 0
  · subst hm
    have := nearest_0D s e
    refine ⟨by rw [this]; rfl, numW_ofD this, ?_⟩
    rw [vW_numD this, signed_eq, signed_eq]
    simp
  · have he : e ≤ 104 := read_top e1
    have hl := (Nat.log2_lt hm (k := 24)).2 h2
    obtain ⟨q, last, r1, r2⟩ := nearest_exactD (neg := s) (mag := m) (c := m) (k := 0) (place := e) (by simp) hm (by omega) (by omega) (by omega)
    refine ⟨by rw [r1]; rfl, numW_ofD r1, ?_⟩
    rw [vW_numD r1, signed_eq, signed_eq, r2]
    have e2 : (e + ((0 : Nat) : Int) + 1074).toNat = (e + 149).toNat + U2 := by rw [U2_eq]; omega
    rw [e2, Nat.pow_add, ← Nat.mul_assoc, Int.natCast_mul (m * _), Int.mul_assoc]
def flo (y : Nat) : Nat := double.write ((double.read y).integral .down)
theorem floor_val {y T : Nat} (h : numWD y = true) (hT : T ≤ 20 + 1 + 1074) (hv : (vWD y).natAbs < 2 ^ T) :
    numWD (flo y) = true ∧ (∃ t : Int, vWD (flo y) = t * ((2 ^ U : Nat) : Int)) ∧ ∀ t : Int, vWD y = t * ((2 ^ U : Nat) : Int) → vWD (flo y) = vWD y := by
  obtain ⟨s, m, e, e1⟩ := num_ofD h
  obtain ⟨h1, h2⟩ := read_numD e1
  rw [vW_numD e1, natAbs_signed] at hv
  rw [vW_numD e1]
  unfold flo
  rw [e1]
  simp only [Datum.integral, Format.write]
  generalize hk : Toward.down.cut s (m <<< e.toNat) (-e).toNat = q
  unfold Toward.cut at hk
  simp only [Nat.shiftLeft_eq, Nat.one_mul] at hk
  have wr : ∀ q : Nat, q < 9007199254740992 → numWD (double.nearest s q 0) = true ∧ vWD (double.nearest s q 0) = signed s q U := by
    intro q hq
    by_cases h0 : q = 0
    · subst h0
      have := nearest_0D s 0
      refine ⟨numW_ofD this, ?_⟩
      rw [vW_numD this, signed_eq, signed_eq]; simp
    · obtain ⟨q', last, r1, r2⟩ := nearest_exactD (neg := s) (mag := q) (c := q) (k := 0) (place := 0) (by simp) h0 hq (by omega) (by
        have := (Nat.log2_lt h0 (k := 53)).2 hq
        omega)
      refine ⟨numW_ofD r1, ?_⟩
      rw [vW_numD r1, signed_eq, signed_eq, r2]
      have e5 : ((0 : Int) + ((0 : Nat) : Int) + 1074).toNat = U := by rw [U_eq]; decide
      rw [e5]
  by_cases he : 0 ≤ e
  · have z : (-e).toNat = 0 := by omega
    have z2 : (e + 1074).toNat = e.toNat + U := by rw [U_eq]; omega
    rw [z, Nat.zero_min, Nat.pow_zero, Nat.mod_one] at hk
    simp only [Nat.div_one, bne_self_eq_false, Bool.and_false, Bool.toNat_false, Nat.add_zero] at hk
    subst hk
    have hs : m * 2 ^ e.toNat < 9007199254740992 := by
      have hv' : m * 2 ^ (e + 1074).toNat < 2 ^ 21 * 2 ^ U := Nat.lt_of_lt_of_le hv (by rw [← Nat.pow_add]; exact Nat.pow_le_pow_right (by decide) (by rw [U_eq]; omega))
      rw [z2, Nat.pow_add, ← Nat.mul_assoc] at hv'
      have := Nat.lt_of_mul_lt_mul_right hv'
      omega
    obtain ⟨w1, w2⟩ := wr _ hs
    have q1 : vWD (double.nearest s (m * 2 ^ e.toNat) 0) = signed s m (e + 1074).toNat := by
      rw [w2, signed_eq, signed_eq, z2, Nat.pow_add, ← Nat.mul_assoc]
    refine ⟨w1, ⟨(if s then -1 else 1) * ((m * 2 ^ e.toNat : Nat) : Int), ?_⟩, fun _ _ => q1⟩
    rw [w2, signed_eq, Int.natCast_mul _ (2 ^ U), Int.mul_assoc]
  · have z : e.toNat = 0 := by omega
    rw [z, Nat.pow_zero, Nat.mul_one] at hk
    obtain ⟨d, hd⟩ : ∃ d, min (-e).toNat (m.log2 + 2) = d := ⟨_, rfl⟩
    have hd0 : 0 < d := by omega
    rw [hd] at hk
    have hp := Nat.two_pow_pos d
    have hp2 : 2 ≤ 2 ^ d := by
      have := Nat.pow_le_pow_right (n := 2) (by omega) hd0
      omega
    have hdm := Nat.div_add_mod m (2 ^ d)
    have hlow : m / 2 ^ d * 2 ≤ m := Nat.le_trans (Nat.mul_le_mul_left _ hp2) (Nat.div_mul_le_self m _)
    have hq : q < 9007199254740992 := by
      have : (s && m % 2 ^ d != 0).toNat ≤ 1 := by cases (s && m % 2 ^ d != 0) <;> decide
      omega
    obtain ⟨w1, w2⟩ := wr _ hq
    refine ⟨w1, ⟨(if s then -1 else 1) * ((q : Nat) : Int), ?_⟩, ?_⟩
    · rw [w2, signed_eq, Int.natCast_mul q, Int.mul_assoc]
    · intro t ht
      rw [w2, ht]
      have hm : m = t.natAbs * 2 ^ (-e).toNat := by
        have := congrArg Int.natAbs ht
        rw [natAbs_signed, Int.natAbs_mul, Int.natAbs_natCast] at this
        have e3 : (2 : Nat) ^ U = 2 ^ (-e).toNat * 2 ^ (e + 1074).toNat := by rw [← Nat.pow_add]; congr 1; rw [U_eq]; omega
        rw [e3, ← Nat.mul_assoc] at this
        exact Nat.eq_of_mul_eq_mul_right (Nat.two_pow_pos _) this
      have hmd : m = m / 2 ^ d * 2 ^ d ∧ m % 2 ^ d = 0 ∧ m / 2 ^ d * 2 ^ U = m * 2 ^ (e + 1074).toNat := by
        by_cases hc : (-e).toNat ≤ m.log2 + 2
        · have : d = (-e).toNat := by omega
          subst this
          have q1 : m / 2 ^ (-e).toNat = t.natAbs := by
            conv => lhs; rw [hm]
            exact Nat.mul_div_cancel _ (Nat.two_pow_pos _)
          have q2 : m % 2 ^ (-e).toNat = 0 := by
            conv => lhs; rw [hm]
            exact Nat.mul_mod_left _ _
          refine ⟨by rw [q1]; exact hm, q2, ?_⟩
          rw [q1]
          have e3 : (2 : Nat) ^ U = 2 ^ (-e).toNat * 2 ^ (e + 1074).toNat := by rw [← Nat.pow_add]; congr 1; rw [U_eq]; omega
          rw [e3, ← Nat.mul_assoc, ← hm]
        · have l1 : m < 2 ^ (-e).toNat := Nat.lt_of_lt_of_le (Nat.lt_log2_self (n := m)) (Nat.pow_le_pow_right (by omega) (by omega))
          have : t.natAbs = 0 := by
            rcases Nat.eq_zero_or_pos t.natAbs with h | h
            · exact h
            · have := Nat.mul_le_mul_right (2 ^ (-e).toNat) h
              omega
          have m0 : m = 0 := by rw [hm, this, Nat.zero_mul]
          subst m0
          simp
      have hq2 : q = m / 2 ^ d := by
        rw [← hk, hmd.2.1]; simp
      rw [← ht, signed_eq, signed_eq, hq2, hmd.2.2]
end Go.Sx.U

namespace Go.Sx
open Go.RowKit
section
variable {E : Env} {w0 : Base} {B : Nat} {ρ : Nat → Value} {H : IH} {ob : List (Nat × Option AObj)} {nx : Nat} {w : World} {ev : Operand → Option SV} {a : Act} {o : Oper} {r : Res}
theorem bytes_extract (s : List UInt8) (l h : Nat) : (⟨⟨s⟩⟩ : ByteArray).extract l h = ⟨⟨(s.drop l).take (h - l)⟩⟩ := by
  apply ByteArray.ext
  rw [ByteArray.data_extract]
  apply Array.ext'
  simp [List.extract_eq_take_drop]
theorem sound_slice_str (hE : EnvOk E) (I : Inv w0 B ρ H ob nx w) (hv : EvOk ρ H nx ev a) {T : TypeId} {x : Operand} {lo hi : Option Operand} {d : TD} {s : List UInt8} {l h : Int} (ho : o.op = .slice T x lo hi none) (hT : E.tt T = some d) (hk : d.kind = .sc) (ht : d.ty = some .str)
    (hx : (ev x).bind one? = some (.str s)) (hl : bound ev 0 lo = some l) (hh : bound ev s.length hi = some h)
    (hr : rcc (0 ≤ l ∧ l ≤ h ∧ h ≤ s.length) (.str ((s.drop l.toNat).take (h.toNat - l.toNat))) = some r) (hc : ∀ q ∈ r.cs, q) : StepOk E.P o a w (Post w0 B ob nx ρ H r) := by
  obtain ⟨k1, k2⟩ := hv.one hx
  have k1' : a.eval x = .string ⟨⟨s⟩⟩ := k1
  obtain ⟨h0, h1, h2⟩ := rcc_holds hr hc
  have hu := sc_str (hE.tt T d hT) hk ht
  have hs : (⟨⟨s⟩⟩ : ByteArray).size = s.length := rfl
  have hb := run_bounds (P := E.P) (w := w) (isSlice := false) (len := s.length) (cap := s.length) (bound_ok hv hl) (bound_ok hv hh) h0 h1 h2
  refine ok_rcc I hr (v := .string ⟨⟨(s.drop l.toNat).take (h.toNat - l.toNat)⟩⟩) ?_ rfl trivial
  rw [← bytes_extract]
  simp [execOp, ho, Instr.sliceAt, Instr.slice, run_underlying hu, k1', hs, hb]
theorem sound_index_str (hE : EnvOk E) (I : Inv w0 B ρ H ob nx w) (hv : EvOk ρ H nx ev a) {T : TypeId} {x y : Operand} {d : TD} {s : List UInt8} {k : IntKind} {i : Int} (ho : o.op = .index T x y) (hT : E.tt T = some d) (hk : d.kind = .sc) (ht : d.ty = some .str)
    (hx : (ev x).bind val? = some (.one (.str s))) (hy : (ev y).bind one? = some (.int k i))
    (hr : rcc (0 ≤ i ∧ i < s.length) (.int .u8 (s.getD i.toNat 0).toNat) = some r) (hc : ∀ q ∈ r.cs, q) : StepOk E.P o a w (Post w0 B ob nx ρ H r) := by
  obtain ⟨k1, k2⟩ := hv.val hx
  have k1' : a.eval x = .string ⟨⟨s⟩⟩ := k1
  have m1 : a.eval y = .int k i := (hv.one hy).1
  obtain ⟨h0, h1⟩ := rcc_holds hr hc
  have hu := sc_str (hE.tt T d hT) hk ht
  have hi : i.toNat < s.length := by omega
  have hget : (⟨⟨s⟩⟩ : ByteArray)[i.toNat]? = some (s.getD i.toNat 0) := by
    rw [getD_get hi]
    show (if h : i.toNat < (⟨⟨s⟩⟩ : ByteArray).size then some _ else none) = _
    rw [dif_pos (show i.toNat < (⟨⟨s⟩⟩ : ByteArray).size from hi)]
    rfl
  refine ok_rcc I hr (v := .int .u8 (s.getD i.toNat 0).toNat) ?_ rfl trivial
  simp only [execOp, ho, Instr.index, k1', m1, asIntOf, Sem.run_bind, Sem.run_pure, Result.andThen_ok, run_underlying hu, h0, if_true, hget]
theorem part_run {P : Program} {T : TypeId} {d : TD} (hT : TDok P T d) {vals : Array Value} {off : Nat} {cs : List Ch} {v : V} (hc : DenChs ρ H cs (seg vals off d.sz)) (hv : mkV d cs = some v) :
    ∃ u, (part T vals off).run P w = .ok u w ∧ DenV ρ H v u := by
  unfold mkV at hv
  cases hagg : d.agg with
  | true =>
    rw [hagg] at hv
    simp only [cond_true] at hv
    cases hv
    refine ⟨.agg (vals.extract off (off + d.sz)), ?_, ?_⟩
    · simp [part, run_isAgg hT, hagg, run_sizeOf hT]
    · refine ⟨seg vals off d.sz, ?_, hc⟩
      congr 1
      apply Array.ext'
      simp [seg, List.extract_eq_take_drop]
  | false =>
    rw [hagg] at hv
    simp only [cond_false] at hv
    split at hv
    · rename_i c
      cases hv
      obtain ⟨u, vs', h1, h2, h3⟩ := hc
      have h0 := seg_get (c := vals) (o := off) (n := d.sz) (j := 0) (v := u) (by rw [h1]; rfl)
      refine ⟨u, ?_, h2⟩
      rw [Nat.add_zero] at h0
      simp [part, run_isAgg hT, hagg, h0]
    · cases hv
theorem sound_index_arr (hE : EnvOk E) (I : Inv w0 B ρ H ob nx w) (hv : EvOk ρ H nx ev a) {T e : TypeId} {x y : Operand} {d de : TD} {n : Nat} {t : Ty} {xs : List t.T} {k : IntKind} {i : Int} {v : V} {cs : List Prop} (ho : o.op = .index T x y) (hT : E.tt T = some d) (hk : d.kind = .arr n e)
    (he : E.tt e = some de) (hx : (ev x).bind val? = some (.agg [.arr n t xs])) (hy : (ev y).bind one? = some (.int k i)) (hz : de.sz = t.sz) (hm : mkV de (toChs t (xs.getD i.toNat t.d)) = some v)
    (hr : r = ⟨cs, some (.val v), []⟩) (hp : 0 ≤ i ∧ i < n) : StepOk E.P o a w (Post w0 B ob nx ρ H r) := by
  obtain ⟨k1, k2⟩ := hv.val hx
  have m1 : a.eval y = .int k i := (hv.one hy).1
  obtain ⟨h0, h1⟩ := hp
  have hu := (hE.tt T d hT).arr n e hk
  obtain ⟨vs, q1, q2, q3⟩ := k1
  have q3' : vs.drop (n * t.sz) = [] := q3
  have hvl : vs.length ≤ n * t.sz := List.drop_eq_nil_iff.1 q3'
  rw [List.take_of_length_le hvl] at q2
  obtain ⟨z1, z2, z3⟩ := q2
  have hi : i.toNat < List.length xs := by rw [z1]; omega
  have hrd := z3 i.toNat hi
  have hmm : (i.toNat + 1) * t.sz ≤ n * t.sz := Nat.mul_le_mul_right _ (by omega)
  rw [Nat.succ_mul] at hmm
  rw [getD_get hi] at hm
  have hseg : (vs.drop (i.toNat * t.sz)).take t.sz = seg ⟨vs⟩ (i.toNat * de.sz) de.sz := by rw [hz]; rfl
  rw [hseg] at hrd
  obtain ⟨u, g1, g2⟩ := part_run (ρ := ρ) (w := w) (hE.tt e de he) (vals := ⟨vs⟩) (off := i.toNat * de.sz) (toChs_den t _ _ hrd) hm
  refine ok_same I (v := u) (sv := .val v) ?_ g2 ?_ hr
  · simp [execOp, ho, Instr.index, q1, m1, asIntOf, run_underlying hu, h0, h1, run_sizeOf (hE.tt e de he), g1]
  · have hlt := toChs_lt nx t xs[i.toNat]
    unfold mkV at hm
    cases hagg : de.agg with
    | true => rw [hagg] at hm; simp only [cond_true] at hm; cases hm; exact hlt
    | false =>
      rw [hagg] at hm
      simp only [cond_false] at hm
      split at hm
      · rename_i c hh; cases hm; rw [hh] at hlt; exact hlt (.one _) (by simp)
      · cases hm
theorem sound_index_cut (hE : EnvOk E) (I : Inv w0 B ρ H ob nx w) (hv : EvOk ρ H nx ev a) {T e : TypeId} {x y : Operand} {d de : TD} {n : Nat} {chs z : List Ch} {k : IntKind} {i : Int} {v : V} {cs : List Prop} (ho : o.op = .index T x y) (hT : E.tt T = some d) (hk : d.kind = .arr n e)
    (he : E.tt e = some de) (hx : (ev x).bind val? = some (.agg chs)) (hy : (ev y).bind one? = some (.int k i)) (hcut : cutCh chs (i.toNat * de.sz) de.sz = some z) (hm : mkV de z = some v)
    (hr : r = ⟨cs, some (.val v), []⟩) (hp : 0 ≤ i ∧ i < n) : StepOk E.P o a w (Post w0 B ob nx ρ H r) := by
  obtain ⟨k1, k2⟩ := hv.val hx
  have m1 : a.eval y = .int k i := (hv.one hy).1
  obtain ⟨h0, h1⟩ := hp
  have hu := (hE.tt T d hT).arr n e hk
  obtain ⟨vs, q1, q2⟩ := k1
  obtain ⟨z1, z2⟩ := cutCh_den hcut q2
  have hseg : (vs.drop (i.toNat * de.sz)).take de.sz = seg ⟨vs⟩ (i.toNat * de.sz) de.sz := rfl
  rw [hseg] at z1
  obtain ⟨u, g1, g2⟩ := part_run (ρ := ρ) (w := w) (hE.tt e de he) (vals := ⟨vs⟩) (off := i.toNat * de.sz) z1 hm
  refine ok_same I (v := u) (sv := .val v) ?_ g2 ?_ hr
  · simp [execOp, ho, Instr.index, q1, m1, asIntOf, run_underlying hu, h0, h1, run_sizeOf (hE.tt e de he), g1]
  · have hlt : ∀ c ∈ z, c.lt nx := fun c hc => k2 c (cutCh_mem hcut c hc)
    unfold mkV at hm
    cases hagg : de.agg with
    | true => rw [hagg] at hm; simp only [cond_true] at hm; cases hm; exact hlt
    | false =>
      rw [hagg] at hm
      simp only [cond_false] at hm
      split at hm
      · rename_i c; cases hm; exact hlt (.one _) (by simp)
      · cases hm
theorem sound_field (hE : EnvOk E) (I : Inv w0 B ρ H ob nx w) (hv : EvOk ρ H nx ev a) {T : TypeId} {x : Operand} {i : Nat} {d : TD} {fs : List (Nat × Nat × Bool)} {chs y : List Ch} {v : V} {off n : Nat} {ag : Bool} (ho : o.op = .field T x i) (hT : E.tt T = some d)
    (hk : d.kind = .strct fs) (hx : (ev x).bind val? = some (.agg chs)) (hi : fs[i]? = some (off, n, ag)) (hcut : cutCh chs off n = some y) (hy : (ag = false ∧ ∃ c, y = [.one c] ∧ v = .one c) ∨ (ag = true ∧ v = .agg y))
    (hr : r = ⟨[], some (.val v), []⟩) : StepOk E.P o a w (Post w0 B ob nx ρ H r) := by
  obtain ⟨k1, k2⟩ := hv.val hx
  obtain ⟨vs, q1, q2⟩ := k1
  obtain ⟨m1, m2⟩ := cutCh_den hcut q2
  obtain ⟨fields, f, g1, g2, g3, g4, g5, e1, ⟨ud, e2⟩, fi, g6, g7⟩ := field_get (hE.tt T d hT) hk hi
  have hlt : ∀ c ∈ y, c.lt nx := fun c hc => k2 c (cutCh_mem hcut c hc)
  have hag : (isAgg f.type).run E.P w = .ok ag w := by
    unfold aggOf at e1
    rw [e2] at e1
    simp only [isAgg, Sem.run_bind, run_underlying e2, Result.andThen_ok]
    rw [← e1]
    cases ud <;> rfl
  subst g3
  rcases hy with ⟨rfl, c, rfl, rfl⟩ | ⟨rfl, rfl⟩
  · obtain ⟨u, vs', h1, h2, h3⟩ := m1
    have hget : vs[f.offset]? = some u := by
      have : ((vs.drop f.offset).take n)[0]? = some u := by rw [h1]; rfl
      rw [List.getElem?_take] at this
      split at this
      · rw [List.getElem?_drop, Nat.add_zero] at this; exact this
      · cases this
    refine ok_same I (v := u) (sv := .val (.one c)) ?_ h2 (hlt (.one c) (by simp)) hr
    simp [execOp, ho, Instr.field, run_underlying g1, g2, q1, asAgg, part, hag, hget]
  · refine ok_same I (v := .agg ((⟨vs⟩ : Array Value).extract f.offset (f.offset + n))) (sv := .val (.agg y)) ?_ ⟨_, ?_, m1⟩ hlt hr
    · simp [execOp, ho, Instr.field, run_underlying g1, g2, q1, asAgg, part, hag, sizeOf, typeInfo, g6, g7]
    · congr 1
      apply Array.ext'
      simp [List.extract_eq_take_drop]
theorem sound_extract (I : Inv w0 B ρ H ob nx w) (hv : EvOk ρ H nx ev a) {x : Operand} {i : Nat} {vs : List V} {v : V} (ho : o.op = .extract x i) (hx : ev x = some (.tup vs)) (hi : vs[i]? = some v) (hr : rv (.val v) = some r) : StepOk E.P o a w (Post w0 B ob nx ρ H r) := by
  obtain ⟨⟨us, k1, k2⟩, k3⟩ := hv x _ hx
  have key : ∀ (vs : List V) (us : List Value) (i : Nat) (v : V), DenVs ρ H vs us → vs[i]? = some v → ∃ u, us[i]? = some u ∧ DenV ρ H v u := by
    intro vs
    induction vs with
    | nil => intro us i v _ h; simp at h
    | cons y ys ih =>
      intro us i v h hi
      obtain ⟨u, us', rfl, h1, h2⟩ := h
      cases i with
      | zero => simp at hi; subst hi; exact ⟨u, rfl, h1⟩
      | succ i => simp at hi; obtain ⟨u', g1, g2⟩ := ih us' i v h2 hi; exact ⟨u', by simpa using g1, g2⟩
  obtain ⟨u, g1, g2⟩ := key vs us i v k2 hi
  refine ok_same I (v := u) (sv := .val v) ?_ g2 (k3 v (List.mem_of_getElem? hi)) (rv_eq hr)
  simp [execOp, ho, Instr.extract, k1, g1]
theorem sound_not (I : Inv w0 B ρ H ob nx w) (hv : EvOk ρ H nx ev a) {T : TypeId} {x : Operand} {b : Bool} (ho : o.op = .unOp .not T x) (hx : (ev x).bind one? = some (.bool b)) (hr : rc (.bool (!b)) = some r) : StepOk E.P o a w (Post w0 B ob nx ρ H r) := by
  have k1 : a.eval x = .bool b := (hv.one hx).1
  exact ok_rc I hr (v := .bool (!b)) (by simp [execOp, ho, k1, Op.unary]) rfl trivial
theorem sound_neg (I : Inv w0 B ρ H ob nx w) (hv : EvOk ρ H nx ev a) {T : TypeId} {x : Operand} {k : IntKind} {n : Int} (ho : o.op = .unOp .neg T x) (hx : (ev x).bind one? = some (.int k n)) (hr : rcc (fits k (-n)) (.int k (-n)) = some r) (hc : ∀ q ∈ r.cs, q) : StepOk E.P o a w (Post w0 B ob nx ρ H r) := by
  have k1 : a.eval x = .int k n := (hv.one hx).1
  have h := rcc_holds hr hc
  refine ok_rcc I hr (v := .int k (-n)) ?_ rfl trivial
  simp [execOp, ho, k1, Op.unary, Op.intArith, fits_wrap h]
theorem sound_negf (I : Inv w0 B ρ H ob nx w) (hv : EvOk ρ H nx ev a) {T : TypeId} {x : Operand} {k : FloatKind} {n : Nat} (ho : o.op = .unOp .neg T x) (hx : (ev x).bind one? = some (.flt k n)) (hr : rc (.flt k (Op.negFloat k n)) = some r) : StepOk E.P o a w (Post w0 B ob nx ρ H r) := by
  have k1 : a.eval x = .float k n := (hv.one hx).1
  exact ok_rc I hr (v := .float k (Op.negFloat k n)) (by simp [execOp, ho, k1, Op.unary]) rfl trivial
theorem sound_int_flt (hE : EnvOk E) (I : Inv w0 B ρ H ob nx w) (hv : EvOk ρ H nx ev a) {S T : TypeId} {x : Operand} {d d' : TD} {k : FloatKind} {k' : IntKind} {n : Int} (ho : o.op = .convert S T x) (hS : E.tt S = some d') (hT : E.tt T = some d) (hk : d.kind = .sc) (ht : d.ty = some (.flt k))
    (hx : (ev x).bind one? = some (.int k' n)) (hr : rc (.flt k (k.nearest n)) = some r) : StepOk E.P o a w (Post w0 B ob nx ρ H r) := by
  have k1 : a.eval x = .int k' n := (hv.one hx).1
  have hu := sc_flt (hE.tt T d hT) hk ht
  obtain ⟨u, hu'⟩ := (hE.tt S d' hS).und
  refine ok_rc I hr (v := .float k (k.nearest n)) ?_ rfl trivial
  simp only [execOp, ho, convert, Sem.run_bind, run_underlying hu', run_underlying hu, Result.andThen_ok, k1]
  cases u <;> simp [Conv.intToFloat]
theorem sound_flt_int (hE : EnvOk E) (I : Inv w0 B ρ H ob nx w) (hv : EvOk ρ H nx ev a) {S T : TypeId} {x : Operand} {d d' : TD} {k : IntKind} {s : FloatKind} {b : Nat} {c : Option Int} (ho : o.op = .convert S T x) (hS : E.tt S = some d') (hT : E.tt T = some d) (hk : d.kind = .sc) (ht : d.ty = some (.int k))
    (hx : (ev x).bind one? = some (.flt s b)) (hc' : c = (s.decode b).toInt .zero) (hr : rcc (c.isSome = true ∧ k.min ≤ c.getD 0 ∧ c.getD 0 ≤ k.max) (.int k (c.getD 0)) = some r) (hc : ∀ q ∈ r.cs, q) : StepOk E.P o a w (Post w0 B ob nx ρ H r) := by
  have k1 : a.eval x = .float s b := (hv.one hx).1
  have hu := sc_int (hE.tt T d hT) hk ht
  obtain ⟨u, hu'⟩ := (hE.tt S d' hS).und
  obtain ⟨h1, h2, h3⟩ := rcc_holds hr hc
  obtain ⟨n, hn⟩ := Option.isSome_iff_exists.1 h1
  rw [hn] at h2 h3
  simp only [Option.getD_some] at h2 h3
  refine ok_rcc I hr (v := .int k n) ?_ (by rw [hn]; rfl) trivial
  rw [hn] at hc'
  simp only [execOp, ho, convert, Sem.run_bind, run_underlying hu', run_underlying hu, Result.andThen_ok, k1]
  cases u <;> simp [Conv.floatToInt, ← hc', h2, h3]
theorem sound_flt_flt (hE : EnvOk E) (I : Inv w0 B ρ H ob nx w) (hv : EvOk ρ H nx ev a) {S T : TypeId} {x : Operand} {d d' : TD} {k s : FloatKind} {b : Nat} (ho : o.op = .convert S T x) (hS : E.tt S = some d') (hT : E.tt T = some d) (hk : d.kind = .sc) (ht : d.ty = some (.flt k))
    (hx : (ev x).bind one? = some (.flt s b)) (hr : arF k (convF s k b) = some r) (hc : ∀ q ∈ r.cs, q) : StepOk E.P o a w (Post w0 B ob nx ρ H r) := by
  have k1 : a.eval x = .float s b := (hv.one hx).1
  have hu := sc_flt (hE.tt T d hT) hk ht
  obtain ⟨u, hu'⟩ := (hE.tt S d' hS).und
  obtain ⟨n, hn⟩ := Option.isSome_iff_exists.1 (rcc_holds hr hc)
  refine ok_rcc I hr (v := .float k n) ?_ (by rw [hn]; rfl) trivial
  simp only [execOp, ho, convert, Sem.run_bind, run_underlying hu', run_underlying hu, Result.andThen_ok, k1]
  have key : (Conv.floatToFloat s b k).run E.P w = .ok (.float k n) w := by
    unfold convF at hn
    split at hn
    · rename_i e; cases hn; simp [Conv.floatToFloat, e]
    · rename_i ne
      split at hn
      · cases hn
      · rename_i he; cases hn; simp [Conv.floatToFloat, ne, he]
      · rename_i he
        cases hi : (k.decode (k.encode (.number _ _ _))).isInfinity with
        | true => rw [hi] at hn; cases hn
        | false => rw [hi] at hn; cases hn; simp [Conv.floatToFloat, ne, he, hi]
  cases u <;> simp [key]
theorem run_conv {P : Program} {s k : FloatKind} {b n : Nat} (hn : convF s k b = some n) : (Conv.floatToFloat s b k).run P w = .ok (.float k n) w := by
  unfold convF at hn
  split at hn
  · rename_i e; cases hn; simp [Conv.floatToFloat, e]
  · rename_i ne
    split at hn
    · cases hn
    · rename_i he; cases hn; simp [Conv.floatToFloat, ne, he]
    · rename_i he
      cases hi : (k.decode (k.encode (.number _ _ _))).isInfinity with
      | true => rw [hi] at hn; cases hn
      | false => rw [hi] at hn; cases hn; simp [Conv.floatToFloat, ne, he, hi]
theorem sc_cpx {P : Program} {t : TypeId} {d : TD} {k : FloatKind} (h : TDok P t d) (h1 : d.kind = .sc) (h2 : d.ty = some (.cpx k)) : P.underlying t = some (.complex k) := by
  have := h.sc _ h1 h2
  unfold scOk at this
  split at this <;> simp_all
theorem sound_cpx_cpx (hE : EnvOk E) (I : Inv w0 B ρ H ob nx w) (hv : EvOk ρ H nx ev a) {S T : TypeId} {x : Operand} {d d' : TD} {k s : FloatKind} {p q : Nat} (ho : o.op = .convert S T x) (hS : E.tt S = some d') (hT : E.tt T = some d) (hk : d.kind = .sc) (ht : d.ty = some (.cpx k))
    (hx : (ev x).bind one? = some (.cpx s p q)) (hr : rcc ((convF s k p).isSome = true ∧ (convF s k q).isSome = true) (.cpx k ((convF s k p).getD 0) ((convF s k q).getD 0)) = some r) (hc : ∀ q ∈ r.cs, q) : StepOk E.P o a w (Post w0 B ob nx ρ H r) := by
  have k1 : a.eval x = .complex s p q := (hv.one hx).1
  have hu := sc_cpx (hE.tt T d hT) hk ht
  obtain ⟨u, hu'⟩ := (hE.tt S d' hS).und
  obtain ⟨h1, h2⟩ := rcc_holds hr hc
  obtain ⟨m, hm⟩ := Option.isSome_iff_exists.1 h1
  obtain ⟨n, hn⟩ := Option.isSome_iff_exists.1 h2
  refine ok_rcc I hr (v := .complex k m n) ?_ (by rw [hm, hn]; rfl) trivial
  simp only [execOp, ho, convert, Sem.run_bind, run_underlying hu', run_underlying hu, Result.andThen_ok, k1]
  cases u <;> simp [Conv.complexToComplex, run_conv hm, run_conv hn]
theorem sound_cmul (I : Inv w0 B ρ H ob nx w) (hv : EvOk ρ H nx ev a) {T T' : TypeId} {x y : Operand} {p q m n : Nat} (ho : o.op = .binOp .mul T x y T') (hx : (ev x).bind val? = some (.one (.cpx .f64 p q))) (hy : (ev y).bind val? = some (.one (.cpx .f64 m n)))
    (hr : rcc ((cmulF p q m n).isSome = true) (.cpx .f64 ((cmulF p q m n).getD (0, 0)).1 ((cmulF p q m n).getD (0, 0)).2) = some r) (hc : ∀ q ∈ r.cs, q) : StepOk E.P o a w (Post w0 B ob nx ρ H r) := by
  have k1 : a.eval x = .complex .f64 p q := (hv.val hx).1
  have k2 : a.eval y = .complex .f64 m n := (hv.val hy).1
  obtain ⟨z, hz⟩ := Option.isSome_iff_exists.1 (rcc_holds hr hc)
  refine ok_rcc I hr (v := .complex .f64 z.1 z.2) (run_bin ho k1 k2 (by simp [eqGuard]) ?_) (by rw [hz]; rfl) trivial
  unfold cmulF at hz
  split at hz
  · rename_i h1 h2 h3 h4
    split at hz
    · rename_i h5 h6
      cases hz
      simp [binOp, Op.complexOp, Op.Complex.conv, Op.Complex.product, Op.Complex.mul, Op.Complex.sub, Op.Complex.add, Op.Complex.arith, Op.floatArith, h1, h2, h3, h4, h5, h6]
    · cases hz
  · cases hz
theorem run_equalIn_err {P : Program} {t : TypeId} {ms} (hu : P.underlying t = some (.interface ms)) (n : Nat) (b : Bool) {u : Value} (h : DenC ρ H (.err b) u) : (Op.equalIn (n + 1) t u .nilIface).run P w = .ok (!b) w := by
  cases b with
  | false => rw [show u = _ from h]; simp [Op.equalIn, run_underlying hu]
  | true => obtain ⟨_, _, rfl⟩ := h; simp [Op.equalIn, run_underlying hu]
theorem sound_err (hE : EnvOk E) (I : Inv w0 B ρ H ob nx w) (hv : EvOk ρ H nx ev a) {op : BinOp} {T T' : TypeId} {x : Operand} {z : Value} {d : TD} {b : Bool} (ho : o.op = .binOp op T x (.const z) T') (hT : E.tt T = some d) (hk : d.kind = .ifc)
    (hx : (ev x).bind val? = some (.one (.err b))) (hy : (ev (.const z)).bind val? = some (.one (.err false)))
    (hr : (op = .eql ∧ rc (.bool (!b)) = some r) ∨ (op = .neq ∧ rc (.bool b) = some r)) : StepOk E.P o a w (Post w0 B ob nx ρ H r) := by
  have k1 : DenC ρ H (.err b) (a.eval x) := (hv.val hx).1
  have k2 : a.eval (.const z) = .nilIface := (hv.val hy).1
  obtain ⟨ms, hu⟩ := (hE.tt T d hT).ifc hk
  have hg : ∀ op, (eqGuard op T x (.const z) (a.eval x) .nilIface).run E.P w = .ok () w := by
    intro op
    cases b with
    | false => rw [show a.eval x = _ from k1]; cases op <;> cases x <;> simp [eqGuard]
    | true => obtain ⟨_, _, e⟩ := k1; rw [e]; cases op <;> simp [eqGuard]
  have hb : ∀ op, op = .eql ∨ op = .neq → (binOp op T (a.eval x) .nilIface).run E.P w = .ok (.bool (if op = .eql then !b else b)) w := by
    intro op h
    have he := run_equalIn_err (P := E.P) (w := w) hu 9999 b k1
    cases b with
    | false =>
      rw [show a.eval x = _ from k1] at he ⊢
      rcases h with rfl | rfl <;> simp [binOp, Op.equal, Op.maxDepth, he]
    | true =>
      obtain ⟨_, _, e⟩ := k1
      rw [e] at he ⊢
      rcases h with rfl | rfl <;> simp [binOp, Op.equal, Op.maxDepth, he]
  rcases hr with ⟨rfl, hr⟩ | ⟨rfl, hr⟩
  · exact ok_rc I hr (v := .bool _) (run_bin ho rfl k2 (hg _) (hb _ (.inl rfl))) rfl trivial
  · exact ok_rc I hr (v := .bool _) (run_bin ho rfl k2 (hg _) (hb _ (.inr rfl))) rfl trivial
theorem nan_cut {k : FloatKind} {q : Question} (h : (∃ a b, q = .nanBits k a b) ∨ (∃ b, q = .nanConv k b)) (t : Nat) : (k.decode (q.cut t)).isNaN = true := by
  have key : (k.decode (Question.cut (.nanConv k 0) t)).isNaN = true := by
    cases k
    · show (Ieee.single.read ((t % 2) * 2 ^ 31 + 0x7f800000 + 1 + (t / 2) % (2 ^ 23 - 1))).isNaN = true
      unfold Ieee.Format.read
      simp only [U.single_binade, U.single_inf, U.single_sign, U.single_least]
      have h1 : (t / 2) % (2 ^ 23 - 1) < 2 ^ 23 - 1 := Nat.mod_lt _ (by decide)
      generalize (t / 2) % (2 ^ 23 - 1) = r at *
      have h2 : ((t % 2) * 2 ^ 31 + 0x7f800000 + 1 + r) % 2147483648 = 0x7f800000 + 1 + r := by omega
      rw [h2, if_neg (by omega), if_neg (by omega), if_neg (by omega)]
      rfl
    · show (Ieee.double.read ((t % 2) * 2 ^ 63 + 0x7ff0000000000000 + 1 + (t / 2) % (2 ^ 52 - 1))).isNaN = true
      unfold Ieee.Format.read
      simp only [U.double_binadeD, U.double_infD, U.double_signD]
      have h1 : (t / 2) % (2 ^ 52 - 1) < 2 ^ 52 - 1 := Nat.mod_lt _ (by decide)
      generalize (t / 2) % (2 ^ 52 - 1) = r at *
      have h2 : ((t % 2) * 2 ^ 63 + 0x7ff0000000000000 + 1 + r) % 9223372036854775808 = 0x7ff0000000000000 + 1 + r := by omega
      rw [h2, if_neg (by omega), if_neg (by omega), if_neg (by omega)]
      rfl
  rcases h with ⟨a, b, rfl⟩ | ⟨b, rfl⟩ <;> cases k <;> exact key
theorem drew_below (B : Nat) (w : World) : Below B w { w with drawn := w.drawn + 1 } := ⟨rfl, rfl, rfl, Nat.le_refl _, fun _ _ => rfl⟩
theorem sum_nan {d e : Ieee.Datum} (h : d.isNaN = true) : d.sum e = none := by
  cases d <;> simp [Ieee.Datum.isNaN] at h
  cases e <;> rfl
theorem ord_nan {d e : Ieee.Datum} (h : d.isNaN = true) : d.order e = none := by
  cases d <;> simp [Ieee.Datum.isNaN] at h
  cases e <;> rfl
theorem sound_odd_sub (I : Inv w0 B ρ H ob nx w) {T T' : TypeId} {x y : Operand} {k : FloatKind} {m n : Nat} (ho : o.op = .binOp .sub T x y T') (k1 : a.eval x = .float k m) (k2 : a.eval y = .float k n) (hz : k.format.sub m n = none)
    (hr : rc (.odd k none) = some r) : StepOk E.P o a w (Post w0 B ob nx ρ H r) := by
  have e := rc_eq hr
  subst e
  refine .inl ⟨.float k ((Question.nanBits k m n).cut (w.tape w.drawn (.nanBits k m n))), { w with drawn := w.drawn + 1 }, ?_, post_grow I (drew_below _ _) (sv := .val (.one (.odd k none))) ⟨_, rfl, nan_cut (.inl ⟨_, _, rfl⟩) _⟩ trivial⟩
  simp only [execOp, ho, k1, k2, Sem.run_bind, guard_flt, Result.andThen_ok]
  simp [binOp, Op.floatArith, hz, choose, Sem.run, Question.forced]
theorem sound_odd (I : Inv w0 B ρ H ob nx w) (hv : EvOk ρ H nx ev a) {op : BinOp} {T T' : TypeId} {x y : Operand} {k : FloatKind} {p q : Option Bool} (ho : o.op = .binOp op T x y T') (hx : (ev x).bind val? = some (.one (.odd k p))) (hy : (ev y).bind val? = some (.one (.odd k q)))
    (hr : binOdd op k p q = some r) : StepOk E.P o a w (Post w0 B ob nx ρ H r) := by
  have d1 := (hv.val hx).1
  have d2 := (hv.val hy).1
  obtain ⟨n, k2⟩ : ∃ n, a.eval y = .float k n := by
    cases q with
    | none => obtain ⟨n, h, _⟩ := d2; exact ⟨n, h⟩
    | some s => obtain ⟨n, h, _⟩ := d2; exact ⟨n, h⟩
  unfold binOdd at hr
  split at hr
  · obtain ⟨m, k1, hm⟩ := d1
    refine sound_odd_sub I ho k1 k2 ?_ hr
    show ((k.decode m).sum _).map _ = none
    rw [sum_nan hm]; rfl
  · rename_i s s'
    split at hr
    · rename_i e
      subst e
      obtain ⟨m, k1, hm⟩ := d1
      obtain ⟨n', k2', hn⟩ := d2
      refine sound_odd_sub I ho k1 k2' ?_ hr
      show ((k.decode m).sum (k.decode n').opposite).map _ = none
      rw [hm, hn]
      cases s <;> rfl
    · cases hr
  · obtain ⟨m, k1, hm⟩ := d1
    refine ok_rc I hr (v := .bool true) (run_bin ho k1 k2 guard_flt ?_) rfl trivial
    have : k.format.order m n = none := ord_nan hm
    simp [binOp, Op.floatCmp, this]
  · cases hr
theorem sound_odd_ne (I : Inv w0 B ρ H ob nx w) (hv : EvOk ρ H nx ev a) {T T' : TypeId} {x y : Operand} {k : FloatKind} {n : Nat} (ho : o.op = .binOp .neq T x y T') (hx : (ev x).bind val? = some (.one (.odd k none))) (hy : (ev y).bind val? = some (.one (.flt k n)))
    (hr : rc (.bool true) = some r) : StepOk E.P o a w (Post w0 B ob nx ρ H r) := by
  obtain ⟨m, k1, hm⟩ := (hv.val hx).1
  have k2 : a.eval y = .float k n := (hv.val hy).1
  refine ok_rc I hr (v := .bool true) (run_bin ho k1 k2 guard_flt ?_) rfl trivial
  have : k.format.order m n = none := ord_nan hm
  simp [binOp, Op.floatCmp, this]
theorem sound_odd_conv (hE : EnvOk E) (I : Inv w0 B ρ H ob nx w) (hv : EvOk ρ H nx ev a) {S T : TypeId} {x : Operand} {d d' : TD} {k s : FloatKind} (ho : o.op = .convert S T x) (hS : E.tt S = some d') (hT : E.tt T = some d) (hk : d.kind = .sc) (ht : d.ty = some (.flt k))
    (hx : (ev x).bind one? = some (.odd s none)) (hr : rc (.odd k none) = some r) : StepOk E.P o a w (Post w0 B ob nx ρ H r) := by
  obtain ⟨b, k1, hb⟩ := (hv.one hx).1
  have hu := sc_flt (hE.tt T d hT) hk ht
  obtain ⟨u, hu'⟩ := (hE.tt S d' hS).und
  have e := rc_eq hr
  subst e
  by_cases hs : s = k
  · subst hs
    refine .inl ⟨.float s b, w, ?_, post_same I (sv := .val (.one (.odd s none))) ⟨_, rfl, hb⟩ trivial⟩
    simp only [execOp, ho, convert, Sem.run_bind, run_underlying hu', run_underlying hu, Result.andThen_ok, k1]
    cases u <;> simp [Conv.floatToFloat]
  · refine .inl ⟨.float k ((Question.nanConv k b).cut (w.tape w.drawn (.nanConv k b))), { w with drawn := w.drawn + 1 }, ?_, post_grow I (drew_below _ _) (sv := .val (.one (.odd k none))) ⟨_, rfl, nan_cut (.inr ⟨_, rfl⟩) _⟩ trivial⟩
    simp only [execOp, ho, convert, Sem.run_bind, run_underlying hu', run_underlying hu, Result.andThen_ok, k1]
    have key : (Conv.floatToFloat s b k).run E.P w = .ok (.float k ((Question.nanConv k b).cut (w.tape w.drawn (.nanConv k b)))) { w with drawn := w.drawn + 1 } := by
      unfold Conv.floatToFloat
      rw [if_neg hs]
      cases hd : s.decode b with
      | nan p q => simp [choose, Sem.run, Question.forced]
      | number => rw [hd] at hb; cases hb
      | infinity => rw [hd] at hb; cases hb
    cases u <;> simp [key]
theorem sound_eq_cpx (I : Inv w0 B ρ H ob nx w) (hv : EvOk ρ H nx ev a) {op : BinOp} {T T' : TypeId} {x y : Operand} {k : FloatKind} {p q m n : Nat} (ho : o.op = .binOp op T x y T') (hx : (ev x).bind val? = some (.one (.cpx k p q))) (hy : (ev y).bind val? = some (.one (.cpx k m n)))
    (hr : (op = .eql ∧ rc (.bool (Op.floatEq k p m && Op.floatEq k q n)) = some r) ∨ (op = .neq ∧ rc (.bool !(Op.floatEq k p m && Op.floatEq k q n)) = some r)) : StepOk E.P o a w (Post w0 B ob nx ρ H r) := by
  have k1 : a.eval x = .complex k p q := (hv.val hx).1
  have k2 : a.eval y = .complex k m n := (hv.val hy).1
  have hg : ∀ op, (eqGuard op T x y (.complex k p q) (.complex k m n)).run E.P w = .ok () w := by
    intro op
    cases op <;> simp [eqGuard]
  rcases hr with ⟨rfl, hr⟩ | ⟨rfl, hr⟩
  · exact ok_rc I hr (v := .bool _) (run_bin ho k1 k2 (hg _) (by simp [binOp, Op.complexOp, Op.Complex.cmp, Op.floatCmp, Op.floatEq, asBool])) rfl trivial
  · exact ok_rc I hr (v := .bool _) (run_bin ho k1 k2 (hg _) (by simp [binOp, Op.complexOp, Op.Complex.cmp, Op.floatCmp, Op.floatEq, asBool])) rfl trivial
theorem sound_convert_int (hE : EnvOk E) (I : Inv w0 B ρ H ob nx w) (hv : EvOk ρ H nx ev a) {S T : TypeId} {x : Operand} {d d' : TD} {k k' : IntKind} {n m : Int} {cs : List Prop} (ho : o.op = .convert S T x) (hS : E.tt S = some d') (hT : E.tt T = some d) (hk : d.kind = .sc) (ht : d.ty = some (.int k))
    (hx : (ev x).bind one? = some (.int k' n)) (hm : k.wrap n = m) (hr : r = ⟨cs, some (.val (.one (.int k m))), []⟩) : StepOk E.P o a w (Post w0 B ob nx ρ H r) := by
  have k1 : a.eval x = .int k' n := (hv.one hx).1
  have hu := sc_int (hE.tt T d hT) hk ht
  obtain ⟨u, hu'⟩ := (hE.tt S d' hS).und
  refine ok_same I (v := .int k m) (sv := .val (.one (.int k m))) ?_ rfl trivial hr
  simp only [execOp, ho, convert, Sem.run_bind, run_underlying hu', run_underlying hu, Result.andThen_ok, k1]
  cases u <;> simp [Conv.intToInt, hm]
theorem sound_convert_str (hE : EnvOk E) (I : Inv w0 B ρ H ob nx w) (hv : EvOk ρ H nx ev a) {S T : TypeId} {x : Operand} {d d' : TD} {l : List UInt8} (ho : o.op = .convert S T x) (hS : E.tt S = some d') (hSk : d'.kind = .sc) (hSt : d'.ty = some .str) (hT : E.tt T = some d) (hk : d.kind = .sc) (ht : d.ty = some .str)
    (hx : (ev x).bind one? = some (.str l)) (hr : rc (.str l) = some r) : StepOk E.P o a w (Post w0 B ob nx ρ H r) := by
  have k1 : a.eval x = .string ⟨⟨l⟩⟩ := (hv.one hx).1
  refine ok_rc I hr (v := .string ⟨⟨l⟩⟩) ?_ rfl trivial
  simp [execOp, ho, convert, run_underlying (sc_str (hE.tt T d hT) hk ht), run_underlying (sc_str (hE.tt S d' hS) hSk hSt), k1]
theorem sound_toArr (hE : EnvOk E) (I : Inv w0 B ρ H ob nx w) (hv : EvOk ρ H nx ev a) {T e : TypeId} {x : Operand} {d de : TD} {n : Nat} {t : Ty} {xs : List t.T} (ho : o.op = .sliceToArrayPointer T x) (hT : E.tt T = some d) (hk : d.kind = .arr n e)
    (he : E.tt e = some de) (ht : de.ty = some t) (hx : (ev x).bind one? = some (.sl t xs)) (hn : n ≠ 0) (hr : rcc (n ≤ xs.length) (.ref (.arr n t) (xs.take n)) = some r) (hc : ∀ q ∈ r.cs, q) : StepOk E.P o a w (Post w0 B ob nx ρ H r) := by
  obtain ⟨k1, _⟩ := hv.one hx
  have h := rcc_holds hr hc
  have hu := (hE.tt T d hT).arr n e hk
  obtain ⟨aa, cap, q1, q2, q3⟩ := k1
  simp only [List.cons.injEq, and_true] at q1
  have hsz : t.sz ≠ 0 := by
    have := ((hE.tt e de he).ty t ht).2
    rw [this]; exact (hE.tt e de he).pos
  rcases q3 with q3 | ⟨b, off, cc, ee, fr, rfl, g2, g3⟩
  · omega
  · refine ok_rcc I hr (v := .pointer (some ⟨b, off, none⟩)) ?_ ?_ trivial
    · have : ¬ xs.length < n := by omega
      simp [execOp, ho, Instr.arrayAt, run_underlying hu, q1, this]
    · have hle : ∀ i, i < n → off + i * t.sz + t.sz ≤ cc.size := by
        intro i hi
        have hl := Rd.len _ _ _ (g3 i (by omega))
        unfold seg at hl
        simp only [List.length_take, List.length_drop, Array.length_toList] at hl
        omega
      have hall : off + n * t.sz ≤ cc.size := by
        have := hle (n - 1) (by omega)
        have e1 : n * t.sz = (n - 1) * t.sz + t.sz := by rw [← Nat.succ_mul]; congr 1; omega
        omega
      refine ⟨b, off, cc, ee, fr, rfl, g2, by simp; omega, seg_len (by simpa [Ty.sz] using hall), fun i hi => ?_⟩
      have hi' : i < n := by simp at hi; omega
      have hm : (i + 1) * t.sz ≤ n * t.sz := Nat.mul_le_mul_right _ (by omega)
      rw [Nat.succ_mul] at hm
      simp only [Ty.sz, List.getElem_take]
      rw [seg_seg (by omega)]
      exact g3 i (by omega)
theorem sound_toArr_own (hE : EnvOk E) (I : Inv w0 B ρ H ob nx w) (hv : EvOk ρ H nx ev a) {T e : TypeId} {x : Operand} {d : TD} {n : Nat} {t : Ty} {xs : List t.T} {id : Nat} (ho : o.op = .sliceToArrayPointer T x) (hT : E.tt T = some d) (hk : d.kind = .arr n e)
    (hx : (ev x).bind one? = some (.own id)) (hrow : lookO ob id = some (.row t xs)) (hn : n ≠ 0) (hr : rcc (n ≤ xs.length) (.vp id 0 t.sz 0 n) = some r) (hc : ∀ q ∈ r.cs, q) : StepOk E.P o a w (Post w0 B ob nx ρ H r) := by
  obtain ⟨k1, k2⟩ := hv.one hx
  have h := rcc_holds hr hc
  have hu := (hE.tt T d hT).arr n e hk
  have k1' : a.eval x = ρ id := k1
  rcases (I.objs id _ hrow).2.2 with ⟨q1, q2⟩ | ⟨g, cap, cur, e', q1, _⟩
  · subst q2; simp at h; omega
  · refine ok_rcc I hr (v := .pointer (some ⟨g, 0, none⟩)) ?_ ⟨hn, g, .inr (.inl ⟨_, _, q1⟩), by simp⟩ k2
    have : ¬ xs.length < n := by omega
    simp [execOp, ho, Instr.arrayAt, run_underlying hu, k1', q1, this]
theorem sound_toArr_view (hE : EnvOk E) (I : Inv w0 B ρ H ob nx w) (hv : EvOk ρ H nx ev a) {T e : TypeId} {x : Operand} {d : TD} {n id off sz lo m : Nat} (ho : o.op = .sliceToArrayPointer T x) (hT : E.tt T = some d) (hk : d.kind = .arr n e)
    (hx : (ev x).bind one? = some (.view id off sz lo m)) (hn : n ≠ 0) (hr : rcc (n ≤ m) (.vp id off sz lo n) = some r) (hc : ∀ q ∈ r.cs, q) : StepOk E.P o a w (Post w0 B ob nx ρ H r) := by
  obtain ⟨k1, k2⟩ := hv.one hx
  have h := rcc_holds hr hc
  have hu := (hE.tt T d hT).arr n e hk
  rcases k1 with ⟨b, cap, q1, q2, q3⟩ | ⟨q1, _⟩
  · refine ok_rcc I hr (v := .pointer (some ⟨b, off + lo * sz, none⟩)) ?_ ⟨hn, b, q1, rfl⟩ k2
    have : ¬ m < n := by omega
    simp [execOp, ho, Instr.arrayAt, run_underlying hu, q2, this]
  · omega
theorem shows_arr {t : Ty} {xs : List t.T} {b off n cap : Nat} (h : Shows w H t xs (.slice (some ⟨b, off, none⟩) n cap)) (hl : xs.length = n) (hn : n ≠ 0) : ∃ c e fr, w.heap[b]? = some (.cells c e fr) ∧ off + n * t.sz ≤ c.size ∧ Rd H (.arr n t) xs (seg c off (n * t.sz)) := by
  obtain ⟨aa, cap', q1, q2, q3⟩ := h
  simp only [Value.slice.injEq] at q1
  rcases q3 with q3 | ⟨b', off', c, e, fr, r1, r2, r3, r4⟩
  · omega
  · rw [← q1.1] at r1
    cases r1
    rw [hl] at r3
    refine ⟨c, e, fr, r2, r3, hl, seg_len r3, fun i hi => ?_⟩
    have hm : (i + 1) * t.sz ≤ n * t.sz := Nat.mul_le_mul_right _ (by omega)
    rw [Nat.succ_mul] at hm
    rw [seg_seg (by omega)]
    exact r4 i hi
theorem sound_load_vp (hE : EnvOk E) (I : Inv w0 B ρ H ob nx w) (hv : EvOk ρ H nx ev a) {T : TypeId} {x : Operand} {d : TD} {id off sz lo n : Nat} {t : Ty} {xs : List t.T} {v : V} (ho : o.op = .load T x) (hT : E.tt T = some d)
    (hx : (ev x).bind one? = some (.vp id off sz lo n)) (hrow : rowOf (lookO ob) (.view id off sz lo n) = some ⟨t, xs⟩) (hd : d.sz = n * t.sz) (hm : mkV d [.arr n t xs] = some v) (hr : r = ⟨[xs.length = n], some (.val v), []⟩) (hc : ∀ q ∈ r.cs, q) : StepOk E.P o a w (Post w0 B ob nx ρ H r) := by
  obtain ⟨⟨hn, b, k1, k2⟩, _⟩ := hv.one hx
  subst hr
  have hl : xs.length = n := hc _ (by simp)
  have hsh := rowOf_ok I hrow (fun ⟨_, _, e⟩ => by cases e) (v := .slice (some ⟨b, off + lo * sz, none⟩) n n) (.inl ⟨b, n, k1, rfl, Nat.le_refl _⟩) (fun _ _ _ _ _ e => by cases e; exact hl.symm)
  obtain ⟨c, e, fr, q1, q2, q3⟩ := shows_arr hsh hl hn
  obtain ⟨u, m1, m2⟩ := run_loadVar_den (ρ := ρ) (hE.tt T d hT) q1 (by rw [hd]; exact q2) (cs := [.arr n t xs]) (by
    rw [hd]
    refine ⟨?_, ?_⟩
    · rw [List.take_of_length_le (by rw [seg_len q2]; exact Nat.le_refl _)]; exact q3
    · rw [List.drop_of_length_le (by rw [seg_len q2]; exact Nat.le_refl _)]; rfl) hm
  refine .inl ⟨u, w, ?_, post_same I m2 ?_⟩
  · simp [execOp, ho, Instr.loadAt, k2, Instr.sureAddr, m1]
  · unfold mkV at hm
    cases hag : d.agg with
    | true => rw [hag] at hm; cases hm; intro c hc; simp only [List.mem_singleton] at hc; subst hc; trivial
    | false => rw [hag] at hm; simp at hm
theorem ptrs_ok (hv : EvOk ρ H nx ev a) : ∀ {xs : List Operand} {ps : List (Nat × Nat)}, ptrs ev xs = some ps → ptrsOf ρ ps (xs.map a.eval) ∧ ∀ p ∈ ps, p.1 < nx
  | [], ps, h => by cases h; exact ⟨rfl, by simp⟩
  | x :: xs, ps, h => by
    simp only [ptrs] at h
    split at h
    · rename_i id off hx
      obtain ⟨qs, h1, rfl⟩ := Option.map_eq_some_iff.1 h
      obtain ⟨k1, k2⟩ := hv.one hx
      obtain ⟨m1, m2⟩ := ptrs_ok hv h1
      refine ⟨⟨_, _, rfl, k1, m1⟩, fun p hp => ?_⟩
      rcases List.mem_cons.1 hp with rfl | hp
      · exact k2
      · exact m2 p hp
    · cases h
theorem sound_makeFunc (I : Inv w0 B ρ H ob nx w) (hv : EvOk ρ H nx ev a) {f : FuncId} {x y : Array Operand} {p q : List (Nat × Nat)} (ho : o.op = .makeFunc (.func f) x y) (hx : ptrs ev x.toList = some p) (hy : ptrs ev y.toList = some q) (hr : rc (.fn f p q) = some r) :
    StepOk E.P o a w (Post w0 B ob nx ρ H r) := by
  obtain ⟨h1, h2⟩ := ptrs_ok hv hx
  obtain ⟨h3, h4⟩ := ptrs_ok hv hy
  refine ok_rc I hr (v := .func (.func f) (x.map a.eval) (y.map a.eval)) ?_ ⟨_, _, ?_, h1, h3⟩ ⟨h2, h4⟩
  · simp [execOp, ho, Instr.makeFunc]
  · congr 1 <;> (apply Array.ext'; simp)
theorem sound_makeFunc1 (I : Inv w0 B ρ H ob nx w) (hv : EvOk ρ H nx ev a) {f : FuncId} {x y : Array Operand} {z : Operand} {t : Ty} {xs : List t.T} (ho : o.op = .makeFunc (.func f) x y) (hx : x.toList = [z]) (hy : y.toList = []) (hz : (ev z).bind one? = some (.sl t xs)) (hr : rc (.fnd f false (.sl t) xs) = some r) :
    StepOk E.P o a w (Post w0 B ob nx ρ H r) := by
  obtain ⟨k1, _⟩ := hv.one hz
  obtain ⟨x⟩ := x
  obtain ⟨y⟩ := y
  simp only at hx hy
  subst hx hy
  refine ok_rc I hr (v := .func (.func f) ⟨[a.eval z]⟩ ⟨[]⟩) ?_ ⟨_, rfl, k1⟩ trivial
  simp [execOp, ho, Instr.makeFunc]
theorem sound_minmax (I : Inv w0 B ρ H ob nx w) {b : Builtin} {x y : Operand} {ts : Array TypeId} {k : IntKind} {m n : Int} (ho : o.op = .call ⟨.builtin b, #[x, y], ts⟩) (hx : a.eval x = .int k m) (hy : a.eval y = .int k n)
    (hr : (b = .min ∧ rc (.int k (min m n)) = some r) ∨ (b = .max ∧ rc (.int k (max m n)) = some r)) : StepOk E.P o a w (Post w0 B ob nx ρ H r) := by
  rcases hr with ⟨rfl, hr⟩ | ⟨rfl, hr⟩
  · refine ok_rc I hr (v := .int k (min m n)) ?_ rfl trivial
    have e : (if n < m then n else m) = min m n := by rw [Int.min_def]; split <;> split <;> omega
    simp [execOp, ho, resolve, invoke, builtin, Builtin.min_, Builtin.min2, hx, hy, e]
  · refine ok_rc I hr (v := .int k (max m n)) ?_ rfl trivial
    have e : (if m < n then n else m) = max m n := by rw [Int.max_def]; split <;> split <;> omega
    simp [execOp, ho, resolve, invoke, builtin, Builtin.max_, Builtin.max2, hx, hy, e]
theorem fold_max {P : Program} {k : IntKind} (w : World) : ∀ (l : List Int) (m : Int), (List.foldlM Builtin.max2 (.int k m) (l.map fun n => Value.int k n)).run P w = .ok (.int k (l.foldl max m)) w
  | [], m => by simp
  | n :: l, m => by
    have e : (if m < n then n else m) = max m n := by rw [Int.max_def]; split <;> split <;> omega
    have h : (Builtin.max2 (.int k m) (.int k n)).run P w = .ok (.int k (max m n)) w := by simp [Builtin.max2, e]
    simp only [List.map_cons, List.foldlM_cons, Sem.run_bind, h, Result.andThen_ok, List.foldl_cons]
    exact fold_max w l _
theorem ints_eval (hv : EvOk ρ H nx ev a) {k : IntKind} : ∀ {xs : List Operand} {vs : List V} {l : List Int}, evs ev xs = some vs → intsOf k vs = some l → xs.map a.eval = l.map fun n => Value.int k n
  | [], vs, l, h, hl => by
    simp only [evs, Option.some.injEq] at h
    subst h
    simp only [intsOf, Option.some.injEq] at hl
    subst hl
    rfl
  | x :: xs, vs, l, h, hl => by
    simp only [evs] at h
    split at h
    · rename_i v hx
      obtain ⟨us, h1, rfl⟩ := Option.map_eq_some_iff.1 h
      unfold intsOf at hl
      split at hl
      · rename_i e; cases e
      · rename_i k' n r e
        cases e
        split at hl
        · rename_i ek
          subst ek
          obtain ⟨l', h3, rfl⟩ := Option.map_eq_some_iff.1 hl
          have q : a.eval x = .int k' n := (hv.val hx).1
          rw [List.map_cons, List.map_cons, q, ints_eval hv h1 h3]
        · cases hl
      · cases hl
    · cases h
theorem sound_maxl (I : Inv w0 B ρ H ob nx w) (hv : EvOk ρ H nx ev a) {xs : List Operand} {ts : Array TypeId} {k : IntKind} {m : Int} {l : List Int} {vs : List V} (ho : o.op = .call ⟨.builtin .max, ⟨xs⟩, ts⟩) (hvs : evs ev xs = some (.one (.int k m) :: vs)) (hl : intsOf k vs = some l)
    (hr : rc (.int k (l.foldl max m)) = some r) : StepOk E.P o a w (Post w0 B ob nx ρ H r) := by
  refine ok_rc I hr (v := .int k (l.foldl max m)) ?_ rfl trivial
  have e := ints_eval hv (k := k) hvs (l := m :: l) (by simp [intsOf, hl])
  have g : (Builtin.max_ ts o.type ⟨(m :: l).map fun n => Value.int k n⟩).run E.P w = .ok (.int k (l.foldl max m)) w := by
    simp only [Builtin.max_, List.map_cons]
    exact fold_max w l m
  have e' : Array.map a.eval ⟨xs⟩ = ⟨(m :: l).map fun n => Value.int k n⟩ := by
    rw [List.map_toArray, e]
  simp only [execOp, ho, resolve, invoke, builtin]
  simp only [List.map_cons] at e' g
  simp [e', g]
theorem max2F {P : Program} {k : FloatKind} {x y z : Nat} (h : maxF k x y = some z) (w : World) : (Builtin.max2 (.float k x) (.float k y)).run P w = .ok (.float k z) w := by
  unfold maxF at h
  split at h
  · cases h
  · rename_i e; cases h; simp [Builtin.max2, e]
  · rename_i e; cases h; simp [Builtin.max2, e]
  · rename_i e; cases h; simp [Builtin.max2, e]
theorem fold_maxF {P : Program} {k : FloatKind} (w : World) : ∀ (l : List Nat) (m z : Nat), maxFs k m l = some z → (List.foldlM Builtin.max2 (.float k m) (l.map fun n => Value.float k n)).run P w = .ok (.float k z) w
  | [], m, z, h => by cases h; simp
  | n :: l, m, z, h => by
    obtain ⟨c, h1, h2⟩ := Option.bind_eq_some_iff.1 h
    simp only [List.map_cons, List.foldlM_cons, Sem.run_bind, max2F h1, Result.andThen_ok]
    exact fold_maxF w l _ _ h2
theorem flts_eval (hv : EvOk ρ H nx ev a) {k : FloatKind} : ∀ {xs : List Operand} {vs : List V} {l : List Nat}, evs ev xs = some vs → fltsOf k vs = some l → xs.map a.eval = l.map fun n => Value.float k n
  | [], vs, l, h, hl => by
    simp only [evs, Option.some.injEq] at h
    subst h
    simp only [fltsOf, Option.some.injEq] at hl
    subst hl
    rfl
  | x :: xs, vs, l, h, hl => by
    simp only [evs] at h
    split at h
    · rename_i v hx
      obtain ⟨us, h1, rfl⟩ := Option.map_eq_some_iff.1 h
      unfold fltsOf at hl
      split at hl
      · rename_i e; cases e
      · rename_i k' n r e
        cases e
        split at hl
        · rename_i ek
          subst ek
          obtain ⟨l', h3, rfl⟩ := Option.map_eq_some_iff.1 hl
          have q : a.eval x = .float k' n := (hv.val hx).1
          rw [List.map_cons, List.map_cons, q, flts_eval hv h1 h3]
        · cases hl
      · cases hl
    · cases h
theorem sound_maxF (I : Inv w0 B ρ H ob nx w) (hv : EvOk ρ H nx ev a) {xs : List Operand} {ts : Array TypeId} {k : FloatKind} {m : Nat} {l : List Nat} {vs : List V} (ho : o.op = .call ⟨.builtin .max, ⟨xs⟩, ts⟩) (hvs : evs ev xs = some (.one (.flt k m) :: vs)) (hl : fltsOf k vs = some l)
    (hr : rcc ((maxFs k m l).isSome = true) (.flt k ((maxFs k m l).getD 0)) = some r) (hc : ∀ q ∈ r.cs, q) : StepOk E.P o a w (Post w0 B ob nx ρ H r) := by
  obtain ⟨z, hz⟩ := Option.isSome_iff_exists.1 (rcc_holds hr hc)
  rw [hz, Option.getD_some] at hr
  refine ok_rcc I hr (v := .float k z) ?_ rfl trivial
  have e := flts_eval hv (k := k) hvs (l := m :: l) (by simp [fltsOf, hl])
  have g : (Builtin.max_ ts o.type ⟨(m :: l).map fun n => Value.float k n⟩).run E.P w = .ok (.float k z) w := by
    simp only [Builtin.max_, List.map_cons]
    exact fold_maxF w l m z hz
  have e' : Array.map a.eval ⟨xs⟩ = ⟨(m :: l).map fun n => Value.float k n⟩ := by
    rw [List.map_toArray, e]
  simp only [execOp, ho, resolve, invoke, builtin]
  simp only [List.map_cons] at e' g
  simp [e', g]
theorem sound_cpx (I : Inv w0 B ρ H ob nx w) (_hv : EvOk ρ H nx ev a) {x y : Operand} {ts : Array TypeId} {k : FloatKind} {m n : Nat} (ho : o.op = .call ⟨.builtin .complex, ⟨[x, y]⟩, ts⟩) (hx : a.eval x = .float k m) (hy : a.eval y = .float k n)
    (hr : rc (.cpx k m n) = some r) : StepOk E.P o a w (Post w0 B ob nx ρ H r) := by
  refine ok_rc I hr (v := .complex k m n) ?_ rfl trivial
  have g : (Builtin.complex_ ts o.type #[.float k m, .float k n]).run E.P w = .ok (.complex k m n) w := by
    show (Sem.run E.P (if k = k then pure (Value.complex k m n) else stuck "complex: parts of different kinds") w) = _
    rw [if_pos rfl]; rfl
  simp [execOp, ho, resolve, invoke, builtin, hx, hy, g]
theorem sound_part (I : Inv w0 B ρ H ob nx w) (_hv : EvOk ρ H nx ev a) {x : Operand} {ts : Array TypeId} {k : FloatKind} {m n : Nat} {b : Builtin} (ho : o.op = .call ⟨.builtin b, ⟨[x]⟩, ts⟩) (hx : a.eval x = .complex k m n)
    (hr : (b = .real ∧ rc (.flt k m) = some r) ∨ (b = .imag ∧ rc (.flt k n) = some r)) : StepOk E.P o a w (Post w0 B ob nx ρ H r) := by
  rcases hr with ⟨rfl, hr⟩ | ⟨rfl, hr⟩
  · refine ok_rc I hr (v := .float k m) ?_ rfl trivial
    have g : (Builtin.real_ ts o.type #[.complex k m n]).run E.P w = .ok (.float k m) w := rfl
    simp [execOp, ho, resolve, invoke, builtin, hx, g]
  · refine ok_rc I hr (v := .float k n) ?_ rfl trivial
    have g : (Builtin.imag_ ts o.type #[.complex k m n]).run E.P w = .ok (.float k n) w := rfl
    simp [execOp, ho, resolve, invoke, builtin, hx, g]
end
end Go.Sx

namespace Go.Sx
open Go.RowKit
theorem fold_splice (off : Nat) : ∀ (l : List Value) (k : Nat) (cells : Array Value), off + k + l.length ≤ cells.size →
    (l.zipIdx k).foldl (fun cs (x : Value × Nat) => cs.setIfInBounds (off + x.2) x.1) cells = (cells.toList.take (off + k) ++ l ++ cells.toList.drop (off + k + l.length)).toArray
  | [], k, cells, h => by simp
  | v :: rest, k, cells, h => by
    simp only [List.length_cons] at h
    rw [List.zipIdx_cons, List.foldl_cons, fold_splice off rest (k + 1) _ (by simp; omega)]
    have e := list_seg_step cells.toList (off + k) v rest (by simp; omega)
    congr 1
    simpa [Array.toList_setIfInBounds, Nat.add_assoc] using e
theorem fold_cells (off : Nat) (v cells : Array Value) (h : off + v.size ≤ cells.size) :
    v.zipIdx.foldl (fun cs (x : Value × Nat) => cs.setIfInBounds (off + x.2) x.1) cells = (cells.toList.take off ++ v.toList ++ cells.toList.drop (off + v.size)).toArray := by
  rw [← Array.foldl_toList, Array.toList_zipIdx]
  have := fold_splice off v.toList 0 cells (by simpa using h)
  simpa using this
section
variable {E : Env} {w0 : Base} {B : Nat} {ρ : Nat → Value} {H : IH} {ob : List (Nat × Option AObj)} {nx : Nat} {w : World} {ev : Operand → Option SV} {a : Act} {o : Oper} {r : Res}
def DenParts (ρ : Nat → Value) (H : IH) (nx : Nat) : List (Nat × V) → List (Nat × Value) → Prop
  | [], us => us = []
  | (i, v) :: r, us => ∃ u us', us = (i, u) :: us' ∧ DenV ρ H v u ∧ v.lt nx ∧ DenParts ρ H nx r us'
theorem parts_ok (hv : EvOk ρ H nx ev a) : ∀ {ps : List (Nat × Operand)} {vs : List (Nat × V)}, parts ev ps = some vs → DenParts ρ H nx vs (ps.map fun x => (x.1, a.eval x.2))
  | [], vs, h => by cases h; rfl
  | (i, x) :: ps, vs, h => by
    simp only [parts] at h
    split at h
    · rename_i v hx
      obtain ⟨qs, h1, rfl⟩ := Option.map_eq_some_iff.1 h
      obtain ⟨k1, k2⟩ := hv.val hx
      exact ⟨_, _, rfl, k1, k2, parts_ok hv h1⟩
    · cases h
theorem put_fill (hρ : ∀ id, (ρ id).oneCell' = true) {cs y : List Ch} {off n : Nat} {v : V} {u : Value} {cells : Array Value} (hp : putCh cs off n (Ch.chs v) = some y) (hs : chsSz (Ch.chs v) = n) (hd : DenChs ρ H cs cells.toList) (hu : DenV ρ H v u) :
    u.cells.size = n ∧ off + u.cells.size ≤ cells.size ∧ DenChs ρ H y (u.cells.zipIdx.foldl (fun cs (x : Value × Nat) => cs.setIfInBounds (off + x.2) x.1) cells).toList := by
  have hc := hu.cells hρ
  have hl := hc.len
  rw [hs] at hl
  have hl' : u.cells.size = n := by simpa using hl
  obtain ⟨m1, m2⟩ := putCh_den hp hd hc
  have hle : off + u.cells.size ≤ cells.size := by rw [hl']; simpa using m2
  refine ⟨hl', hle, ?_⟩
  rw [fold_cells off u.cells cells hle, hl']
  simpa using m1
theorem cells_list {t : Ty} {x : t.T} {u : Value} (h : Rd H t x u.cells.toList) : u.cells.size = t.sz := by
  have := Rd.len _ _ _ h
  simpa using this
theorem fillRow_ok (hρ : ∀ id, (ρ id).oneCell' = true) {t : Ty} {n : Nat} (hz : t.sz ≠ 0) : ∀ {vs : List (Nat × V)} {us : List (Nat × Value)} {xs ys : List t.T} {cells : Array Value}, fillRow t xs vs = some ys → DenParts ρ H nx vs us → xs.length = n → cells.size = n * t.sz →
    (∀ i (h : i < xs.length), Rd H t xs[i] (seg cells (i * t.sz) t.sz)) →
    ∃ cells', Instr.fill (fun i => some (i * t.sz, t.sz)) cells us = some cells' ∧ ys.length = n ∧ cells'.size = n * t.sz ∧ ∀ i (h : i < ys.length), Rd H t ys[i] (seg cells' (i * t.sz) t.sz)
  | [], us, xs, ys, cells, h, hd, hl, hs, hr => by
    cases h
    rw [show us = [] from hd]
    exact ⟨cells, rfl, hl, hs, hr⟩
  | (i, v) :: rest, us, xs, ys, cells, h, hd, hl, hs, hr => by
    obtain ⟨u, us', rfl, h1, _, h3⟩ := hd
    simp only [fillRow] at h
    split at h
    · rename_i x hx
      split at h
      · rename_i hi
        have hrd := ofV_den hρ hx h1
        have hsz := cells_list hrd
        have hm : (i + 1) * t.sz ≤ n * t.sz := Nat.mul_le_mul_right _ (by omega)
        rw [Nat.succ_mul] at hm
        have hfold := fold_cells (i * t.sz) u.cells cells (by omega)
        have hu : u.cells.toList.length = t.sz := by simpa using hsz
        obtain ⟨cells', g1, g2, g3, g4⟩ := fillRow_ok hρ hz (xs := xs.set i x) (cells := u.cells.zipIdx.foldl (fun cs (x : Value × Nat) => cs.setIfInBounds (i * t.sz + x.2) x.1) cells) h h3 (by simpa using hl)
          (by rw [hfold, hsz, splice_size cells (i * t.sz) t.sz _ hu (by omega)]; exact hs)
          (by
            intro j hj
            have hj' : j < xs.length := by simpa using hj
            rw [hfold, hsz]
            by_cases hij : i = j
            · subst hij
              simp only [List.getElem_set_self]
              rw [splice_same cells (i * t.sz) t.sz _ hu (by omega)]
              exact hrd
            · simp only [List.getElem_set_ne hij]
              rw [splice_seg cells _ t.sz _ hu (by omega) (j * t.sz) t.sz ?_]
              · exact hr j hj'
              · rcases Nat.lt_or_gt_of_ne hij with h | h
                · have : (i + 1) * t.sz ≤ j * t.sz := Nat.mul_le_mul_right _ (by omega)
                  rw [Nat.succ_mul] at this; omega
                · have : (j + 1) * t.sz ≤ i * t.sz := Nat.mul_le_mul_right _ (by omega)
                  rw [Nat.succ_mul] at this; omega)
        refine ⟨cells', ?_, g2, g3, g4⟩
        have hno : ¬ (u.cells.size ≠ t.sz ∨ i * t.sz + u.cells.size > cells.size) := by omega
        simp only [Instr.fill, Bool.or_eq_true, decide_eq_true_eq, hno, if_false]
        exact g1
      · cases h
    · cases h
end
end Go.Sx

namespace Go.Sx
open Go.RowKit
section
variable {E : Env} {w0 : Base} {B : Nat} {ρ : Nat → Value} {H : IH} {ob : List (Nat × Option AObj)} {nx : Nat} {w : World} {ev : Operand → Option SV} {a : Act} {o : Oper} {r : Res}
theorem Inv.hnew (I : Inv w0 B ρ H ob nx w) : H w.heap.size = none := by
  cases hh : H w.heap.size with
  | none => rfl
  | some o => have := lt_of_some (I.agree _ _ hh); omega
theorem post_row (I : Inv w0 B ρ H ob nx w) {cs : List Prop} {t : Ty} {xs : List t.T} {cap : Nat} {cur : Array Value} {e : TypeId} (h1 : xs.length ≤ cap) (h2 : cap ≤ maxLen) (h3 : cur.size = cap * t.sz)
    (h4 : ∀ i (h : i < xs.length), Rd H t xs[i] (seg cur (i * t.sz) t.sz)) {dels : List Nat} :
    Post w0 B ob nx ρ H ⟨cs, some (.val (.one (.own nx))), (nx, some (.row t xs)) :: dels.map fun k => (k, none)⟩ (.slice (some ⟨w.heap.size, 0, none⟩) xs.length cap) (w.alloc (.cells cur e)) := by
  have hb : Below w.heap.size w (w.alloc (.cells cur e)) := (Below.refl _ _).alloc (Nat.le_refl _) _
  have hB : B ≤ w.heap.size := Nat.le_trans I.bsz I.below.size
  have hr : REq nx ρ (upd ρ nx (.slice (some ⟨w.heap.size, 0, none⟩) xs.length cap)) := REq.upd _ _ _ (Nat.le_refl _)
  have I' : Inv w0 B ρ H (dels.map (fun k => (k, none)) ++ ob) nx (w.alloc (.cells cur e)) := by
    have := I.grow hb
    clear I
    induction dels with
    | nil => exact this
    | cons k ks ih => exact ih.del k
  have hfr : ∀ id p, lookO (dels.map (fun k => (k, (none : Option AObj))) ++ ob) id = some p → ¬ HB (ρ id) w.heap.size := by
    intro id p hp
    have hp' : lookO ob id = some p := by
      clear I'
      induction dels with
      | nil => exact hp
      | cons k ks ih =>
        rw [List.map_cons, List.cons_append, lookO_cons] at hp
        split at hp
        · cases hp
        · exact ih hp
    exact DenO.fresh I id p hp' _ (Nat.le_refl _)
  refine ⟨upd ρ nx (.slice (some ⟨w.heap.size, 0, none⟩) xs.length cap), H, ?_, HLe.refl _, hr, ?_⟩
  · refine I'.add (Nat.le_refl _) (by simp [W]) rfl trivial ?_ ?_ ?_
    · show OwnRow _ _ _ (upd ρ nx _ nx) _ _
      rw [upd_same]
      exact .inr ⟨w.heap.size, cap, cur, e, rfl, hB, I.hnew, ⟨_, .inl rfl, heap_alloc_new _ _⟩, h1, h2, h3, h4⟩
    · intro b hb' id p hp
      rcases hb' with hb' | ⟨_, _, hb'⟩ | hb' <;> cases hb'
      exact hfr id p hp
    · intro b hb' hk
      rcases hb' with hb' | ⟨_, _, hb'⟩ | hb' <;> cases hb'
      exact absurd (I.kLt hk) (by omega)
  · intro sv e; cases e
    exact ⟨(upd_same _ _ _).symm, by simp [SV.lt, V.lt, C.lt, W]⟩
theorem made_seg (z : Array Value) (n i : Nat) (hi : i < n) : seg (madeCells z (n * z.size)) (i * z.size) z.size = z.toList := by
  have hm : (i + 1) * z.size ≤ n * z.size := Nat.mul_le_mul_right _ (by omega)
  rw [Nat.succ_mul] at hm
  apply List.ext_getElem?
  intro j
  by_cases hj : j < z.size
  · unfold seg
    rw [List.getElem?_take_of_lt hj, List.getElem?_drop]
    simp only [madeCells, Array.toList_map, List.getElem?_map, Array.getElem?_toList]
    have h1 : (Array.range (n * z.size))[i * z.size + j]? = some (i * z.size + j) := by rw [Array.getElem?_eq_some_iff]; exact ⟨by rw [Array.size_range]; omega, by simp [Array.range]⟩
    rw [h1]
    have h2 : (i * z.size + j) % z.size = j := by rw [Nat.mul_comm, Nat.mul_add_mod]; exact Nat.mod_eq_of_lt hj
    simp [h2, hj]
  · rw [List.getElem?_eq_none, List.getElem?_eq_none]
    · simp; omega
    · unfold seg; simp; omega
theorem sound_makeSlice (hE : EnvOk E) (I : Inv w0 B ρ H ob nx w) (hv : EvOk ρ H nx ev a) {T e : TypeId} {x : Nat} {d de : TD} {t : Ty} {n : Int} (ho : o.op = .makeSlice T (.tmp x) (.tmp x)) (hT : E.tt T = some d) (hk : d.kind = .slc e) (he : E.tt e = some de) (ht : de.ty = some t)
    (hx : (ev (.tmp x)).bind one? = some (.int .i64 n)) (hr : r = ⟨[0 ≤ n, room n.toNat de.bytes], some (.val (.one (.own nx))), [(nx, some (.row t (List.replicate n.toNat t.d)))]⟩) (hc : ∀ q ∈ r.cs, q) : StepOk E.P o a w (Post w0 B ob nx ρ H r) := by
  subst hr
  have k1 : a.eval (.tmp x) = .int .i64 n := (hv.one hx).1
  have h0 : 0 ≤ n := hc _ (by simp)
  obtain ⟨h1, h2⟩ : room n.toNat de.bytes := hc _ (by simp)
  obtain ⟨i, z, g1, g2, g3, g4, g5, g6⟩ := (hE.tt e de he).info
  have hzr := g6 t ht H
  have hzs : z.cells.size = t.sz := by simpa using Rd.len _ _ _ hzr
  have hsz : i.size = t.sz := by rw [g2]; exact ((hE.tt e de he).ty t ht).2.symm
  have hmul : (i.bytes : Int) * n ≤ 281474976710656 := by
    have : n = (n.toNat : Int) := (Int.toNat_of_nonneg h0).symm
    rw [this, g3, Int.mul_comm, ← Int.natCast_mul]
    omega
  have hrun := run_make (P := E.P) w T e i z ((hE.tt T d hT).slc e hk) g1 g4 .i64 .i64 n n h0 (Int.le_refl _) hmul (by omega)
  rw [hsz, ← hzs] at hrun
  refine .inl ⟨_, _, by simp only [execOp, ho, k1, Sem.run_bind, hrun, Result.andThen_ok, Sem.run_pure]; rfl, ?_⟩
  have hl : (List.replicate n.toNat t.d).length = n.toNat := by simp
  have := post_row I (cs := [0 ≤ n, room n.toNat de.bytes]) (t := t) (xs := List.replicate n.toNat t.d) (cap := n.toNat) (cur := madeCells z.cells (n.toNat * z.cells.size)) (e := e) (by omega) (by simp only [maxLen]; omega) (by rw [size_madeCells, hzs])
    (fun j hj => by
      have hj' : j < n.toNat := by simpa using hj
      rw [List.getElem_replicate, ← hzs, made_seg z.cells n.toNat j hj']
      exact hzr) (dels := [])
  rw [hl] at this
  exact this
theorem sound_buildSlice0 (hE : EnvOk E) (I : Inv w0 B ρ H ob nx w) {T e : TypeId} {n : Nat} {ps : Array (Nat × Operand)} {vs : List (Nat × V)} {d de : TD} {t : Ty} {xs : List t.T} (ho : o.op = .buildSlice T n ps) (hT : E.tt T = some d) (hk : d.kind = .slc e) (he : E.tt e = some de) (ht : de.ty = some t)
    (hd : DenParts ρ H nx vs (ps.toList.map fun x => (x.1, a.eval x.2))) (hf : fillRow t (List.replicate n t.d) vs = some xs) (hn : n * t.sz ≤ 16777216) (hr : r = ⟨[], some (.val (.one (.own nx))), [(nx, some (.row t xs))]⟩) : StepOk E.P o a w (Post w0 B ob nx ρ H r) := by
  subst hr
  obtain ⟨i, z, g1, g2, g3, g4, g5, g6⟩ := (hE.tt e de he).info
  have hzr := g6 t ht H
  have hzs : z.cells.size = t.sz := by simpa using Rd.len _ _ _ hzr
  have hsz : i.size = t.sz := by rw [g2]; exact ((hE.tt e de he).ty t ht).2.symm
  have hpos : t.sz ≠ 0 := by rw [← hsz, g2]; exact (hE.tt e de he).pos
  obtain ⟨cells, m1, m2, m3, m4⟩ := fillRow_ok I.one hpos (n := n) (cells := madeCells z.cells (n * z.cells.size)) hf hd (by simp) (by rw [size_madeCells, hzs])
    (fun j hj => by
      have hj' : j < n := by simpa using hj
      rw [List.getElem_replicate, ← hzs, made_seg z.cells n j hj']
      exact hzr)
  refine .inl ⟨_, _, ?_, post_row I (cap := n) (cur := cells) (e := e) (by omega) ?_ m3 m4 (dels := [])⟩
  · have hn' : ¬ (n * t.sz > 2 ^ 24) := by omega
    have hparts : (ps.map fun x => (x.1, a.eval x.2)).toList = ps.toList.map fun x => (x.1, a.eval x.2) := by simp
    rw [m2]
    by_cases h0 : n * t.sz = 0
    · have hn0 : n = 0 := by
        rcases Nat.mul_eq_zero.1 h0 with h | h
        · exact h
        · exact absurd h hpos
      subst hn0
      have m1' : Instr.fill (fun i => some (i * t.sz, t.sz)) #[] (ps.toList.map fun x => (x.1, a.eval x.2)) = some cells := by
        have : madeCells z.cells (0 * z.cells.size) = #[] := by simp [madeCells]
        rw [this] at m1; exact m1
      simp [execOp, ho, Instr.buildSlice, run_underlying ((hE.tt T d hT).slc e hk), sizeOf, typeInfo, g1, hsz, Array.range_zero', m1', newRow]
    · have m1' := m1
      unfold madeCells at m1'
      rw [hzs] at m1'
      have hz2 : ∀ i : Nat, z.cells[i % t.sz]! = z.cells[i % z.cells.size]! := by intro i; rw [hzs]
      simp only [hz2] at m1'
      simp [execOp, ho, Instr.buildSlice, run_underlying ((hE.tt T d hT).slc e hk), sizeOf, typeInfo, zeroValue, g1, g4, hsz, hn', h0, m1', newRow]
  · simp only [maxLen]
    have : n ≤ n * t.sz := Nat.le_mul_of_pos_right _ (by omega)
    omega
theorem sound_buildSlice (hE : EnvOk E) (I : Inv w0 B ρ H ob nx w) (hv : EvOk ρ H nx ev a) {T e : TypeId} {n : Nat} {ps : Array (Nat × Operand)} {vs : List (Nat × V)} {d de : TD} {t : Ty} {xs : List t.T} (ho : o.op = .buildSlice T n ps) (hT : E.tt T = some d) (hk : d.kind = .slc e) (he : E.tt e = some de) (ht : de.ty = some t)
    (hp : parts ev ps.toList = some vs) (hf : fillRow t (List.replicate n t.d) vs = some xs) (hn : n * t.sz ≤ 16777216) (hr : r = ⟨[], some (.val (.one (.own nx))), [(nx, some (.row t xs))]⟩) : StepOk E.P o a w (Post w0 B ob nx ρ H r) :=
  sound_buildSlice0 hE I ho hT hk he ht (parts_ok hv hp) hf hn hr
theorem frzParts_den {H1 : IH} (hle : HLe H H1) : ∀ {vs : List (Nat × V)} {us : List (Nat × Value)}, (∀ j ∈ vs.flatMap (fun x => ownV x.2), ∀ (t : Ty) (xs : List t.T), lookO ob j = some (.row t xs) → Rd H1 (.sl t) xs [ρ j]) → DenParts ρ H nx vs us → DenParts ρ H1 nx (vs.map fun x => (x.1, frzV (lookO ob) x.2)) us
  | [], _, _, h => h
  | (i, v) :: r, us, hr, h => by
    obtain ⟨u, us', rfl, h1, h2, h3⟩ := h
    obtain ⟨k1, k2⟩ := frzV_den (nx := nx) hle h2 (fun j hj => hr j (by simp only [List.flatMap_cons, List.mem_append]; exact .inl hj)) h1
    exact ⟨u, us', rfl, k1, k2, frzParts_den hle (fun j hj => hr j (by simp only [List.flatMap_cons, List.mem_append]; exact .inr hj)) h3⟩
theorem sound_buildSlice_fz (hE : EnvOk E) (I : Inv w0 B ρ H ob nx w) (hv : EvOk ρ H nx ev a) {T e : TypeId} {n : Nat} {ps : Array (Nat × Operand)} {vs : List (Nat × V)} {d de : TD} {t : Ty} {xs : List t.T} (ho : o.op = .buildSlice T n ps) (hT : E.tt T = some d) (hk : d.kind = .slc e) (he : E.tt e = some de) (ht : de.ty = some t)
    (hp : parts ev ps.toList = some vs) (hf : fillRow t (List.replicate n t.d) (vs.map fun x => (x.1, frzV (lookO ob) x.2)) = some xs) (hn : n * t.sz ≤ 16777216)
    (hr : r = ⟨[], some (.val (.one (.own nx))), (nx, some (.row t xs)) :: (vs.flatMap fun x => ownV x.2).map fun j => (j, none)⟩) : StepOk E.P o a w (Post w0 B ob nx ρ H r) := by
  subst hr
  obtain ⟨H1, hle, I1, hrd⟩ := freeze_rows I (vs.flatMap fun x => ownV x.2)
  have := sound_buildSlice0 (o := o) (a := a) (r := ⟨[], some (.val (.one (.own nx))), [(nx, some (.row t xs))]⟩) hE I1 ho hT hk he ht (frzParts_den hle hrd (parts_ok hv hp)) hf hn rfl
  refine this.mono fun v w' hq => ?_
  obtain ⟨ρ', H', h1, h2, h3, h4⟩ := hq
  exact ⟨ρ', H', h1, hle.trans h2, h3, h4⟩
theorem sound_empty (hE : EnvOk E) (I : Inv w0 B ρ H ob nx w) {T e : TypeId} {d de : TD} {t : Ty} (ho : o.op = .buildSlice T 0 ⟨[]⟩) (hT : E.tt T = some d) (hk : d.kind = .slc e) (he : E.tt e = some de) (ht : de.ty = some t) :
    StepOk E.P o a w (Post w0 B ob nx ρ H ⟨[], some (.val (.one (.frs t []))), []⟩) := by
  obtain ⟨i, z, g1, g2, g3, g4, g5, g6⟩ := (hE.tt e de he).info
  have hsz : i.size = t.sz := by rw [g2]; exact ((hE.tt e de he).ty t ht).2.symm
  have hb : Below w.heap.size w (w.alloc (.cells #[] e)) := (Below.refl _ _).alloc (Nat.le_refl _) _
  refine .inl ⟨.slice (some ⟨w.heap.size, 0, none⟩) 0 0, w.alloc (.cells #[] e), ?_, ρ, H, (I.grow hb).more (by simp [W]), HLe.refl _, REq.refl _ _, fun sv e => ?_⟩
  · have m1 : Instr.fill (fun i => some (i * t.sz, t.sz)) #[] [] = some #[] := rfl
    simp [execOp, ho, Instr.buildSlice, run_underlying ((hE.tt T d hT).slc e hk), sizeOf, typeInfo, g1, hsz, Array.range_zero', m1, newRow]
  · cases e
    exact ⟨⟨rfl, _, rfl⟩, trivial⟩
theorem still_ok {r' : Res} {v : Value} {w' : World} (hnx : ∀ id p, lookO ob id = some p → id < nx) (h : still nx r = some r') (hp : Post w0 B ob nx ρ H r v w') : Post w0 B ob nx ρ H r' v w' ∧ r'.cs = r.cs ∧ r'.up = [] := by
  unfold still at h
  split at h
  · rename_i hu
    cases h
    exact ⟨hp, rfl, hu⟩
  · rename_i i t xs hu
    split at h
    · rename_i j hj
      split at h
      · rename_i e
        obtain ⟨rfl, hni⟩ := e
        cases h
        obtain ⟨ρ', H', I, k2, k3, k4⟩ := hp
        obtain ⟨k5, k6⟩ := k4 _ hj
        rw [hu] at I
        have hl : lookO ([(i, some (AObj.row t xs))] ++ ob) i = some (.row t xs) := by simp [lookO]
        have hden := (I.objs i _ hl).2.2
        have hv : v = ρ' i := k5
        have sub : ∀ id p, lookO ob id = some p → lookO ([(i, some (AObj.row t xs))] ++ ob) id = some p ∧ id ≠ i := by
          intro id p hp
          have := hnx id p hp
          refine ⟨?_, by omega⟩
          show lookO ((i, some (AObj.row t xs)) :: ob) id = some p
          rw [lookO_cons, if_neg (by omega)]; exact hp
        have I' : Inv w0 B ρ' H' ob (nx + W) w' :=
          ⟨I.below, I.bsz, I.one, I.agree, fun id p hp => I.objs id p (sub id p hp).1, fun x y p q hxy h1 h2 => I.sep x y p q hxy (sub _ _ h1).1 (sub _ _ h2).1,
            fun b hk => let ⟨m1, m2, m3, m4⟩ := I.kp b hk; ⟨m1, m2, m3, fun id p hp => m4 id p (sub _ _ hp).1⟩⟩
        refine ⟨?_, rfl, rfl⟩
        rcases hden with ⟨d1, rfl⟩ | ⟨g, cap, cur, e, d1, d2, d3, ⟨_, _, d4⟩, d5, d6, d7, d8⟩
        · refine ⟨ρ', H', I', k2, k3, fun sv e => ?_⟩
          cases e
          refine ⟨?_, trivial⟩
          show Rd H' (.sl t) [] [v]
          rw [hv, d1]
          exact ⟨none, 0, rfl, Nat.le_refl _, .inl rfl⟩
        · have hf : ∀ id p, lookO ob id = some p → ¬ HB (ρ' id) g := by
            intro id p hp hb
            exact I.sep i id _ _ (Ne.symm (sub _ _ hp).2) hl (sub _ _ hp).1 g (.inr (.inl ⟨_, _, d1⟩)) hb
          have hK : ¬ w0.K g := fun hk => (I.kp g hk).2.2.2 i _ hl (.inr (.inl ⟨_, _, d1⟩))
          obtain ⟨I2, hle⟩ := I'.imm d4 d3 hf hK
          refine ⟨ρ', _, I2, k2.trans hle, k3, fun sv e => ?_⟩
          cases e
          refine ⟨?_, trivial⟩
          show Rd _ (.sl t) xs [v]
          rw [hv, d1]
          refine ⟨_, cap, rfl, d5, .inr ⟨g, 0, cur, _, _, rfl, upd_same _ _ _, fun i hi => ?_⟩⟩
          rw [Nat.zero_add]
          exact Rd.mono hle _ _ _ (d8 i hi)
      · cases h
    · cases h
  · cases h
end
end Go.Sx
