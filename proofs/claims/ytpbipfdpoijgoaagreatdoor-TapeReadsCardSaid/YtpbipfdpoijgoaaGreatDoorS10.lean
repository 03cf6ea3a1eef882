/- A verified symbolic run of functions, part 10: lemmas, no claim of their own. -/
import Derived.Test.YtpbipfdpoijgoaaGreatDoorS9
/- Contracts: tape, the small functions. -/
namespace Go.Sx
open U

theorem fn107 (b : Bool) (e : Int) : Fn P1 gl1 107 [bV b, iV e] (.val (iV (whenE b e))) true := by
  refine Fn.flat ?_ rfl
  refine fn_of false [] [] h0 0 Proofs.Tryz.f107 trivial trivial (by kernel_rfl) rfl (by kernel_rfl) rfl rfl rfl ?_
  rw [vc107]
  try simp only [splitB_iff, -eq_self]
  cases b <;> simp [whenE]

theorem fn109 (n lo hi : Int) : Fn P1 gl1 109 [iV n, iV lo, iV hi] (.val (iV (within n lo hi))) true := by
  refine Fn.flat ?_ rfl
  refine fn_of false [] [fb107] h0 1 Proofs.Tryz.f109 trivial ⟨⟨by kernel_rfl, by kernel_rfl, _, rfl, by kernel_rfl⟩, trivial⟩ (by kernel_rfl) rfl (by kernel_rfl) rfl rfl rfl ?_
  rw [vc109]
  try simp only [splitB_iff, -eq_self]
  unfold within
  by_cases h1 : n < lo <;> by_cases h2 : hi < n <;> simp [h1, h2]

theorem fn106 (xs : List Int) (hl : xs.length ≤ 1000000000) : Fn P1 gl1 106 [.one (.sl (.int .i64) xs)] (.val (iV (first xs))) true := by
  refine Fn.flat ?_ rfl
  refine fn_of false [] [] h106 0 Proofs.Tryz.f106 trivial trivial (by kernel_rfl) rfl (by kernel_rfl) rfl rfl rfl ?_
  rw [vc106]
  try simp only [splitB_iff, -eq_self]
  refine ⟨⟨0, by simp, by simp⟩, fun g hg => ⟨fun hlt => ?_, fun hge => ?_⟩⟩
  · have hlt' : g < xs.length := by simpa using hlt
    rw [getD_of hlt', hg.2, first_drop xs g hlt']
    refine ⟨by omega, fun h => ?_, fun h => ⟨by simp only [fits]; omega, g + 1, ⟨by omega, ?_⟩, by omega, by simp⟩⟩
    · rw [if_neg (by simpa using h)]; simp
    · rw [if_pos (by simpa using h)]
  · have hge' : ¬ g < xs.length := by simpa using hge
    rw [hg.2, List.drop_of_length_le (by omega)]
    simp [first]

theorem isName_of {l : List UInt8} (h : ∀ j, j < l.length → nameAt l j = true) : isName l = (decide (l ≠ []) && decide (l.length ≤ 24)) := by
  unfold isName
  have : (List.range l.length).all (nameAt l) = true := by
    rw [List.all_eq_true]
    intro j hj
    exact h j (List.mem_range.1 hj)
  rw [this]; rfl

theorem isName_not {l : List UInt8} {j : Nat} (hj : j < l.length) (h : nameAt l j = false) : isName l = false := by
  unfold isName
  have : (List.range l.length).all (nameAt l) = false := by
    rw [List.all_eq_false]
    exact ⟨j, List.mem_range.2 hj, by simp [h]⟩
  rw [this]; rfl

/-- The rune at a place of a name. -/
theorem rune_name {l : List UInt8} {g c w : Nat} (h : (UInt8.toNat (List.getD l g (0 : UInt8)) < 128 → c = UInt8.toNat (List.getD l g (0 : UInt8)) ∧ w = 1) ∧ (128 ≤ UInt8.toNat (List.getD l g (0 : UInt8)) → 128 ≤ c ∧ 1 ≤ w)) :
    (bif !bif bif decide ((65 : Int) ≤ (c : Int)) then decide ((c : Int) ≤ (90 : Int)) else false then true else bif decide ((97 : Int) ≤ (c : Int)) then decide ((c : Int) ≤ (122 : Int)) else false then bif (g : Int) == (0 : Int) then true else bif bif decide ((c : Int) < (48 : Int)) then true else decide ((57 : Int) < (c : Int)) then (c : Int) != (95 : Int) else false else false) = !nameAt l g := by
  unfold nameAt
  generalize UInt8.toNat (List.getD l g 0) = b at *
  have e0 : ((g : Int) == 0) = decide (g = 0) := by
    by_cases hg : g = 0 <;> simp [hg]
  have e95 : ((c : Int) != 95) = decide (c ≠ 95) := by
    by_cases hg : c = 95
    · subst hg; rfl
    · simp [hg]; omega
  rw [e0, e95]
  have key : ∀ (p1 p2 p3 p4 p5 p6 p7 p8 : Bool), (bif !bif bif p1 then p2 else false then true else bif p3 then p4 else false then bif p5 then true else bif bif p6 then true else p7 then p8 else false else false) = !((p1 && p2) || (p3 && p4) || (!p5 && ((!p6 && !p7) || !p8))) := by decide
  rw [key]
  congr 1
  have hb : (bne g 0) = !decide (g = 0) := by by_cases hg : g = 0 <;> simp [hg]
  rw [hb]
  by_cases hlt : b < 128
  · obtain ⟨rfl, _⟩ := h.1 hlt
    have f1 : decide ((65 : Int) ≤ (c : Int)) = decide (65 ≤ c) := decide_eq_decide.2 (by omega)
    have f2 : decide ((c : Int) ≤ 90) = decide (c ≤ 90) := decide_eq_decide.2 (by omega)
    have f3 : decide ((97 : Int) ≤ (c : Int)) = decide (97 ≤ c) := decide_eq_decide.2 (by omega)
    have f4 : decide ((c : Int) ≤ 122) = decide (c ≤ 122) := decide_eq_decide.2 (by omega)
    have f5 : (!decide ((c : Int) < 48)) = decide (48 ≤ c) := by rw [← decide_not]; exact decide_eq_decide.2 (by omega)
    have f6 : (!decide ((57 : Int) < (c : Int))) = decide (c ≤ 57) := by rw [← decide_not]; exact decide_eq_decide.2 (by omega)
    have f7 : (!decide (c ≠ 95)) = (c == 95) := by by_cases h95 : c = 95 <;> simp [h95]
    rw [f1, f2, f3, f4, f5, f6, f7]
  · obtain ⟨hc, _⟩ := h.2 (by omega)
    have f1 : decide ((c : Int) ≤ 90) = false := by simp; omega
    have f2 : decide ((c : Int) ≤ 122) = false := by simp; omega
    have f3 : decide ((57 : Int) < (c : Int)) = true := by simp; omega
    have f4 : decide (c ≠ 95) = true := by simp; omega
    have f5 : decide (b ≤ 90) = false := by simp; omega
    have f6 : decide (b ≤ 122) = false := by simp; omega
    have f7 : decide (b ≤ 57) = false := by simp; omega
    have f8 : (b == 95) = false := by simp; omega
    rw [f1, f2, f3, f4, f5, f6, f7, f8]
    simp

theorem fn108 (l : List UInt8) : Fn P1 gl1 108 [sV l] (.val (bV (isName l))) true := by
  refine Fn.flat ?_ rfl
  refine fn_of false [] [] h108 0 Proofs.Tryz.f108 trivial trivial (by kernel_rfl) rfl (by kernel_rfl) rfl rfl rfl ?_
  rw [vc108]
  try simp only [splitB_iff, -eq_self]
  refine ⟨⟨0, ⟨Nat.zero_le _, fun j hj => absurd hj (Nat.not_lt_zero _)⟩, rfl, ⟨rfl, rfl⟩, trivial⟩, fun g hg => ⟨fun hge => ⟨?_, trivial⟩, fun c w hc => ⟨fun h => ⟨?_, trivial⟩, fun h => ?_⟩⟩⟩
  · have e : g = l.length := by omega
    subst e
    rw [isName_of hg.2]
    show (bif l != [] then _ else _) = _
    cases l with
    | nil => rfl
    | cons a t =>
      have : ((((a :: t).length : Nat) : Int) ≤ 24) = ((a :: t).length ≤ 24) := by simp only [eq_iff_iff]; omega
      simp only [this]
      rfl
  · rw [rune_name hc.2] at h
    rw [isName_not hc.1 (by simpa using h)]
  · rw [rune_name hc.2] at h
    have hn : nameAt l g = true := by simpa using h
    have hw : w = 1 := by
      by_cases hlt : UInt8.toNat (List.getD l g 0) < 128
      · exact (hc.2.1 hlt).2
      · exfalso
        have h9 := hn
        unfold nameAt at h9
        generalize UInt8.toNat (List.getD l g 0) = b at *
        simp only [Bool.or_eq_true, Bool.and_eq_true, decide_eq_true_eq, beq_iff_eq] at h9
        omega
    subst hw
    refine ⟨g + 1, ⟨hc.1, fun j hj => ?_⟩, by omega, rfl, ⟨rfl, rfl⟩, trivial⟩
    rcases Nat.lt_succ_iff_lt_or_eq.1 hj with h1 | rfl
    · exact hg.2 j h1
    · exact hn

theorem fn172 (l : List UInt8) : Fn P1 gl1 172 [sV l] (.val (bV (plain l))) true := by
  refine Fn.flat ?_ rfl
  refine fn_of false [] [] h172 0 Proofs.Tryz.f172 trivial trivial (by kernel_rfl) rfl (by kernel_rfl) rfl rfl rfl ?_
  rw [vc172]
  try simp only [splitB_iff, -eq_self]
  refine ⟨⟨0, ⟨Nat.zero_le _, fun j hj => absurd hj (Nat.not_lt_zero _)⟩, rfl, ⟨rfl, rfl⟩, trivial⟩, fun g hg => ⟨fun hge => ⟨?_, trivial⟩, fun c w hc => ⟨fun h => ⟨?_, trivial⟩, fun h => ?_⟩⟩⟩
  · have e : g = l.length := by omega
    subst e
    symm
    unfold plain
    rw [List.all_eq_true]
    intro b hb
    obtain ⟨j, hj, rfl⟩ := List.mem_iff_getElem.1 hb
    have := hg.2 j hj
    rw [getD_of hj] at this
    simpa using this
  · have h' : 127 < c := by simp at h; omega
    symm
    unfold plain
    rw [List.all_eq_false]
    refine ⟨l[g], List.getElem_mem hc.1, ?_⟩
    rw [getD_of hc.1] at hc
    by_cases hlt : UInt8.toNat l[g] < 128
    · have := hc.2.1 hlt; omega
    · simp [hlt]
  · have h' : ¬ 127 < c := by simp at h; omega
    have hlt : UInt8.toNat (List.getD l g 0) < 128 := by
      by_cases hlt : UInt8.toNat (List.getD l g 0) < 128
      · exact hlt
      · have := hc.2.2 (by omega); omega
    obtain ⟨_, rfl⟩ := hc.2.1 hlt
    refine ⟨g + 1, ⟨hc.1, fun j hj => ?_⟩, by omega, rfl, ⟨rfl, rfl⟩, trivial⟩
    rcases Nat.lt_succ_iff_lt_or_eq.1 hj with h1 | rfl
    · exact hg.2 j h1
    · exact hlt

/-- Numbers of 16 bits. -/
def W16 (l : List Int) : Prop := ∀ x ∈ l, 0 ≤ x ∧ x ≤ 65535

theorem isum_bd {l : List Int} (h : W16 l) : 0 ≤ isum l ∧ isum l ≤ 65535 * l.length := by
  have key : ∀ (l : List Int) (x : Int), W16 l → 0 ≤ x → x ≤ l.foldl (· + ·) x ∧ l.foldl (· + ·) x ≤ x + 65535 * l.length := by
    intro l
    induction l with
    | nil => intro x _ _; simp
    | cons a l ih =>
      intro x h hx
      have ha := h a (by simp)
      have := ih (x + a) (fun y hy => h y (by simp [hy])) (by omega)
      simp only [List.foldl_cons, List.length_cons]
      omega
  have := key l 0 h (by omega)
  unfold isum
  omega

theorem isum_snoc (xs : List Int) (g : Nat) (h : g < xs.length) : isum (xs.take (g + 1)) = isum (xs.take g) + xs[g] := by
  unfold isum
  rw [List.take_succ_eq_append_getElem h, List.foldl_append]
  rfl

theorem W16.take {l : List Int} (h : W16 l) (n : Nat) : W16 (l.take n) := fun x hx => h x (List.mem_of_mem_take hx)

theorem fn101 (l : List Int) (hl : l.length ≤ 1000000) (h : W16 l) : Fn P1 gl1 101 [.one (.sl (.int .i64) l)] (.val (aV 5 (tlast l))) true := by
  refine Fn.flat ?_ rfl
  refine fn_of false [] [fb168] h101 1 Proofs.Tryz.f101 trivial ⟨⟨by kernel_rfl, by kernel_rfl, _, rfl, by kernel_rfl⟩, trivial⟩ (by kernel_rfl) rfl (by kernel_rfl) rfl rfl rfl ?_
  rw [vc101]
  try simp only [splitB_iff, -eq_self]
  refine ⟨⟨0, Nat.zero_le _, rfl, rfl, rfl, rfl, rfl, rfl, trivial⟩, fun g hg => ⟨fun hlt => ?_, fun hge => ?_⟩⟩
  · have hlt' : g < l.length := by simpa using hlt
    rw [getD_of hlt']
    have h1 := isum_bd (h.take g)
    have h2 := h _ (List.getElem_mem hlt')
    simp only [List.length_take] at h1
    refine ⟨by omega, by simp only [fits]; omega, by simp only [fits]; omega, g + 1, hlt', by omega, by simp, (isum_snoc l g hlt').symm, rfl, rfl, rfl, rfl, trivial⟩
  · have hge' : ¬ g < l.length := by simpa using hge
    rw [List.take_of_length_le (by omega)]
    have h1 := isum_bd h
    exact ⟨by omega, by decide, by decide, rfl, trivial⟩

theorem fn100 (i c : Int) (hi : 0 ≤ i ∧ i ≤ 1000000) (hc : 0 ≤ c ∧ c ≤ 1000000) : Fn P1 gl1 100 [iV i, iV c] (.val (aV 5 (tframe i c))) true := by
  refine Fn.flat ?_ rfl
  refine fn_of false [] [fb168] h0 1 Proofs.Tryz.f100 trivial ⟨⟨by kernel_rfl, by kernel_rfl, _, rfl, by kernel_rfl⟩, trivial⟩ (by kernel_rfl) rfl (by kernel_rfl) rfl rfl rfl ?_
  rw [vc100]
  try simp only [-eq_self]
  exact ⟨by simp only [fits]; omega, by simp only [fits]; omega, by simp only [fits]; omega, by simp only [fits]; omega, by omega, by decide, by decide, rfl, trivial⟩

theorem bor256 (x b : Int) (h0 : 0 ≤ x) (h1 : x * 256 + 255 ≤ 9223372036854775807) (hb : 0 ≤ b ∧ b ≤ 255) : bits .or .i64 (x * 256) b = 256 * x + b := by
  obtain ⟨n, rfl⟩ := Int.eq_ofNat_of_zero_le h0
  obtain ⟨m, rfl⟩ := Int.eq_ofNat_of_zero_le hb.1
  have hm : m < 256 := by omega
  show IntKind.wrap .i64 (((BitVec.ofInt 64 ((n : Int) * 256) ||| BitVec.ofInt 64 (m : Int)).toNat : Nat) : Int) = _
  have e1 : (BitVec.ofInt 64 ((n : Int) * 256) ||| BitVec.ofInt 64 (m : Int)).toNat = n * 256 + m := by
    rw [BitVec.toNat_or]
    have h2 : (BitVec.ofInt 64 ((n : Int) * 256)).toNat = n * 256 := by
      rw [BitVec.toNat_ofInt]; omega
    have h3 : (BitVec.ofInt 64 (m : Int)).toNat = m := by
      rw [BitVec.toNat_ofInt]; omega
    rw [h2, h3]
    have := Nat.two_pow_add_eq_or_of_lt (i := 8) (b := m) (by omega) n
    rw [show (2 : Nat) ^ 8 = 256 from rfl] at this
    rw [Nat.mul_comm n 256]
    exact this.symm
  rw [e1]
  have : IntKind.wrap .i64 ((n * 256 + m : Nat) : Int) = ((n * 256 + m : Nat) : Int) := fits_wrap (by simp only [fits]; omega)
  rw [this]
  omega

theorem number_bd : ∀ (n : Nat) (s : List Int), Bytes s → s.length ≤ n → 0 ≤ number s ∧ number s < 256 ^ n := by
  have key : ∀ (s : List Int) (x : Int) (n m : Nat), Bytes s → 0 ≤ x → x < 256 ^ m → s.length + m ≤ n → 0 ≤ s.foldl (fun x b => 256 * x + b) x ∧ s.foldl (fun x b => 256 * x + b) x < 256 ^ n := by
    intro s
    induction s with
    | nil =>
      intro x n m _ h0 h1 h2
      refine ⟨h0, Int.lt_of_lt_of_le h1 ?_⟩
      have e : ∀ k : Nat, (256 : Int) ^ k = ((256 ^ k : Nat) : Int) := fun k => by simp
      rw [e, e]
      exact Int.ofNat_le.2 (Nat.pow_le_pow_right (by decide) (by simpa using h2))
    | cons b s ih =>
      intro x n m hb h0 h1 h2
      have hb0 := hb b (by simp)
      refine ih (256 * x + b) n (m + 1) (fun y hy => hb y (by simp [hy])) (by omega) ?_ (by simp at h2; omega)
      rw [Int.pow_succ]
      omega
  intro n s hb hl
  exact key s 0 n 0 hb (by omega) (by decide) (by omega)

theorem number_snoc (xs : List Int) (g : Nat) (h : g < xs.length) : number (xs.take (g + 1)) = 256 * number (xs.take g) + xs[g] := by
  unfold number
  rw [List.take_succ_eq_append_getElem h, List.foldl_append]
  rfl

theorem fn173 (s : List Int) (hl : s.length ≤ 4) (hb : Bytes s) : Fn P1 gl1 173 [.one (.sl (.int .u8) s)] (.val (iV (number s))) true := by
  refine Fn.flat ?_ rfl
  refine fn_of false [] [] h173 0 Proofs.Tryz.f173 trivial trivial (by kernel_rfl) rfl (by kernel_rfl) rfl rfl rfl ?_
  rw [vc173]
  try simp only [splitB_iff, -eq_self]
  refine ⟨⟨0, Nat.zero_le _, rfl, rfl, rfl, rfl, trivial⟩, fun g hg => ⟨fun hlt => ?_, fun hge => ?_⟩⟩
  · have hlt' : g < s.length := by simpa using hlt
    rw [getD_of hlt']
    have h1 := number_bd 4 (s.take g) (fun y hy => hb y (List.mem_of_mem_take hy)) (by simp; omega)
    have h2 := hb _ (List.getElem_mem hlt')
    have e4 : (256 : Int) ^ 4 = 4294967296 := by decide
    rw [e4] at h1
    refine ⟨by omega, ⟨by decide, by decide, by simp only [fits]; omega⟩, by simp only [fits]; omega, by simp only [fits]; omega, g + 1, hlt', by omega, by simp, ?_, rfl, rfl, trivial⟩
    rw [bor256 _ _ h1.1 (by omega) h2, number_snoc s g hlt']
  · have hge' : ¬ g < s.length := by simpa using hge
    rw [List.take_of_length_le (by omega)]
    exact ⟨rfl, trivial⟩

theorem fn44 (xs ys : List Int) (hl : xs.length ≤ 1000000000) : Fn P1 gl1 44 [.one (.sl (.int .i64) xs), .one (.sl (.int .i64) ys)] (.val (bV (decide (xs = ys)))) true := by
  refine Fn.flat ?_ rfl
  refine fn_of false [] [] h44 0 Proofs.Tryz.f44 trivial trivial (by kernel_rfl) rfl (by kernel_rfl) rfl rfl rfl ?_
  rw [vc44]
  try simp only [splitB_iff, -eq_self]
  refine ⟨fun h => ⟨?_, trivial⟩, fun h => ⟨⟨0, ⟨Nat.zero_le _, rfl⟩, rfl, rfl, rfl, trivial⟩, fun g hg => ⟨fun hlt => ?_, fun hge => ⟨?_, trivial⟩⟩⟩⟩
  · symm
    rw [decide_eq_false_iff_not]
    rintro rfl
    simp at h
  · have hlt' : g < xs.length := by simpa using hlt
    have he : xs.length = ys.length := by simp at h; omega
    have hlt2 : g < ys.length := by omega
    rw [getD_of hlt', getD_of hlt2]
    refine ⟨by omega, by omega, fun h => ⟨?_, trivial⟩, fun h => ⟨by simp only [fits]; omega, g + 1, ⟨hlt', ?_⟩, by omega, by simp, rfl, rfl, trivial⟩⟩
    · symm
      rw [decide_eq_false_iff_not]
      rintro rfl
      simp at h
    · rw [List.take_succ_eq_append_getElem hlt', List.take_succ_eq_append_getElem hlt2, hg.2]
      simp at h
      rw [h]
  · have he : xs.length = ys.length := by simp at h; omega
    have hge' : ¬ g < xs.length := by simpa using hge
    have := hg.2
    rw [List.take_of_length_le (by omega), List.take_of_length_le (by omega)] at this
    simp [this]
end Go.Sx

/- Contracts as the engine uses them: tape. -/
namespace Go.Sx.U
def four (f : Int) : List Int := [f / 16777216 % 256, f / 65536 % 256, f / 256 % 256, f % 256]
def head (nm : List UInt8) (f : Int) : List Int := [82, 69, 69, 76] ++ [(nm.length : Int) % 256] ++ strNs nm ++ four f
/-- The records of the frames ahead of an index. -/
def recs (l : List Int) : Nat → List Int
  | 0 => []
  | i + 1 => recs l i ++ tframe i (l.getD i 0)
def stream (nm : List UInt8) (f : Int) (l : List Int) : List Int := head nm f ++ recs l l.length ++ tlast l
end Go.Sx.U
namespace Go.Sx
open U
@[reducible] def rV (nm : List UInt8) (f : Int) (l : List Int) : V := .agg [.one (.str nm), .one (.int .i64 f), .one (.sl (.int .i64) l)]
def sp107 : FSpec := ⟨fun vs => match vs with
  | [.one (.bool b), .one (.int .i64 e)] => some ([], .val (iV (whenE b e)))
  | _ => none, true⟩
def sp109 : FSpec := ⟨fun vs => match vs with
  | [.one (.int .i64 n), .one (.int .i64 lo), .one (.int .i64 hi)] => some ([], .val (iV (within n lo hi)))
  | _ => none, true⟩
def sp106 : FSpec := ⟨fun vs => match vs with
  | [.one (.sl (.int .i64) xs)] => some ([List.length xs ≤ 1000000000], .val (iV (first xs)))
  | _ => none, true⟩
def sp108 : FSpec := ⟨fun vs => match vs with
  | [.one (.str l)] => some ([], .val (bV (isName l)))
  | _ => none, true⟩
def sp172 : FSpec := ⟨fun vs => match vs with
  | [.one (.str l)] => some ([], .val (bV (plain l)))
  | _ => none, true⟩
def sp100 : FSpec := ⟨fun vs => match vs with
  | [.one (.int .i64 i), .one (.int .i64 c)] => some ([(0 ≤ i ∧ i ≤ 1000000) ∧ (0 ≤ c ∧ c ≤ 1000000)], .val (aV 5 (tframe i c)))
  | _ => none, true⟩
def sp101 : FSpec := ⟨fun vs => match vs with
  | [.one (.sl (.int .i64) l)] => some ([List.length l ≤ 1000000 ∧ W16 l], .val (aV 5 (tlast l)))
  | _ => none, true⟩
def sp173 : FSpec := ⟨fun vs => match vs with
  | [.one (.sl (.int .u8) s)] => some ([List.length s ≤ 4 ∧ Bytes s], .val (iV (number s)))
  | _ => none, true⟩
def sp44 : FSpec := ⟨fun vs => match vs with
  | [.one (.sl (.int .i64) xs), .one (.sl (.int .i64) ys)] => some ([List.length xs ≤ 1000000000], .val (bV (decide (xs = ys))))
  | _ => none, true⟩
theorem so107_ : SpecOk P1 gl1 107 sp107 := by
  intro vs ps r h _
  simp only [sp107] at h
  split at h
  · cases h; exact fn107 _ _
  · cases h
theorem so107 : Sp1 107 sp107 := ⟨so107_, Proofs.Tryz.f107, _, by kernel_rfl, rfl, by kernel_rfl⟩
theorem so109_ : SpecOk P1 gl1 109 sp109 := by
  intro vs ps r h _
  simp only [sp109] at h
  split at h
  · cases h; exact fn109 _ _ _
  · cases h
theorem so109 : Sp1 109 sp109 := ⟨so109_, Proofs.Tryz.f109, _, by kernel_rfl, rfl, by kernel_rfl⟩
theorem so106_ : SpecOk P1 gl1 106 sp106 := by
  intro vs ps r h hp
  simp only [sp106] at h
  split at h
  · cases h; exact fn106 _ (hp _ (List.mem_singleton.2 rfl))
  · cases h
theorem so106 : Sp1 106 sp106 := ⟨so106_, Proofs.Tryz.f106, _, by kernel_rfl, rfl, by kernel_rfl⟩
theorem so108_ : SpecOk P1 gl1 108 sp108 := by
  intro vs ps r h _
  simp only [sp108] at h
  split at h
  · cases h; exact fn108 _
  · cases h
theorem so108 : Sp1 108 sp108 := ⟨so108_, Proofs.Tryz.f108, _, by kernel_rfl, rfl, by kernel_rfl⟩
theorem so172_ : SpecOk P1 gl1 172 sp172 := by
  intro vs ps r h _
  simp only [sp172] at h
  split at h
  · cases h; exact fn172 _
  · cases h
theorem so172 : Sp1 172 sp172 := ⟨so172_, Proofs.Tryz.f172, _, by kernel_rfl, rfl, by kernel_rfl⟩
theorem so100_ : SpecOk P1 gl1 100 sp100 := by
  intro vs ps r h hp
  simp only [sp100] at h
  split at h
  · cases h
    have := hp _ (List.mem_singleton.2 rfl)
    exact fn100 _ _ this.1 this.2
  · cases h
theorem so100 : Sp1 100 sp100 := ⟨so100_, Proofs.Tryz.f100, _, by kernel_rfl, rfl, by kernel_rfl⟩
theorem so101_ : SpecOk P1 gl1 101 sp101 := by
  intro vs ps r h hp
  simp only [sp101] at h
  split at h
  · cases h
    have := hp _ (List.mem_singleton.2 rfl)
    exact fn101 _ this.1 this.2
  · cases h
theorem so101 : Sp1 101 sp101 := ⟨so101_, Proofs.Tryz.f101, _, by kernel_rfl, rfl, by kernel_rfl⟩
theorem so173_ : SpecOk P1 gl1 173 sp173 := by
  intro vs ps r h hp
  simp only [sp173] at h
  split at h
  · cases h
    have := hp _ (List.mem_singleton.2 rfl)
    exact fn173 _ this.1 this.2
  · cases h
theorem so173 : Sp1 173 sp173 := ⟨so173_, Proofs.Tryz.f173, _, by kernel_rfl, rfl, by kernel_rfl⟩
theorem so44_ : SpecOk P1 gl1 44 sp44 := by
  intro vs ps r h hp
  simp only [sp44] at h
  split at h
  · cases h
    exact fn44 _ _ (hp _ (List.mem_singleton.2 rfl))
  · cases h
theorem so44 : Sp1 44 sp44 := ⟨so44_, Proofs.Tryz.f44, _, by kernel_rfl, rfl, by kernel_rfl⟩
@[reducible] noncomputable def fb112 : Nat × Func := (112, Proofs.Tryz.f112)
@[reducible] noncomputable def fb99 : Nat × Func := (99, Proofs.Tryz.f99)
@[reducible] noncomputable def fb110 : Nat × Func := (110, Proofs.Tryz.f110)
end Go.Sx

/- What the engine asks, written out (printed by a program). -/
namespace Go.Sx
open U
theorem vc23 (nm : List UInt8) (f : Int) (l : List Int) : exF (env false [(107, sp107), (109, sp109), (106, sp106), (108, sp108)] [fb112, fb110, fb111]) h110 3 23 Proofs.Tryz.f23 [rV nm f l] (.val (iV (U.checkReel nm f l))) = (let q0 := (↑(List.length l) : Int); let q1 := (decide ((256 : Int) < q0)); let q2 := (10000000 : Int); let q3 := (q0 == (0 : Int)); (4 : Nat) ≤ (1000000000 : Nat) ∧ splitB (first [whenE (!isName nm) (8 : Int), within f (0 : Int) q2, whenE q3 (12 : Int), whenE q1 (5 : Int)] != (0 : Int)) (first [whenE (!isName nm) (8 : Int), within f (0 : Int) q2, whenE q3 (12 : Int), whenE q1 (5 : Int)] = checkReel nm f l ∧ True) ((∃ (g : Nat), Nat.le g (List.length l) ∧ (0 : Int) = (↑g : Int) ∧ q0 = q0 ∧ l = l ∧ List.map (fun (n : Int) => within n (0 : Int) (65535 : Int)) (List.take g l) = [] ∧ [whenE (!isName nm) (8 : Int), within f (0 : Int) q2, whenE q3 (12 : Int), whenE q1 (5 : Int)] = [whenE (!isName nm) (8 : Int), within f (0 : Int) q2, whenE q3 (12 : Int), whenE q1 (5 : Int)] ∧ nm = nm ∧ f = f ∧ l = l ∧ True) ∧ ∀ (g : Nat), let q4 := (List.take g l); Nat.le g (List.length l) → splitB (decide ((↑g : Int) < q0)) (((0 : Int) ≤ (↑g : Int) ∧ (↑g : Int) < q0) ∧ room (List.length (List.map (fun (n : Int) => within n (0 : Int) (65535 : Int)) q4) + (1 : Nat)) (8 : Nat) ∧ fits IntKind.i64 ((↑g : Int) + (1 : Int)) ∧ ∃ (g' : Nat), Nat.le g' (List.length l) ∧ List.length l - g' < List.length l - g ∧ (↑g : Int) + (1 : Int) = (↑g' : Int) ∧ q0 = q0 ∧ l = l ∧ List.map (fun (n : Int) => within n (0 : Int) (65535 : Int)) q4 ++ [within (List.getD l g (0 : Int)) (0 : Int) (65535 : Int)] = List.map (fun (n : Int) => within n (0 : Int) (65535 : Int)) (List.take g' l) ∧ [whenE (!isName nm) (8 : Int), within f (0 : Int) q2, whenE q3 (12 : Int), whenE q1 (5 : Int)] = [whenE (!isName nm) (8 : Int), within f (0 : Int) q2, whenE q3 (12 : Int), whenE q1 (5 : Int)] ∧ nm = nm ∧ f = f ∧ l = l ∧ True) (List.length (List.map (fun (n : Int) => within n (0 : Int) (65535 : Int)) q4) ≤ (1000000000 : Nat) ∧ splitB (first (List.map (fun (n : Int) => within n (0 : Int) (65535 : Int)) q4) != (0 : Int)) (first (List.map (fun (n : Int) => within n (0 : Int) (65535 : Int)) q4) = checkReel nm f l ∧ True) (fits IntKind.i64 (f + q0) ∧ whenE (decide (q2 < f + q0)) (4 : Int) = checkReel nm f l ∧ True)))) := by
  kernel_rfl
end Go.Sx

/- Contracts: CheckReel. -/
namespace Go.Sx
open U

theorem first_zero_iff : ∀ (l : List Int), first l = 0 ↔ ∀ x ∈ l, x = 0
  | [] => by simp [first]
  | x :: r => by
    have := first_zero_iff r
    by_cases h : x = 0 <;> simp [first, h, this]

theorem len_beq (l : List Int) : ((l.length : Int) == 0) = decide (l.length = 0) := by
  by_cases h : l.length = 0
  · simp [h]
  · simp only [h, decide_false]
    simp
    intro e
    simp [e] at h

theorem len_256 (l : List Int) : decide ((256 : Int) < (l.length : Int)) = decide (256 < l.length) := decide_eq_decide.2 (by omega)

theorem within_zero {n lo hi : Int} : within n lo hi = 0 ↔ lo ≤ n ∧ n ≤ hi := by
  unfold within
  split <;> constructor <;> intro h <;> first | omega | rfl

theorem whenE_zero {b : Bool} {e : Int} (he : e ≠ 0) : whenE b e = 0 ↔ b = false := by
  cases b <;> simp [whenE, he]

theorem fn23 (nm : List UInt8) (f : Int) (l : List Int) (hl : l.length ≤ 1000000) : Fn P1 gl1 23 [rV nm f l] (.val (iV (checkReel nm f l))) true := by
  refine Fn.flat ?_ rfl
  refine fn_of false [(107, sp107), (109, sp109), (106, sp106), (108, sp108)] [fb112, fb110, fb111] h110 3 Proofs.Tryz.f23 ⟨so107, so109, so106, so108, trivial⟩
    ⟨⟨by kernel_rfl, by kernel_rfl, _, rfl, by kernel_rfl⟩, ⟨by kernel_rfl, by kernel_rfl, _, rfl, by kernel_rfl⟩, ⟨by kernel_rfl, by kernel_rfl, _, rfl, by kernel_rfl⟩, trivial⟩ (by kernel_rfl) rfl (by kernel_rfl) rfl rfl rfl ?_
  rw [vc23]
  try simp only [splitB_iff, -eq_self]
  rw [len_beq, len_256]
  refine ⟨by decide, fun h => ?_, fun h => ?_⟩
  · have h' := h
    simp only [bne_iff_ne, ne_eq] at h'
    unfold checkReel
    rw [if_neg h']
    exact ⟨rfl, trivial⟩
  · have h' := h
    simp only [bne_eq_false_iff_eq] at h'
    refine ⟨⟨0, Nat.zero_le _, rfl, rfl, rfl, rfl, rfl, rfl, rfl, rfl, trivial⟩, fun g hg => ⟨fun hlt => ?_, fun hge => ?_⟩⟩
    · have hlt' : g < l.length := by simpa using hlt
      refine ⟨by omega, by simp only [room, List.length_map, List.length_take]; omega, by simp only [fits]; omega, g + 1, hlt', by omega, by simp, rfl, rfl, ?_, rfl, rfl, rfl, rfl, trivial⟩
      rw [getD_of hlt', List.take_succ_eq_append_getElem hlt', List.map_append]
      rfl
    · have hge' : ¬ g < l.length := by simpa using hge
      rw [List.take_of_length_le (by omega)]
      unfold checkReel
      rw [if_pos h']
      have hz := (first_zero_iff _).1 h'
      have hf := within_zero.1 (hz (within f 0 10000000) (by simp))
      refine ⟨by simp only [List.length_map]; omega, fun h2 => ?_, fun h2 => ?_⟩
      · have h2' : ¬ first (wf16 l) = 0 := by simpa [wf16] using h2
        rw [if_neg h2']
        exact ⟨rfl, trivial⟩
      · have h2' : first (wf16 l) = 0 := by simpa [wf16] using h2
        rw [if_pos h2']
        exact ⟨by simp only [fits]; omega, rfl, trivial⟩
def sp23 : FSpec := ⟨fun vs => match vs with
  | [.agg [.one (.str nm), .one (.int .i64 f), .one (.sl (.int .i64) l)]] => some ([List.length l ≤ 1000000], .val (iV (checkReel nm f l)))
  | _ => none, true⟩
theorem so23_ : SpecOk P1 gl1 23 sp23 := by
  intro vs ps r h hp
  simp only [sp23] at h
  split at h
  · cases h
    exact fn23 _ _ _ (hp _ (List.mem_singleton.2 rfl))
  · cases h
theorem so23 : Sp1 23 sp23 := ⟨so23_, Proofs.Tryz.f23, _, by kernel_rfl, rfl, by kernel_rfl⟩
/-- A reel as it is checked. -/
structure ReelOk (nm : List UInt8) (f : Int) (l : List Int) : Prop where
  name : isName nm = true
  start : 0 ≤ f ∧ f ≤ 10000000
  ne : l.length ≠ 0
  len : l.length ≤ 256
  w : W16 l
  fin : f + (l.length : Int) ≤ 10000000
theorem checkReel_zero {nm : List UInt8} {f : Int} {l : List Int} : checkReel nm f l = 0 ↔ ReelOk nm f l := by
  unfold checkReel
  constructor
  · intro h
    split at h
    · rename_i h1
      split at h
      · rename_i h2
        have hz := (first_zero_iff _).1 h1
        have hw := (first_zero_iff _).1 h2
        refine ⟨by simpa using (whenE_zero (e := 8) (by decide)).1 (hz (whenE (!isName nm) 8) (by simp)), within_zero.1 (hz (within f 0 10000000) (by simp)), ?_, ?_, fun x hx => ?_, ?_⟩
        · simpa using (whenE_zero (e := 12) (by decide)).1 (hz (whenE (decide (l.length = 0)) 12) (by simp))
        · simpa using (whenE_zero (e := 5) (by decide)).1 (hz (whenE (decide (256 < l.length)) 5) (by simp))
        · exact within_zero.1 (hw _ (List.mem_map.2 ⟨x, hx, rfl⟩))
        · simpa using (whenE_zero (e := 4) (by decide)).1 h
      · rename_i h2; exact absurd h h2
    · rename_i h1; exact absurd h h1
  · rintro ⟨h1, h2, h3, h4, h5, h6⟩
    have e1 : whenE (!isName nm) 8 = 0 := by rw [h1]; rfl
    have e2 : within f 0 10000000 = 0 := within_zero.2 h2
    have e3 : whenE (decide (l.length = 0)) 12 = 0 := by rw [decide_eq_false h3]; rfl
    have e4 : whenE (decide (256 < l.length)) 5 = 0 := by rw [decide_eq_false (by omega)]; rfl
    have e5 : first (wf16 l) = 0 := (first_zero_iff _).2 fun x hx => by
      obtain ⟨y, hy, rfl⟩ := List.mem_map.1 hx
      exact within_zero.2 (h5 y hy)
    have e6 : whenE (decide (10000000 < f + (l.length : Int))) 4 = 0 := by rw [decide_eq_false (by omega)]; rfl
    rw [e1, e2, e3, e4, e5, e6]
    rfl
/-- The loop that writes the frames' records. -/
def h19 : Hints := ⟨fun f k s => match f, k with
  | 19, 9 => match listAs s 47 (.int .i64), listAs s 5 (.int .u8) with
    | some xs, some out => some ⟨Nat, fun i => ⟨[tI 49 i, (5, .val (.one (.own s.nx)))] ++ keepT [1, 47, 48] s.tm, (s.nx, some (.row (.int .u8) (out ++ recs xs i))) :: lessO s [5], s.nx + 1, s.lr⟩, fun i => i ≤ List.length xs, fun i => List.length xs - i⟩
    | _, _ => none
  | _, _ => none, 0⟩
end Go.Sx

/- What the engine asks, written out (printed by a program). -/
namespace Go.Sx
open U
theorem vc112 (nm : List UInt8) (f : Int) (l : List Int) : exF (env false [] []) h0 0 112 Proofs.Tryz.f112 [rV nm f l] (.val (iV (f + (l.length : Int)))) = (fits IntKind.i64 (f + (↑(List.length l) : Int)) ∧ f + (↑(List.length l) : Int) = f + (↑(List.length l) : Int) ∧ True) := by
  kernel_rfl
end Go.Sx

/- Contracts: the end of a reel. -/
namespace Go.Sx
open U
theorem fn112 (nm : List UInt8) (f : Int) (l : List Int) (h : fits .i64 (f + (l.length : Int))) : Fn P1 gl1 112 [rV nm f l] (.val (iV (f + (l.length : Int)))) true := by
  refine Fn.flat ?_ rfl
  refine fn_of false [] [] h0 0 Proofs.Tryz.f112 trivial trivial (by kernel_rfl) rfl (by kernel_rfl) rfl rfl rfl ?_
  rw [vc112]
  exact ⟨h, rfl, trivial⟩
def sp112 : FSpec := ⟨fun vs => match vs with
  | [.agg [.one (.str _), .one (.int .i64 f), .one (.sl (.int .i64) l)]] => some ([fits .i64 (f + (List.length l : Int))], .val (iV (f + (List.length l : Int))))
  | _ => none, true⟩
theorem so112_ : SpecOk P1 gl1 112 sp112 := by
  intro vs ps r h hp
  simp only [sp112] at h
  split at h
  · cases h
    exact fn112 _ _ _ (hp _ (List.mem_singleton.2 rfl))
  · cases h
theorem so112 : Sp1 112 sp112 := ⟨so112_, Proofs.Tryz.f112, _, by kernel_rfl, rfl, by kernel_rfl⟩
end Go.Sx

/- Plain functions and hints. -/
namespace Go.Sx
open U
/-- The loop that makes a list of what a function says. -/
def hMapI (u : Ty) (g : u.T → Int) (tl tn ti to : Nat) (keep : List Nat) (s : St) : Option LInv := match listAs s tl u with
  | some xs => some ⟨Nat, fun i => ⟨[tI ti i, (to, .val (.one (.own s.nx)))] ++ keepT (keep ++ [tl, tn]) s.tm, (s.nx, some (.row (.int .i64) ((List.take i xs).map g))) :: lessO s [to], s.nx + 1, s.lr⟩, fun i => i ≤ List.length xs, fun i => List.length xs - i⟩
  | _ => none
def h61 : Hints := ⟨fun f k s => match f, k with
  | 61, 2 => hFirst 0 2 3 s
  | _, _ => none, 0⟩
end Go.Sx
namespace Go.Sx
open U
def sp70 : FSpec := ⟨fun vs => match vs with
  | [.one (.bool b), .one (.int .i64 e)] => some ([], .val (iV (whenE b e)))
  | _ => none, true⟩
def sp87 : FSpec := ⟨fun vs => match vs with
  | [.one (.int .i64 n), .one (.int .i64 lo), .one (.int .i64 hi)] => some ([], .val (iV (within n lo hi)))
  | _ => none, true⟩
def sp61 : FSpec := ⟨fun vs => match vs with
  | [.one (.sl (.int .i64) xs)] => some ([List.length xs ≤ 1000000000], .val (iV (first xs)))
  | _ => none, true⟩
end Go.Sx

/- What the engine asks, written out (printed by a program). -/
namespace Go.Sx
open U
theorem vc70 (b : Bool) (e : Int) : exF (env false [] []) h0 0 70 Proofs.Tryz.f70 [bV b, iV e] (.val (iV (whenE b e))) = (splitB b (e = whenE b e ∧ True) ((0 : Int) = whenE b e ∧ True)) := by
  kernel_rfl
theorem vc87 (n lo hi : Int) : exF (env false [(70, sp70)] []) h0 0 87 Proofs.Tryz.f87 [iV n, iV lo, iV hi] (.val (iV (within n lo hi))) = (whenE (bif decide (n < lo) then true else decide (hi < n)) (3 : Int) = within n lo hi ∧ True) := by
  kernel_rfl
theorem vc61 (xs : List Int) : exF (env false [] []) h61 0 61 Proofs.Tryz.f61 [.one (.sl (.int .i64) xs)] (.val (iV (first xs))) = ((∃ (g : Nat), (g ≤ List.length xs ∧ first xs = first (List.drop g xs)) ∧ (0 : Int) = (↑g : Int) ∧ (0 : Int) = (0 : Int) ∧ xs = xs ∧ True) ∧ ∀ (g : Nat), let q0 := ((0 : Int) ≤ (↑g : Int) ∧ (↑g : Int) < (↑(List.length xs) : Int)); g ≤ List.length xs ∧ first xs = first (List.drop g xs) → splitB (decide ((↑g : Int) < (↑(List.length xs) : Int))) (q0 ∧ splitB (List.getD xs g (0 : Int) != (0 : Int)) (q0 ∧ List.getD xs g (0 : Int) = first xs ∧ True) (fits IntKind.i64 ((↑g : Int) + (1 : Int)) ∧ ∃ (g' : Nat), (g' ≤ List.length xs ∧ first xs = first (List.drop g' xs)) ∧ List.length xs - g' < List.length xs - g ∧ (↑g : Int) + (1 : Int) = (↑g' : Int) ∧ (0 : Int) = (0 : Int) ∧ xs = xs ∧ True)) ((0 : Int) = first xs ∧ True)) := by
  kernel_rfl
end Go.Sx

/- Contracts. -/
namespace Go.Sx
open U
theorem bneZ {n : Int} : (n != 0) = true ↔ n ≠ 0 := by simp
theorem bneF {n : Int} : (n != 0) = false ↔ n = 0 := by simp
theorem eqT_key : ∀ {k : Ty}, keyTy k = true → ∀ (x y : k.T), eqT k x y = true ↔ x = y
  | .int _, _, x, y => by simp [eqT]
  | .bool, _, x, y => by simp [eqT]
  | .str, _, x, y => by simp [eqT]
  | .pair a b, hk, x, y => by
    simp only [keyTy, Bool.and_eq_true] at hk
    simp only [eqT, Bool.and_eq_true, eqT_key hk.1, eqT_key hk.2]
    exact ⟨fun h => Prod.ext h.1 h.2, fun h => by rw [h]; exact ⟨rfl, rfl⟩⟩
  | .flt _, hk, _, _ => by simp [keyTy] at hk
  | .cpx _, hk, _, _ => by simp [keyTy] at hk
  | .sl _, hk, _, _ => by simp [keyTy] at hk
  | .arr _ _, hk, _, _ => by simp [keyTy] at hk
theorem bcond_r (a b : Bool) : (bif a then b else false) = (a && b) := by cases a <;> rfl
theorem bcond_l (a b : Bool) : (bif a then true else b) = (a || b) := by cases a <;> rfl
theorem fn70 (b : Bool) (e : Int)  : Fn P1 gl1 70 [bV b, iV e] (.val (iV (whenE b e))) true := by
  refine Fn.flat ?_ rfl
  refine fn_of false [] [] h0 0 Proofs.Tryz.f70 trivial trivial (by kernel_rfl) rfl (by kernel_rfl) rfl rfl rfl ?_
  rw [vc70]
  try simp only [splitB_iff, -eq_self]
  cases b <;> simp [whenE]
theorem so70_ : SpecOk P1 gl1 70 sp70 := by
  intro vs ps r h _
  simp only [sp70] at h
  split at h
  · cases h; exact fn70 _ _ 
  · cases h
theorem so70 : Sp1 70 sp70 := ⟨so70_, Proofs.Tryz.f70, _, by kernel_rfl, rfl, by kernel_rfl⟩

theorem fn87 (n lo hi : Int)  : Fn P1 gl1 87 [iV n, iV lo, iV hi] (.val (iV (within n lo hi))) true := by
  refine Fn.flat ?_ rfl
  refine fn_of false [(70, sp70)] [] h0 0 Proofs.Tryz.f87 ⟨so70, trivial⟩ trivial (by kernel_rfl) rfl (by kernel_rfl) rfl rfl rfl ?_
  rw [vc87]
  try simp only [splitB_iff, -eq_self]
  unfold within
  by_cases h1 : n < lo <;> by_cases h2 : hi < n <;> simp [h1, h2, whenE]
theorem so87_ : SpecOk P1 gl1 87 sp87 := by
  intro vs ps r h _
  simp only [sp87] at h
  split at h
  · cases h; exact fn87 _ _ _ 
  · cases h
theorem so87 : Sp1 87 sp87 := ⟨so87_, Proofs.Tryz.f87, _, by kernel_rfl, rfl, by kernel_rfl⟩

theorem fn61 (xs : List Int) (hl : xs.length ≤ 1000000000) : Fn P1 gl1 61 [.one (.sl (.int .i64) xs)] (.val (iV (first xs))) true := by
  refine Fn.flat ?_ rfl
  refine fn_of false [] [] h61 0 Proofs.Tryz.f61 trivial trivial (by kernel_rfl) rfl (by kernel_rfl) rfl rfl rfl ?_
  rw [vc61]
  try simp only [splitB_iff, -eq_self]
  refine ⟨⟨0, by simp, by simp⟩, fun g hg => ⟨fun hlt => ?_, fun hge => ?_⟩⟩
  · have hlt' : g < xs.length := by simpa using hlt
    rw [getD_of hlt', hg.2, first_drop xs g hlt']
    refine ⟨by omega, fun h => ⟨by omega, ?_⟩, fun h => ⟨by simp only [fits]; omega, g + 1, ⟨by omega, ?_⟩, by omega, by simp⟩⟩
    · rw [if_neg (by simpa using h)]; simp
    · rw [if_pos (by simpa using h)]
  · have hge' : ¬ g < xs.length := by simpa using hge
    rw [hg.2, List.drop_of_length_le (by omega)]
    simp [first]
theorem so61_ : SpecOk P1 gl1 61 sp61 := by
  intro vs ps r h hp
  simp only [sp61] at h
  split at h
  · cases h; exact fn61 _ (hp _ (.head _))
  · cases h
theorem so61 : Sp1 61 sp61 := ⟨so61_, Proofs.Tryz.f61, _, by kernel_rfl, rfl, by kernel_rfl⟩


end Go.Sx

/- Plain functions and hints. -/
namespace Go.Sx.U
abbrev Rl := List UInt8 × Int × List Int
abbrev Ed := List UInt8 × Int × Int × Int × Int
abbrev Pl := Ed × Int
abbrev Tk := List UInt8 × Int × Int × Int
def r0 : Rl := ([], 0, [])
def e0 : Ed := ([], 0, 0, 0, 0)
/-- The index of the first reel with a name; how many there are, if there is none. -/
def idxN (nm : List UInt8) (R : List Rl) : Nat := R.findIdx fun r => decide (r.1 = nm)
def dupR (R : List Rl) (i : Nat) : Bool := decide (idxN (R.getD i r0).1 (R.take i) < i)
def chkRl (R : List Rl) (i : Nat) : Int := first [checkReel (R.getD i r0).1 (R.getD i r0).2.1 (R.getD i r0).2.2, whenE (dupR R i) 9]
def upTo (f : Nat → Int) : Nat → Int
  | 0 => 0
  | i + 1 => if upTo f i = 0 then f i else upTo f i
def chkRs (R : List Rl) : Int := if 8 < R.length then 5 else upTo (chkRl R) R.length
/-- The number of the frame at which an edit begins. -/
def begN (L : List Ed) : Nat → Int
  | 0 => 0
  | i + 1 => begN L i + ((L.getD i e0).2.2.1 - (L.getD i e0).2.1)
def plTo (L : List Ed) : Nat → List Pl
  | 0 => []
  | i + 1 => plTo L i ++ [(L.getD i e0, begN L i)]
/-- The reels by their names. -/
def mapR (R : List Rl) : Nat → List (List UInt8 × Rl)
  | 0 => []
  | i + 1 => U.mapPut .str (.pair .str (.pair (.int .i64) (.sl (.int .i64)))) (mapR R i) (R.getD i r0).1 (R.getD i r0)
/-- Edits within the times of reels. -/
def EdsIn (L : List Ed) : Prop := L.length ≤ 16 ∧ ∀ x ∈ L, 0 ≤ x.2.1 ∧ x.2.1 < x.2.2.1 ∧ x.2.2.1 ≤ 10000000
def lowN (n d : Int) : Int × Int := (n / (Nat.gcd n.toNat d.toNat : Int), d / (Nat.gcd n.toNat d.toNat : Int))
end Go.Sx.U
namespace Go.Sx
open U
abbrev rlT : Ty := .pair .str (.pair (.int .i64) (.sl (.int .i64)))
abbrev edT : Ty := .pair .str (.pair (.int .i64) (.pair (.int .i64) (.pair (.int .i64) (.int .i64))))
abbrev plT : Ty := .pair (.pair .str (.pair (.int .i64) (.pair (.int .i64) (.pair (.int .i64) (.int .i64))))) (.int .i64)
abbrev tkT : Ty := .pair .str (.pair (.int .i64) (.pair (.int .i64) (.int .i64)))
@[reducible] def edV (x : Ed) : V := .agg [.one (.str x.1), .one (.int .i64 x.2.1), .one (.int .i64 x.2.2.1), .one (.int .i64 x.2.2.2.1), .one (.int .i64 x.2.2.2.2)]
@[reducible] def plV (x : Pl) : V := .agg [.one (.str x.1.1), .one (.int .i64 x.1.2.1), .one (.int .i64 x.1.2.2.1), .one (.int .i64 x.1.2.2.2.1), .one (.int .i64 x.1.2.2.2.2), .one (.int .i64 x.2)]
@[reducible] def tkV (x : Tk) : V := .agg [.one (.str x.1), .one (.int .i64 x.2.1), .one (.int .i64 x.2.2.1), .one (.int .i64 x.2.2.2)]
/-- The list of placed edits, its length, the reels. -/
@[reducible] def lsV (p : List Pl) (n : Int) (m : List (List UInt8 × Rl)) : V := .agg [.one (.sl plT p), .one (.int .i64 n), .one (.mp false true .str rlT m)]
/-- The string in a box that a function has caught. -/
def nmOf (s : St) (t : Nat) : Option (List UInt8) := match lookT s.tm t with
  | some (.val (.one (.fn _ [] [(id, _)]))) => match lookO s.ob id with
    | some (.box (.one (.str nm) :: _)) => some nm
    | _ => none
  | _ => none
def hFind (s : St) : Option LInv := match listAs s 6 rlT, nmOf s 1 with
  | some xs, some nm => some ⟨Nat, fun i => s.at [0, 1, 6, 7] [tI 8 i], fun i => i ≤ idxN nm xs, fun i => List.length xs - i⟩
  | _, _ => none
def h24 : Hints := ⟨fun f k s => match f, k with
  | 24, 4 => match listAs s 10 rlT with
    | some xs => some ⟨Nat, fun i => s.at [0, 10, 11] [tI 12 i], fun i => i ≤ List.length xs ∧ upTo (chkRl xs) i = 0, fun i => List.length xs - i⟩
    | _ => none
  | 170, 2 => hFind s
  | _, _ => none, 0⟩
def ownM (s : St) (t : Nat) : Option Nat := match lookT s.tm t with
  | some (.val (.one (.own id))) => some id
  | _ => none
def ptrId (s : St) (t : Nat) : Option Nat := match lookT s.tm t with
  | some (.val (.one (.ptr id 0))) => some id
  | _ => none
def h120 : Hints := ⟨fun f k s => match f, k with
  | 120, 3 => match listAs s 0 rlT, ownM s 10 with
    | some R, some m => some ⟨Nat, fun i => ⟨(14, .val (iV i)) :: keepT [0, 1, 4, 5, 12, 13] s.tm, (m, some (.map false true .str rlT (mapR R i))) :: (liveO [] s.ob).filter (fun x => x.1 != m), s.nx, s.lr⟩, fun i => i ≤ List.length R, fun i => List.length R - i⟩
    | _, _ => none
  | 120, 8 => match listAs s 1 edT, ptrId s 5 with
    | some L, some b => match lookO s.ob b with
      | some (.box [_, _, .one (.own m)]) => some ⟨Nat, fun i => ⟨(26, .val (iV i)) :: keepT [0, 1, 4, 5, 24, 25] s.tm,
          (b, some (.box [.one (.own s.nx), .one (.int .i64 (begN L i)), .one (.own m)])) :: (s.nx, some (.row plT (plTo L i))) :: (liveO [] s.ob).filter (fun x => x.1 != b), s.nx + 1, s.lr⟩, fun i => i ≤ List.length L, fun i => List.length L - i⟩
      | _ => none
    | _, _ => none
  | _, _ => none, 0⟩
def h195 : Hints := ⟨fun f k s => match f, k with
  | 195, 2 => match intOfT s 0, intOfT s 1 with
    | some n, some d => some ⟨Nat × Nat, fun g => s.at [0, 1, 4] [tI 5 g.1, tI 6 g.2], fun g => 0 < g.1 ∧ Nat.gcd g.1 g.2 = Nat.gcd n.toNat d.toNat, fun g => g.2⟩
    | _, _ => none
  | _, _ => none, 0⟩
@[reducible] noncomputable def fb113 : Nat × Func := (113, Proofs.Tryz.f113)
@[reducible] noncomputable def fb114 : Nat × Func := (114, Proofs.Tryz.f114)
@[reducible] noncomputable def fb170 : Nat × Func := (170, Proofs.Tryz.f170)
end Go.Sx
namespace Go.Sx
open U
def sp158 : FSpec := ⟨fun vs => match vs with
  | [.agg [.one (.str a), .one (.int .i64 b), .one (.int .i64 c), .one (.int .i64 d), .one (.int .i64 e)]] => some ([fits .i64 (c - b)], .val (iV (c - b)))
  | _ => none, true⟩
def sp130 : FSpec := ⟨fun vs => match vs with
  | [.agg [.one (.str a), .one (.int .i64 b), .one (.int .i64 c), .one (.int .i64 d), .one (.int .i64 e), .one (.int .i64 f)]] => some ([fits .i64 (f + e)], .val (iV (f + e)))
  | _ => none, true⟩
def sp195 : FSpec := ⟨fun vs => match vs with
  | [.one (.int .i64 n), .one (.int .i64 d)] => some ([0 < n, 0 < d, n ≤ 1000000 ∧ d ≤ 1000000], .val (.agg [.one (.int .i64 (lowN n d).1), .one (.int .i64 (lowN n d).2)]))
  | _ => none, true⟩
def sp24 : FSpec := ⟨fun vs => match vs with
  | [.one (.sl (.pair .str (.pair (.int .i64) (.sl (.int .i64)))) R)] => some ([List.length R ≤ 1000000000, ∀ r ∈ (show List Rl from R), List.length r.2.2 ≤ 1000000], .val (iV (chkRs R)))
  | _ => none, true⟩
def sp120 : FSpec := ⟨fun vs => match vs with
  | [.one (.sl (.pair .str (.pair (.int .i64) (.sl (.int .i64)))) R), .one (.sl (.pair .str (.pair (.int .i64) (.pair (.int .i64) (.pair (.int .i64) (.int .i64))))) L)] => some ([List.length R ≤ 1000000000, EdsIn L], .val (lsV (plTo L (List.length L)) (begN L (List.length L)) (mapR R (List.length R))))
  | _ => none, false⟩
end Go.Sx

/- What the engine asks, written out (printed by a program). -/
namespace Go.Sx
open U
theorem vc158 (x : Ed) : exF (env false [] []) h0 0 158 Proofs.Tryz.f158 [edV x] (.val (iV (x.2.2.1 - x.2.1))) = (fits IntKind.i64 (Prod.fst (Prod.snd (Prod.snd x)) - Prod.fst (Prod.snd x)) ∧ Prod.fst (Prod.snd (Prod.snd x)) - Prod.fst (Prod.snd x) = Prod.fst (Prod.snd (Prod.snd x)) - Prod.fst (Prod.snd x) ∧ True) := by
  kernel_rfl
theorem vc130 (x : Pl) : exF (env false [] []) h0 0 130 Proofs.Tryz.f130 [plV x] (.val (iV (x.2 + x.1.2.2.2.2))) = (fits IntKind.i64 (Prod.snd x + Prod.snd (Prod.snd (Prod.snd (Prod.snd (Prod.fst x))))) ∧ Prod.snd x + Prod.snd (Prod.snd (Prod.snd (Prod.snd (Prod.fst x)))) = Prod.snd x + Prod.snd (Prod.snd (Prod.snd (Prod.snd (Prod.fst x)))) ∧ True) := by
  kernel_rfl
theorem vc195 (n d : Int) : exF (env false [] []) h195 0 195 Proofs.Tryz.f195 [iV n, iV d] (.val (.agg [.one (.int .i64 (lowN n d).1), .one (.int .i64 (lowN n d).2)])) = ((∃ (g : Nat × Nat), ((0 : Nat) < g.1 ∧ Nat.gcd g.1 g.2 = Nat.gcd (Int.toNat n) (Int.toNat d)) ∧ n = (↑g.1 : Int) ∧ d = (↑g.2 : Int) ∧ n = n ∧ d = d ∧ (0 : Int) = (0 : Int) ∧ (0 : Int) = (0 : Int) ∧ True) ∧ ∀ (g : Nat × Nat), (0 : Nat) < g.1 ∧ Nat.gcd g.1 g.2 = Nat.gcd (Int.toNat n) (Int.toNat d) → splitB ((↑g.2 : Int) != (0 : Int)) (((0 : Int) ≤ (↑g.1 : Int) ∧ (0 : Int) < (↑g.2 : Int)) ∧ ∃ (g' : Nat × Nat), ((0 : Nat) < g'.1 ∧ Nat.gcd g'.1 g'.2 = Nat.gcd (Int.toNat n) (Int.toNat d)) ∧ g'.2 < g.2 ∧ (↑g.2 : Int) = (↑g'.1 : Int) ∧ (↑g.1 : Int) % (↑g.2 : Int) = (↑g'.2 : Int) ∧ n = n ∧ d = d ∧ (0 : Int) = (0 : Int) ∧ (0 : Int) = (0 : Int) ∧ True) (((0 : Int) ≤ n ∧ (0 : Int) < (↑g.1 : Int) ∧ fits IntKind.i64 (n / (↑g.1 : Int))) ∧ ((0 : Int) ≤ d ∧ (0 : Int) < (↑g.1 : Int) ∧ fits IntKind.i64 (d / (↑g.1 : Int))) ∧ n / (↑g.1 : Int) = (lowN n d).1 ∧ d / (↑g.1 : Int) = (lowN n d).2 ∧ True)) := by
  kernel_rfl
theorem vc24 (R : List Rl) : exF (env false [(23, sp23), (107, sp107), (106, sp106)] [fb113, fb114, fb170]) h24 3 24 Proofs.Tryz.f24 [.one (.sl rlT R)] (.val (iV (chkRs R))) = (let q1 := (↑(List.length R) : Int); splitB (decide ((8 : Int) < q1)) ((5 : Int) = chkRs R ∧ True) ((∃ (g : Nat), (g ≤ List.length R ∧ upTo (chkRl R) g = (0 : Int)) ∧ (0 : Int) = (↑g : Int) ∧ q1 = q1 ∧ R = R ∧ R = R ∧ True) ∧ ∀ (g : Nat), let q0 := (List.getD R g ([], (0 : Int), [])); let q3 := (List.take g R); let q2 := (↑(List.length q3) : Int); g ≤ List.length R ∧ upTo (chkRl R) g = (0 : Int) → splitB (decide ((↑g : Int) < q1)) (((0 : Int) ≤ (↑g : Int) ∧ (↑g : Int) < q1) ∧ ((0 : Int) ≤ (0 : Int) ∧ (0 : Int) ≤ (↑g : Int) ∧ (↑g : Int) ≤ q1) ∧ (∃ (g_1 : Nat), Nat.le g_1 (idxN q0.1 q3) ∧ (0 : Int) = (↑g_1 : Int) ∧ q2 = q2 ∧ List.take g R = List.take g R ∧ List.take g R = List.take g R ∧ q0.1 = q0.1 ∧ q0.2.1 = q0.2.1 ∧ q0.2.2 = q0.2.2 ∧ True) ∧ ∀ (g_1 : Nat), Nat.le g_1 (idxN q0.1 q3) → splitB (decide ((↑g_1 : Int) < q2)) (((0 : Int) ≤ (↑g_1 : Int) ∧ (↑g_1 : Int) < q2) ∧ splitB ((List.getD q3 g_1 ([], (0 : Int), [])).1 == q0.1) (List.length q0.2.2 ≤ (1000000 : Nat) ∧ (2 : Nat) ≤ (1000000000 : Nat) ∧ splitB (first [checkReel q0.1 q0.2.1 q0.2.2, whenE (decide ((0 : Int) ≤ (↑g_1 : Int))) (9 : Int)] != (0 : Int)) (first [checkReel q0.1 q0.2.1 q0.2.2, whenE (decide ((0 : Int) ≤ (↑g_1 : Int))) (9 : Int)] = chkRs R ∧ True) (fits IntKind.i64 ((↑g : Int) + (1 : Int)) ∧ ∃ (g' : Nat), (g' ≤ List.length R ∧ upTo (chkRl R) g' = (0 : Int)) ∧ List.length R - g' < List.length R - g ∧ (↑g : Int) + (1 : Int) = (↑g' : Int) ∧ q1 = q1 ∧ R = R ∧ R = R ∧ True)) (fits IntKind.i64 ((↑g_1 : Int) + (1 : Int)) ∧ ∃ (g' : Nat), Nat.le g' (idxN q0.1 q3) ∧ List.length q3 - g' < List.length q3 - g_1 ∧ (↑g_1 : Int) + (1 : Int) = (↑g' : Int) ∧ q2 = q2 ∧ List.take g R = List.take g R ∧ List.take g R = List.take g R ∧ q0.1 = q0.1 ∧ q0.2.1 = q0.2.1 ∧ q0.2.2 = q0.2.2 ∧ True)) (List.length q0.2.2 ≤ (1000000 : Nat) ∧ (2 : Nat) ≤ (1000000000 : Nat) ∧ splitB (first [checkReel q0.1 q0.2.1 q0.2.2, whenE (decide ((0 : Int) ≤ (-1 : Int))) (9 : Int)] != (0 : Int)) (first [checkReel q0.1 q0.2.1 q0.2.2, whenE (decide ((0 : Int) ≤ (-1 : Int))) (9 : Int)] = chkRs R ∧ True) (fits IntKind.i64 ((↑g : Int) + (1 : Int)) ∧ ∃ (g' : Nat), (g' ≤ List.length R ∧ upTo (chkRl R) g' = (0 : Int)) ∧ List.length R - g' < List.length R - g ∧ (↑g : Int) + (1 : Int) = (↑g' : Int) ∧ q1 = q1 ∧ R = R ∧ R = R ∧ True))) ((0 : Int) = chkRs R ∧ True))) := by
  kernel_rfl
theorem vc120 (R : List Rl) (L : List Ed) : exF (env false [(158, sp158)] []) h120 0 120 Proofs.Tryz.f120 [.one (.sl rlT R), .one (.sl edT L)] (.val (lsV (plTo L L.length) (begN L L.length) (mapR R R.length))) = (let q1 := (List.length L); let q4 := (List.length R); let q2 := (↑q4 : Int); (∃ (g : Nat), Nat.le g q4 ∧ (0 : Int) = (↑g : Int) ∧ q2 = q2 ∧ R = R ∧ R = R ∧ L = L ∧ [] = mapR R g ∧ (0 : Int) = (0 : Int) ∧ (0 : Int) = (0 : Int) ∧ True) ∧ ∀ (g : Nat), let q3 := (List.getD R g ([], (0 : Int), [])); Nat.le g q4 → splitB (decide ((↑g : Int) < q2)) (((0 : Int) ≤ (↑g : Int) ∧ (↑g : Int) < q2) ∧ fits IntKind.i64 ((↑g : Int) + (1 : Int)) ∧ ∃ (g' : Nat), Nat.le g' q4 ∧ List.length R - g' < List.length R - g ∧ (↑g : Int) + (1 : Int) = (↑g' : Int) ∧ q2 = q2 ∧ R = R ∧ R = R ∧ L = L ∧ mapPut Ty.str (Ty.pair Ty.str (Ty.pair (Ty.int IntKind.i64) (Ty.sl (Ty.int IntKind.i64)))) (mapR R g) q3.1 (q3.1, q3.2.1, q3.2.2) = mapR R g' ∧ (0 : Int) = (0 : Int) ∧ (0 : Int) = (0 : Int) ∧ True) ((∃ (g_1 : Nat), Nat.le g_1 q1 ∧ (0 : Int) = (↑g_1 : Int) ∧ (↑q1 : Int) = (↑q1 : Int) ∧ L = L ∧ R = R ∧ L = L ∧ (0 : Int) = begN L g_1 ∧ plTo L g_1 = [] ∧ mapR R g = mapR R g ∧ (0 : Int) = (0 : Int) ∧ True) ∧ ∀ (g_1 : Nat), let q0 := (List.getD L g_1 ([], (0 : Int), (0 : Int), (0 : Int), (0 : Int))); Nat.le g_1 q1 → splitB (decide ((↑g_1 : Int) < (↑q1 : Int))) (((0 : Int) ≤ (↑g_1 : Int) ∧ (↑g_1 : Int) < (↑q1 : Int)) ∧ room (List.length (plTo L g_1) + (1 : Nat)) (56 : Nat) ∧ fits IntKind.i64 (q0.2.2.1 - q0.2.1) ∧ fits IntKind.i64 (begN L g_1 + (q0.2.2.1 - q0.2.1)) ∧ fits IntKind.i64 ((↑g_1 : Int) + (1 : Int)) ∧ ∃ (g' : Nat), Nat.le g' q1 ∧ List.length L - g' < List.length L - g_1 ∧ (↑g_1 : Int) + (1 : Int) = (↑g' : Int) ∧ (↑q1 : Int) = (↑q1 : Int) ∧ L = L ∧ R = R ∧ L = L ∧ begN L g_1 + (q0.2.2.1 - q0.2.1) = begN L g' ∧ plTo L g_1 ++ [((q0.1, q0.2.1, q0.2.2.1, q0.2.2.2.1, q0.2.2.2.2), begN L g_1)] = plTo L g' ∧ mapR R g = mapR R g ∧ (0 : Int) = (0 : Int) ∧ True) (plTo L g_1 = plTo L q1 ∧ begN L g_1 = begN L q1 ∧ mapR R g = mapR R q4 ∧ True))) := by
  kernel_rfl
end Go.Sx

/- Contracts. -/
namespace Go.Sx
open U
theorem upTo_stay {f : Nat → Int} {i : Nat} (h : upTo f i ≠ 0) : ∀ k, upTo f (i + k) = upTo f i
  | 0 => rfl
  | k + 1 => by
    have ih := upTo_stay h k
    rw [← Nat.add_assoc]
    show (if upTo f (i + k) = 0 then _ else _) = _
    rw [ih, if_neg h]
theorem idxN_le (nm : List UInt8) (R : List Rl) : idxN nm R ≤ R.length := List.findIdx_le_length
theorem idxN_at {nm : List UInt8} {R : List Rl} {j : Nat} {d : Rl} (h : j < R.length) (hn : (R.getD j d).1 = nm) : idxN nm R ≤ j := by
  apply Nat.le_of_not_lt
  intro hlt
  have := List.not_of_lt_findIdx hlt
  rw [getD_of h] at hn
  simp [hn] at this
theorem idxN_next {nm : List UInt8} {R : List Rl} {j : Nat} {d : Rl} (hj : j ≤ idxN nm R) (h : j < R.length) (hn : (R.getD j d).1 ≠ nm) : j + 1 ≤ idxN nm R := by
  apply Classical.byContradiction
  intro hc
  have e : idxN nm R = j := by omega
  have hlt : R.findIdx (fun r => decide (r.1 = nm)) < R.length := by show idxN nm R < _; omega
  have h2 := List.findIdx_getElem (w := hlt)
  simp only [decide_eq_true_eq] at h2
  apply hn
  rw [getD_of h, ← h2]
  have e' : R.findIdx (fun r => decide (r.1 = nm)) = j := e
  simp only [e']
theorem getD_mem {α : Type} {l : List α} {i : Nat} {d : α} (h : i < l.length) : l.getD i d ∈ l := by
  rw [getD_of h]
  exact List.getElem_mem h
theorem plTo_len (L : List Ed) : ∀ i, (plTo L i).length = i
  | 0 => rfl
  | i + 1 => by simp [plTo, plTo_len L i]
theorem begN_bd {L : List Ed} (h : EdsIn L) : ∀ i, i ≤ L.length → (i : Int) ≤ begN L i ∧ begN L i ≤ 10000000 * i
  | 0, _ => by simp [begN]
  | i + 1, hi => by
    have ih := begN_bd h i (by omega)
    have := h.2 _ (getD_mem (d := e0) (show i < L.length by omega))
    simp only [begN]
    omega
theorem fn158 (x : Ed) (h : fits .i64 (x.2.2.1 - x.2.1)) : Fn P1 gl1 158 [edV x] (.val (iV (x.2.2.1 - x.2.1))) true := by
  refine Fn.flat ?_ rfl
  refine fn_of false [] [] h0 0 Proofs.Tryz.f158 trivial trivial (by kernel_rfl) rfl (by kernel_rfl) rfl rfl rfl ?_
  rw [vc158]
  try simp only [splitB_iff, -eq_self]
  exact ⟨h, rfl, trivial⟩
theorem so158_ : SpecOk P1 gl1 158 sp158 := by
  intro vs ps r h hp
  simp only [sp158] at h
  split at h
  · cases h; exact fn158 (_, _, _, _, _) (hp _ (.head _))
  · cases h
theorem so158 : Sp1 158 sp158 := ⟨so158_, Proofs.Tryz.f158, _, by kernel_rfl, rfl, by kernel_rfl⟩

theorem fn130 (x : Pl) (h : fits .i64 (x.2 + x.1.2.2.2.2)) : Fn P1 gl1 130 [plV x] (.val (iV (x.2 + x.1.2.2.2.2))) true := by
  refine Fn.flat ?_ rfl
  refine fn_of false [] [] h0 0 Proofs.Tryz.f130 trivial trivial (by kernel_rfl) rfl (by kernel_rfl) rfl rfl rfl ?_
  rw [vc130]
  try simp only [splitB_iff, -eq_self]
  exact ⟨h, rfl, trivial⟩
theorem so130_ : SpecOk P1 gl1 130 sp130 := by
  intro vs ps r h hp
  simp only [sp130] at h
  split at h
  · cases h; exact fn130 ((_, _, _, _, _), _) (hp _ (.head _))
  · cases h
theorem so130 : Sp1 130 sp130 := ⟨so130_, Proofs.Tryz.f130, _, by kernel_rfl, rfl, by kernel_rfl⟩

theorem fn195 (n d : Int) (hn : 0 < n) (hd : 0 < d) (hf : n ≤ 1000000 ∧ d ≤ 1000000) : Fn P1 gl1 195 [iV n, iV d] (.val (.agg [.one (.int .i64 (lowN n d).1), .one (.int .i64 (lowN n d).2)])) true := by
  refine Fn.flat ?_ rfl
  refine fn_of false [] [] h195 0 Proofs.Tryz.f195 trivial trivial (by kernel_rfl) rfl (by kernel_rfl) rfl rfl rfl ?_
  rw [vc195]
  try simp only [splitB_iff, -eq_self]
  refine ⟨⟨(n.toNat, d.toNat), ⟨by dsimp only; omega, rfl⟩, by dsimp only; omega, by dsimp only; omega, rfl, rfl, rfl, rfl, trivial⟩, fun g hg => ⟨fun h => ?_, fun h => ?_⟩⟩
  · have h' : g.2 ≠ 0 := by simpa using h
    refine ⟨⟨by omega, by omega⟩, (g.2, g.1 % g.2), ⟨by dsimp only; omega, ?_⟩, by dsimp only; exact Nat.mod_lt _ (by omega), rfl, by dsimp only; omega, rfl, rfl, rfl, rfl, trivial⟩
    dsimp only
    rw [Nat.gcd_comm, ← Nat.gcd_rec, Nat.gcd_comm]
    exact hg.2
  · have h' : g.2 = 0 := by simpa using h
    have hg2 := hg.2
    rw [h', Nat.gcd_zero_right] at hg2
    have e : ((g.1 : Nat) : Int) = (Nat.gcd n.toNat d.toNat : Int) := by rw [hg2]
    have hpos : (0 : Int) < (Nat.gcd n.toNat d.toNat : Int) := by omega
    unfold lowN
    rw [e]
    have b1 := Int.ediv_nonneg (a := n) (b := (Nat.gcd n.toNat d.toNat : Int)) (by omega) (by omega)
    have b2 := Int.ediv_le_self (a := n) (Nat.gcd n.toNat d.toNat : Int) (by omega)
    have b3 := Int.ediv_nonneg (a := d) (b := (Nat.gcd n.toNat d.toNat : Int)) (by omega) (by omega)
    have b4 := Int.ediv_le_self (a := d) (Nat.gcd n.toNat d.toNat : Int) (by omega)
    exact ⟨⟨by omega, hpos, by simp only [fits]; omega⟩, ⟨by omega, hpos, by simp only [fits]; omega⟩, rfl, rfl, trivial⟩
theorem so195_ : SpecOk P1 gl1 195 sp195 := by
  intro vs ps r h hp
  simp only [sp195] at h
  split at h
  · cases h; exact fn195 _ _ (hp _ (.head _)) (hp _ (.tail _ (.head _))) (hp _ (.tail _ (.tail _ (.head _))))
  · cases h
theorem so195 : Sp1 195 sp195 := ⟨so195_, Proofs.Tryz.f195, _, by kernel_rfl, rfl, by kernel_rfl⟩

theorem fn24 (R : List Rl) (hl : R.length ≤ 1000000000) (hR : ∀ r ∈ R, r.2.2.length ≤ 1000000) : Fn P1 gl1 24 [.one (.sl rlT R)] (.val (iV (chkRs R))) true := by
  refine Fn.flat ?_ rfl
  refine fn_of false [(23, sp23), (107, sp107), (106, sp106)] [fb113, fb114, fb170] h24 3 Proofs.Tryz.f24 ⟨so23, so107, so106, trivial⟩ ⟨⟨by kernel_rfl, by kernel_rfl, _, rfl, by kernel_rfl⟩, ⟨by kernel_rfl, by kernel_rfl, _, rfl, by kernel_rfl⟩, ⟨by kernel_rfl, by kernel_rfl, _, rfl, by kernel_rfl⟩, trivial⟩ (by kernel_rfl) rfl (by kernel_rfl) rfl rfl rfl ?_
  rw [vc24]
  try simp only [splitB_iff, -eq_self]
  constructor
  · intro h
    have h8 : 8 < R.length := by have : (8 : Int) < (R.length : Int) := by simpa using h
                                 omega
    unfold chkRs
    rw [if_pos h8]
    exact ⟨rfl, trivial⟩
  · intro h
    have h8 : ¬ 8 < R.length := by have : ¬ (8 : Int) < (R.length : Int) := by simpa using h
                                   omega
    have hc : chkRs R = upTo (chkRl R) R.length := by unfold chkRs; rw [if_neg h8]
    rw [hc]
    refine ⟨⟨0, ⟨Nat.zero_le _, rfl⟩, rfl, rfl, rfl, rfl, trivial⟩, fun g hg => ⟨fun hlt => ?_, fun hge => ?_⟩⟩
    · have hlt' : g < R.length := by simpa using hlt
      have hT : (R.take g).length = g := by rw [List.length_take]; omega
      have fin : ∀ e : Int, e = chkRl R g → ((e != 0) = true → e = upTo (chkRl R) R.length ∧ True) ∧ ((e != 0) = false → fits .i64 ((g : Int) + 1) ∧ ∃ g', (g' ≤ R.length ∧ upTo (chkRl R) g' = 0) ∧ R.length - g' < R.length - g ∧ (g : Int) + 1 = (g' : Int) ∧ (R.length : Int) = (R.length : Int) ∧ R = R ∧ R = R ∧ True) := by
        rintro e rfl
        have h1 : upTo (chkRl R) (g + 1) = chkRl R g := by
          show (if upTo (chkRl R) g = 0 then _ else _) = _
          rw [if_pos hg.2]
        refine ⟨fun h => ⟨?_, trivial⟩, fun h => ⟨by simp only [fits]; omega, g + 1, ⟨hlt', ?_⟩, by omega, by simp, rfl, rfl, rfl, trivial⟩⟩
        · have hne : upTo (chkRl R) (g + 1) ≠ 0 := by rw [h1]; simpa using h
          have := upTo_stay hne (R.length - (g + 1))
          rw [show g + 1 + (R.length - (g + 1)) = R.length by omega, h1] at this
          exact this.symm
        · rw [h1]; simpa using h
      have hRg : (R.getD g ([], 0, [])).2.2.length ≤ 1000000 := hR _ (getD_mem hlt')
      refine ⟨by omega, by omega, ⟨0, Nat.zero_le _, rfl, rfl, rfl, rfl, rfl, rfl, rfl, trivial⟩, fun j hj => ⟨fun hjl => ?_, fun hjg => ?_⟩⟩
      · have hjl' : j < (R.take g).length := by simpa using hjl
        refine ⟨by omega, fun hq => ⟨hRg, by decide, fin _ ?_⟩, fun hq => ⟨by simp only [fits]; omega, j + 1, ?_, by omega, by simp, rfl, rfl, rfl, rfl, rfl, rfl, trivial⟩⟩
        · have := idxN_at hjl' (by simpa using hq)
          unfold chkRl dupR
          have hd : decide (idxN (R.getD g r0).1 (R.take g) < g) = true := by
            rw [decide_eq_true_eq]
            have : idxN (R.getD g r0).1 (R.take g) ≤ j := this
            omega
          have h0 : decide ((0 : Int) ≤ (j : Int)) = true := by simp
          rw [hd, h0]
          rfl
        · exact idxN_next hj hjl' (by simpa using hq)
      · have hjg' : ¬ j < (R.take g).length := by simpa using hjg
        refine ⟨hRg, by decide, fin _ ?_⟩
        unfold chkRl dupR
        have hj' : j ≤ idxN (R.getD g r0).1 (R.take g) := hj
        have hd : decide (idxN (R.getD g r0).1 (R.take g) < g) = false := by
          rw [decide_eq_false_iff_not]
          omega
        rw [hd]
        rfl
    · have hge' : ¬ g < R.length := by simpa using hge
      have : g = R.length := by omega
      rw [← this, hg.2]
      exact ⟨rfl, trivial⟩
theorem so24_ : SpecOk P1 gl1 24 sp24 := by
  intro vs ps r h hp
  simp only [sp24] at h
  split at h
  · cases h; exact fn24 _ (hp _ (.head _)) (hp _ (.tail _ (.head _)))
  · cases h
theorem so24 : Sp1 24 sp24 := ⟨so24_, Proofs.Tryz.f24, _, by kernel_rfl, rfl, by kernel_rfl⟩

theorem fn120 (R : List Rl) (L : List Ed) (hl : R.length ≤ 1000000000) (hL : EdsIn L) : Fn P1 gl1 120 [.one (.sl rlT R), .one (.sl edT L)] (.val (lsV (plTo L L.length) (begN L L.length) (mapR R R.length))) false := by
  refine fn_of false [(158, sp158)] [] h120 0 Proofs.Tryz.f120 ⟨so158, trivial⟩ trivial (by kernel_rfl) rfl (by kernel_rfl) rfl rfl rfl ?_
  rw [vc120]
  try simp only [splitB_iff, -eq_self]
  refine ⟨⟨0, Nat.zero_le _, rfl, rfl, rfl, rfl, rfl, rfl, rfl, rfl, trivial⟩, fun g hg => ⟨fun hlt => ?_, fun hge => ?_⟩⟩
  · have hlt' : g < R.length := by simpa using hlt
    exact ⟨by omega, by simp only [fits]; omega, g + 1, hlt', by omega, by simp, rfl, rfl, rfl, rfl, rfl, rfl, rfl, trivial⟩
  · have hge' : ¬ g < R.length := by simpa using hge
    have hgR : g = R.length := by have : g ≤ R.length := hg; omega
    subst hgR
    refine ⟨⟨0, Nat.zero_le _, rfl, rfl, rfl, rfl, rfl, rfl, rfl, rfl, rfl, trivial⟩, fun i hi => ⟨fun hlt => ?_, fun hge => ?_⟩⟩
    · have hlt' : i < L.length := by simpa using hlt
      have h16 := hL.1
      have hb := begN_bd hL i (by omega)
      have hb2 := begN_bd hL (i + 1) hlt'
      have hx := hL.2 _ (getD_mem (d := e0) hlt')
      have e2 : begN L (i + 1) = begN L i + ((L.getD i e0).2.2.1 - (L.getD i e0).2.1) := rfl
      refine ⟨by omega, by simp only [room, plTo_len]; omega, ?_, ?_, by simp only [fits]; omega, i + 1, hlt', by omega, by simp, rfl, rfl, rfl, rfl, rfl, rfl, rfl, rfl, trivial⟩
      · show fits .i64 ((L.getD i e0).2.2.1 - (L.getD i e0).2.1)
        simp only [fits]; omega
      · show fits .i64 (begN L i + ((L.getD i e0).2.2.1 - (L.getD i e0).2.1))
        rw [← e2]
        simp only [fits]; omega
    · have hge' : ¬ i < L.length := by simpa using hge
      have hiL : i = L.length := by have : i ≤ L.length := hi; omega
      subst hiL
      exact ⟨rfl, rfl, rfl, trivial⟩
theorem so120_ : SpecOk P1 gl1 120 sp120 := by
  intro vs ps r h hp
  simp only [sp120] at h
  split at h
  · cases h; exact fn120 _ _ (hp _ (.head _)) (hp _ (.tail _ (.head _)))
  · cases h
theorem so120 : Sp1 120 sp120 := ⟨so120_, Proofs.Tryz.f120, _, by kernel_rfl, rfl, by kernel_rfl⟩

end Go.Sx

/- Plain functions and hints. -/
namespace Go.Sx.U
def pl0 : Pl := (([], 0, 0, 0, 0), 0)
def rlOf (R : List Rl) (nm : List UInt8) : Rl := R.getD (idxN nm R) r0
def endR (r : Rl) : Int := r.2.1 + (r.2.2.length : Int)
def prs (x : Ed) : Int := first [within x.2.2.2.1 0 (x.2.2.1 - x.2.1), within x.2.2.2.2 (-100) 100]
/-- The error of an edit. -/
def chkE (R : List Rl) (x : Ed) (b : Option Ed) : Int :=
  if R.length ≤ idxN x.1 R then 10 else
  if x.2.2.1 ≤ x.2.1 ∨ x.2.1 < (rlOf R x.1).2.1 ∨ endR (rlOf R x.1) < x.2.2.1 then 14 else
  if prs x ≠ 0 then prs x else
  match b with
  | none => whenE (decide (x ≠ (x.1, x.2.1, x.2.2.1, 0, 0))) 21
  | some b => whenE (decide (endR (rlOf R b.1) < b.2.2.1 + x.2.2.2.1)) 16
def chkEd (R : List Rl) (L : List Ed) (i : Nat) : Int := chkE R (L.getD i e0) (if i = 0 then none else some (L.getD (i - 1) e0))
def sndN (x : Pl) : Int := x.2 + x.1.2.2.2.2
def begP (x : Pl) : Int := x.2
/-- The frames at which the sound of an edit is heard. -/
def heardN (p : List Pl) (n : Int) (i : Nat) : Int × Int := (sndN (p.getD i pl0), if i + 1 < p.length then sndN (p.getD (i + 1) pl0) else n)
def lastTo (g : Pl → Int) (p : List Pl) (fr : Int) : Nat → Nat
  | 0 => 0
  | i + 1 => if g (p.getD i pl0) ≤ fr then i else lastTo g p fr i
/-- What is heard at a frame. -/
def soundN (p : List Pl) (fr : Int) : Tk := ((p.getD (lastTo sndN p fr p.length) pl0).1.1, (p.getD (lastTo sndN p fr p.length) pl0).1.2.1 + fr - (p.getD (lastTo sndN p fr p.length) pl0).2, 1, 1)
/-- The takes at a frame of an edit, behind another one. -/
def takesE (x b : Ed) (j : Int) : List Tk :=
  if x.2.2.2.1 ≤ j then [(x.1, x.2.1 + j, 1, 1)] else
  [(b.1, b.2.2.1 + j, lowN (x.2.2.2.1 - j) (x.2.2.2.1 + 1)), (x.1, x.2.1 + j, lowN (j + 1) (x.2.2.2.1 + 1))]
def takesN (p : List Pl) (fr : Int) : List Tk :=
  takesE (p.getD (lastTo begP p fr p.length) pl0).1 (p.getD (lastTo begP p fr p.length - 1) pl0).1 (fr - (p.getD (lastTo begP p fr p.length) pl0).2)
/-- Placed edits that the numbers allow. -/
def PlsOk (p : List Pl) : Prop := 0 < p.length ∧ p.length ≤ 16 ∧ (∀ x ∈ p, (0 ≤ x.1.2.1 ∧ x.1.2.1 ≤ 10000000) ∧ (0 ≤ x.1.2.2.1 ∧ x.1.2.2.1 ≤ 10000000) ∧ (0 ≤ x.1.2.2.2.1 ∧ x.1.2.2.2.1 ≤ 100000) ∧ (-100 ≤ x.1.2.2.2.2 ∧ x.1.2.2.2.2 ≤ 100) ∧ (0 ≤ x.2 ∧ x.2 ≤ 100000)) ∧ (p.getD 0 pl0).2 = 0 ∧ (p.getD 0 pl0).1.2.2.2.1 = 0
end Go.Sx.U
namespace Go.Sx
open U
def h129 : Hints := ⟨fun f k s => match f, k with
  | 170, 2 => hFind s
  | _, _ => none, 0⟩
/-- The number that a function takes of a placed edit. -/
def hLast (s : St) : Option LInv := match listAs s 11 plT, intOfT s 1, lookT s.tm 2 with
  | some p, some fr, some (.val (.one (.fn 194 [] []))) => some ⟨Nat, fun i => s.at [0, 1, 2, 3, 11, 12] [tI 13 i, tI 7 (lastTo begP p fr i)], fun i => i ≤ List.length p, fun i => List.length p - i⟩
  | some p, some fr, some (.val (.one (.fn 130 [] []))) => some ⟨Nat, fun i => s.at [0, 1, 2, 3, 11, 12] [tI 13 i, tI 7 (lastTo sndN p fr i)], fun i => i ≤ List.length p, fun i => List.length p - i⟩
  | _, _, _ => none
def hLastH : Hints := ⟨fun f k s => match f, k with
  | 175, 3 => hLast s
  | _, _ => none, 0⟩
@[reducible] noncomputable def fb178 : Nat × Func := (178, Proofs.Tryz.f178)
@[reducible] noncomputable def fb194 : Nat × Func := (194, Proofs.Tryz.f194)
def sp175 : FSpec := ⟨fun vs => match vs with
  | [.agg [.one (.sl (.pair (.pair .str (.pair (.int .i64) (.pair (.int .i64) (.pair (.int .i64) (.int .i64))))) (.int .i64)) p), .one (.int .i64 _), .one (.mp false true .str (.pair .str (.pair (.int .i64) (.sl (.int .i64)))) _)], .one (.int .i64 fr), .one (.fn g [] [])] =>
    if g = 194 then some ([List.length p ≤ 1000000], .val (iV (lastTo begP p fr (List.length p)))) else
    if g = 130 then some ([List.length p ≤ 1000000, ∀ x ∈ (show List Pl from p), fits .i64 (sndN x)], .val (iV (lastTo sndN p fr (List.length p)))) else none
  | _ => none, true⟩
def sp129 : FSpec := ⟨fun vs => match vs with
  | [.one (.sl (.pair .str (.pair (.int .i64) (.sl (.int .i64)))) R), .one (.sl (.pair .str (.pair (.int .i64) (.pair (.int .i64) (.pair (.int .i64) (.int .i64))))) L), .one (.int .i64 i)] =>
    some ([chkRs R = 0, ((Int.toNat i : Nat) : Int) = i, Int.toNat i < List.length L, List.length L ≤ 1000000, 0 < Int.toNat i → chkEd R L (Int.toNat i - 1) = 0], .val (iV (chkEd R L (Int.toNat i))))
  | _ => none, true⟩
def sp131 : FSpec := ⟨fun vs => match vs with
  | [.agg [.one (.sl (.pair (.pair .str (.pair (.int .i64) (.pair (.int .i64) (.pair (.int .i64) (.int .i64))))) (.int .i64)) p), .one (.int .i64 n), .one (.mp false true .str (.pair .str (.pair (.int .i64) (.sl (.int .i64)))) _)], .one (.int .i64 i)] =>
    some ([((Int.toNat i : Nat) : Int) = i, Int.toNat i < List.length p, ∀ x ∈ (show List Pl from p), fits .i64 (sndN x), List.length p ≤ 1000000], .val (.agg [.one (.int .i64 (heardN p n (Int.toNat i)).1), .one (.int .i64 (heardN p n (Int.toNat i)).2)]))
  | _ => none, true⟩
def sp124 : FSpec := ⟨fun vs => match vs with
  | [.agg [.one (.sl (.pair (.pair .str (.pair (.int .i64) (.pair (.int .i64) (.pair (.int .i64) (.int .i64))))) (.int .i64)) p), .one (.int .i64 _), .one (.mp false true .str (.pair .str (.pair (.int .i64) (.sl (.int .i64)))) _)], .one (.int .i64 fr)] =>
    some ([PlsOk p, 0 ≤ fr ∧ fr ≤ 100000], .val (tkV (soundN p fr)))
  | _ => none, true⟩
def sp155 : FSpec := ⟨fun vs => match vs with
  | [.agg [.one (.sl (.pair (.pair .str (.pair (.int .i64) (.pair (.int .i64) (.pair (.int .i64) (.int .i64))))) (.int .i64)) p), .one (.int .i64 _), .one (.mp false true .str (.pair .str (.pair (.int .i64) (.sl (.int .i64)))) _)], .one (.int .i64 fr)] =>
    some ([PlsOk p, 0 ≤ fr ∧ fr ≤ 100000], .val (.one (.sl tkT (takesN p fr))))
  | _ => none, false⟩
end Go.Sx
namespace Go.Sx
open U
def sp177 : FSpec := ⟨fun vs => match vs with
  | [.one (.str nm), .one (.ref (.sl (.pair .str (.pair (.int .i64) (.sl (.int .i64))))) R)] => some ([List.length (show List Rl from R) ≤ 1000000000], .val (iV (if idxN nm R < List.length (show List Rl from R) then (idxN nm R : Int) else -1)))
  | _ => none, true⟩
end Go.Sx

/- What the engine asks, written out (printed by a program). -/
namespace Go.Sx
open U
theorem vc175 (p : List Pl) (n : Int) (m : List (List UInt8 × Rl)) (fr : Int) : exF (env false [] [fb194]) hLastH 3 175 Proofs.Tryz.f175 [lsV p n m, iV fr, .one (.fn 194 [] [])] (.val (iV (lastTo begP p fr p.length))) = (let q1 := (List.length p); let q0 := (↑q1 : Int); (∃ (g : Nat), Nat.le g q1 ∧ (0 : Int) = (↑g : Int) ∧ (0 : Int) = (↑(lastTo begP p fr g) : Int) ∧ q0 = q0 ∧ p = p ∧ p = p ∧ n = n ∧ m = m ∧ fr = fr ∧ p = p ∧ n = n ∧ m = m ∧ True) ∧ ∀ (g : Nat), Nat.le g q1 → splitB (decide ((↑g : Int) < q0)) (((0 : Int) ≤ (↑g : Int) ∧ (↑g : Int) < q0) ∧ splitB (decide ((List.getD p g (([], (0 : Int), (0 : Int), (0 : Int), (0 : Int)), (0 : Int))).2 ≤ fr)) (fits IntKind.i64 ((↑g : Int) + (1 : Int)) ∧ ∃ (g' : Nat), Nat.le g' q1 ∧ List.length p - g' < List.length p - g ∧ (↑g : Int) + (1 : Int) = (↑g' : Int) ∧ (↑g : Int) = (↑(lastTo begP p fr g') : Int) ∧ q0 = q0 ∧ p = p ∧ p = p ∧ n = n ∧ m = m ∧ fr = fr ∧ p = p ∧ n = n ∧ m = m ∧ True) (fits IntKind.i64 ((↑g : Int) + (1 : Int)) ∧ ∃ (g' : Nat), Nat.le g' q1 ∧ List.length p - g' < List.length p - g ∧ (↑g : Int) + (1 : Int) = (↑g' : Int) ∧ (↑(lastTo begP p fr g) : Int) = (↑(lastTo begP p fr g') : Int) ∧ q0 = q0 ∧ p = p ∧ p = p ∧ n = n ∧ m = m ∧ fr = fr ∧ p = p ∧ n = n ∧ m = m ∧ True)) ((↑(lastTo begP p fr g) : Int) = (↑(lastTo begP p fr q1) : Int) ∧ True)) := by
  kernel_rfl
theorem vc175b (p : List Pl) (n : Int) (m : List (List UInt8 × Rl)) (fr : Int) : exF (env false [(130, sp130)] []) hLastH 0 175 Proofs.Tryz.f175 [lsV p n m, iV fr, .one (.fn 130 [] [])] (.val (iV (lastTo sndN p fr p.length))) = (let q2 := (List.length p); let q1 := (↑q2 : Int); (∃ (g : Nat), Nat.le g q2 ∧ (0 : Int) = (↑g : Int) ∧ (0 : Int) = (↑(lastTo sndN p fr g) : Int) ∧ q1 = q1 ∧ p = p ∧ p = p ∧ n = n ∧ m = m ∧ fr = fr ∧ p = p ∧ n = n ∧ m = m ∧ True) ∧ ∀ (g : Nat), let q0 := (List.getD p g (([], (0 : Int), (0 : Int), (0 : Int), (0 : Int)), (0 : Int))); Nat.le g q2 → splitB (decide ((↑g : Int) < q1)) (((0 : Int) ≤ (↑g : Int) ∧ (↑g : Int) < q1) ∧ fits IntKind.i64 (q0.2 + q0.1.2.2.2.2) ∧ splitB (decide (q0.2 + q0.1.2.2.2.2 ≤ fr)) (fits IntKind.i64 ((↑g : Int) + (1 : Int)) ∧ ∃ (g' : Nat), Nat.le g' q2 ∧ List.length p - g' < List.length p - g ∧ (↑g : Int) + (1 : Int) = (↑g' : Int) ∧ (↑g : Int) = (↑(lastTo sndN p fr g') : Int) ∧ q1 = q1 ∧ p = p ∧ p = p ∧ n = n ∧ m = m ∧ fr = fr ∧ p = p ∧ n = n ∧ m = m ∧ True) (fits IntKind.i64 ((↑g : Int) + (1 : Int)) ∧ ∃ (g' : Nat), Nat.le g' q2 ∧ List.length p - g' < List.length p - g ∧ (↑g : Int) + (1 : Int) = (↑g' : Int) ∧ (↑(lastTo sndN p fr g) : Int) = (↑(lastTo sndN p fr g') : Int) ∧ q1 = q1 ∧ p = p ∧ p = p ∧ n = n ∧ m = m ∧ fr = fr ∧ p = p ∧ n = n ∧ m = m ∧ True)) ((↑(lastTo sndN p fr g) : Int) = (↑(lastTo sndN p fr q2) : Int) ∧ True)) := by
  kernel_rfl
theorem vc177 (nm : List UInt8) (R : List Rl) : exF (env false [] [fb178, fb170]) h129 3 177 Proofs.Tryz.f177 [.one (.str nm), .one (.ref (.sl rlT) R)] (.val (iV (if idxN nm R < R.length then (idxN nm R : Int) else -1))) = (let q0 := (↑(List.length R) : Int); (∃ (g : Nat), Nat.le g (idxN nm R) ∧ (0 : Int) = (↑g : Int) ∧ q0 = q0 ∧ R = R ∧ R = R ∧ nm = nm ∧ True) ∧ ∀ (g : Nat), Nat.le g (idxN nm R) → splitB (decide ((↑g : Int) < q0)) (((0 : Int) ≤ (↑g : Int) ∧ (↑g : Int) < q0) ∧ splitB ((List.getD R g ([], (0 : Int), [])).1 == nm) (((↑g : Int) = if idxN nm R < List.length R then (↑(idxN nm R) : Int) else (-1 : Int)) ∧ True) (fits IntKind.i64 ((↑g : Int) + (1 : Int)) ∧ ∃ (g' : Nat), Nat.le g' (idxN nm R) ∧ List.length R - g' < List.length R - g ∧ (↑g : Int) + (1 : Int) = (↑g' : Int) ∧ q0 = q0 ∧ R = R ∧ R = R ∧ nm = nm ∧ True)) (((-1 : Int) = if idxN nm R < List.length R then (↑(idxN nm R) : Int) else (-1 : Int)) ∧ True)) := by
  kernel_rfl
theorem vc129 (R : List Rl) (L : List Ed) (i : Nat) : exF (env false [(112, sp112), (158, sp158), (109, sp109), (106, sp106), (107, sp107), (177, sp177)] []) h0 0 129 Proofs.Tryz.f129 [.one (.sl rlT R), .one (.sl edT L), iV i] (.val (iV (chkEd R L i))) = (let q9 := ([], (0 : Int), (0 : Int), (0 : Int), (0 : Int)); let q0 := (List.getD L i q9); let q1 := (List.getD L (Int.toNat ((↑i : Int) - (1 : Int))) q9); let q4 := (if idxN q0.1 R < List.length R then (↑(idxN q0.1 R) : Int) else (-1 : Int)); let q2 := (List.getD R (Int.toNat q4) ([], (0 : Int), [])); let q6 := (if idxN q1.1 R < List.length R then (↑(idxN q1.1 R) : Int) else (-1 : Int)); let q3 := (List.getD R (Int.toNat q6) ([], (0 : Int), [])); let q5 := ((0 : Int) ≤ if idxN q0.1 R < List.length R then (↑(idxN q0.1 R) : Int) else (-1 : Int)); let q7 := (bif decide (q0.2.2.1 ≤ q0.2.1) then true else decide (q0.2.1 < q2.2.1)); let q8 := (Ty.int IntKind.i64); ((0 : Int) ≤ (↑i : Int) ∧ (↑i : Int) < (↑(List.length L) : Int)) ∧ List.length R ≤ (1000000000 : Nat) ∧ splitB (decide (q4 < (0 : Int))) ((10 : Int) = chkEd R L i ∧ True) ((decide (q0.2.2.1 ≤ q0.2.1) = false → q5 ∧ q4 < (↑(List.length R) : Int)) ∧ (q7 = false → q5 ∧ q4 < (↑(List.length R) : Int)) ∧ (q7 = false → fits IntKind.i64 (q2.2.1 + (↑(List.length q2.2.2) : Int))) ∧ splitB (bif bif decide (q0.2.2.1 ≤ q0.2.1) then true else decide (q0.2.1 < q2.2.1) then true else decide (q2.2.1 + (↑(List.length q2.2.2) : Int) < q0.2.2.1)) ((14 : Int) = chkEd R L i ∧ True) (fits IntKind.i64 (q0.2.2.1 - q0.2.1) ∧ (2 : Nat) ≤ (1000000000 : Nat) ∧ splitB (first [within q0.2.2.2.1 (0 : Int) (q0.2.2.1 - q0.2.1), within q0.2.2.2.2 (-100 : Int) (100 : Int)] != (0 : Int)) (first [within q0.2.2.2.1 (0 : Int) (q0.2.2.1 - q0.2.1), within q0.2.2.2.2 (-100 : Int) (100 : Int)] = chkEd R L i ∧ True) (splitB ((↑i : Int) == (0 : Int)) (whenE (!eqT (Ty.pair Ty.str (Ty.pair q8 (Ty.pair q8 (Ty.pair q8 q8)))) (q0.1, q0.2.1, q0.2.2.1, q0.2.2.2.1, q0.2.2.2.2) (q0.1, q0.2.1, q0.2.2.1, (0 : Int), (0 : Int))) (21 : Int) = chkEd R L i ∧ True) (fits IntKind.i64 ((↑i : Int) - (1 : Int)) ∧ ((0 : Int) ≤ (↑i : Int) - (1 : Int) ∧ (↑i : Int) - (1 : Int) < (↑(List.length L) : Int)) ∧ fits IntKind.i64 (q1.2.2.1 + q0.2.2.2.1) ∧ List.length R ≤ (1000000000 : Nat) ∧ (((0 : Int) ≤ if idxN q1.1 R < List.length R then (↑(idxN q1.1 R) : Int) else (-1 : Int)) ∧ q6 < (↑(List.length R) : Int)) ∧ fits IntKind.i64 (q3.2.1 + (↑(List.length q3.2.2) : Int)) ∧ whenE (decide (q3.2.1 + (↑(List.length q3.2.2) : Int) < q1.2.2.1 + q0.2.2.2.1)) (16 : Int) = chkEd R L i ∧ True))))) := by
  kernel_rfl
theorem vc131 (p : List Pl) (n : Int) (m : List (List UInt8 × Rl)) (i : Nat) : exF (env false [(130, sp130)] []) h0 0 131 Proofs.Tryz.f131 [lsV p n m, iV i] (.val (.agg [.one (.int .i64 (heardN p n i).1), .one (.int .i64 (heardN p n i).2)])) = (let q0 := (([], (0 : Int), (0 : Int), (0 : Int), (0 : Int)), (0 : Int)); let q1 := (List.getD p (Int.toNat ((↑i : Int) + (1 : Int))) q0); let q2 := (List.getD p i q0); ((0 : Int) ≤ (↑i : Int) ∧ (↑i : Int) < (↑(List.length p) : Int)) ∧ fits IntKind.i64 (q2.2 + q2.1.2.2.2.2) ∧ fits IntKind.i64 ((↑i : Int) + (1 : Int)) ∧ splitB (decide ((↑i : Int) + (1 : Int) < (↑(List.length p) : Int))) (fits IntKind.i64 ((↑i : Int) + (1 : Int)) ∧ ((0 : Int) ≤ (↑i : Int) + (1 : Int) ∧ (↑i : Int) + (1 : Int) < (↑(List.length p) : Int)) ∧ fits IntKind.i64 (q1.2 + q1.1.2.2.2.2) ∧ q2.2 + q2.1.2.2.2.2 = (heardN p n i).1 ∧ q1.2 + q1.1.2.2.2.2 = (heardN p n i).2 ∧ True) (q2.2 + q2.1.2.2.2.2 = (heardN p n i).1 ∧ n = (heardN p n i).2 ∧ True)) := by
  kernel_rfl
theorem vc124 (p : List Pl) (n : Int) (m : List (List UInt8 × Rl)) (fr : Int) : exF (env false [(175, sp175)] []) h0 0 124 Proofs.Tryz.f124 [lsV p n m, iV fr] (.val (tkV (soundN p fr))) = (List.length p ≤ (1000000 : Nat) ∧ (∀ (x : Pl), x ∈ p → fits IntKind.i64 (sndN x)) ∧ ((0 : Int) ≤ (↑(lastTo sndN p fr (List.length p)) : Int) ∧ (↑(lastTo sndN p fr (List.length p)) : Int) < (↑(List.length p) : Int)) ∧ fits IntKind.i64 (Prod.fst (Prod.snd (Prod.fst (List.getD p (lastTo sndN p fr (List.length p)) (([], (0 : Int), (0 : Int), (0 : Int), (0 : Int)), (0 : Int))))) + fr) ∧ fits IntKind.i64 (Prod.fst (Prod.snd (Prod.fst (List.getD p (lastTo sndN p fr (List.length p)) (([], (0 : Int), (0 : Int), (0 : Int), (0 : Int)), (0 : Int))))) + fr - Prod.snd (List.getD p (lastTo sndN p fr (List.length p)) (([], (0 : Int), (0 : Int), (0 : Int), (0 : Int)), (0 : Int)))) ∧ Prod.fst (Prod.fst (List.getD p (lastTo sndN p fr (List.length p)) (([], (0 : Int), (0 : Int), (0 : Int), (0 : Int)), (0 : Int)))) = Prod.fst (soundN p fr) ∧ Prod.fst (Prod.snd (Prod.fst (List.getD p (lastTo sndN p fr (List.length p)) (([], (0 : Int), (0 : Int), (0 : Int), (0 : Int)), (0 : Int))))) + fr - Prod.snd (List.getD p (lastTo sndN p fr (List.length p)) (([], (0 : Int), (0 : Int), (0 : Int), (0 : Int)), (0 : Int))) = Prod.fst (Prod.snd (soundN p fr)) ∧ (1 : Int) = Prod.fst (Prod.snd (Prod.snd (soundN p fr))) ∧ (1 : Int) = Prod.snd (Prod.snd (Prod.snd (soundN p fr))) ∧ True) := by
  kernel_rfl
theorem vc155 (p : List Pl) (n : Int) (m : List (List UInt8 × Rl)) (fr : Int) : exF (env false [(195, sp195), (175, sp175)] []) h0 0 155 Proofs.Tryz.f155 [lsV p n m, iV fr] (.val (.one (.sl tkT (takesN p fr)))) = (let q4 := (([], (0 : Int), (0 : Int), (0 : Int), (0 : Int)), (0 : Int)); let q0 := (List.getD p (lastTo begP p fr (List.length p)) q4); let q2 := (↑(lastTo begP p fr (List.length p)) : Int); let q1 := (List.getD p (Int.toNat (q2 - (1 : Int))) q4); let q3 := (q0.1.2.2.2.1 + (1 : Int)); let q5 := (q0.1.2.2.2.1 - (fr - q0.2)); List.length p ≤ (1000000 : Nat) ∧ ((0 : Int) ≤ q2 ∧ q2 < (↑(List.length p) : Int)) ∧ fits IntKind.i64 (fr - q0.2) ∧ splitB (decide (q0.1.2.2.2.1 ≤ fr - q0.2)) (fits IntKind.i64 (q0.1.2.1 + (fr - q0.2)) ∧ [(q0.1.1, q0.1.2.1 + (fr - q0.2), (1 : Int), (1 : Int))] = takesN p fr ∧ True) (fits IntKind.i64 (q2 - (1 : Int)) ∧ ((0 : Int) ≤ q2 - (1 : Int) ∧ q2 - (1 : Int) < (↑(List.length p) : Int)) ∧ fits IntKind.i64 (q1.1.2.2.1 + (fr - q0.2)) ∧ fits IntKind.i64 q5 ∧ fits IntKind.i64 q3 ∧ (0 : Int) < q0.1.2.2.2.1 - (fr - q0.2) ∧ (0 : Int) < q0.1.2.2.2.1 + (1 : Int) ∧ (q0.1.2.2.2.1 - (fr - q0.2) ≤ (1000000 : Int) ∧ q0.1.2.2.2.1 + (1 : Int) ≤ (1000000 : Int)) ∧ fits IntKind.i64 (q0.1.2.1 + (fr - q0.2)) ∧ fits IntKind.i64 (fr - q0.2 + (1 : Int)) ∧ fits IntKind.i64 q3 ∧ (0 : Int) < fr - q0.2 + (1 : Int) ∧ (0 : Int) < q0.1.2.2.2.1 + (1 : Int) ∧ (fr - q0.2 + (1 : Int) ≤ (1000000 : Int) ∧ q0.1.2.2.2.1 + (1 : Int) ≤ (1000000 : Int)) ∧ [(q1.1.1, q1.1.2.2.1 + (fr - q0.2), (lowN q5 q3).1, (lowN q5 q3).2), (q0.1.1, q0.1.2.1 + (fr - q0.2), (lowN (fr - q0.2 + (1 : Int)) q3).1, (lowN (fr - q0.2 + (1 : Int)) q3).2)] = takesN p fr ∧ True)) := by
  kernel_rfl
end Go.Sx
