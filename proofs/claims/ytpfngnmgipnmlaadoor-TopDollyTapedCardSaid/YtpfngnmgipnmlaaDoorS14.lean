/- A verified symbolic run of functions, part 14: lemmas, no claim of their own. -/
import Derived.Test.YtpfngnmgipnmlaaDoorS13
/- Contracts: tape, the small functions. -/
namespace Go.Sx
open U

theorem fn79 (b : Bool) (e : Int) : Fn P1 gl1 79 [bV b, iV e] (.val (iV (whenE b e))) true := by
  refine Fn.flat ?_ rfl
  refine fn_of false [] [] h0 0 Proofs.Tryd.f79 trivial trivial (by kernel_rfl) rfl (by kernel_rfl) rfl rfl rfl ?_
  rw [vc79]
  try simp only [splitB_iff, -eq_self]
  cases b <;> simp [whenE]

theorem fn122 (n lo hi : Int) : Fn P1 gl1 122 [iV n, iV lo, iV hi] (.val (iV (within n lo hi))) true := by
  refine Fn.flat ?_ rfl
  refine fn_of false [] [fb79] h0 1 Proofs.Tryd.f122 trivial ⟨⟨by kernel_rfl, by kernel_rfl, _, rfl, by kernel_rfl⟩, trivial⟩ (by kernel_rfl) rfl (by kernel_rfl) rfl rfl rfl ?_
  rw [vc122]
  try simp only [splitB_iff, -eq_self]
  unfold within
  by_cases h1 : n < lo <;> by_cases h2 : hi < n <;> simp [h1, h2]

theorem fn78 (xs : List Int) (hl : xs.length ≤ 1000000000) : Fn P1 gl1 78 [.one (.sl (.int .i64) xs)] (.val (iV (first xs))) true := by
  refine Fn.flat ?_ rfl
  refine fn_of false [] [] h78 0 Proofs.Tryd.f78 trivial trivial (by kernel_rfl) rfl (by kernel_rfl) rfl rfl rfl ?_
  rw [vc78]
  try simp only [splitB_iff, -eq_self]
  refine ⟨⟨0, by simp, by simp⟩, fun g hg => ⟨fun hlt => ?_, fun hge => ?_⟩⟩
  · have hlt' : g < xs.length := by simpa using hlt
    rw [getD_of hlt', hg.2, first_drop xs g hlt']
    refine ⟨by omega, fun h => ?_, fun h => ⟨by simp only [fits]; omega, g + 1, ⟨by omega, ?_⟩, by omega, by simp⟩⟩
    · rw [if_neg (by simpa using h)]; simp
    · rw [if_pos (by simpa using h)]
  · have hge' : ¬ g < xs.length := by simpa using hge
    rw [hg.2, List.drop_of_length_le (by omega)]
    simp [first]

theorem isName_of {l : List UInt8} (h : ∀ j, j < l.length → nameAt l j = true) : isName l = (decide (l ≠ []) && decide (l.length ≤ 24)) := by
  unfold isName
  have : (List.range l.length).all (nameAt l) = true := by
    rw [List.all_eq_true]
    intro j hj
    exact h j (List.mem_range.1 hj)
  rw [this]; rfl

theorem isName_not {l : List UInt8} {j : Nat} (hj : j < l.length) (h : nameAt l j = false) : isName l = false := by
  unfold isName
  have : (List.range l.length).all (nameAt l) = false := by
    rw [List.all_eq_false]
    exact ⟨j, List.mem_range.2 hj, by simp [h]⟩
  rw [this]; rfl

/-- The rune at a place of a name. -/
theorem rune_name {l : List UInt8} {g c w : Nat} (h : (UInt8.toNat (List.getD l g (0 : UInt8)) < 128 → c = UInt8.toNat (List.getD l g (0 : UInt8)) ∧ w = 1) ∧ (128 ≤ UInt8.toNat (List.getD l g (0 : UInt8)) → 128 ≤ c ∧ 1 ≤ w)) :
    (bif !bif bif decide ((65 : Int) ≤ (c : Int)) then decide ((c : Int) ≤ (90 : Int)) else false then true else bif decide ((97 : Int) ≤ (c : Int)) then decide ((c : Int) ≤ (122 : Int)) else false then bif (g : Int) == (0 : Int) then true else bif bif decide ((c : Int) < (48 : Int)) then true else decide ((57 : Int) < (c : Int)) then (c : Int) != (95 : Int) else false else false) = !nameAt l g := by
  unfold nameAt
  generalize UInt8.toNat (List.getD l g 0) = b at *
  have e0 : ((g : Int) == 0) = decide (g = 0) := by
    by_cases hg : g = 0 <;> simp [hg]
  have e95 : ((c : Int) != 95) = decide (c ≠ 95) := by
    by_cases hg : c = 95
    · subst hg; rfl
    · simp [hg]; omega
  rw [e0, e95]
  have key : ∀ (p1 p2 p3 p4 p5 p6 p7 p8 : Bool), (bif !bif bif p1 then p2 else false then true else bif p3 then p4 else false then bif p5 then true else bif bif p6 then true else p7 then p8 else false else false) = !((p1 && p2) || (p3 && p4) || (!p5 && ((!p6 && !p7) || !p8))) := by decide
  rw [key]
  congr 1
  have hb : (bne g 0) = !decide (g = 0) := by by_cases hg : g = 0 <;> simp [hg]
  rw [hb]
  by_cases hlt : b < 128
  · obtain ⟨rfl, _⟩ := h.1 hlt
    have f1 : decide ((65 : Int) ≤ (c : Int)) = decide (65 ≤ c) := decide_eq_decide.2 (by omega)
    have f2 : decide ((c : Int) ≤ 90) = decide (c ≤ 90) := decide_eq_decide.2 (by omega)
    have f3 : decide ((97 : Int) ≤ (c : Int)) = decide (97 ≤ c) := decide_eq_decide.2 (by omega)
    have f4 : decide ((c : Int) ≤ 122) = decide (c ≤ 122) := decide_eq_decide.2 (by omega)
    have f5 : (!decide ((c : Int) < 48)) = decide (48 ≤ c) := by rw [← decide_not]; exact decide_eq_decide.2 (by omega)
    have f6 : (!decide ((57 : Int) < (c : Int))) = decide (c ≤ 57) := by rw [← decide_not]; exact decide_eq_decide.2 (by omega)
    have f7 : (!decide (c ≠ 95)) = (c == 95) := by by_cases h95 : c = 95 <;> simp [h95]
    rw [f1, f2, f3, f4, f5, f6, f7]
  · obtain ⟨hc, _⟩ := h.2 (by omega)
    have f1 : decide ((c : Int) ≤ 90) = false := by simp; omega
    have f2 : decide ((c : Int) ≤ 122) = false := by simp; omega
    have f3 : decide ((57 : Int) < (c : Int)) = true := by simp; omega
    have f4 : decide (c ≠ 95) = true := by simp; omega
    have f5 : decide (b ≤ 90) = false := by simp; omega
    have f6 : decide (b ≤ 122) = false := by simp; omega
    have f7 : decide (b ≤ 57) = false := by simp; omega
    have f8 : (b == 95) = false := by simp; omega
    rw [f1, f2, f3, f4, f5, f6, f7, f8]
    simp

theorem fn121 (l : List UInt8) : Fn P1 gl1 121 [sV l] (.val (bV (isName l))) true := by
  refine Fn.flat ?_ rfl
  refine fn_of false [] [] h121 0 Proofs.Tryd.f121 trivial trivial (by kernel_rfl) rfl (by kernel_rfl) rfl rfl rfl ?_
  rw [vc121]
  try simp only [splitB_iff, -eq_self]
  refine ⟨⟨0, ⟨Nat.zero_le _, fun j hj => absurd hj (Nat.not_lt_zero _)⟩, rfl, ⟨rfl, rfl⟩, trivial⟩, fun g hg => ⟨fun hge => ⟨?_, trivial⟩, fun c w hc => ⟨fun h => ⟨?_, trivial⟩, fun h => ?_⟩⟩⟩
  · have e : g = l.length := by omega
    subst e
    rw [isName_of hg.2]
    show (bif l != [] then _ else _) = _
    cases l with
    | nil => rfl
    | cons a t =>
      have : ((((a :: t).length : Nat) : Int) ≤ 24) = ((a :: t).length ≤ 24) := by simp only [eq_iff_iff]; omega
      simp only [this]
      rfl
  · rw [rune_name hc.2] at h
    rw [isName_not hc.1 (by simpa using h)]
  · rw [rune_name hc.2] at h
    have hn : nameAt l g = true := by simpa using h
    have hw : w = 1 := by
      by_cases hlt : UInt8.toNat (List.getD l g 0) < 128
      · exact (hc.2.1 hlt).2
      · exfalso
        have h9 := hn
        unfold nameAt at h9
        generalize UInt8.toNat (List.getD l g 0) = b at *
        simp only [Bool.or_eq_true, Bool.and_eq_true, decide_eq_true_eq, beq_iff_eq] at h9
        omega
    subst hw
    refine ⟨g + 1, ⟨hc.1, fun j hj => ?_⟩, by omega, rfl, ⟨rfl, rfl⟩, trivial⟩
    rcases Nat.lt_succ_iff_lt_or_eq.1 hj with h1 | rfl
    · exact hg.2 j h1
    · exact hn

theorem fn127 (l : List UInt8) : Fn P1 gl1 127 [sV l] (.val (bV (plain l))) true := by
  refine Fn.flat ?_ rfl
  refine fn_of false [] [] h127 0 Proofs.Tryd.f127 trivial trivial (by kernel_rfl) rfl (by kernel_rfl) rfl rfl rfl ?_
  rw [vc127]
  try simp only [splitB_iff, -eq_self]
  refine ⟨⟨0, ⟨Nat.zero_le _, fun j hj => absurd hj (Nat.not_lt_zero _)⟩, rfl, ⟨rfl, rfl⟩, trivial⟩, fun g hg => ⟨fun hge => ⟨?_, trivial⟩, fun c w hc => ⟨fun h => ⟨?_, trivial⟩, fun h => ?_⟩⟩⟩
  · have e : g = l.length := by omega
    subst e
    symm
    unfold plain
    rw [List.all_eq_true]
    intro b hb
    obtain ⟨j, hj, rfl⟩ := List.mem_iff_getElem.1 hb
    have := hg.2 j hj
    rw [getD_of hj] at this
    simpa using this
  · have h' : 127 < c := by simp at h; omega
    symm
    unfold plain
    rw [List.all_eq_false]
    refine ⟨l[g], List.getElem_mem hc.1, ?_⟩
    rw [getD_of hc.1] at hc
    by_cases hlt : UInt8.toNat l[g] < 128
    · have := hc.2.1 hlt; omega
    · simp [hlt]
  · have h' : ¬ 127 < c := by simp at h; omega
    have hlt : UInt8.toNat (List.getD l g 0) < 128 := by
      by_cases hlt : UInt8.toNat (List.getD l g 0) < 128
      · exact hlt
      · have := hc.2.2 (by omega); omega
    obtain ⟨_, rfl⟩ := hc.2.1 hlt
    refine ⟨g + 1, ⟨hc.1, fun j hj => ?_⟩, by omega, rfl, ⟨rfl, rfl⟩, trivial⟩
    rcases Nat.lt_succ_iff_lt_or_eq.1 hj with h1 | rfl
    · exact hg.2 j h1
    · exact hlt

/-- Numbers of 16 bits. -/
def W16 (l : List Int) : Prop := ∀ x ∈ l, 0 ≤ x ∧ x ≤ 65535

theorem isum_bd {l : List Int} (h : W16 l) : 0 ≤ isum l ∧ isum l ≤ 65535 * l.length := by
  have key : ∀ (l : List Int) (x : Int), W16 l → 0 ≤ x → x ≤ l.foldl (· + ·) x ∧ l.foldl (· + ·) x ≤ x + 65535 * l.length := by
    intro l
    induction l with
    | nil => intro x _ _; simp
    | cons a l ih =>
      intro x h hx
      have ha := h a (by simp)
      have := ih (x + a) (fun y hy => h y (by simp [hy])) (by omega)
      simp only [List.foldl_cons, List.length_cons]
      omega
  have := key l 0 h (by omega)
  unfold isum
  omega

theorem isum_snoc (xs : List Int) (g : Nat) (h : g < xs.length) : isum (xs.take (g + 1)) = isum (xs.take g) + xs[g] := by
  unfold isum
  rw [List.take_succ_eq_append_getElem h, List.foldl_append]
  rfl

theorem W16.take {l : List Int} (h : W16 l) (n : Nat) : W16 (l.take n) := fun x hx => h x (List.mem_of_mem_take hx)

theorem fn74 (l : List Int) (hl : l.length ≤ 1000000) (h : W16 l) : Fn P1 gl1 74 [.one (.sl (.int .i64) l)] (.val (aV 5 (tlast l))) true := by
  refine Fn.flat ?_ rfl
  refine fn_of false [] [fb125] h74 1 Proofs.Tryd.f74 trivial ⟨⟨by kernel_rfl, by kernel_rfl, _, rfl, by kernel_rfl⟩, trivial⟩ (by kernel_rfl) rfl (by kernel_rfl) rfl rfl rfl ?_
  rw [vc74]
  try simp only [splitB_iff, -eq_self]
  refine ⟨⟨0, Nat.zero_le _, rfl, rfl, rfl, rfl, rfl, rfl, trivial⟩, fun g hg => ⟨fun hlt => ?_, fun hge => ?_⟩⟩
  · have hlt' : g < l.length := by simpa using hlt
    rw [getD_of hlt']
    have h1 := isum_bd (h.take g)
    have h2 := h _ (List.getElem_mem hlt')
    simp only [List.length_take] at h1
    refine ⟨by omega, by simp only [fits]; omega, by simp only [fits]; omega, g + 1, hlt', by omega, by simp, (isum_snoc l g hlt').symm, rfl, rfl, rfl, rfl, trivial⟩
  · have hge' : ¬ g < l.length := by simpa using hge
    rw [List.take_of_length_le (by omega)]
    have h1 := isum_bd h
    exact ⟨by omega, by decide, by decide, rfl, trivial⟩

theorem fn73 (i c : Int) (hi : 0 ≤ i ∧ i ≤ 1000000) (hc : 0 ≤ c ∧ c ≤ 1000000) : Fn P1 gl1 73 [iV i, iV c] (.val (aV 5 (tframe i c))) true := by
  refine Fn.flat ?_ rfl
  refine fn_of false [] [fb125] h0 1 Proofs.Tryd.f73 trivial ⟨⟨by kernel_rfl, by kernel_rfl, _, rfl, by kernel_rfl⟩, trivial⟩ (by kernel_rfl) rfl (by kernel_rfl) rfl rfl rfl ?_
  rw [vc73]
  try simp only [splitB_iff, -eq_self]
  exact ⟨by simp only [fits]; omega, by simp only [fits]; omega, by simp only [fits]; omega, by simp only [fits]; omega, by omega, by decide, by decide, rfl, trivial⟩

theorem bor256 (x b : Int) (h0 : 0 ≤ x) (h1 : x * 256 + 255 ≤ 9223372036854775807) (hb : 0 ≤ b ∧ b ≤ 255) : bits .or .i64 (x * 256) b = 256 * x + b := by
  obtain ⟨n, rfl⟩ := Int.eq_ofNat_of_zero_le h0
  obtain ⟨m, rfl⟩ := Int.eq_ofNat_of_zero_le hb.1
  have hm : m < 256 := by omega
  show IntKind.wrap .i64 (((BitVec.ofInt 64 ((n : Int) * 256) ||| BitVec.ofInt 64 (m : Int)).toNat : Nat) : Int) = _
  have e1 : (BitVec.ofInt 64 ((n : Int) * 256) ||| BitVec.ofInt 64 (m : Int)).toNat = n * 256 + m := by
    rw [BitVec.toNat_or]
    have h2 : (BitVec.ofInt 64 ((n : Int) * 256)).toNat = n * 256 := by
      rw [BitVec.toNat_ofInt]; omega
    have h3 : (BitVec.ofInt 64 (m : Int)).toNat = m := by
      rw [BitVec.toNat_ofInt]; omega
    rw [h2, h3]
    have := Nat.two_pow_add_eq_or_of_lt (i := 8) (b := m) (by omega) n
    rw [show (2 : Nat) ^ 8 = 256 from rfl] at this
    rw [Nat.mul_comm n 256]
    exact this.symm
  rw [e1]
  have : IntKind.wrap .i64 ((n * 256 + m : Nat) : Int) = ((n * 256 + m : Nat) : Int) := fits_wrap (by simp only [fits]; omega)
  rw [this]
  omega

theorem number_bd : ∀ (n : Nat) (s : List Int), Bytes s → s.length ≤ n → 0 ≤ number s ∧ number s < 256 ^ n := by
  have key : ∀ (s : List Int) (x : Int) (n m : Nat), Bytes s → 0 ≤ x → x < 256 ^ m → s.length + m ≤ n → 0 ≤ s.foldl (fun x b => 256 * x + b) x ∧ s.foldl (fun x b => 256 * x + b) x < 256 ^ n := by
    intro s
    induction s with
    | nil =>
      intro x n m _ h0 h1 h2
      refine ⟨h0, Int.lt_of_lt_of_le h1 ?_⟩
      have e : ∀ k : Nat, (256 : Int) ^ k = ((256 ^ k : Nat) : Int) := fun k => by simp
      rw [e, e]
      exact Int.ofNat_le.2 (Nat.pow_le_pow_right (by decide) (by simpa using h2))
    | cons b s ih =>
      intro x n m hb h0 h1 h2
      have hb0 := hb b (by simp)
      refine ih (256 * x + b) n (m + 1) (fun y hy => hb y (by simp [hy])) (by omega) ?_ (by simp at h2; omega)
      rw [Int.pow_succ]
      omega
  intro n s hb hl
  exact key s 0 n 0 hb (by omega) (by decide) (by omega)

theorem number_snoc (xs : List Int) (g : Nat) (h : g < xs.length) : number (xs.take (g + 1)) = 256 * number (xs.take g) + xs[g] := by
  unfold number
  rw [List.take_succ_eq_append_getElem h, List.foldl_append]
  rfl

theorem fn128 (s : List Int) (hl : s.length ≤ 4) (hb : Bytes s) : Fn P1 gl1 128 [.one (.sl (.int .u8) s)] (.val (iV (number s))) true := by
  refine Fn.flat ?_ rfl
  refine fn_of false [] [] h128 0 Proofs.Tryd.f128 trivial trivial (by kernel_rfl) rfl (by kernel_rfl) rfl rfl rfl ?_
  rw [vc128]
  try simp only [splitB_iff, -eq_self]
  refine ⟨⟨0, Nat.zero_le _, rfl, rfl, rfl, rfl, trivial⟩, fun g hg => ⟨fun hlt => ?_, fun hge => ?_⟩⟩
  · have hlt' : g < s.length := by simpa using hlt
    rw [getD_of hlt']
    have h1 := number_bd 4 (s.take g) (fun y hy => hb y (List.mem_of_mem_take hy)) (by simp; omega)
    have h2 := hb _ (List.getElem_mem hlt')
    have e4 : (256 : Int) ^ 4 = 4294967296 := by decide
    rw [e4] at h1
    refine ⟨by omega, ⟨by decide, by decide, by simp only [fits]; omega⟩, by simp only [fits]; omega, by simp only [fits]; omega, g + 1, hlt', by omega, by simp, ?_, rfl, rfl, trivial⟩
    rw [bor256 _ _ h1.1 (by omega) h2, number_snoc s g hlt']
  · have hge' : ¬ g < s.length := by simpa using hge
    rw [List.take_of_length_le (by omega)]
    exact ⟨rfl, trivial⟩

theorem fn17 (xs ys : List Int) (hl : xs.length ≤ 1000000000) : Fn P1 gl1 17 [.one (.sl (.int .i64) xs), .one (.sl (.int .i64) ys)] (.val (bV (decide (xs = ys)))) true := by
  refine Fn.flat ?_ rfl
  refine fn_of false [] [] h17 0 Proofs.Tryd.f17 trivial trivial (by kernel_rfl) rfl (by kernel_rfl) rfl rfl rfl ?_
  rw [vc17]
  try simp only [splitB_iff, -eq_self]
  refine ⟨fun h => ⟨?_, trivial⟩, fun h => ⟨⟨0, ⟨Nat.zero_le _, rfl⟩, rfl, rfl, rfl, trivial⟩, fun g hg => ⟨fun hlt => ?_, fun hge => ⟨?_, trivial⟩⟩⟩⟩
  · symm
    rw [decide_eq_false_iff_not]
    rintro rfl
    simp at h
  · have hlt' : g < xs.length := by simpa using hlt
    have he : xs.length = ys.length := by simp at h; omega
    have hlt2 : g < ys.length := by omega
    rw [getD_of hlt', getD_of hlt2]
    refine ⟨by omega, by omega, fun h => ⟨?_, trivial⟩, fun h => ⟨by simp only [fits]; omega, g + 1, ⟨hlt', ?_⟩, by omega, by simp, rfl, rfl, trivial⟩⟩
    · symm
      rw [decide_eq_false_iff_not]
      rintro rfl
      simp at h
    · rw [List.take_succ_eq_append_getElem hlt', List.take_succ_eq_append_getElem hlt2, hg.2]
      simp at h
      rw [h]
  · have he : xs.length = ys.length := by simp at h; omega
    have hge' : ¬ g < xs.length := by simpa using hge
    have := hg.2
    rw [List.take_of_length_le (by omega), List.take_of_length_le (by omega)] at this
    simp [this]
end Go.Sx

/- Contracts as the engine uses them: tape. -/
namespace Go.Sx.U
def four (f : Int) : List Int := [f / 16777216 % 256, f / 65536 % 256, f / 256 % 256, f % 256]
def head (nm : List UInt8) (f : Int) : List Int := [82, 69, 69, 76] ++ [(nm.length : Int) % 256] ++ strNs nm ++ four f
/-- The records of the frames ahead of an index. -/
def recs (l : List Int) : Nat → List Int
  | 0 => []
  | i + 1 => recs l i ++ tframe i (l.getD i 0)
def stream (nm : List UInt8) (f : Int) (l : List Int) : List Int := head nm f ++ recs l l.length ++ tlast l
end Go.Sx.U
namespace Go.Sx
open U
@[reducible] def rV (nm : List UInt8) (f : Int) (l : List Int) : V := .agg [.one (.str nm), .one (.int .i64 f), .one (.sl (.int .i64) l)]
def sp79 : FSpec := ⟨fun vs => match vs with
  | [.one (.bool b), .one (.int .i64 e)] => some ([], .val (iV (whenE b e)))
  | _ => none, true⟩
def sp122 : FSpec := ⟨fun vs => match vs with
  | [.one (.int .i64 n), .one (.int .i64 lo), .one (.int .i64 hi)] => some ([], .val (iV (within n lo hi)))
  | _ => none, true⟩
def sp78 : FSpec := ⟨fun vs => match vs with
  | [.one (.sl (.int .i64) xs)] => some ([List.length xs ≤ 1000000000], .val (iV (first xs)))
  | _ => none, true⟩
def sp121 : FSpec := ⟨fun vs => match vs with
  | [.one (.str l)] => some ([], .val (bV (isName l)))
  | _ => none, true⟩
def sp127 : FSpec := ⟨fun vs => match vs with
  | [.one (.str l)] => some ([], .val (bV (plain l)))
  | _ => none, true⟩
def sp73 : FSpec := ⟨fun vs => match vs with
  | [.one (.int .i64 i), .one (.int .i64 c)] => some ([(0 ≤ i ∧ i ≤ 1000000) ∧ (0 ≤ c ∧ c ≤ 1000000)], .val (aV 5 (tframe i c)))
  | _ => none, true⟩
def sp74 : FSpec := ⟨fun vs => match vs with
  | [.one (.sl (.int .i64) l)] => some ([List.length l ≤ 1000000 ∧ W16 l], .val (aV 5 (tlast l)))
  | _ => none, true⟩
def sp128 : FSpec := ⟨fun vs => match vs with
  | [.one (.sl (.int .u8) s)] => some ([List.length s ≤ 4 ∧ Bytes s], .val (iV (number s)))
  | _ => none, true⟩
def sp17 : FSpec := ⟨fun vs => match vs with
  | [.one (.sl (.int .i64) xs), .one (.sl (.int .i64) ys)] => some ([List.length xs ≤ 1000000000], .val (bV (decide (xs = ys))))
  | _ => none, true⟩
theorem so79_ : SpecOk P1 gl1 79 sp79 := by
  intro vs ps r h _
  simp only [sp79] at h
  split at h
  · cases h; exact fn79 _ _
  · cases h
theorem so79 : Sp1 79 sp79 := ⟨so79_, Proofs.Tryd.f79, _, by kernel_rfl, rfl, by kernel_rfl⟩
theorem so122_ : SpecOk P1 gl1 122 sp122 := by
  intro vs ps r h _
  simp only [sp122] at h
  split at h
  · cases h; exact fn122 _ _ _
  · cases h
theorem so122 : Sp1 122 sp122 := ⟨so122_, Proofs.Tryd.f122, _, by kernel_rfl, rfl, by kernel_rfl⟩
theorem so78_ : SpecOk P1 gl1 78 sp78 := by
  intro vs ps r h hp
  simp only [sp78] at h
  split at h
  · cases h; exact fn78 _ (hp _ (List.mem_singleton.2 rfl))
  · cases h
theorem so78 : Sp1 78 sp78 := ⟨so78_, Proofs.Tryd.f78, _, by kernel_rfl, rfl, by kernel_rfl⟩
theorem so121_ : SpecOk P1 gl1 121 sp121 := by
  intro vs ps r h _
  simp only [sp121] at h
  split at h
  · cases h; exact fn121 _
  · cases h
theorem so121 : Sp1 121 sp121 := ⟨so121_, Proofs.Tryd.f121, _, by kernel_rfl, rfl, by kernel_rfl⟩
theorem so127_ : SpecOk P1 gl1 127 sp127 := by
  intro vs ps r h _
  simp only [sp127] at h
  split at h
  · cases h; exact fn127 _
  · cases h
theorem so127 : Sp1 127 sp127 := ⟨so127_, Proofs.Tryd.f127, _, by kernel_rfl, rfl, by kernel_rfl⟩
theorem so73_ : SpecOk P1 gl1 73 sp73 := by
  intro vs ps r h hp
  simp only [sp73] at h
  split at h
  · cases h
    have := hp _ (List.mem_singleton.2 rfl)
    exact fn73 _ _ this.1 this.2
  · cases h
theorem so73 : Sp1 73 sp73 := ⟨so73_, Proofs.Tryd.f73, _, by kernel_rfl, rfl, by kernel_rfl⟩
theorem so74_ : SpecOk P1 gl1 74 sp74 := by
  intro vs ps r h hp
  simp only [sp74] at h
  split at h
  · cases h
    have := hp _ (List.mem_singleton.2 rfl)
    exact fn74 _ this.1 this.2
  · cases h
theorem so74 : Sp1 74 sp74 := ⟨so74_, Proofs.Tryd.f74, _, by kernel_rfl, rfl, by kernel_rfl⟩
theorem so128_ : SpecOk P1 gl1 128 sp128 := by
  intro vs ps r h hp
  simp only [sp128] at h
  split at h
  · cases h
    have := hp _ (List.mem_singleton.2 rfl)
    exact fn128 _ this.1 this.2
  · cases h
theorem so128 : Sp1 128 sp128 := ⟨so128_, Proofs.Tryd.f128, _, by kernel_rfl, rfl, by kernel_rfl⟩
theorem so17_ : SpecOk P1 gl1 17 sp17 := by
  intro vs ps r h hp
  simp only [sp17] at h
  split at h
  · cases h
    exact fn17 _ _ (hp _ (List.mem_singleton.2 rfl))
  · cases h
theorem so17 : Sp1 17 sp17 := ⟨so17_, Proofs.Tryd.f17, _, by kernel_rfl, rfl, by kernel_rfl⟩
@[reducible] noncomputable def fb77 : Nat × Func := (77, Proofs.Tryd.f77)
@[reducible] noncomputable def fb72 : Nat × Func := (72, Proofs.Tryd.f72)
@[reducible] noncomputable def fb123 : Nat × Func := (123, Proofs.Tryd.f123)
end Go.Sx

/- What the engine asks, written out (printed by a program). -/
namespace Go.Sx
open U
theorem vc71 (nm : List UInt8) (f : Int) (l : List Int) : exF (env false [(79, sp79), (122, sp122), (78, sp78), (121, sp121)] [fb77, fb123, fb124]) h123 3 71 Proofs.Tryd.f71 [rV nm f l] (.val (iV (U.checkReel nm f l))) = ((4 : Nat) ≤ (1000000000 : Nat) ∧ splitB (first [whenE (!isName nm) (8 : Int), within f (0 : Int) (10000000 : Int), whenE ((↑(List.length l) : Int) == (0 : Int)) (12 : Int), whenE (decide ((256 : Int) < (↑(List.length l) : Int))) (5 : Int)] != (0 : Int)) (first [whenE (!isName nm) (8 : Int), within f (0 : Int) (10000000 : Int), whenE ((↑(List.length l) : Int) == (0 : Int)) (12 : Int), whenE (decide ((256 : Int) < (↑(List.length l) : Int))) (5 : Int)] = checkReel nm f l ∧ True) ((∃ (g : Nat), Nat.le g (List.length l) ∧ (0 : Int) = (↑g : Int) ∧ (↑(List.length l) : Int) = (↑(List.length l) : Int) ∧ l = l ∧ List.map (fun (n : Int) => within n (0 : Int) (65535 : Int)) (List.take g l) = [] ∧ [whenE (!isName nm) (8 : Int), within f (0 : Int) (10000000 : Int), whenE ((↑(List.length l) : Int) == (0 : Int)) (12 : Int), whenE (decide ((256 : Int) < (↑(List.length l) : Int))) (5 : Int)] = [whenE (!isName nm) (8 : Int), within f (0 : Int) (10000000 : Int), whenE ((↑(List.length l) : Int) == (0 : Int)) (12 : Int), whenE (decide ((256 : Int) < (↑(List.length l) : Int))) (5 : Int)] ∧ nm = nm ∧ f = f ∧ l = l ∧ True) ∧ ∀ (g : Nat), Nat.le g (List.length l) → splitB (decide ((↑g : Int) < (↑(List.length l) : Int))) (((0 : Int) ≤ (↑g : Int) ∧ (↑g : Int) < (↑(List.length l) : Int)) ∧ room (List.length (List.map (fun (n : Int) => within n (0 : Int) (65535 : Int)) (List.take g l)) + (1 : Nat)) (8 : Nat) ∧ fits IntKind.i64 ((↑g : Int) + (1 : Int)) ∧ ∃ (g' : Nat), Nat.le g' (List.length l) ∧ List.length l - g' < List.length l - g ∧ (↑g : Int) + (1 : Int) = (↑g' : Int) ∧ (↑(List.length l) : Int) = (↑(List.length l) : Int) ∧ l = l ∧ List.map (fun (n : Int) => within n (0 : Int) (65535 : Int)) (List.take g l) ++ [within (List.getD l g (0 : Int)) (0 : Int) (65535 : Int)] = List.map (fun (n : Int) => within n (0 : Int) (65535 : Int)) (List.take g' l) ∧ [whenE (!isName nm) (8 : Int), within f (0 : Int) (10000000 : Int), whenE ((↑(List.length l) : Int) == (0 : Int)) (12 : Int), whenE (decide ((256 : Int) < (↑(List.length l) : Int))) (5 : Int)] = [whenE (!isName nm) (8 : Int), within f (0 : Int) (10000000 : Int), whenE ((↑(List.length l) : Int) == (0 : Int)) (12 : Int), whenE (decide ((256 : Int) < (↑(List.length l) : Int))) (5 : Int)] ∧ nm = nm ∧ f = f ∧ l = l ∧ True) (List.length (List.map (fun (n : Int) => within n (0 : Int) (65535 : Int)) (List.take g l)) ≤ (1000000000 : Nat) ∧ splitB (first (List.map (fun (n : Int) => within n (0 : Int) (65535 : Int)) (List.take g l)) != (0 : Int)) (first (List.map (fun (n : Int) => within n (0 : Int) (65535 : Int)) (List.take g l)) = checkReel nm f l ∧ True) (fits IntKind.i64 (f + (↑(List.length l) : Int)) ∧ whenE (decide ((10000000 : Int) < f + (↑(List.length l) : Int))) (4 : Int) = checkReel nm f l ∧ True)))) := by
  kernel_rfl
end Go.Sx

/- Contracts: CheckReel. -/
namespace Go.Sx
open U

theorem first_zero_iff : ∀ (l : List Int), first l = 0 ↔ ∀ x ∈ l, x = 0
  | [] => by simp [first]
  | x :: r => by
    have := first_zero_iff r
    by_cases h : x = 0 <;> simp [first, h, this]

theorem len_beq (l : List Int) : ((l.length : Int) == 0) = decide (l.length = 0) := by
  by_cases h : l.length = 0
  · simp [h]
  · simp only [h, decide_false]
    simp
    intro e
    simp [e] at h

theorem len_256 (l : List Int) : decide ((256 : Int) < (l.length : Int)) = decide (256 < l.length) := decide_eq_decide.2 (by omega)

theorem within_zero {n lo hi : Int} : within n lo hi = 0 ↔ lo ≤ n ∧ n ≤ hi := by
  unfold within
  split <;> constructor <;> intro h <;> first | omega | rfl

theorem whenE_zero {b : Bool} {e : Int} (he : e ≠ 0) : whenE b e = 0 ↔ b = false := by
  cases b <;> simp [whenE, he]

theorem fn71 (nm : List UInt8) (f : Int) (l : List Int) (hl : l.length ≤ 1000000) : Fn P1 gl1 71 [rV nm f l] (.val (iV (checkReel nm f l))) true := by
  refine Fn.flat ?_ rfl
  refine fn_of false [(79, sp79), (122, sp122), (78, sp78), (121, sp121)] [fb77, fb123, fb124] h123 3 Proofs.Tryd.f71 ⟨so79, so122, so78, so121, trivial⟩
    ⟨⟨by kernel_rfl, by kernel_rfl, _, rfl, by kernel_rfl⟩, ⟨by kernel_rfl, by kernel_rfl, _, rfl, by kernel_rfl⟩, ⟨by kernel_rfl, by kernel_rfl, _, rfl, by kernel_rfl⟩, trivial⟩ (by kernel_rfl) rfl (by kernel_rfl) rfl rfl rfl ?_
  rw [vc71]
  try simp only [splitB_iff, -eq_self]
  rw [len_beq, len_256]
  refine ⟨by decide, fun h => ?_, fun h => ?_⟩
  · have h' := h
    simp only [bne_iff_ne, ne_eq] at h'
    unfold checkReel
    rw [if_neg h']
    exact ⟨rfl, trivial⟩
  · have h' := h
    simp only [bne_eq_false_iff_eq] at h'
    refine ⟨⟨0, Nat.zero_le _, rfl, rfl, rfl, rfl, rfl, rfl, rfl, rfl, trivial⟩, fun g hg => ⟨fun hlt => ?_, fun hge => ?_⟩⟩
    · have hlt' : g < l.length := by simpa using hlt
      refine ⟨by omega, by simp only [room, List.length_map, List.length_take]; omega, by simp only [fits]; omega, g + 1, hlt', by omega, by simp, rfl, rfl, ?_, rfl, rfl, rfl, rfl, trivial⟩
      rw [getD_of hlt', List.take_succ_eq_append_getElem hlt', List.map_append]
      rfl
    · have hge' : ¬ g < l.length := by simpa using hge
      rw [List.take_of_length_le (by omega)]
      unfold checkReel
      rw [if_pos h']
      have hz := (first_zero_iff _).1 h'
      have hf := within_zero.1 (hz (within f 0 10000000) (by simp))
      refine ⟨by simp only [List.length_map]; omega, fun h2 => ?_, fun h2 => ?_⟩
      · have h2' : ¬ first (wf16 l) = 0 := by simpa [wf16] using h2
        rw [if_neg h2']
        exact ⟨rfl, trivial⟩
      · have h2' : first (wf16 l) = 0 := by simpa [wf16] using h2
        rw [if_pos h2']
        exact ⟨by simp only [fits]; omega, rfl, trivial⟩
def sp71 : FSpec := ⟨fun vs => match vs with
  | [.agg [.one (.str nm), .one (.int .i64 f), .one (.sl (.int .i64) l)]] => some ([List.length l ≤ 1000000], .val (iV (checkReel nm f l)))
  | _ => none, true⟩
theorem so71_ : SpecOk P1 gl1 71 sp71 := by
  intro vs ps r h hp
  simp only [sp71] at h
  split at h
  · cases h
    exact fn71 _ _ _ (hp _ (List.mem_singleton.2 rfl))
  · cases h
theorem so71 : Sp1 71 sp71 := ⟨so71_, Proofs.Tryd.f71, _, by kernel_rfl, rfl, by kernel_rfl⟩
/-- A reel as it is checked. -/
structure ReelOk (nm : List UInt8) (f : Int) (l : List Int) : Prop where
  name : isName nm = true
  start : 0 ≤ f ∧ f ≤ 10000000
  ne : l.length ≠ 0
  len : l.length ≤ 256
  w : W16 l
  fin : f + (l.length : Int) ≤ 10000000
theorem checkReel_zero {nm : List UInt8} {f : Int} {l : List Int} : checkReel nm f l = 0 ↔ ReelOk nm f l := by
  unfold checkReel
  constructor
  · intro h
    split at h
    · rename_i h1
      split at h
      · rename_i h2
        have hz := (first_zero_iff _).1 h1
        have hw := (first_zero_iff _).1 h2
        refine ⟨by simpa using (whenE_zero (e := 8) (by decide)).1 (hz (whenE (!isName nm) 8) (by simp)), within_zero.1 (hz (within f 0 10000000) (by simp)), ?_, ?_, fun x hx => ?_, ?_⟩
        · simpa using (whenE_zero (e := 12) (by decide)).1 (hz (whenE (decide (l.length = 0)) 12) (by simp))
        · simpa using (whenE_zero (e := 5) (by decide)).1 (hz (whenE (decide (256 < l.length)) 5) (by simp))
        · exact within_zero.1 (hw _ (List.mem_map.2 ⟨x, hx, rfl⟩))
        · simpa using (whenE_zero (e := 4) (by decide)).1 h
      · rename_i h2; exact absurd h h2
    · rename_i h1; exact absurd h h1
  · rintro ⟨h1, h2, h3, h4, h5, h6⟩
    have e1 : whenE (!isName nm) 8 = 0 := by rw [h1]; rfl
    have e2 : within f 0 10000000 = 0 := within_zero.2 h2
    have e3 : whenE (decide (l.length = 0)) 12 = 0 := by rw [decide_eq_false h3]; rfl
    have e4 : whenE (decide (256 < l.length)) 5 = 0 := by rw [decide_eq_false (by omega)]; rfl
    have e5 : first (wf16 l) = 0 := (first_zero_iff _).2 fun x hx => by
      obtain ⟨y, hy, rfl⟩ := List.mem_map.1 hx
      exact within_zero.2 (h5 y hy)
    have e6 : whenE (decide (10000000 < f + (l.length : Int))) 4 = 0 := by rw [decide_eq_false (by omega)]; rfl
    rw [e1, e2, e3, e4, e5, e6]
    rfl
/-- The loop that writes the frames' records. -/
def h21 : Hints := ⟨fun f k s => match f, k with
  | 21, 9 => match listAs s 47 (.int .i64), listAs s 5 (.int .u8) with
    | some xs, some out => some ⟨Nat, fun i => ⟨[tI 49 i, (5, .val (.one (.own s.nx)))] ++ keepT [1, 47, 48] s.tm, (s.nx, some (.row (.int .u8) (out ++ recs xs i))) :: lessO s [5], s.nx + 1, s.lr⟩, fun i => i ≤ List.length xs, fun i => List.length xs - i⟩
    | _, _ => none
  | _, _ => none⟩
end Go.Sx

/- What the engine asks, written out (printed by a program). -/
namespace Go.Sx
open U
theorem vc21 (nm : List UInt8) (f : Int) (l : List Int) : exF (env false [(71, sp71), (73, sp73), (74, sp74)] [fb72]) h21 3 21 Proofs.Tryd.f21 [rV nm f l] (.tup [.one (.frs (.int .u8) (stream nm f l)), iV 0]) = (List.length l ≤ (1000000 : Nat) ∧ splitB (checkReel nm f l != (0 : Int)) (stream nm f l = [] ∧ checkReel nm f l = (0 : Int) ∧ True) (((0 : Int) ≤ (0 : Int) ∧ (0 : Int) ≤ (4 : Int) ∧ (4 : Int) ≤ (4 : Int)) ∧ ∀ (b : Bool), (b = true → (4 : Nat) = (0 : Nat)) → splitB (b != false) (room (1 : Nat) (1 : Nat) ∧ room ((1 : Nat) + List.length nm) (1 : Nat) ∧ ((0 : Int) ≤ (24 : Int) ∧ (24 : Nat) ≤ IntKind.bits IntKind.i64) ∧ ((0 : Int) ≤ (16 : Int) ∧ (16 : Nat) ≤ IntKind.bits IntKind.i64) ∧ ((0 : Int) ≤ (8 : Int) ∧ (8 : Nat) ≤ IntKind.bits IntKind.i64) ∧ room (List.length ([(↑(List.length nm) : Int) % (256 : Int)] ++ strNs nm) + (4 : Nat)) (1 : Nat) ∧ (∃ (g : Nat), Nat.le g (List.length l) ∧ (0 : Int) = (↑g : Int) ∧ (↑(List.length l) : Int) = (↑(List.length l) : Int) ∧ l = l ∧ [(↑(List.length nm) : Int) % (256 : Int)] ++ strNs nm ++ [f / (16777216 : Int) % (256 : Int), f / (65536 : Int) % (256 : Int), f / (256 : Int) % (256 : Int), f % (256 : Int)] = [(↑(List.length nm) : Int) % (256 : Int)] ++ strNs nm ++ [f / (16777216 : Int) % (256 : Int), f / (65536 : Int) % (256 : Int), f / (256 : Int) % (256 : Int), f % (256 : Int)] ++ recs l g ∧ [f / (16777216 : Int) % (256 : Int), f / (65536 : Int) % (256 : Int), f / (256 : Int) % (256 : Int), f % (256 : Int)] = [f / (16777216 : Int) % (256 : Int), f / (65536 : Int) % (256 : Int), f / (256 : Int) % (256 : Int), f % (256 : Int)] ∧ [(↑(List.length nm) : Int) % (256 : Int)] = [(↑(List.length nm) : Int) % (256 : Int)] ∧ nm = nm ∧ f = f ∧ l = l ∧ True) ∧ ∀ (g : Nat), Nat.le g (List.length l) → splitB (decide ((↑g : Int) < (↑(List.length l) : Int))) (((0 : Int) ≤ (↑g : Int) ∧ (↑g : Int) < (↑(List.length l) : Int)) ∧ (((0 : Int) ≤ (↑g : Int) ∧ (↑g : Int) ≤ (1000000 : Int)) ∧ (0 : Int) ≤ List.getD l g (0 : Int) ∧ List.getD l g (0 : Int) ≤ (1000000 : Int)) ∧ ((0 : Int) ≤ (0 : Int) ∧ (0 : Int) ≤ (5 : Int) ∧ (5 : Int) ≤ (5 : Int)) ∧ List.length (List.take (5 : Nat) (tframe (↑g : Int) (List.getD l g (0 : Int)))) = (5 : Nat) ∧ room (List.length ([(↑(List.length nm) : Int) % (256 : Int)] ++ strNs nm ++ [f / (16777216 : Int) % (256 : Int), f / (65536 : Int) % (256 : Int), f / (256 : Int) % (256 : Int), f % (256 : Int)] ++ recs l g) + List.length (List.take (5 : Nat) (tframe (↑g : Int) (List.getD l g (0 : Int))))) (1 : Nat) ∧ fits IntKind.i64 ((↑g : Int) + (1 : Int)) ∧ ∃ (g' : Nat), Nat.le g' (List.length l) ∧ List.length l - g' < List.length l - g ∧ (↑g : Int) + (1 : Int) = (↑g' : Int) ∧ (↑(List.length l) : Int) = (↑(List.length l) : Int) ∧ l = l ∧ [(↑(List.length nm) : Int) % (256 : Int)] ++ strNs nm ++ [f / (16777216 : Int) % (256 : Int), f / (65536 : Int) % (256 : Int), f / (256 : Int) % (256 : Int), f % (256 : Int)] ++ recs l g ++ List.take (5 : Nat) (tframe (↑g : Int) (List.getD l g (0 : Int))) = [(↑(List.length nm) : Int) % (256 : Int)] ++ strNs nm ++ [f / (16777216 : Int) % (256 : Int), f / (65536 : Int) % (256 : Int), f / (256 : Int) % (256 : Int), f % (256 : Int)] ++ recs l g' ∧ [f / (16777216 : Int) % (256 : Int), f / (65536 : Int) % (256 : Int), f / (256 : Int) % (256 : Int), f % (256 : Int)] = [f / (16777216 : Int) % (256 : Int), f / (65536 : Int) % (256 : Int), f / (256 : Int) % (256 : Int), f % (256 : Int)] ∧ [(↑(List.length nm) : Int) % (256 : Int)] = [(↑(List.length nm) : Int) % (256 : Int)] ∧ nm = nm ∧ f = f ∧ l = l ∧ True) ((List.length l ≤ (1000000 : Nat) ∧ ∀ (x : Int), x ∈ l → (0 : Int) ≤ x ∧ x ≤ (65535 : Int)) ∧ ((0 : Int) ≤ (0 : Int) ∧ (0 : Int) ≤ (5 : Int) ∧ (5 : Int) ≤ (5 : Int)) ∧ List.length (List.take (5 : Nat) (tlast l)) = (5 : Nat) ∧ room (List.length ([(↑(List.length nm) : Int) % (256 : Int)] ++ strNs nm ++ [f / (16777216 : Int) % (256 : Int), f / (65536 : Int) % (256 : Int), f / (256 : Int) % (256 : Int), f % (256 : Int)] ++ recs l g) + List.length (List.take (5 : Nat) (tlast l))) (1 : Nat) ∧ [(↑(List.length nm) : Int) % (256 : Int)] ++ strNs nm ++ [f / (16777216 : Int) % (256 : Int), f / (65536 : Int) % (256 : Int), f / (256 : Int) % (256 : Int), f % (256 : Int)] ++ recs l g ++ List.take (5 : Nat) (tlast l) = stream nm f l ∧ (0 : Int) = (0 : Int) ∧ True)) (room (4 : Nat) (1 : Nat) ∧ room (5 : Nat) (1 : Nat) ∧ room (List.length ([(82 : Int), (69 : Int), (69 : Int), (76 : Int)] ++ [(↑(List.length nm) : Int) % (256 : Int)]) + List.length nm) (1 : Nat) ∧ ((0 : Int) ≤ (24 : Int) ∧ (24 : Nat) ≤ IntKind.bits IntKind.i64) ∧ ((0 : Int) ≤ (16 : Int) ∧ (16 : Nat) ≤ IntKind.bits IntKind.i64) ∧ ((0 : Int) ≤ (8 : Int) ∧ (8 : Nat) ≤ IntKind.bits IntKind.i64) ∧ room (List.length ([(82 : Int), (69 : Int), (69 : Int), (76 : Int)] ++ [(↑(List.length nm) : Int) % (256 : Int)] ++ strNs nm) + (4 : Nat)) (1 : Nat) ∧ (∃ (g : Nat), Nat.le g (List.length l) ∧ (0 : Int) = (↑g : Int) ∧ (↑(List.length l) : Int) = (↑(List.length l) : Int) ∧ l = l ∧ [(82 : Int), (69 : Int), (69 : Int), (76 : Int)] ++ [(↑(List.length nm) : Int) % (256 : Int)] ++ strNs nm ++ [f / (16777216 : Int) % (256 : Int), f / (65536 : Int) % (256 : Int), f / (256 : Int) % (256 : Int), f % (256 : Int)] = [(82 : Int), (69 : Int), (69 : Int), (76 : Int)] ++ [(↑(List.length nm) : Int) % (256 : Int)] ++ strNs nm ++ [f / (16777216 : Int) % (256 : Int), f / (65536 : Int) % (256 : Int), f / (256 : Int) % (256 : Int), f % (256 : Int)] ++ recs l g ∧ [f / (16777216 : Int) % (256 : Int), f / (65536 : Int) % (256 : Int), f / (256 : Int) % (256 : Int), f % (256 : Int)] = [f / (16777216 : Int) % (256 : Int), f / (65536 : Int) % (256 : Int), f / (256 : Int) % (256 : Int), f % (256 : Int)] ∧ [(↑(List.length nm) : Int) % (256 : Int)] = [(↑(List.length nm) : Int) % (256 : Int)] ∧ nm = nm ∧ f = f ∧ l = l ∧ True) ∧ ∀ (g : Nat), Nat.le g (List.length l) → splitB (decide ((↑g : Int) < (↑(List.length l) : Int))) (((0 : Int) ≤ (↑g : Int) ∧ (↑g : Int) < (↑(List.length l) : Int)) ∧ (((0 : Int) ≤ (↑g : Int) ∧ (↑g : Int) ≤ (1000000 : Int)) ∧ (0 : Int) ≤ List.getD l g (0 : Int) ∧ List.getD l g (0 : Int) ≤ (1000000 : Int)) ∧ ((0 : Int) ≤ (0 : Int) ∧ (0 : Int) ≤ (5 : Int) ∧ (5 : Int) ≤ (5 : Int)) ∧ List.length (List.take (5 : Nat) (tframe (↑g : Int) (List.getD l g (0 : Int)))) = (5 : Nat) ∧ room (List.length ([(82 : Int), (69 : Int), (69 : Int), (76 : Int)] ++ [(↑(List.length nm) : Int) % (256 : Int)] ++ strNs nm ++ [f / (16777216 : Int) % (256 : Int), f / (65536 : Int) % (256 : Int), f / (256 : Int) % (256 : Int), f % (256 : Int)] ++ recs l g) + List.length (List.take (5 : Nat) (tframe (↑g : Int) (List.getD l g (0 : Int))))) (1 : Nat) ∧ fits IntKind.i64 ((↑g : Int) + (1 : Int)) ∧ ∃ (g' : Nat), Nat.le g' (List.length l) ∧ List.length l - g' < List.length l - g ∧ (↑g : Int) + (1 : Int) = (↑g' : Int) ∧ (↑(List.length l) : Int) = (↑(List.length l) : Int) ∧ l = l ∧ [(82 : Int), (69 : Int), (69 : Int), (76 : Int)] ++ [(↑(List.length nm) : Int) % (256 : Int)] ++ strNs nm ++ [f / (16777216 : Int) % (256 : Int), f / (65536 : Int) % (256 : Int), f / (256 : Int) % (256 : Int), f % (256 : Int)] ++ recs l g ++ List.take (5 : Nat) (tframe (↑g : Int) (List.getD l g (0 : Int))) = [(82 : Int), (69 : Int), (69 : Int), (76 : Int)] ++ [(↑(List.length nm) : Int) % (256 : Int)] ++ strNs nm ++ [f / (16777216 : Int) % (256 : Int), f / (65536 : Int) % (256 : Int), f / (256 : Int) % (256 : Int), f % (256 : Int)] ++ recs l g' ∧ [f / (16777216 : Int) % (256 : Int), f / (65536 : Int) % (256 : Int), f / (256 : Int) % (256 : Int), f % (256 : Int)] = [f / (16777216 : Int) % (256 : Int), f / (65536 : Int) % (256 : Int), f / (256 : Int) % (256 : Int), f % (256 : Int)] ∧ [(↑(List.length nm) : Int) % (256 : Int)] = [(↑(List.length nm) : Int) % (256 : Int)] ∧ nm = nm ∧ f = f ∧ l = l ∧ True) ((List.length l ≤ (1000000 : Nat) ∧ ∀ (x : Int), x ∈ l → (0 : Int) ≤ x ∧ x ≤ (65535 : Int)) ∧ ((0 : Int) ≤ (0 : Int) ∧ (0 : Int) ≤ (5 : Int) ∧ (5 : Int) ≤ (5 : Int)) ∧ List.length (List.take (5 : Nat) (tlast l)) = (5 : Nat) ∧ room (List.length ([(82 : Int), (69 : Int), (69 : Int), (76 : Int)] ++ [(↑(List.length nm) : Int) % (256 : Int)] ++ strNs nm ++ [f / (16777216 : Int) % (256 : Int), f / (65536 : Int) % (256 : Int), f / (256 : Int) % (256 : Int), f % (256 : Int)] ++ recs l g) + List.length (List.take (5 : Nat) (tlast l))) (1 : Nat) ∧ [(82 : Int), (69 : Int), (69 : Int), (76 : Int)] ++ [(↑(List.length nm) : Int) % (256 : Int)] ++ strNs nm ++ [f / (16777216 : Int) % (256 : Int), f / (65536 : Int) % (256 : Int), f / (256 : Int) % (256 : Int), f % (256 : Int)] ++ recs l g ++ List.take (5 : Nat) (tlast l) = stream nm f l ∧ (0 : Int) = (0 : Int) ∧ True)))) := by
  kernel_rfl
end Go.Sx

/- Contracts: Taped. -/
namespace Go.Sx
open U

theorem tframe_len (i c : Int) : (tframe i c).length = 5 := rfl
theorem tlast_len (l : List Int) : (tlast l).length = 5 := rfl
theorem recs_len (l : List Int) : ∀ n, (recs l n).length = 5 * n
  | 0 => rfl
  | n + 1 => by simp only [recs, List.length_append, recs_len l n, tframe_len]; omega
theorem strNs_len (l : List UInt8) : (strNs l).length = l.length := by simp [strNs]
theorem isName_len {nm : List UInt8} (h : isName nm = true) : nm.length ≤ 24 ∧ nm ≠ [] := by
  unfold isName at h
  simp only [Bool.and_eq_true, decide_eq_true_eq] at h
  exact ⟨h.2.2, h.2.1⟩

theorem fn21 (nm : List UInt8) (f : Int) (l : List Int) (h : ReelOk nm f l) : Fn P1 gl1 21 [rV nm f l] (.tup [.one (.frs (.int .u8) (stream nm f l)), iV 0]) true := by
  refine Fn.flat ?_ rfl
  refine fn_of false [(71, sp71), (73, sp73), (74, sp74)] [fb72] h21 3 Proofs.Tryd.f21 ⟨so71, so73, so74, trivial⟩ ⟨⟨by kernel_rfl, by kernel_rfl, _, rfl, by kernel_rfl⟩, trivial⟩ (by kernel_rfl) rfl (by kernel_rfl) rfl rfl rfl ?_
  rw [vc21]
  try simp only [splitB_iff, -eq_self]
  have hlen := h.len
  have hz : checkReel nm f l = 0 := checkReel_zero.2 h
  have hnm := isName_len h.name
  refine ⟨by omega, fun h1 => ?_, fun _ => ⟨by decide, fun b hb => ⟨fun h1 => ?_, fun _ => ?_⟩⟩⟩
  · rw [hz] at h1; cases h1
  · cases b with
    | true => exact absurd (hb rfl) (by decide)
    | false => cases h1
  · have hr : ∀ g, g ≤ l.length → ([(82 : Int), 69, 69, 76] ++ [(nm.length : Int) % 256] ++ strNs nm ++ [f / 16777216 % 256, f / 65536 % 256, f / 256 % 256, f % 256] ++ recs l g).length ≤ 2000 := by
      intro g hg
      simp only [List.length_append, recs_len, strNs_len, List.length_cons, List.length_nil]
      omega
    refine ⟨by simp only [room]; omega, by simp only [room]; omega, ?_, by decide, by decide, by decide, ?_, ⟨0, Nat.zero_le _, rfl, rfl, rfl, by simp [recs], rfl, rfl, rfl, rfl, rfl, trivial⟩, fun g hg => ⟨fun hlt => ?_, fun hge => ?_⟩⟩
    · simp only [room, List.length_append, List.length_cons, List.length_nil]; omega
    · simp only [room, List.length_append, List.length_cons, List.length_nil, strNs_len]; omega
    · have hlt' : g < l.length := by simpa using hlt
      have hx := h.w _ (List.getElem_mem hlt')
      have h5 := hr g hg
      rw [getD_of hlt']
      have e5 : List.take 5 (tframe (g : Int) l[g]) = tframe (g : Int) l[g] := rfl
      rw [e5]
      refine ⟨by omega, by omega, by decide, rfl, ?_, by simp only [fits]; omega, g + 1, hlt', by omega, by simp, rfl, rfl, ?_, rfl, rfl, rfl, rfl, rfl, trivial⟩
      · simp only [room, tframe_len]; omega
      · simp only [recs, getD_of hlt', List.append_assoc]
    · have hge' : ¬ g < l.length := by simpa using hge
      have e : g = l.length := by have : g ≤ l.length := hg; omega
      subst e
      have h5 := hr l.length hg
      have e5 : List.take 5 (tlast l) = tlast l := rfl
      rw [e5]
      refine ⟨⟨by omega, h.w⟩, by decide, rfl, ?_, rfl, rfl, trivial⟩
      simp only [room, tlast_len]; omega
def sp21 : FSpec := ⟨fun vs => match vs with
  | [.agg [.one (.str nm), .one (.int .i64 f), .one (.sl (.int .i64) l)]] => some ([ReelOk nm f l], .tup [.one (.frs (.int .u8) (stream nm f l)), iV 0])
  | _ => none, true⟩
theorem so21_ : SpecOk P1 gl1 21 sp21 := by
  intro vs ps r h hp
  simp only [sp21] at h
  split at h
  · cases h
    exact fn21 _ _ _ (hp _ (List.mem_singleton.2 rfl))
  · cases h
theorem so21 : Sp1 21 sp21 := ⟨so21_, Proofs.Tryd.f21, _, by kernel_rfl, rfl, by kernel_rfl⟩
end Go.Sx

/- Plain functions and hints: Read and Rebuilt. -/
namespace Go.Sx.U
/-- The beginning of a stream: the error, the name, the first number, what is left. -/
def rdBegin (s : List Int) : Int × List UInt8 × Int × List Int :=
  if s.length < 4 then (28, [], 0, []) else
  if s.take 4 = [82, 69, 69, 76] then
    if (s.drop 4).length < 1 then (28, [], 0, []) else
    if ((s.drop 4).drop 1).length < ((s.drop 4).getD 0 0).toNat then (28, [], 0, []) else
    if plain (bytesOf (((s.drop 4).drop 1).take ((s.drop 4).getD 0 0).toNat)) && isName (bytesOf (((s.drop 4).drop 1).take ((s.drop 4).getD 0 0).toNat)) then
      if (((s.drop 4).drop 1).drop ((s.drop 4).getD 0 0).toNat).length < 4 then (28, [], 0, []) else
      (whenE (decide (10000000 < number ((((s.drop 4).drop 1).drop ((s.drop 4).getD 0 0).toNat).take 4))) 1, bytesOf (((s.drop 4).drop 1).take ((s.drop 4).getD 0 0).toNat),
        number ((((s.drop 4).drop 1).drop ((s.drop 4).getD 0 0).toNat).take 4), (((s.drop 4).drop 1).drop ((s.drop 4).getD 0 0).toNat).drop 4)
    else (1, [], 0, [])
  else (1, [], 0, [])
/-- The check in a record. -/
def chk (r : List Int) (j : Nat) : Int := number (((r.drop (5 * j)).drop 1).take 2)
def chks (r : List Int) (i : Nat) : List Int := (List.range i).map (chk r)
/-- The next record, behind some frames: the error, whether it is the last one, the check. -/
def recErr (k : Int) (n : Nat) : Int := first [whenE (!(k == 69) && (k != 70)) 1, whenE (!(k == 69) && ((n : Int) == 256)) 5]
def rdRec (s : List Int) (l : List Int) : Int × Bool × Int :=
  if s.length < 1 then (28, false, 0) else
  if recErr (s.getD 0 0) l.length = 0 then
    if s.length < 5 then (28, false, 0) else
    (whenE (!decide (s.take 5 = if (s.getD 0 0 == 69) = true then tlast l else tframe l.length (number ((s.drop 1).take 2)))) 27, s.getD 0 0 == 69, number ((s.drop 1).take 2))
  else (recErr (s.getD 0 0) l.length, false, 0)
/-- The records: the error, the checks, what is left. -/
def rdAll : Nat → List Int → List Int → Int × List Int × List Int
  | 0, s, l => (28, l, s)
  | n + 1, s, l => if (rdRec s l).1 = 0 then (if (rdRec s l).2.1 then (0, l, s.drop 5) else rdAll n (s.drop 5) (l ++ [(rdRec s l).2.2])) else ((rdRec s l).1, l, s)
def readS (s : List Int) : (List UInt8 × Int × List Int) × Int :=
  if (rdBegin s).1 = 0 then
    if (rdAll (s.length + 1) (rdBegin s).2.2.2 []).1 = 0 then
      if first [whenE (decide (0 < (rdAll (s.length + 1) (rdBegin s).2.2.2 []).2.2.length)) 23, checkReel (rdBegin s).2.1 (rdBegin s).2.2.1 (rdAll (s.length + 1) (rdBegin s).2.2.2 []).2.1] = 0 then
        (((rdBegin s).2.1, (rdBegin s).2.2.1, (rdAll (s.length + 1) (rdBegin s).2.2.2 []).2.1), 0)
      else (([], 0, []), first [whenE (decide (0 < (rdAll (s.length + 1) (rdBegin s).2.2.2 []).2.2.length)) 23, checkReel (rdBegin s).2.1 (rdBegin s).2.2.1 (rdAll (s.length + 1) (rdBegin s).2.2.2 []).2.1])
    else (([], 0, []), (rdAll (s.length + 1) (rdBegin s).2.2.2 []).1)
  else (([], 0, []), (rdBegin s).1)
/-- The checks that are rebuilt. -/
def rbAll (f : Int) : Nat → List Int → List Int → List Int
  | 0, _, l => l
  | n + 1, s, l => if (rdRec s l).1 = 0 ∧ (rdRec s l).2.1 = false ∧ f + (l.length : Int) < 10000000 then rbAll f n (s.drop 5) (l ++ [(rdRec s l).2.2]) else l
def rebuilt (s : List Int) : (List UInt8 × Int × List Int) × Bool × Int :=
  if (rdBegin s).1 = 0 then
    if (rbAll (rdBegin s).2.2.1 (s.length + 1) (rdBegin s).2.2.2 []).length = 0 then (([], 0, []), false, 12)
    else (((rdBegin s).2.1, (rdBegin s).2.2.1, rbAll (rdBegin s).2.2.1 (s.length + 1) (rdBegin s).2.2.2 []), decide ((readS s).2 = 0), 0)
  else (([], 0, []), false, (rdBegin s).1)
end Go.Sx.U
namespace Go.Sx
open U
def boxAt (s : St) (t : Nat) : Option (Nat × List Ch) := match lookT s.tm t with
  | some (.val (.one (.ptr id 0))) => match lookO s.ob id with
    | some (.box cs) => some (id, cs)
    | _ => none
  | _ => none
/-- The loop over the records: the temporaries of the reader, of the reel and of the result; what is kept. -/
def hRecs (tr tl t2 : Nat) (keep : List Nat) (q : List Int → List UInt8 → Int → Nat → Prop) (s : St) : Option LInv := match boxAt s tr, boxAt s tl, boxAt s t2 with
  | some (ir, [.one (.sl (.int .u8) r)]), some (il, [.one (.str nm), .one (.int .i64 f), _]), some (i2, c2) =>
    some ⟨Nat, fun i => ⟨keepT (tr :: tl :: t2 :: keep) s.tm, [(i2, some (.box c2)), (ir, some (.box [.one (.sl (.int .u8) (List.drop (5 * i) r))])), (il, some (.box [.one (.str nm), .one (.int .i64 f), .one (.own s.nx)])), (s.nx, some (.row (.int .i64) (chks r i)))], s.nx + 1, s.lr⟩,
      fun i => 5 * i ≤ List.length r ∧ i ≤ 256 ∧ q r nm f i, fun i => List.length r - 5 * i⟩
  | _, _, _ => none
/-- What holds at a turn of the loop over the records. -/
def rdAt (r : List Int) (_ : List UInt8) (_ : Int) (i : Nat) : Prop := ∀ n, rdAll (n + i) r [] = rdAll n (List.drop (5 * i) r) (chks r i)
def rbAt (r : List Int) (_ : List UInt8) (f : Int) (i : Nat) : Prop := ∀ n, rbAll f (n + i) r [] = rbAll f n (List.drop (5 * i) r) (chks r i)
def h23 : Hints := ⟨fun f k s => match f, k with
  | 23, 5 => hRecs 4 5 2 [] rdAt s
  | _, _ => none⟩
def h22 : Hints := ⟨fun f k s => match f, k with
  | 22, 5 => hRecs 5 6 2 [0] rbAt s
  | _, _ => none⟩
@[reducible] def rfV (nm : List UInt8) (f : Int) (l : List Int) : V := .agg [.one (.str nm), .one (.int .i64 f), .one (.frs (.int .i64) l)]
@[reducible] noncomputable def fb75 : Nat × Func := (75, Proofs.Tryd.f75)
@[reducible] noncomputable def fb76 : Nat × Func := (76, Proofs.Tryd.f76)
@[reducible] noncomputable def fb126 : Nat × Func := (126, Proofs.Tryd.f126)
end Go.Sx
