/- A verified symbolic run of functions, part 18: lemmas, no claim of their own. -/
import Derived.Test.YtpfngnmgipnmlaaDoorS17
/- What the engine asks, written out (printed by a program). -/
namespace Go.Sx
open U
theorem vc79 (b : Bool) (e : Int) : exF (env false [] []) h0 0 79 Proofs.Tryd.f79 [bV b, iV e] (.val (iV (U.whenE b e))) = (splitB b (e = whenE b e ∧ True) ((0 : Int) = whenE b e ∧ True)) := by
  kernel_rfl
theorem vc122 (n lo hi : Int) : exF (env false [] [fb79]) h0 1 122 Proofs.Tryd.f122 [iV n, iV lo, iV hi] (.val (iV (U.within n lo hi))) = (splitB (bif decide (n < lo) then true else decide (hi < n)) ((3 : Int) = within n lo hi ∧ True) ((0 : Int) = within n lo hi ∧ True)) := by
  kernel_rfl
theorem vc78 (xs : List Int) : exF (env false [] []) h78 0 78 Proofs.Tryd.f78 [.one (.sl (.int .i64) xs)] (.val (iV (U.first xs))) = ((∃ (g : Nat), (g ≤ List.length xs ∧ first xs = first (List.drop g xs)) ∧ (0 : Int) = (↑g : Int) ∧ (↑(List.length xs) : Int) = (↑(List.length xs) : Int) ∧ xs = xs ∧ True) ∧ ∀ (g : Nat), g ≤ List.length xs ∧ first xs = first (List.drop g xs) → splitB (decide ((↑g : Int) < (↑(List.length xs) : Int))) (((0 : Int) ≤ (↑g : Int) ∧ (↑g : Int) < (↑(List.length xs) : Int)) ∧ splitB (List.getD xs g (0 : Int) != (0 : Int)) (List.getD xs g (0 : Int) = first xs ∧ True) (fits IntKind.i64 ((↑g : Int) + (1 : Int)) ∧ ∃ (g' : Nat), (g' ≤ List.length xs ∧ first xs = first (List.drop g' xs)) ∧ List.length xs - g' < List.length xs - g ∧ (↑g : Int) + (1 : Int) = (↑g' : Int) ∧ (↑(List.length xs) : Int) = (↑(List.length xs) : Int) ∧ xs = xs ∧ True)) ((0 : Int) = first xs ∧ True)) := by
  kernel_rfl
theorem vc121 (l : List UInt8) : exF (env false [] []) h121 0 121 Proofs.Tryd.f121 [sV l] (.val (bV (U.isName l))) = ((∃ (g : Nat), (g ≤ List.length l ∧ ∀ (j : Nat), j < g → nameAt l j = true) ∧ l = l ∧ (l = l ∧ (0 : Nat) = g) ∧ True) ∧ ∀ (g : Nat), (g ≤ List.length l ∧ ∀ (j : Nat), j < g → nameAt l j = true) → (List.length l ≤ g → (bif l != Array.toList (ByteArray.data { data := #[] }) then decide ((↑(List.length l) : Int) ≤ (24 : Int)) else false) = isName l ∧ True) ∧ ∀ (c w : Nat), g < List.length l ∧ (UInt8.toNat (List.getD l g (0 : UInt8)) < (128 : Nat) → c = UInt8.toNat (List.getD l g (0 : UInt8)) ∧ w = (1 : Nat)) ∧ ((128 : Nat) ≤ UInt8.toNat (List.getD l g (0 : UInt8)) → (128 : Nat) ≤ c ∧ (1 : Nat) ≤ w) → splitB (bif !bif bif decide ((65 : Int) ≤ (↑c : Int)) then decide ((↑c : Int) ≤ (90 : Int)) else false then true else bif decide ((97 : Int) ≤ (↑c : Int)) then decide ((↑c : Int) ≤ (122 : Int)) else false then bif (↑g : Int) == (0 : Int) then true else bif bif decide ((↑c : Int) < (48 : Int)) then true else decide ((57 : Int) < (↑c : Int)) then (↑c : Int) != (95 : Int) else false else false) (false = isName l ∧ True) (∃ (g' : Nat), (g' ≤ List.length l ∧ ∀ (j : Nat), j < g' → nameAt l j = true) ∧ List.length l - g' < List.length l - g ∧ l = l ∧ (l = l ∧ g + w = g') ∧ True)) := by
  kernel_rfl
theorem vc127 (l : List UInt8) : exF (env false [] []) h127 0 127 Proofs.Tryd.f127 [sV l] (.val (bV (U.plain l))) = ((∃ (g : Nat), (g ≤ List.length l ∧ ∀ (j : Nat), j < g → UInt8.toNat (List.getD l j (0 : UInt8)) < (128 : Nat)) ∧ l = l ∧ (l = l ∧ (0 : Nat) = g) ∧ True) ∧ ∀ (g : Nat), (g ≤ List.length l ∧ ∀ (j : Nat), j < g → UInt8.toNat (List.getD l j (0 : UInt8)) < (128 : Nat)) → (List.length l ≤ g → true = plain l ∧ True) ∧ ∀ (c w : Nat), g < List.length l ∧ (UInt8.toNat (List.getD l g (0 : UInt8)) < (128 : Nat) → c = UInt8.toNat (List.getD l g (0 : UInt8)) ∧ w = (1 : Nat)) ∧ ((128 : Nat) ≤ UInt8.toNat (List.getD l g (0 : UInt8)) → (128 : Nat) ≤ c ∧ (1 : Nat) ≤ w) → splitB (decide ((127 : Int) < (↑c : Int))) (false = plain l ∧ True) (∃ (g' : Nat), (g' ≤ List.length l ∧ ∀ (j : Nat), j < g' → UInt8.toNat (List.getD l j (0 : UInt8)) < (128 : Nat)) ∧ List.length l - g' < List.length l - g ∧ l = l ∧ (l = l ∧ g + w = g') ∧ True)) := by
  kernel_rfl
theorem vc125 (k a b : Int) : exF (env false [] []) h0 0 125 Proofs.Tryd.f125 [uV k, iV a, iV b] (.val (aV 5 (U.record k a b))) = (((0 : Int) ≤ (8 : Int) ∧ (8 : Nat) ≤ IntKind.bits IntKind.i64) ∧ ((0 : Int) ≤ (8 : Int) ∧ (8 : Nat) ≤ IntKind.bits IntKind.i64) ∧ [k, a / (256 : Int) % (256 : Int), a % (256 : Int), b / (256 : Int) % (256 : Int), b % (256 : Int)] = record k a b ∧ True) := by
  kernel_rfl
theorem vc74 (l : List Int) : exF (env false [] [fb125]) h74 1 74 Proofs.Tryd.f74 [.one (.sl (.int .i64) l)] (.val (aV 5 (U.tlast l))) = ((∃ (g : Nat), Nat.le g (List.length l) ∧ (0 : Int) = (↑g : Int) ∧ (0 : Int) = isum (List.take g l) ∧ (↑(List.length l) : Int) = (↑(List.length l) : Int) ∧ l = l ∧ l = l ∧ List.replicate (5 : Nat) (0 : Int) = List.replicate (5 : Nat) (0 : Int) ∧ True) ∧ ∀ (g : Nat), Nat.le g (List.length l) → splitB (decide ((↑g : Int) < (↑(List.length l) : Int))) (((0 : Int) ≤ (↑g : Int) ∧ (↑g : Int) < (↑(List.length l) : Int)) ∧ fits IntKind.i64 (isum (List.take g l) + List.getD l g (0 : Int)) ∧ fits IntKind.i64 ((↑g : Int) + (1 : Int)) ∧ ∃ (g' : Nat), Nat.le g' (List.length l) ∧ List.length l - g' < List.length l - g ∧ (↑g : Int) + (1 : Int) = (↑g' : Int) ∧ isum (List.take g l) + List.getD l g (0 : Int) = isum (List.take g' l) ∧ (↑(List.length l) : Int) = (↑(List.length l) : Int) ∧ l = l ∧ l = l ∧ List.replicate (5 : Nat) (0 : Int) = List.replicate (5 : Nat) (0 : Int) ∧ True) (((0 : Int) ≤ isum (List.take g l) ∧ (0 : Int) < (65521 : Int)) ∧ ((0 : Int) ≤ (8 : Int) ∧ (8 : Nat) ≤ IntKind.bits IntKind.i64) ∧ ((0 : Int) ≤ (8 : Int) ∧ (8 : Nat) ≤ IntKind.bits IntKind.i64) ∧ [(69 : Int), (↑(List.length l) : Int) / (256 : Int) % (256 : Int), (↑(List.length l) : Int) % (256 : Int), isum (List.take g l) % (65521 : Int) / (256 : Int) % (256 : Int), isum (List.take g l) % (65521 : Int) % (256 : Int)] = tlast l ∧ True)) := by
  kernel_rfl
theorem vc73 (i c : Int) : exF (env false [] [fb125]) h0 1 73 Proofs.Tryd.f73 [iV i, iV c] (.val (aV 5 (U.tframe i c))) = (fits IntKind.i64 ((263 : Int) * i) ∧ fits IntKind.i64 ((263 : Int) * i + c) ∧ fits IntKind.i64 ((263 : Int) * ((263 : Int) * i + c)) ∧ fits IntKind.i64 ((263 : Int) * ((263 : Int) * i + c) + (97 : Int)) ∧ ((0 : Int) ≤ (263 : Int) * ((263 : Int) * i + c) + (97 : Int) ∧ (0 : Int) < (65521 : Int)) ∧ ((0 : Int) ≤ (8 : Int) ∧ (8 : Nat) ≤ IntKind.bits IntKind.i64) ∧ ((0 : Int) ≤ (8 : Int) ∧ (8 : Nat) ≤ IntKind.bits IntKind.i64) ∧ [(70 : Int), c / (256 : Int) % (256 : Int), c % (256 : Int), ((263 : Int) * ((263 : Int) * i + c) + (97 : Int)) % (65521 : Int) / (256 : Int) % (256 : Int), ((263 : Int) * ((263 : Int) * i + c) + (97 : Int)) % (65521 : Int) % (256 : Int)] = tframe i c ∧ True) := by
  kernel_rfl
theorem vc128 (s : List Int) : exF (env false [] []) h128 0 128 Proofs.Tryd.f128 [.one (.sl (.int .u8) s)] (.val (iV (U.number s))) = ((∃ (g : Nat), Nat.le g (List.length s) ∧ (0 : Int) = (↑g : Int) ∧ (0 : Int) = number (List.take g s) ∧ (↑(List.length s) : Int) = (↑(List.length s) : Int) ∧ s = s ∧ True) ∧ ∀ (g : Nat), Nat.le g (List.length s) → splitB (decide ((↑g : Int) < (↑(List.length s) : Int))) (((0 : Int) ≤ (↑g : Int) ∧ (↑g : Int) < (↑(List.length s) : Int)) ∧ ((0 : Int) ≤ (8 : Int) ∧ (8 : Nat) ≤ IntKind.bits IntKind.i64 ∧ fits IntKind.i64 (number (List.take g s) * (256 : Int))) ∧ fits IntKind.i64 (List.getD s g (0 : Int)) ∧ fits IntKind.i64 ((↑g : Int) + (1 : Int)) ∧ ∃ (g' : Nat), Nat.le g' (List.length s) ∧ List.length s - g' < List.length s - g ∧ (↑g : Int) + (1 : Int) = (↑g' : Int) ∧ bits BinOp.or IntKind.i64 (number (List.take g s) * (256 : Int)) (List.getD s g (0 : Int)) = number (List.take g' s) ∧ (↑(List.length s) : Int) = (↑(List.length s) : Int) ∧ s = s ∧ True) (number (List.take g s) = number s ∧ True)) := by
  kernel_rfl
theorem vc17 (xs ys : List Int) : exF (env false [] []) h17 0 17 Proofs.Tryd.f17 [.one (.sl (.int .i64) xs), .one (.sl (.int .i64) ys)] (.val (bV (decide (xs = ys)))) = (splitB ((↑(List.length xs) : Int) != (↑(List.length ys) : Int)) (false = decide (xs = ys) ∧ True) ((∃ (g : Nat), (g ≤ List.length xs ∧ List.take g xs = List.take g ys) ∧ (0 : Int) = (↑g : Int) ∧ xs = xs ∧ ys = ys ∧ True) ∧ ∀ (g : Nat), g ≤ List.length xs ∧ List.take g xs = List.take g ys → splitB (decide ((↑g : Int) < (↑(List.length xs) : Int))) (((0 : Int) ≤ (↑g : Int) ∧ (↑g : Int) < (↑(List.length xs) : Int)) ∧ ((0 : Int) ≤ (↑g : Int) ∧ (↑g : Int) < (↑(List.length ys) : Int)) ∧ splitB (List.getD xs g (0 : Int) != List.getD ys g (0 : Int)) (false = decide (xs = ys) ∧ True) (fits IntKind.i64 ((↑g : Int) + (1 : Int)) ∧ ∃ (g' : Nat), (g' ≤ List.length xs ∧ List.take g' xs = List.take g' ys) ∧ List.length xs - g' < List.length xs - g ∧ (↑g : Int) + (1 : Int) = (↑g' : Int) ∧ xs = xs ∧ ys = ys ∧ True)) (true = decide (xs = ys) ∧ True))) := by
  kernel_rfl
end Go.Sx

/- Contracts: tape, the small functions. -/
namespace Go.Sx
open U

theorem fn79 (b : Bool) (e : Int) : Fn P1 gl1 79 [bV b, iV e] (.val (iV (whenE b e))) true := by
  refine Fn.flat ?_ rfl
  refine fn_of false [] [] h0 0 Proofs.Tryd.f79 trivial trivial (by kernel_rfl) rfl (by kernel_rfl) rfl rfl rfl ?_
  rw [vc79]
  try simp only [splitB_iff, -eq_self]
  cases b <;> simp [whenE]

theorem fn122 (n lo hi : Int) : Fn P1 gl1 122 [iV n, iV lo, iV hi] (.val (iV (within n lo hi))) true := by
  refine Fn.flat ?_ rfl
  refine fn_of false [] [fb79] h0 1 Proofs.Tryd.f122 trivial ⟨⟨by kernel_rfl, by kernel_rfl, _, rfl, by kernel_rfl⟩, trivial⟩ (by kernel_rfl) rfl (by kernel_rfl) rfl rfl rfl ?_
  rw [vc122]
  try simp only [splitB_iff, -eq_self]
  unfold within
  by_cases h1 : n < lo <;> by_cases h2 : hi < n <;> simp [h1, h2]

theorem fn78 (xs : List Int) (hl : xs.length ≤ 1000000000) : Fn P1 gl1 78 [.one (.sl (.int .i64) xs)] (.val (iV (first xs))) true := by
  refine Fn.flat ?_ rfl
  refine fn_of false [] [] h78 0 Proofs.Tryd.f78 trivial trivial (by kernel_rfl) rfl (by kernel_rfl) rfl rfl rfl ?_
  rw [vc78]
  try simp only [splitB_iff, -eq_self]
  refine ⟨⟨0, by simp, by simp⟩, fun g hg => ⟨fun hlt => ?_, fun hge => ?_⟩⟩
  · have hlt' : g < xs.length := by simpa using hlt
    rw [getD_of hlt', hg.2, first_drop xs g hlt']
    refine ⟨by omega, fun h => ?_, fun h => ⟨by simp only [fits]; omega, g + 1, ⟨by omega, ?_⟩, by omega, by simp⟩⟩
    · rw [if_neg (by simpa using h)]; simp
    · rw [if_pos (by simpa using h)]
  · have hge' : ¬ g < xs.length := by simpa using hge
    rw [hg.2, List.drop_of_length_le (by omega)]
    simp [first]

theorem isName_of {l : List UInt8} (h : ∀ j, j < l.length → nameAt l j = true) : isName l = (decide (l ≠ []) && decide (l.length ≤ 24)) := by
  unfold isName
  have : (List.range l.length).all (nameAt l) = true := by
    rw [List.all_eq_true]
    intro j hj
    exact h j (List.mem_range.1 hj)
  rw [this]; rfl

theorem isName_not {l : List UInt8} {j : Nat} (hj : j < l.length) (h : nameAt l j = false) : isName l = false := by
  unfold isName
  have : (List.range l.length).all (nameAt l) = false := by
    rw [List.all_eq_false]
    exact ⟨j, List.mem_range.2 hj, by simp [h]⟩
  rw [this]; rfl

/-- The rune at a place of a name. -/
theorem rune_name {l : List UInt8} {g c w : Nat} (h : (UInt8.toNat (List.getD l g (0 : UInt8)) < 128 → c = UInt8.toNat (List.getD l g (0 : UInt8)) ∧ w = 1) ∧ (128 ≤ UInt8.toNat (List.getD l g (0 : UInt8)) → 128 ≤ c ∧ 1 ≤ w)) :
    (bif !bif bif decide ((65 : Int) ≤ (c : Int)) then decide ((c : Int) ≤ (90 : Int)) else false then true else bif decide ((97 : Int) ≤ (c : Int)) then decide ((c : Int) ≤ (122 : Int)) else false then bif (g : Int) == (0 : Int) then true else bif bif decide ((c : Int) < (48 : Int)) then true else decide ((57 : Int) < (c : Int)) then (c : Int) != (95 : Int) else false else false) = !nameAt l g := by
  unfold nameAt
  generalize UInt8.toNat (List.getD l g 0) = b at *
  have e0 : ((g : Int) == 0) = decide (g = 0) := by
    by_cases hg : g = 0 <;> simp [hg]
  have e95 : ((c : Int) != 95) = decide (c ≠ 95) := by
    by_cases hg : c = 95
    · subst hg; rfl
    · simp [hg]; omega
  rw [e0, e95]
  have key : ∀ (p1 p2 p3 p4 p5 p6 p7 p8 : Bool), (bif !bif bif p1 then p2 else false then true else bif p3 then p4 else false then bif p5 then true else bif bif p6 then true else p7 then p8 else false else false) = !((p1 && p2) || (p3 && p4) || (!p5 && ((!p6 && !p7) || !p8))) := by decide
  rw [key]
  congr 1
  have hb : (bne g 0) = !decide (g = 0) := by by_cases hg : g = 0 <;> simp [hg]
  rw [hb]
  by_cases hlt : b < 128
  · obtain ⟨rfl, _⟩ := h.1 hlt
    have f1 : decide ((65 : Int) ≤ (c : Int)) = decide (65 ≤ c) := decide_eq_decide.2 (by omega)
    have f2 : decide ((c : Int) ≤ 90) = decide (c ≤ 90) := decide_eq_decide.2 (by omega)
    have f3 : decide ((97 : Int) ≤ (c : Int)) = decide (97 ≤ c) := decide_eq_decide.2 (by omega)
    have f4 : decide ((c : Int) ≤ 122) = decide (c ≤ 122) := decide_eq_decide.2 (by omega)
    have f5 : (!decide ((c : Int) < 48)) = decide (48 ≤ c) := by rw [← decide_not]; exact decide_eq_decide.2 (by omega)
    have f6 : (!decide ((57 : Int) < (c : Int))) = decide (c ≤ 57) := by rw [← decide_not]; exact decide_eq_decide.2 (by omega)
    have f7 : (!decide (c ≠ 95)) = (c == 95) := by by_cases h95 : c = 95 <;> simp [h95]
    rw [f1, f2, f3, f4, f5, f6, f7]
  · obtain ⟨hc, _⟩ := h.2 (by omega)
    have f1 : decide ((c : Int) ≤ 90) = false := by simp; omega
    have f2 : decide ((c : Int) ≤ 122) = false := by simp; omega
    have f3 : decide ((57 : Int) < (c : Int)) = true := by simp; omega
    have f4 : decide (c ≠ 95) = true := by simp; omega
    have f5 : decide (b ≤ 90) = false := by simp; omega
    have f6 : decide (b ≤ 122) = false := by simp; omega
    have f7 : decide (b ≤ 57) = false := by simp; omega
    have f8 : (b == 95) = false := by simp; omega
    rw [f1, f2, f3, f4, f5, f6, f7, f8]
    simp

theorem fn121 (l : List UInt8) : Fn P1 gl1 121 [sV l] (.val (bV (isName l))) true := by
  refine Fn.flat ?_ rfl
  refine fn_of false [] [] h121 0 Proofs.Tryd.f121 trivial trivial (by kernel_rfl) rfl (by kernel_rfl) rfl rfl rfl ?_
  rw [vc121]
  try simp only [splitB_iff, -eq_self]
  refine ⟨⟨0, ⟨Nat.zero_le _, fun j hj => absurd hj (Nat.not_lt_zero _)⟩, rfl, ⟨rfl, rfl⟩, trivial⟩, fun g hg => ⟨fun hge => ⟨?_, trivial⟩, fun c w hc => ⟨fun h => ⟨?_, trivial⟩, fun h => ?_⟩⟩⟩
  · have e : g = l.length := by omega
    subst e
    rw [isName_of hg.2]
    show (bif l != [] then _ else _) = _
    cases l with
    | nil => rfl
    | cons a t =>
      have : ((((a :: t).length : Nat) : Int) ≤ 24) = ((a :: t).length ≤ 24) := by simp only [eq_iff_iff]; omega
      simp only [this]
      rfl
  · rw [rune_name hc.2] at h
    rw [isName_not hc.1 (by simpa using h)]
  · rw [rune_name hc.2] at h
    have hn : nameAt l g = true := by simpa using h
    have hw : w = 1 := by
      by_cases hlt : UInt8.toNat (List.getD l g 0) < 128
      · exact (hc.2.1 hlt).2
      · exfalso
        have h9 := hn
        unfold nameAt at h9
        generalize UInt8.toNat (List.getD l g 0) = b at *
        simp only [Bool.or_eq_true, Bool.and_eq_true, decide_eq_true_eq, beq_iff_eq] at h9
        omega
    subst hw
    refine ⟨g + 1, ⟨hc.1, fun j hj => ?_⟩, by omega, rfl, ⟨rfl, rfl⟩, trivial⟩
    rcases Nat.lt_succ_iff_lt_or_eq.1 hj with h1 | rfl
    · exact hg.2 j h1
    · exact hn

theorem fn127 (l : List UInt8) : Fn P1 gl1 127 [sV l] (.val (bV (plain l))) true := by
  refine Fn.flat ?_ rfl
  refine fn_of false [] [] h127 0 Proofs.Tryd.f127 trivial trivial (by kernel_rfl) rfl (by kernel_rfl) rfl rfl rfl ?_
  rw [vc127]
  try simp only [splitB_iff, -eq_self]
  refine ⟨⟨0, ⟨Nat.zero_le _, fun j hj => absurd hj (Nat.not_lt_zero _)⟩, rfl, ⟨rfl, rfl⟩, trivial⟩, fun g hg => ⟨fun hge => ⟨?_, trivial⟩, fun c w hc => ⟨fun h => ⟨?_, trivial⟩, fun h => ?_⟩⟩⟩
  · have e : g = l.length := by omega
    subst e
    symm
    unfold plain
    rw [List.all_eq_true]
    intro b hb
    obtain ⟨j, hj, rfl⟩ := List.mem_iff_getElem.1 hb
    have := hg.2 j hj
    rw [getD_of hj] at this
    simpa using this
  · have h' : 127 < c := by simp at h; omega
    symm
    unfold plain
    rw [List.all_eq_false]
    refine ⟨l[g], List.getElem_mem hc.1, ?_⟩
    rw [getD_of hc.1] at hc
    by_cases hlt : UInt8.toNat l[g] < 128
    · have := hc.2.1 hlt; omega
    · simp [hlt]
  · have h' : ¬ 127 < c := by simp at h; omega
    have hlt : UInt8.toNat (List.getD l g 0) < 128 := by
      by_cases hlt : UInt8.toNat (List.getD l g 0) < 128
      · exact hlt
      · have := hc.2.2 (by omega); omega
    obtain ⟨_, rfl⟩ := hc.2.1 hlt
    refine ⟨g + 1, ⟨hc.1, fun j hj => ?_⟩, by omega, rfl, ⟨rfl, rfl⟩, trivial⟩
    rcases Nat.lt_succ_iff_lt_or_eq.1 hj with h1 | rfl
    · exact hg.2 j h1
    · exact hlt

/-- Numbers of 16 bits. -/
def W16 (l : List Int) : Prop := ∀ x ∈ l, 0 ≤ x ∧ x ≤ 65535

theorem isum_bd {l : List Int} (h : W16 l) : 0 ≤ isum l ∧ isum l ≤ 65535 * l.length := by
  have key : ∀ (l : List Int) (x : Int), W16 l → 0 ≤ x → x ≤ l.foldl (· + ·) x ∧ l.foldl (· + ·) x ≤ x + 65535 * l.length := by
    intro l
    induction l with
    | nil => intro x _ _; simp
    | cons a l ih =>
      intro x h hx
      have ha := h a (by simp)
      have := ih (x + a) (fun y hy => h y (by simp [hy])) (by omega)
      simp only [List.foldl_cons, List.length_cons]
      omega
  have := key l 0 h (by omega)
  unfold isum
  omega

theorem isum_snoc (xs : List Int) (g : Nat) (h : g < xs.length) : isum (xs.take (g + 1)) = isum (xs.take g) + xs[g] := by
  unfold isum
  rw [List.take_succ_eq_append_getElem h, List.foldl_append]
  rfl

theorem W16.take {l : List Int} (h : W16 l) (n : Nat) : W16 (l.take n) := fun x hx => h x (List.mem_of_mem_take hx)

theorem fn74 (l : List Int) (hl : l.length ≤ 1000000) (h : W16 l) : Fn P1 gl1 74 [.one (.sl (.int .i64) l)] (.val (aV 5 (tlast l))) true := by
  refine Fn.flat ?_ rfl
  refine fn_of false [] [fb125] h74 1 Proofs.Tryd.f74 trivial ⟨⟨by kernel_rfl, by kernel_rfl, _, rfl, by kernel_rfl⟩, trivial⟩ (by kernel_rfl) rfl (by kernel_rfl) rfl rfl rfl ?_
  rw [vc74]
  try simp only [splitB_iff, -eq_self]
  refine ⟨⟨0, Nat.zero_le _, rfl, rfl, rfl, rfl, rfl, rfl, trivial⟩, fun g hg => ⟨fun hlt => ?_, fun hge => ?_⟩⟩
  · have hlt' : g < l.length := by simpa using hlt
    rw [getD_of hlt']
    have h1 := isum_bd (h.take g)
    have h2 := h _ (List.getElem_mem hlt')
    simp only [List.length_take] at h1
    refine ⟨by omega, by simp only [fits]; omega, by simp only [fits]; omega, g + 1, hlt', by omega, by simp, (isum_snoc l g hlt').symm, rfl, rfl, rfl, rfl, trivial⟩
  · have hge' : ¬ g < l.length := by simpa using hge
    rw [List.take_of_length_le (by omega)]
    have h1 := isum_bd h
    exact ⟨by omega, by decide, by decide, rfl, trivial⟩

theorem fn73 (i c : Int) (hi : 0 ≤ i ∧ i ≤ 1000000) (hc : 0 ≤ c ∧ c ≤ 1000000) : Fn P1 gl1 73 [iV i, iV c] (.val (aV 5 (tframe i c))) true := by
  refine Fn.flat ?_ rfl
  refine fn_of false [] [fb125] h0 1 Proofs.Tryd.f73 trivial ⟨⟨by kernel_rfl, by kernel_rfl, _, rfl, by kernel_rfl⟩, trivial⟩ (by kernel_rfl) rfl (by kernel_rfl) rfl rfl rfl ?_
  rw [vc73]
  try simp only [splitB_iff, -eq_self]
  exact ⟨by simp only [fits]; omega, by simp only [fits]; omega, by simp only [fits]; omega, by simp only [fits]; omega, by omega, by decide, by decide, rfl, trivial⟩

theorem bor256 (x b : Int) (h0 : 0 ≤ x) (h1 : x * 256 + 255 ≤ 9223372036854775807) (hb : 0 ≤ b ∧ b ≤ 255) : bits .or .i64 (x * 256) b = 256 * x + b := by
  obtain ⟨n, rfl⟩ := Int.eq_ofNat_of_zero_le h0
  obtain ⟨m, rfl⟩ := Int.eq_ofNat_of_zero_le hb.1
  have hm : m < 256 := by omega
  show IntKind.wrap .i64 (((BitVec.ofInt 64 ((n : Int) * 256) ||| BitVec.ofInt 64 (m : Int)).toNat : Nat) : Int) = _
  have e1 : (BitVec.ofInt 64 ((n : Int) * 256) ||| BitVec.ofInt 64 (m : Int)).toNat = n * 256 + m := by
    rw [BitVec.toNat_or]
    have h2 : (BitVec.ofInt 64 ((n : Int) * 256)).toNat = n * 256 := by
      rw [BitVec.toNat_ofInt]; omega
    have h3 : (BitVec.ofInt 64 (m : Int)).toNat = m := by
      rw [BitVec.toNat_ofInt]; omega
    rw [h2, h3]
    have := Nat.two_pow_add_eq_or_of_lt (i := 8) (b := m) (by omega) n
    rw [show (2 : Nat) ^ 8 = 256 from rfl] at this
    rw [Nat.mul_comm n 256]
    exact this.symm
  rw [e1]
  have : IntKind.wrap .i64 ((n * 256 + m : Nat) : Int) = ((n * 256 + m : Nat) : Int) := fits_wrap (by simp only [fits]; omega)
  rw [this]
  omega

theorem number_bd : ∀ (n : Nat) (s : List Int), Bytes s → s.length ≤ n → 0 ≤ number s ∧ number s < 256 ^ n := by
  have key : ∀ (s : List Int) (x : Int) (n m : Nat), Bytes s → 0 ≤ x → x < 256 ^ m → s.length + m ≤ n → 0 ≤ s.foldl (fun x b => 256 * x + b) x ∧ s.foldl (fun x b => 256 * x + b) x < 256 ^ n := by
    intro s
    induction s with
    | nil =>
      intro x n m _ h0 h1 h2
      refine ⟨h0, Int.lt_of_lt_of_le h1 ?_⟩
      have e : ∀ k : Nat, (256 : Int) ^ k = ((256 ^ k : Nat) : Int) := fun k => by simp
      rw [e, e]
      exact Int.ofNat_le.2 (Nat.pow_le_pow_right (by decide) (by simpa using h2))
    | cons b s ih =>
      intro x n m hb h0 h1 h2
      have hb0 := hb b (by simp)
      refine ih (256 * x + b) n (m + 1) (fun y hy => hb y (by simp [hy])) (by omega) ?_ (by simp at h2; omega)
      rw [Int.pow_succ]
      omega
  intro n s hb hl
  exact key s 0 n 0 hb (by omega) (by decide) (by omega)

theorem number_snoc (xs : List Int) (g : Nat) (h : g < xs.length) : number (xs.take (g + 1)) = 256 * number (xs.take g) + xs[g] := by
  unfold number
  rw [List.take_succ_eq_append_getElem h, List.foldl_append]
  rfl

theorem fn128 (s : List Int) (hl : s.length ≤ 4) (hb : Bytes s) : Fn P1 gl1 128 [.one (.sl (.int .u8) s)] (.val (iV (number s))) true := by
  refine Fn.flat ?_ rfl
  refine fn_of false [] [] h128 0 Proofs.Tryd.f128 trivial trivial (by kernel_rfl) rfl (by kernel_rfl) rfl rfl rfl ?_
  rw [vc128]
  try simp only [splitB_iff, -eq_self]
  refine ⟨⟨0, Nat.zero_le _, rfl, rfl, rfl, rfl, trivial⟩, fun g hg => ⟨fun hlt => ?_, fun hge => ?_⟩⟩
  · have hlt' : g < s.length := by simpa using hlt
    rw [getD_of hlt']
    have h1 := number_bd 4 (s.take g) (fun y hy => hb y (List.mem_of_mem_take hy)) (by simp; omega)
    have h2 := hb _ (List.getElem_mem hlt')
    have e4 : (256 : Int) ^ 4 = 4294967296 := by decide
    rw [e4] at h1
    refine ⟨by omega, ⟨by decide, by decide, by simp only [fits]; omega⟩, by simp only [fits]; omega, by simp only [fits]; omega, g + 1, hlt', by omega, by simp, ?_, rfl, rfl, trivial⟩
    rw [bor256 _ _ h1.1 (by omega) h2, number_snoc s g hlt']
  · have hge' : ¬ g < s.length := by simpa using hge
    rw [List.take_of_length_le (by omega)]
    exact ⟨rfl, trivial⟩

theorem fn17 (xs ys : List Int) (hl : xs.length ≤ 1000000000) : Fn P1 gl1 17 [.one (.sl (.int .i64) xs), .one (.sl (.int .i64) ys)] (.val (bV (decide (xs = ys)))) true := by
  refine Fn.flat ?_ rfl
  refine fn_of false [] [] h17 0 Proofs.Tryd.f17 trivial trivial (by kernel_rfl) rfl (by kernel_rfl) rfl rfl rfl ?_
  rw [vc17]
  try simp only [splitB_iff, -eq_self]
  refine ⟨fun h => ⟨?_, trivial⟩, fun h => ⟨⟨0, ⟨Nat.zero_le _, rfl⟩, rfl, rfl, rfl, trivial⟩, fun g hg => ⟨fun hlt => ?_, fun hge => ⟨?_, trivial⟩⟩⟩⟩
  · symm
    rw [decide_eq_false_iff_not]
    rintro rfl
    simp at h
  · have hlt' : g < xs.length := by simpa using hlt
    have he : xs.length = ys.length := by simp at h; omega
    have hlt2 : g < ys.length := by omega
    rw [getD_of hlt', getD_of hlt2]
    refine ⟨by omega, by omega, fun h => ⟨?_, trivial⟩, fun h => ⟨by simp only [fits]; omega, g + 1, ⟨hlt', ?_⟩, by omega, by simp, rfl, rfl, trivial⟩⟩
    · symm
      rw [decide_eq_false_iff_not]
      rintro rfl
      simp at h
    · rw [List.take_succ_eq_append_getElem hlt', List.take_succ_eq_append_getElem hlt2, hg.2]
      simp at h
      rw [h]
  · have he : xs.length = ys.length := by simp at h; omega
    have hge' : ¬ g < xs.length := by simpa using hge
    have := hg.2
    rw [List.take_of_length_le (by omega), List.take_of_length_le (by omega)] at this
    simp [this]
end Go.Sx

/- Contracts as the engine uses them: tape. -/
namespace Go.Sx.U
def four (f : Int) : List Int := [f / 16777216 % 256, f / 65536 % 256, f / 256 % 256, f % 256]
def head (nm : List UInt8) (f : Int) : List Int := [82, 69, 69, 76] ++ [(nm.length : Int) % 256] ++ strNs nm ++ four f
/-- The records of the frames ahead of an index. -/
def recs (l : List Int) : Nat → List Int
  | 0 => []
  | i + 1 => recs l i ++ tframe i (l.getD i 0)
def stream (nm : List UInt8) (f : Int) (l : List Int) : List Int := head nm f ++ recs l l.length ++ tlast l
end Go.Sx.U
namespace Go.Sx
open U
@[reducible] def rV (nm : List UInt8) (f : Int) (l : List Int) : V := .agg [.one (.str nm), .one (.int .i64 f), .one (.sl (.int .i64) l)]
def sp79 : FSpec := ⟨fun vs => match vs with
  | [.one (.bool b), .one (.int .i64 e)] => some ([], .val (iV (whenE b e)))
  | _ => none, true⟩
def sp122 : FSpec := ⟨fun vs => match vs with
  | [.one (.int .i64 n), .one (.int .i64 lo), .one (.int .i64 hi)] => some ([], .val (iV (within n lo hi)))
  | _ => none, true⟩
def sp78 : FSpec := ⟨fun vs => match vs with
  | [.one (.sl (.int .i64) xs)] => some ([List.length xs ≤ 1000000000], .val (iV (first xs)))
  | _ => none, true⟩
def sp121 : FSpec := ⟨fun vs => match vs with
  | [.one (.str l)] => some ([], .val (bV (isName l)))
  | _ => none, true⟩
def sp127 : FSpec := ⟨fun vs => match vs with
  | [.one (.str l)] => some ([], .val (bV (plain l)))
  | _ => none, true⟩
def sp73 : FSpec := ⟨fun vs => match vs with
  | [.one (.int .i64 i), .one (.int .i64 c)] => some ([(0 ≤ i ∧ i ≤ 1000000) ∧ (0 ≤ c ∧ c ≤ 1000000)], .val (aV 5 (tframe i c)))
  | _ => none, true⟩
def sp74 : FSpec := ⟨fun vs => match vs with
  | [.one (.sl (.int .i64) l)] => some ([List.length l ≤ 1000000 ∧ W16 l], .val (aV 5 (tlast l)))
  | _ => none, true⟩
def sp128 : FSpec := ⟨fun vs => match vs with
  | [.one (.sl (.int .u8) s)] => some ([List.length s ≤ 4 ∧ Bytes s], .val (iV (number s)))
  | _ => none, true⟩
def sp17 : FSpec := ⟨fun vs => match vs with
  | [.one (.sl (.int .i64) xs), .one (.sl (.int .i64) ys)] => some ([List.length xs ≤ 1000000000], .val (bV (decide (xs = ys))))
  | _ => none, true⟩
theorem so79_ : SpecOk P1 gl1 79 sp79 := by
  intro vs ps r h _
  simp only [sp79] at h
  split at h
  · cases h; exact fn79 _ _
  · cases h
theorem so79 : Sp1 79 sp79 := ⟨so79_, Proofs.Tryd.f79, _, by kernel_rfl, rfl, by kernel_rfl⟩
theorem so122_ : SpecOk P1 gl1 122 sp122 := by
  intro vs ps r h _
  simp only [sp122] at h
  split at h
  · cases h; exact fn122 _ _ _
  · cases h
theorem so122 : Sp1 122 sp122 := ⟨so122_, Proofs.Tryd.f122, _, by kernel_rfl, rfl, by kernel_rfl⟩
theorem so78_ : SpecOk P1 gl1 78 sp78 := by
  intro vs ps r h hp
  simp only [sp78] at h
  split at h
  · cases h; exact fn78 _ (hp _ (List.mem_singleton.2 rfl))
  · cases h
theorem so78 : Sp1 78 sp78 := ⟨so78_, Proofs.Tryd.f78, _, by kernel_rfl, rfl, by kernel_rfl⟩
theorem so121_ : SpecOk P1 gl1 121 sp121 := by
  intro vs ps r h _
  simp only [sp121] at h
  split at h
  · cases h; exact fn121 _
  · cases h
theorem so121 : Sp1 121 sp121 := ⟨so121_, Proofs.Tryd.f121, _, by kernel_rfl, rfl, by kernel_rfl⟩
theorem so127_ : SpecOk P1 gl1 127 sp127 := by
  intro vs ps r h _
  simp only [sp127] at h
  split at h
  · cases h; exact fn127 _
  · cases h
theorem so127 : Sp1 127 sp127 := ⟨so127_, Proofs.Tryd.f127, _, by kernel_rfl, rfl, by kernel_rfl⟩
theorem so73_ : SpecOk P1 gl1 73 sp73 := by
  intro vs ps r h hp
  simp only [sp73] at h
  split at h
  · cases h
    have := hp _ (List.mem_singleton.2 rfl)
    exact fn73 _ _ this.1 this.2
  · cases h
theorem so73 : Sp1 73 sp73 := ⟨so73_, Proofs.Tryd.f73, _, by kernel_rfl, rfl, by kernel_rfl⟩
theorem so74_ : SpecOk P1 gl1 74 sp74 := by
  intro vs ps r h hp
  simp only [sp74] at h
  split at h
  · cases h
    have := hp _ (List.mem_singleton.2 rfl)
    exact fn74 _ this.1 this.2
  · cases h
theorem so74 : Sp1 74 sp74 := ⟨so74_, Proofs.Tryd.f74, _, by kernel_rfl, rfl, by kernel_rfl⟩
theorem so128_ : SpecOk P1 gl1 128 sp128 := by
  intro vs ps r h hp
  simp only [sp128] at h
  split at h
  · cases h
    have := hp _ (List.mem_singleton.2 rfl)
    exact fn128 _ this.1 this.2
  · cases h
theorem so128 : Sp1 128 sp128 := ⟨so128_, Proofs.Tryd.f128, _, by kernel_rfl, rfl, by kernel_rfl⟩
theorem so17_ : SpecOk P1 gl1 17 sp17 := by
  intro vs ps r h hp
  simp only [sp17] at h
  split at h
  · cases h
    exact fn17 _ _ (hp _ (List.mem_singleton.2 rfl))
  · cases h
theorem so17 : Sp1 17 sp17 := ⟨so17_, Proofs.Tryd.f17, _, by kernel_rfl, rfl, by kernel_rfl⟩
@[reducible] noncomputable def fb77 : Nat × Func := (77, Proofs.Tryd.f77)
@[reducible] noncomputable def fb72 : Nat × Func := (72, Proofs.Tryd.f72)
@[reducible] noncomputable def fb123 : Nat × Func := (123, Proofs.Tryd.f123)
end Go.Sx

/- Plain functions and hints. -/
namespace Go.Sx.U
/-- The stamp that is later by so many frames, its word, the frame of its packet. -/
def cLb (x : St7) (i : Int) : Lb := lab x.1.1 x.1.2 (addN x.1.1 x.1.2 x.2.1.1 x.2.1.2.1 x.2.1.2.2.1 x.2.1.2.2.2 i)
def cWd (x : St7) (i : Int) : List Int := wordS x.1.1 x.1.2 (cLb x i).1 (cLb x i).2.1 (cLb x i).2.2.1 (cLb x i).2.2.2 x.2.2
def cFr (x : St7) (c : Int) (i : Int) : List Int := frame 5 ((c + i) % 256) (cWd x i)
def cSent (x : St7) (c : Int) : Nat → List Int
  | 0 => []
  | i + 1 => cSent x c i ++ cFr x c i
/-- A thing that is not looked into. -/
noncomputable def hide {α : Type} (a : α) : α := Classical.choose (⟨a, rfl⟩ : ∃ f : α, f = a)
theorem hide_eq {α : Type} (a : α) : hide a = a := Classical.choose_spec (⟨a, rfl⟩ : ∃ f : α, f = a)
/-- The stamps of the first packets. -/
def stampsOf (l : List Pk) (i : Nat) : List St7 := (l.take i).map fun p => stOf p.2.2
def anySync (S : List Int) (g : Nat) : Prop := ∀ i, i < g → S.getD i 0 = 171 → i % 16 = 0
end Go.Sx.U
namespace Go.Sx
open U
def boxOf (s : St) (t : Nat) : Option (Nat × List Ch) := match lookT s.tm t with
  | some (.val (.one (.ptr id 0))) => match lookO s.ob id with
    | some (.box cs) => some (id, cs)
    | _ => none
  | _ => none
def idOfT (s : St) (t : Nat) : List Nat := match lookT s.tm t with
  | some (.val (.one (.ptr id _))) => [id]
  | _ => []
def onlyOb (s : St) (ids : List Nat) : List (Nat × Option AObj) := (liveO [] s.ob).filter fun x => ids.contains x.1
/-- Temporaries that stay as they are. -/
def pickT (s : St) : List Nat → (List (Nat × SV) → Option LInv) → Option LInv
  | [], k => k []
  | t :: r, k => match lookT s.tm t with
    | some v => pickT s r fun l => k ((t, v) :: l)
    | none => none
/-- Boxes that stay as they are. -/
def pickO (s : St) : List Nat → (List (Nat × Option AObj) → Option LInv) → Option LInv
  | [], k => k []
  | t :: r, k => match boxOf s t with
    | some (i, cs) => pickO s r fun l => k ((i, some (.box cs)) :: l)
    | none => none
noncomputable def h3 : Hints := ⟨fun f k s => match f, k with
  | 3, 10 => match boxOf s 3, intOfT s 12, intOfT s 78 with
    | some (_, [.one (.int .i64 F), .one (.bool D), .one (.int .i64 h), .one (.int .i64 m), .one (.int .i64 ss), .one (.int .i64 f), .one (.int .i64 u)]), some c, some n => pickT s [3, 5, 7, 9, 11, 12, 78] fun tm => pickO s [3, 5] fun os =>
      some ⟨Nat, fun i => ⟨(79, .val (iV i)) :: (13, .val (.one (.own s.nx))) :: tm, (s.nx, some (.row (.int .u8) (hide cSent ((F, D), (h, m, ss, f), u) c i))) :: os, s.nx + 1, s.lr⟩, fun i => i ≤ n.toNat, fun i => n.toNat - i⟩
    | _, _, _ => none
  | 3, 24 => match listAs s 144 (.int .u8), ownOf s 144 with
    | some S, [io] => pickT s [3, 7, 9, 11, 12, 13, 21, 144] fun tm => pickO s [3] fun os =>
      some ⟨Nat × List Int, fun g => ⟨(146, .val (iV g.1)) :: (145, .val (iV (List.length g.2))) :: tm, (io, some (.row (.int .u8) g.2)) :: os, s.nx, s.lr⟩,
        fun g => g.1 ≤ List.length g.2 ∧ g.2 = S ∧ anySync S g.1, fun g => List.length g.2 - g.1⟩
    | _, _ => none
  | 3, 38 => match listAs s 216 pT, ownOf s 216 with
    | some l0, [io] => pickT s [3, 7, 9, 12, 21, 29, 216] fun tm => pickO s [3] fun os =>
      some ⟨Nat × List Pk, fun g => ⟨(218, .val (iV g.1)) :: (217, .val (iV (List.length g.2))) :: (30, .val (.one (.own s.nx))) :: tm,
        (io, some (.row pT g.2)) :: (s.nx, some (.row stT (hide stampsOf g.2 g.1))) :: os, s.nx + 1, s.lr⟩, fun g => g.1 ≤ List.length g.2 ∧ g.2 = l0, fun g => List.length g.2 - g.1⟩
    | _, _ => none
  | _, _ => none, 0⟩
noncomputable def sp8h : FSpec := ⟨fun vs => match vs with
  | [.agg [.one (.int .i64 F), .one (.bool D), .one (.int .i64 h), .one (.int .i64 m), .one (.int .i64 s), .one (.int .i64 f), .one (.int .i64 u)]] => some ([], .val (iV (hide chkStamp F D h m s f u)))
  | _ => none, true⟩
theorem so8h : Sp1 8 sp8h := by
  have : sp8h = sp8 := by simp only [sp8h, sp8, hide_eq]; rfl
  rw [this]; exact so8
noncomputable def sp10h : FSpec := ⟨fun vs => match vs with
  | [.agg [.one (.int .i64 F), .one (.bool D)]] => some ([RateOk F D], .tup [iV (hide dayN F D), iV 0])
  | _ => none, true⟩
theorem so10h : Sp1 10 sp10h := by
  have : sp10h = sp10 := by simp only [sp10h, sp10, hide_eq]; rfl
  rw [this]; exact so10
noncomputable def sp11h : FSpec := ⟨fun vs => match vs with
  | [.agg [.one (.int .i64 F), .one (.bool D)], .agg [.one (.int .i64 h), .one (.int .i64 m), .one (.int .i64 s), .one (.int .i64 f)]] => some ([RateOk F D, LabOk F D h m s f], .tup [iV (hide frameN F D h m s f), iV 0])
  | _ => none, true⟩
theorem so11h : Sp1 11 sp11h := by
  have : sp11h = sp11 := by simp only [sp11h, sp11, hide_eq]; rfl
  rw [this]; exact so11
noncomputable def sp12h : FSpec := ⟨fun vs => match vs with
  | [.agg [.one (.int .i64 F), .one (.bool D)], .agg [.one (.int .i64 h), .one (.int .i64 m), .one (.int .i64 s), .one (.int .i64 f)], .one (.int .i64 n)] => some ([RateOk F D, LabOk F D h m s f, 0 ≤ n ∧ n ≤ 10000000], .tup [lbW (hide lab F D (addN F D h m s f n)), iV 0])
  | _ => none, true⟩
theorem so12h : Sp1 12 sp12h := by
  have : sp12h = sp12 := by simp only [sp12h, sp12, hide_eq]; rfl
  rw [this]; exact so12
noncomputable def sp13h : FSpec := ⟨fun vs => match vs with
  | [.agg [.one (.int .i64 F), .one (.bool D), .one (.int .i64 h), .one (.int .i64 m), .one (.int .i64 s), .one (.int .i64 f), .one (.int .i64 u)]] => some ([RateOk F D, LabOk F D h m s f, 0 ≤ u ∧ u ≤ 65535], .tup [aV 10 (hide wordS F D h m s f u), iV 0])
  | _ => none, true⟩
theorem so13h : Sp1 13 sp13h := by
  have : sp13h = sp13 := by simp only [sp13h, sp13, hide_eq]; rfl
  rw [this]; exact so13
noncomputable def sp18h : FSpec := ⟨fun vs => match vs with
  | [.agg [.arr 10 (.int .u8) d]] => some ([List.length d = 10, Bytes d, okW d], .tup [stW (hide stOf d), iV 0])
  | _ => none, true⟩
theorem so18h : Sp1 18 sp18h := by
  have : sp18h = sp18 := by simp only [sp18h, sp18, hide_eq]; rfl
  rw [this]; exact so18
noncomputable def sp14h : FSpec := ⟨fun vs => match vs with
  | [.agg [.one (.int .i64 k), .one (.int .i64 c), .arr 10 (.int .u8) d]] => some ([List.length d = 10 ∧ Bytes d], .tup [aV 16 (hide pkEnc k c d).1, iV (hide pkEnc k c d).2])
  | _ => none, true⟩
theorem so14h : Sp1 14 sp14h := by
  have : sp14h = sp14 := by simp only [sp14h, sp14, hide_eq]; rfl
  rw [this]; exact so14
noncomputable def sp15h : FSpec := ⟨fun vs => match vs with
  | [.one (.sl (.int .u8) s)] => some ([Bytes s ∧ List.length s ≤ 1000000000], .tup [.one (.frs pT (hide received s).1), .one (.frs spT (hide received s).2.1), iV (hide received s).2.2])
  | _ => none, true⟩
theorem so15h : Sp1 15 sp15h := by
  have : sp15h = sp15 := by simp only [sp15h, sp15, hide_eq]; rfl
  rw [this]; exact so15
noncomputable def sp16h : FSpec := ⟨fun vs => match vs with
  | [.one (.sl (.pair (.int .i64) (.pair (.int .i64) (.arr 10 (.int .u8)))) l), .one (.int .i64 k)] =>
    some ([List.length l ≤ 1024 ∧ (∀ p ∈ (show List Pk from l), p.1 = k ∧ pcheck p.1 p.2.1 = 0) ∧ within k 0 255 = 0 ∧ (lostTo l (List.length l - 1)).length ≤ 256], .tup [.one (.frs (.int .i64) (hide lostTo l (List.length l - 1))), iV 0])
  | _ => none, true⟩
theorem so16h : Sp1 16 sp16h := by
  have : sp16h = sp16 := by simp only [sp16h, sp16, hide_eq]; rfl
  rw [this]; exact so16
noncomputable def sp19h : FSpec := ⟨fun vs => match vs with
  | [.one (.sl (.pair (.pair (.int .i64) .bool) (.pair (.pair (.int .i64) (.pair (.int .i64) (.pair (.int .i64) (.int .i64)))) (.int .i64))) l)] => some ([List.length l ≤ 256, ∀ x ∈ (show List St7 from l), StOk x], .tup [.one (.frs (.int .i64) (hide jumpsTo (show List St7 from l) (List.length l))), iV 0])
  | _ => none, true⟩
theorem so19h : Sp1 19 sp19h := by
  have : sp19h = sp19 := by simp only [sp19h, sp19, hide_eq]; rfl
  rw [this]; exact so19
end Go.Sx
namespace Go.Sx
open U
def sp9 : FSpec := ⟨fun vs => match vs with
  | [] => some ([], .val (bV true))
  | _ => none, true⟩
end Go.Sx
