/- A verified symbolic run of functions, part 20: lemmas, no claim of their own. -/
import Derived.Test.YtpfngnmgipnmlaaDoorS19
import Derived.OpenShut
import Derived.ProofKit
import Derived.Carry
import Derived.OpenVars
import Derived.Lib.LaidTab
import Derived.ChangeSame
import Derived.WalkKit
import Derived.Deep.DeepHandedRow
/- Plain law of TopPedestalCounted. -/
namespace Go.Sx
open U

/-! ### Stamps and their words. -/
def cSt (x : St7) (i : Int) : St7 := (x.1, cLb x i, x.2.2)
theorem addN_bd {x : St7} (h : StOk x) (i : Int) (_hi : 0 ≤ i) : 0 ≤ addN x.1.1 x.1.2 x.2.1.1 x.2.1.2.1 x.2.1.2.2.1 x.2.1.2.2.2 i ∧ addN x.1.1 x.1.2 x.2.1.1 x.2.1.2.1 x.2.1.2.2.1 x.2.1.2.2.2 i < dayN x.1.1 x.1.2 := by
  have hd := dayN_bd h.1
  unfold addN
  exact ⟨Int.emod_nonneg _ (by omega), Int.emod_lt_of_pos _ (by omega)⟩
theorem cSt_lab {x : St7} (h : StOk x) (i : Int) (hi : 0 ≤ i) : LabOk x.1.1 x.1.2 (cLb x i).1 (cLb x i).2.1 (cLb x i).2.2.1 (cLb x i).2.2.2 ∧ frameN x.1.1 x.1.2 (cLb x i).1 (cLb x i).2.1 (cLb x i).2.2.1 (cLb x i).2.2.2 = addN x.1.1 x.1.2 x.2.1.1 x.2.1.2.1 x.2.1.2.2.1 x.2.1.2.2.2 i := by
  have hb := addN_bd h i hi
  exact lab_ok h.1 hb.1 hb.2
theorem cSt_ok {x : St7} (h : StOk x) (i : Int) (hi : 0 ≤ i) : StOk (cSt x i) := ⟨h.1, (cSt_lab h i hi).1, h.2.2⟩
theorem bcd_dig {n : Int} (h : 0 ≤ n ∧ n ≤ 59) : 0 ≤ bcd n ∧ bcd n ≤ 255 ∧ dig (bcd n) = n ∧ digOk (bcd n) := by
  have e : bcd n = n / 10 * 16 + n % 10 := by unfold bcd; omega
  have hb : 0 ≤ bcd n ∧ bcd n ≤ 255 := by rw [e]; omega
  have hl : lo4 (bcd n) = bcd n % 16 := lo4_int hb
  refine ⟨hb.1, hb.2, ?_, ?_⟩
  · unfold dig; rw [hl, e]; omega
  · unfold digOk; rw [hl, e]; omega
theorem word_back {y : St7} (h : StOk y) : stOf (wordS y.1.1 y.1.2 y.2.1.1 y.2.1.2.1 y.2.1.2.2.1 y.2.1.2.2.2 y.2.2) = y ∧ okW (wordS y.1.1 y.1.2 y.2.1.1 y.2.1.2.1 y.2.1.2.2.1 y.2.1.2.2.2 y.2.2) := by
  obtain ⟨⟨F, D⟩, ⟨hh, m, s, f⟩, u⟩ := y
  have h0 := h
  obtain ⟨⟨hF, hD⟩, ⟨l1, l2, l3, l4, _⟩, u0, u1⟩ := h
  simp only [] at *
  obtain ⟨a1, a2, a3, a4⟩ := bcd_dig (n := f) ⟨l4.1, by omega⟩
  obtain ⟨b1, b2, b3, b4⟩ := bcd_dig (n := s) ⟨l3.1, by omega⟩
  obtain ⟨c1, c2, c3, c4⟩ := bcd_dig (n := m) ⟨l2.1, by omega⟩
  obtain ⟨d1, d2, d3, d4⟩ := bcd_dig (n := hh) ⟨l1.1, by omega⟩
  have e4 : 0 ≤ F % 256 + (if D then 128 else 0) ∧ F % 256 + (if D then 128 else 0) ≤ 255 := by split <;> omega
  have hst : stOf (wordS F D hh m s f u) = ((F, D), (hh, m, s, f), u) := by
    show ((bits .andNot .u8 (F % 256 + (if D then 128 else 0)) 128, decide (0 < bits .and .u8 (F % 256 + (if D then 128 else 0)) 128)), (dig (bcd hh), dig (bcd m), dig (bcd s), dig (bcd f)), u / 256 % 256 * 256 + u % 256) = _
    rw [a3, b3, c3, d3, lo7_int e4, hi1_int e4]
    have e1 : (F % 256 + (if D then 128 else 0)) % 128 = F := by split <;> omega
    have e2 : decide (0 < (F % 256 + (if D then 128 else 0)) / 128 * 128) = D := by
      cases D
      · have : (F % 256 + (if false = true then 128 else 0)) / 128 * 128 = 0 := by simp; omega
        rw [this]; rfl
      · have : (F % 256 + (if true = true then 128 else 0)) / 128 * 128 = 128 := by simp; omega
        rw [this]; rfl
    have e3 : u / 256 % 256 * 256 + u % 256 = u := by omega
    rw [e1, e2, e3]
  refine ⟨hst, rfl, rfl, rfl, ⟨a4, b4, c4, d4⟩, ?_⟩
  rw [hst]
  exact chkStZ.2 h0
theorem word_bytes {y : St7} (h : StOk y) : (wordS y.1.1 y.1.2 y.2.1.1 y.2.1.2.1 y.2.1.2.2.1 y.2.1.2.2.2 y.2.2).length = 10 ∧ Bytes (wordS y.1.1 y.1.2 y.2.1.1 y.2.1.2.1 y.2.1.2.2.1 y.2.1.2.2.2 y.2.2) := by
  refine ⟨rfl, ?_⟩
  obtain ⟨⟨F, D⟩, ⟨hh, m, s, f⟩, u⟩ := y
  obtain ⟨⟨hF, hD⟩, _⟩ := h
  simp only [] at *
  have hp := par_bd (word0 F D hh m s f u)
  have e4 : 0 ≤ F % 256 + (if D then 128 else 0) ∧ F % 256 + (if D then 128 else 0) ≤ 255 := by split <;> omega
  intro x hx
  simp only [wordS, word0, bcd, List.cons_append, List.nil_append, List.mem_cons, List.not_mem_nil, or_false] at hx
  simp only [word0, bcd] at hp
  rcases hx with rfl | rfl | rfl | rfl | rfl | rfl | rfl | rfl | rfl | rfl <;> first | omega | exact e4 | exact hp

/-! ### The stream. -/
section
variable {x : St7} {c : Int} (hx : StOk x) (hc : 0 ≤ c ∧ c ≤ 255)
include hx
theorem cWd_ok (i : Nat) : (cWd x i).length = 10 ∧ Bytes (cWd x i) ∧ stOf (cWd x i) = cSt x i ∧ okW (cWd x i) := by
  have h1 := word_bytes (cSt_ok hx i (by omega))
  have h2 := word_back (cSt_ok hx i (by omega))
  exact ⟨h1.1, h1.2, h2.1, h2.2⟩
theorem cFr_len (i : Nat) : (cFr x c i).length = 16 := frame_len _ _ (cWd_ok hx i).1
theorem cFr_bytes (i : Nat) : Bytes (cFr x c i) := frame_bytes _ _ (cWd_ok hx i).2.1
theorem cSent_len : ∀ i, (cSent x c i).length = 16 * i
  | 0 => rfl
  | i + 1 => by simp only [cSent, List.length_append, cSent_len i, cFr_len hx i]; omega
theorem cSent_bytes : ∀ i, Bytes (cSent x c i)
  | 0 => by intro y hy; simp [cSent] at hy
  | i + 1 => Bytes.app (cSent_bytes i) (cFr_bytes hx i)
omit hx in
theorem cSent_take {k n : Nat} (h : k ≤ n) : ∃ t, cSent x c n = cSent x c k ++ t := by
  induction n with
  | zero => exact ⟨[], by have : k = 0 := by omega
                          subst this; rfl⟩
  | succ n ih =>
    by_cases e : k = n + 1
    · subst e; exact ⟨[], by simp⟩
    · obtain ⟨t, ht⟩ := ih (by omega)
      exact ⟨t ++ cFr x c n, by rw [cSent, ht, List.append_assoc]⟩
theorem blk_cSent {j k : Nat} (h : j < k) : blk (cSent x c k) (16 * j) = cFr x c j := by
  obtain ⟨t, ht⟩ := cSent_take (x := x) (c := c) (k := j + 1) (n := k) h
  have e : cSent x c k = cSent x c j ++ (cFr x c j ++ t) := by rw [ht, cSent]; simp only [List.append_assoc]
  unfold blk
  rw [e, List.drop_append, List.drop_of_length_le (by rw [cSent_len hx]; omega), cSent_len hx, show 16 * j - 16 * j = 0 by omega, List.drop_zero, List.nil_append, List.take_append, List.take_of_length_le (by rw [cFr_len hx]; omega), cFr_len hx]
  simp
omit hx in
theorem blk_set (S : List Int) (p i : Nat) (y : Int) : blk (S.set p y) i = if i ≤ p ∧ p < i + 16 then (blk S i).set (p - i) y else blk S i := by
  apply List.ext_getElem?
  intro q
  unfold blk
  by_cases hp : i ≤ p ∧ p < i + 16
  · rw [if_pos hp]
    simp only [List.getElem?_take, List.getElem?_drop, List.getElem?_set, List.length_take, List.length_drop]
    by_cases hq : q < 16
    · by_cases hpq : p = i + q
      · subst hpq
        have e : i + q - i = q := by omega
        rw [e, if_pos hq, if_pos rfl, if_pos rfl]
        by_cases hl : i + q < S.length
        · rw [if_pos hl, if_pos (by omega)]
        · rw [if_neg hl, if_neg (by omega)]
      · rw [if_pos hq, if_neg hpq, if_neg (by omega), if_pos hq]
    · rw [if_neg hq, if_neg (by omega), if_neg hq]
  · rw [if_neg hp, List.getElem?_take, List.getElem?_drop, List.getElem?_set, List.getElem?_take, List.getElem?_drop]
    split
    · rw [if_neg (by omega)]
    · rfl
def pkI (x : St7) (c : Int) (i : Nat) : Pk := (5, (c + i) % 256, cWd x i)
def idx (k a : Nat) : Nat := if a < k then a else a + 1
/-- The packets that come, of the first ones. -/
def got (x : St7) (c : Int) (k i : Nat) : List Pk := (List.range (if i ≤ k then i else i - 1)).map fun a => pkI x c (idx k a)
theorem dec_cFr (i : Nat) : pkDec (cFr x c i) = (pkI x c i, 0) := by
  obtain ⟨g0, g1, g2, g3, g4⟩ := frame_isFr (k := 5) (c := (c + i) % 256) (d := cWd x i) (by omega) (by omega) (cWd_ok hx i).1
  have g1' : (cFr x c i).getD 0 0 = 171 := g1
  have g0' : frame ((cFr x c i).getD 1 0) ((cFr x c i).getD 2 0) (dat (cFr x c i)) = cFr x c i := g0
  unfold pkDec
  rw [if_pos g1', if_pos g0']
  show ((List.getD (cFr x c i) 1 0, List.getD (cFr x c i) 2 0, dat (cFr x c i)), (0 : Int)) = _
  unfold cFr
  rw [g2, g3, g4]
  rfl
theorem got_rst {N k j : Nat} {y : Int} (hk : k < N) (hj : j < 16) (hy : 0 ≤ y ∧ y ≤ 255) (hne : y ≠ (cFr x c k).getD j 0) (hs : ∀ i, i < 16 * N → ((cSent x c N).set (16 * k + j) y).getD i 0 = 171 → i % 16 = 0) :
    ∀ i, i ≤ N → (rst ((cSent x c N).set (16 * k + j) y) (16 * i)).1 = got x c k i ∧ (rst ((cSent x c N).set (16 * k + j) y) (16 * i)).2.2 ≤ ((16 * i : Nat) : Int)
  | 0, _ => ⟨by simp [rst, got], by simp [rst]⟩
  | i + 1, hi => by
    obtain ⟨i1, i2⟩ := got_rst hk hj hy hne hs i (by omega)
    by_cases hik : i = k
    · subst hik
      obtain ⟨b1, b2⟩ := rst_bad (j := i) i2 (by
        intro t ht hh
        have hfst : ∀ q, q < 16 * N → (blk ((cSent x c N).set (16 * i + j) y) q).getD 0 0 = ((cSent x c N).set (16 * i + j) y).getD q 0 := by
          intro q hq
          unfold blk
          rw [List.getD_eq_getElem?_getD, List.getElem?_take_of_lt (by omega), List.getElem?_drop, Nat.add_zero, List.getD_eq_getElem?_getD]
        by_cases h171 : (blk ((cSent x c N).set (16 * i + j) y) (16 * i + t)).getD 0 0 = 171
        · have h2 := hs (16 * i + t) (by omega) (by rw [← hfst _ (by omega)]; exact h171)
          have ht0 : t = 0 := by omega
          subst ht0
          rw [Nat.add_zero] at hh h171
          have hb : blk ((cSent x c N).set (16 * i + j) y) (16 * i) = (cFr x c i).set j y := by
            rw [blk_set, if_pos (by omega), blk_cSent hx (by omega), show 16 * i + j - 16 * i = j by omega]
          rw [hb] at hh h171
          obtain ⟨g0, g1, _⟩ := frame_isFr (k := 5) (c := (c + i) % 256) (d := cWd x i) (by omega) (by omega) (cWd_ok hx i).1
          have hj1 : 1 ≤ j := by
            apply Nat.pos_of_ne_zero
            intro e
            subst e
            have : ((cFr x c i).set 0 y).getD 0 0 = y := by
              rw [List.getD_eq_getElem?_getD, List.getElem?_set_self (by rw [cFr_len hx]; omega)]; rfl
            rw [this] at h171
            exact hne (h171.trans g1.symm)
          have : ¬ frame (((cFr x c i).set j y).getD 1 0) (((cFr x c i).set j y).getD 2 0) (dat ((cFr x c i).set j y)) = (cFr x c i).set j y := isFr_set (cFr_len hx i) (cFr_bytes hx i) g0 hj1 hj hy hne
          have hd := hh.2
          unfold pkDec at hd
          rw [if_pos h171, if_neg this] at hd
          cases hd
        · have hd := hh.2
          unfold pkDec at hd
          rw [if_neg h171] at hd
          cases hd)
      refine ⟨?_, b2⟩
      rw [b1, i1]
      unfold got
      rw [if_pos (Nat.le_refl _), if_neg (by omega), Nat.add_sub_cancel]
    · have hb : blk ((cSent x c N).set (16 * k + j) y) (16 * i) = cFr x c i := by
        rw [blk_set, if_neg (by omega), blk_cSent hx (by omega)]
      have := rst_good (S := (cSent x c N).set (16 * k + j) y) (j := i) (p := pkI x c i) i2 (by rw [hb]; exact cFr_len hx i) (by rw [hb]; exact dec_cFr hx i)
      rw [this, i1]
      refine ⟨?_, Int.le_refl _⟩
      unfold got
      by_cases hlt : i < k
      · rw [if_pos (by omega), if_pos (by omega), List.range_succ, List.map_append]
        simp [idx, hlt]
      · rw [if_neg (by omega), if_neg (by omega), Nat.add_sub_cancel]
        obtain ⟨i', rfl⟩ : ∃ i', i = i' + 1 := ⟨i - 1, by omega⟩
        rw [Nat.add_sub_cancel, List.range_succ, List.map_append]
        simp [idx, show ¬ i' < k by omega]
theorem got_received {N k j : Nat} {y : Int} (hN : N ≤ 8) (hk : k < N) (hj : j < 16) (hy : 0 ≤ y ∧ y ≤ 255) (hne : y ≠ (cFr x c k).getD j 0) (hs : anySync ((cSent x c N).set (16 * k + j) y) (16 * N)) :
    (received ((cSent x c N).set (16 * k + j) y)).1 = got x c k N ∧ (received ((cSent x c N).set (16 * k + j) y)).2.2 = 0 := by
  have hl : ((cSent x c N).set (16 * k + j) y).length = 16 * N := by rw [List.length_set, cSent_len hx]
  have := (got_rst hx hk hj hy hne hs N (Nat.le_refl _)).1
  unfold received
  rw [if_neg (by omega), hl, this]
  exact ⟨rfl, rfl⟩
end
theorem got_len {x : St7} {c : Int} {N k : Nat} (hk : k < N) : (got x c k N).length = N - 1 := by
  unfold got
  rw [if_neg (by omega), List.length_map, List.length_range]
theorem got_at {x : St7} {c : Int} {N k a : Nat} (hk : k < N) (ha : a < N - 1) (d : Pk) : (got x c k N).getD a d = pkI x c (idx k a) := by
  rw [getD_of (by rw [got_len hk]; exact ha)]
  unfold got
  simp
theorem idx_lt {k N a : Nat} (hk : k < N) (ha : a < N - 1) : idx k a < N ∧ idx k a ≠ k := by
  unfold idx
  split <;> omega

/-! ### What is lost, and what jumps. -/
theorem lost_got {x : St7} {c : Int} {N k : Nat} (hc : 0 ≤ c ∧ c ≤ 255) (hN : N ≤ 8) (hk : k < N) : ∀ i, i < N - 1 → lostTo (got x c k N) i = if 0 < k ∧ k ≤ i then [(c + k) % 256] else []
  | 0, h => by rw [if_neg (by omega)]; rfl
  | i + 1, h => by
    have ih := lost_got (x := x) hc hN hk i (by omega)
    unfold lostTo
    rw [ih]
    have e1 : cnt (got x c k N) i = (c + idx k i) % 256 := by
      unfold cnt; rw [got_at hk (by omega)]; rfl
    have e2 : cnt (got x c k N) (i + 1) = (c + idx k (i + 1)) % 256 := by
      unfold cnt; rw [got_at hk (by omega)]; rfl
    rw [e1, e2]
    unfold gap
    by_cases h1 : i + 1 = k
    · have g1 : idx k i = i := by unfold idx; rw [if_pos (by omega)]
      have g2 : idx k (i + 1) = i + 2 := by unfold idx; rw [if_neg (by omega)]
      rw [g1, g2, if_neg (by omega), if_pos (by omega)]
      have : (((c + ((i + 2 : Nat) : Int)) % 256 - (c + (i : Int)) % 256 - 1) % 256).toNat = 1 := by omega
      rw [this]
      simp only [List.range_one, List.map_cons, List.map_nil, List.nil_append, List.cons.injEq, and_true]
      omega
    · have : (((c + (idx k (i + 1) : Int)) % 256 - (c + (idx k i : Int)) % 256 - 1) % 256).toNat = 0 := by
        have : idx k (i + 1) = idx k i + 1 := by unfold idx; split <;> split <;> omega
        rw [this]; omega
      rw [this]
      simp only [List.range_zero, List.map_nil, List.append_nil]
      by_cases h2 : 0 < k ∧ k ≤ i
      · rw [if_pos h2, if_pos (by omega)]
      · rw [if_neg h2, if_neg (by omega)]
theorem stamps_got {x : St7} (hx : StOk x) {c : Int} {N k : Nat} (hk : k < N) : ∀ i, i ≤ N - 1 → stampsOf (got x c k N) i = (List.range i).map fun a => cSt x (idx k a) := by
  intro i hi
  unfold stampsOf got
  rw [if_neg (by omega), ← List.map_take, List.take_range, Nat.min_eq_left hi, List.map_map]
  apply List.map_congr_left
  intro a _
  exact (cWd_ok hx (idx k a)).2.2.1
theorem follows_c {x : St7} (hx : StOk x) {a b : Nat} (ha : a < b) (hb : b ≤ a + 2) : follows (cSt x b) (cSt x a) = decide (b = a + 1) := by
  have hd := dayN_bd hx.1
  have la := cSt_lab hx a (by omega)
  have lb := cSt_lab hx b (by omega)
  have e : addN x.1.1 x.1.2 (cLb x a).1 (cLb x a).2.1 (cLb x a).2.2.1 (cLb x a).2.2.2 1 = addN x.1.1 x.1.2 x.2.1.1 x.2.1.2.1 x.2.1.2.2.1 x.2.1.2.2.2 ((a : Int) + 1) := by
    unfold addN at la ⊢
    rw [la.2, Int.emod_add_emod]
    congr 1; omega
  unfold follows
  show (decide (x.1 = x.1) && decide (cLb x b = lab x.1.1 x.1.2 (addN x.1.1 x.1.2 (cLb x a).1 (cLb x a).2.1 (cLb x a).2.2.1 (cLb x a).2.2.2 1))) = _
  rw [e]
  have e2 : lab x.1.1 x.1.2 (addN x.1.1 x.1.2 x.2.1.1 x.2.1.2.1 x.2.1.2.2.1 x.2.1.2.2.2 ((a : Int) + 1)) = cLb x ((a : Int) + 1) := rfl
  rw [e2]
  simp only [decide_true, Bool.true_and]
  apply decide_eq_decide.2
  constructor
  · intro h
    have l1 := cSt_lab hx ((a : Int) + 1) (by omega)
    rw [← h] at l1
    have h3 := lb.2.symm.trans l1.2
    unfold addN at h3
    have hday : dayN x.1.1 x.1.2 ≠ 0 := by omega
    have h4 := Int.emod_emod_of_dvd (frameN x.1.1 x.1.2 x.2.1.1 x.2.1.2.1 x.2.1.2.2.1 x.2.1.2.2.2 + (b : Int)) (Int.dvd_refl (dayN x.1.1 x.1.2))
    apply Classical.byContradiction
    intro hne
    have hb2 : b = a + 2 := by omega
    subst hb2
    generalize frameN x.1.1 x.1.2 x.2.1.1 x.2.1.2.1 x.2.1.2.2.1 x.2.1.2.2.2 = Z at h3
    generalize dayN x.1.1 x.1.2 = Y at h3 hd
    have h5 := Int.emod_emod_of_dvd
    have hsub := Int.emod_eq_emod_iff_emod_sub_eq_zero.1 h3
    have : Z + ((a + 2 : Nat) : Int) - (Z + ((a : Int) + 1)) = 1 := by omega
    rw [this, Int.emod_eq_of_lt (by omega) (by omega)] at hsub
    omega
  · rintro rfl
    congr 1
theorem jumps_got {x : St7} (hx : StOk x) {k M : Nat} : ∀ i, i ≤ M → jumpsTo ((List.range M).map fun a => cSt x (idx k a)) i = if 0 < k ∧ k < i then [(k : Int)] else []
  | 0, _ => by rw [if_neg (by omega)]; rfl
  | i + 1, h => by
    have ih := jumps_got hx (k := k) (M := M) i (by omega)
    have at_ : ∀ a, a < M → List.getD ((List.range M).map fun a => cSt x (idx k a)) a st0 = cSt x (idx k a) := by
      intro a ha
      rw [getD_of (by simpa using ha)]
      simp
    rw [jumps_succ, ih]
    by_cases h0 : 0 < i
    · rw [at_ i (by omega), at_ (i - 1) (by omega), follows_c hx (a := idx k (i - 1)) (b := idx k i) (by unfold idx; split <;> split <;> omega) (by unfold idx; split <;> split <;> omega)]
      by_cases hik : i = k
      · subst hik
        have : decide (idx i i = idx i (i - 1) + 1) = false := by
          rw [decide_eq_false_iff_not]; unfold idx; rw [if_neg (by omega), if_pos (by omega)]; omega
        rw [this, if_pos ⟨h0, rfl⟩, if_neg (by omega), if_pos (by omega)]
        rfl
      · have : decide (idx k i = idx k (i - 1) + 1) = true := by
          rw [decide_eq_true_eq]; unfold idx; split <;> split <;> omega
        rw [this, if_neg (by simp)]
        by_cases h2 : 0 < k ∧ k < i
        · rw [if_pos h2, if_pos (by omega)]
        · rw [if_neg h2, if_neg (by omega)]
    · rw [if_neg (by omega), if_neg (by omega), if_neg (by omega)]
theorem stampsOf_succ (l : List Pk) (i : Nat) (h : i < l.length) (d : Pk) : stampsOf l (i + 1) = stampsOf l i ++ [stOf (l.getD i d).2.2] := by
  unfold stampsOf
  rw [List.take_succ_eq_append_getElem h, List.map_append, getD_of h]
  rfl
theorem bytes_set {l : List Int} (h : Bytes l) (i : Nat) {y : Int} (hy : 0 ≤ y ∧ y ≤ 255) : Bytes (l.set i y) := by
  intro z hz
  rcases List.mem_or_eq_of_mem_set hz with h1 | rfl
  · exact h z h1
  · exact hy
theorem got_mem {x : St7} {c : Int} {k N : Nat} {p : Pk} (_hk : k < N) (h : p ∈ got x c k N) : ∃ i, p = pkI x c i := by
  unfold got at h
  obtain ⟨a, _, rfl⟩ := List.mem_map.1 h
  exact ⟨_, rfl⟩
/-- The label that is two later than the one before that one. -/
theorem two_later {x : St7} (hx : StOk x) {a : Nat} : lab x.1.1 x.1.2 (addN x.1.1 x.1.2 (cLb x a).1 (cLb x a).2.1 (cLb x a).2.2.1 (cLb x a).2.2.2 2) = cLb x ((a + 2 : Nat) : Int) := by
  have la := cSt_lab hx a (by omega)
  have e : addN x.1.1 x.1.2 (cLb x a).1 (cLb x a).2.1 (cLb x a).2.2.1 (cLb x a).2.2.2 2 = addN x.1.1 x.1.2 x.2.1.1 x.2.1.2.1 x.2.1.2.2.1 x.2.1.2.2.2 ((a + 2 : Nat) : Int) := by
    unfold addN at la ⊢
    rw [la.2, Int.emod_add_emod]
    congr 1; omega
  rw [e]
  rfl
end Go.Sx

/- Contracts. -/
namespace Go.Sx
open U
theorem fn9   : Fn P1 gl1 9 [] (.val (bV true)) true := by
  refine Fn.flat ?_ rfl
  refine fn_of false [(13, sp13), (14, sp14), (47, sp47), (18, sp18)] [] h0 0 Proofs.Tryd.f9 ⟨so13, so14, so47, so18, trivial⟩ trivial (by kernel_rfl) rfl (by kernel_rfl) rfl rfl rfl ?_
  rw [vc9 ()]
  try simp only [splitB_iff, -eq_self]
  have hX : StOk ((30, true), (1, 2, 3, 4), 258) := by
    simp only [StOk, RateOk, LabOk]
    decide
  have wb := word_back hX
  have wy := word_bytes hX
  have g4 : List.getD (wordS 30 true 1 2 3 4 258) 4 0 = 158 := rfl
  have enc : pkEnc 5 9 (wordS 30 true 1 2 3 4 258) = (frame 5 9 (wordS 30 true 1 2 3 4 258), 0) := by
    unfold pkEnc
    rw [if_pos (by decide)]
  dsimp only at wb wy
  obtain ⟨hr, hl, hu⟩ := hX
  dsimp only at hr hl hu
  generalize wordS 30 true 1 2 3 4 258 = W at *
  have dec : pkDec (frame 5 9 W) = ((5, 9, W), 0) := by
    obtain ⟨g0, g1, g2, g3, g5⟩ := frame_isFr (k := 5) (c := 9) (d := W) (by omega) (by omega) wy.1
    have g0' : frame ((frame 5 9 W).getD 1 0) ((frame 5 9 W).getD 2 0) (dat (frame 5 9 W)) = frame 5 9 W := g0
    unfold pkDec
    rw [if_pos g1, if_pos g0']
    show ((List.getD (frame 5 9 W) 1 0, List.getD (frame 5 9 W) 2 0, dat (frame 5 9 W)), (0 : Int)) = _
    rw [g2, g3, g5]
  rw [enc]
  dsimp only
  rw [dec]
  dsimp only
  rw [wb.1, g4]
  refine ⟨hr, hl, hu, wy, ⟨frame_len _ _ wy.1, frame_bytes _ _ wy.2⟩, wy.1, wy.2, wb.2, fun _ => by omega, fun _ => by omega, ?_⟩
  exact ⟨rfl, trivial⟩
theorem so9_ : SpecOk P1 gl1 9 sp9 := by
  intro vs ps r h _
  simp only [sp9] at h
  split at h
  · cases h; exact fn9  
  · cases h
theorem so9 : Sp1 9 sp9 := ⟨so9_, Proofs.Tryd.f9, _, by kernel_rfl, rfl, by kernel_rfl⟩

theorem fn3 (F : Int) (D : Bool) (h m s f u : Int) (b n : List Int) (hb : b.length = 2) (hbb : Bytes b) (hn : n.length = 3) (hnb : Bytes n) : Fn P1 gl1 3 [stV F D h m s f u, .agg [.arr 2 (.int .u8) b], .agg [.arr 3 (.int .u8) n]] (.val (bV true)) true := by
  refine Fn.flat ?_ rfl
  refine fn_of false [(8, sp8h), (9, sp9), (10, sp10h), (11, sp11h), (12, sp12h), (13, sp13h), (14, sp14h), (15, sp15h), (16, sp16h), (17, sp17), (18, sp18h), (19, sp19h)] [] h3 0 Proofs.Tryd.f3 ⟨so8h, so9, so10h, so11h, so12h, so13h, so14h, so15h, so16h, so17, so18h, so19h, trivial⟩ trivial (by kernel_rfl) rfl (by kernel_rfl) rfl rfl rfl ?_
  rw [vc3]
  try simp only [splitB_iff, -eq_self]
  simp only [hide_eq, and_true, true_and, bne_self_eq_false, Bool.false_eq_true, cond_false, forall_const, bcond_r, bcond_l]
  refine ⟨fun _ => trivial, fun h0 => ?_⟩
  have hX : StOk ((F, D), (h, m, s, f), u) := chkStZ.1 (bneF.1 h0)
  have hr : RateOk F D := hX.1
  have hl : LabOk F D h m s f := hX.2.1
  have hus : 0 ≤ u ∧ u ≤ 65535 := hX.2.2
  have hday := dayN_bd hr
  have hfr := frame_range hr hl
  refine ⟨hr, hr, hl, fun h1 => ?_, fun _ => ?_⟩
  · have h2 : dayN F D < 1 := by simpa using h1
    omega
  have b0 := byAt hbb (i := 0) (by omega)
  have b1 := byAt hbb (i := 1) (by omega)
  have n0 := byAt hnb (i := 0) (by omega)
  have n1 := byAt hnb (i := 1) (by omega)
  have n2 := byAt hnb (i := 2) (by omega)
  obtain ⟨N, hN⟩ : ∃ N : Nat, (N : Int) = 1 + b.getD 0 0 % 8 := ⟨(1 + b.getD 0 0 % 8).toNat, by omega⟩
  have hN8 : 1 ≤ N ∧ N ≤ 8 := by omega
  rw [← hN]
  obtain ⟨k, hk⟩ : ∃ k : Nat, (k : Int) = n.getD 0 0 % (N : Int) := ⟨(n.getD 0 0 % (N : Int)).toNat, by have := Int.emod_nonneg (n.getD 0 0) (show (N : Int) ≠ 0 by omega); omega⟩
  have hkN : k < N := by have := Int.emod_lt_of_pos (n.getD 0 0) (show (0 : Int) < N by omega); omega
  rw [← hk]
  obtain ⟨j, hj⟩ : ∃ j : Nat, (j : Int) = n.getD 1 0 % 16 := ⟨(n.getD 1 0 % 16).toNat, by omega⟩
  have hj16 : j < 16 := by omega
  rw [← hj]
  generalize hc : b.getD 1 0 = c at *
  generalize hM : 1 + n.getD 2 0 % 255 = M at *
  have hM1 : 1 ≤ M ∧ M ≤ 255 := by omega
  have hp : (((k : Int) * 16 + (j : Int)).toNat) = 16 * k + j := by omega
  have hNt : (N : Int).toNat = N := by omega
  rw [hp, hNt]
  have hX' := hX
  have enc : ∀ g : Nat, pkEnc 5 ((c + (g : Int)) % 256) (wordS F D (lab F D (addN F D h m s f g)).1 (lab F D (addN F D h m s f g)).2.1 (lab F D (addN F D h m s f g)).2.2.1 (lab F D (addN F D h m s f g)).2.2.2 u) = (cFr ((F, D), (h, m, s, f), u) c g, 0) := by
    intro g
    have hp : pcheck 5 ((c + (g : Int)) % 256) = 0 := by
      unfold pcheck
      rw [withinZ.2 (by omega), withinZ.2 (by omega)]
      rfl
    unfold pkEnc
    rw [if_pos hp]
    rfl
  have ht16 : ∀ g : Nat, List.take 16 (cFr ((F, D), (h, m, s, f), u) c g) = cFr ((F, D), (h, m, s, f), u) c g := fun g => List.take_of_length_le (by rw [cFr_len hX]; omega)
  refine ⟨by omega, by omega, by simp only [fits]; omega, by omega, by simp only [fits]; omega, by omega, by omega, by simp only [fits]; omega, ⟨0, Nat.zero_le _, rfl, rfl⟩, fun g hg => ⟨fun hlt => ?_, fun hge => ?_⟩⟩
  · have hlt' : g < N := by simpa using hlt
    have lo := cSt_lab hX g (by omega)
    have wd := cWd_ok hX g
    rw [enc g]
    dsimp only
    rw [ht16 g]
    refine ⟨hr, hl, by omega, hr, lo.1, hus, by simp only [fits]; omega, by omega, ⟨wd.1, wd.2.1⟩, fun h => (by simp at h), fun _ => ⟨by omega, cFr_len hX g, by simp only [room, cSent_len hX, cFr_len hX]; omega, by simp only [fits]; omega, g + 1, hlt', by omega, by simp, rfl⟩⟩
  · have hge' : ¬ g < N := by simpa using hge
    have hgN : g = N := by have : g ≤ N := hg; omega
    subst hgN
    have hL := cSent_len hX (c := c) g
    have hLs : ∀ y, ((cSent ((F, D), (h, m, s, f), u) c g).set (16 * k + j) y).length = 16 * g := fun y => by rw [List.length_set, hL]
    have hat : (cSent ((F, D), (h, m, s, f), u) c g).getD (16 * k + j) 0 = (cFr ((F, D), (h, m, s, f), u) c k).getD j 0 := by
      rw [← blk_cSent hX hkN]
      unfold blk
      rw [List.getD_eq_getElem?_getD, List.getD_eq_getElem?_getD, List.getElem?_take_of_lt hj16, List.getElem?_drop]
    have hfb := byAt (cFr_bytes hX (c := c) k) (i := j) (by rw [cFr_len hX]; omega)
    have hxor : bits .xor .u8 ((cFr ((F, D), (h, m, s, f), u) c k).getD j 0) M = bxor ((cFr ((F, D), (h, m, s, f), u) c k).getD j 0) M := rfl
    rw [hat, hxor]
    have hyb := bxor_bd ((cFr ((F, D), (h, m, s, f), u) c k).getD j 0) M
    have hyn := bxor_ne hfb hM1
    generalize bxor ((cFr ((F, D), (h, m, s, f), u) c k).getD j 0) M = y at *
    generalize hS : (cSent ((F, D), (h, m, s, f), u) c g).set (16 * k + j) y = S at *
    have hSl : S.length = 16 * g := by rw [← hS]; exact hLs y
    rw [hL]
    refine ⟨by omega, by omega, by simp only [fits]; omega, by omega, by simp only [fits]; omega, by omega, by omega, by simp only [fits]; omega, by omega, by simp only [fits]; omega, by omega, by omega, by omega, by omega, by omega, by simp only [fits]; omega, by omega, by omega, ⟨(0, S), ⟨Nat.zero_le _, rfl, fun i hi => (by cases hi)⟩, rfl, rfl, rfl⟩, fun g1 hg1 => ?_⟩
    obtain ⟨q, S1⟩ := g1
    obtain ⟨hq, rfl, hany⟩ := hg1
    dsimp only at hq hany hS hSl ⊢
    refine ⟨fun hlt => ?_, fun hge => ?_⟩
    · have hlt' : q < S1.length := by simpa using hlt
      refine ⟨by omega, hlt', fun _ => by omega, fun _ => trivial, fun h => ⟨by simp only [fits]; omega, (q + 1, S1), ⟨by dsimp only; omega, rfl, ?_⟩, by dsimp only; omega, by dsimp only; omega, rfl, rfl⟩⟩
      intro i hi h171
      by_cases e : i = q
      · subst e
        rw [h171] at h
        have h2 : (i : Int) % 16 = 0 := by simpa using h
        omega
      · exact hany i (by dsimp only at hi; omega) h171
    · have hrec : (received S1).1 = got ((F, D), (h, m, s, f), u) c k g ∧ (received S1).2.2 = 0 := by
        have hge2 : ¬ q < S1.length := by simpa using hge
        have : anySync S1 (16 * g) := fun i hi => hany i (by omega)
        rw [← hS] at this ⊢
        exact got_received hX (by omega) hkN hj16 hyb hyn this
      rw [hrec.1, hrec.2, got_len hkN]
      have hSb : Bytes S1 := by rw [← hS]; exact bytes_set (cSent_bytes hX g) _ hyb
      have hlost : lostTo (got ((F, D), (h, m, s, f), u) c k g) (g - 1 - 1) = if 0 < k ∧ k + 1 < g then [(c + k) % 256] else [] := by
        by_cases g1 : g = 1
        · subst g1
          rw [if_neg (by omega)]
          rfl
        · rw [lost_got b1 hN8.2 hkN (g - 1 - 1) (by omega)]
          by_cases h1 : 0 < k ∧ k + 1 < g
          · rw [if_pos h1, if_pos (by omega)]
          · rw [if_neg h1, if_neg (by omega)]
      have hne : ((0 : Int) != 0 || ((g - 1 : Nat) : Int) != (g : Int) - 1) = false := by
        have : ((g - 1 : Nat) : Int) = (g : Int) - 1 := by omega
        rw [this]; simp
      have hins : (decide ((0 : Int) < (k : Int)) && decide ((k : Int) < (g : Int) - 1)) = decide (0 < k ∧ k + 1 < g) := by
        rw [Bool.eq_iff_iff]
        simp only [Bool.and_eq_true, decide_eq_true_eq]
        omega
      rw [hne, hins, hlost]
      have hl1 : (if 0 < k ∧ k + 1 < g then [(c + (k : Int)) % 256] else []).length ≤ 1 := by split <;> simp
      have hl2 : (decide (0 < k ∧ k + 1 < g) && !decide ((if 0 < k ∧ k + 1 < g then [(c + (k : Int)) % 256] else []) = [(c + (k : Int)) % 256]) || !decide (0 < k ∧ k + 1 < g) && decide ((0 : Int) < ((if 0 < k ∧ k + 1 < g then [(c + (k : Int)) % 256] else []).length : Int))) = false := by
        by_cases h1 : 0 < k ∧ k + 1 < g
        · simp [h1]
        · simp [h1]
      rw [hl2]
      refine ⟨by simp only [room]; omega, ⟨hSb, by omega⟩, fun _ => by simp only [fits]; omega, fun h => (by cases h), fun _ => ⟨by simp only [room]; omega, ⟨by omega, ?_, by decide, by omega⟩, fun _ => by simp only [fits]; omega, fun _ => by simp only [fits]; omega, fun _ => by omega, fun _ => by omega, fun h => (by cases h), fun _ => ⟨⟨(0, got ((F, D), (h, m, s, f), u) c k g), ⟨Nat.zero_le _, rfl⟩, rfl, by rw [got_len hkN], rfl, rfl⟩, fun g2 hg2 => ?_⟩⟩⟩
      · intro p hp
        obtain ⟨i, rfl⟩ := got_mem hkN hp
        refine ⟨rfl, ?_⟩
        show pcheck 5 ((c + (i : Int)) % 256) = 0
        unfold pcheck
        rw [withinZ.2 (by omega), withinZ.2 (by omega)]
        rfl
      obtain ⟨q2, G⟩ := g2
      obtain ⟨hq2, hG⟩ := hg2
      dsimp only at hq2 hG ⊢
      subst hG
      rw [got_len hkN] at hq2 ⊢
      refine ⟨fun hlt2 => ?_, fun hge2 => ?_⟩
      · have hlt3 : q2 < g - 1 := by simpa using hlt2
        have hss := stampsOf_succ (got ((F, D), (h, m, s, f), u) c k g) q2 (by rw [got_len hkN]; exact hlt3) (0, 0, List.replicate 10 0)
        have hil := idx_lt hkN hlt3
        rw [got_at hkN hlt3] at hss ⊢
        generalize idx k q2 = i at *
        have wd := cWd_ok hX i
        have hpk : pkI ((F, D), (h, m, s, f), u) c i = (5, (c + (i : Int)) % 256, cWd ((F, D), (h, m, s, f), u) i) := rfl
        rw [hpk] at hss ⊢
        dsimp only at hss ⊢
        rw [wd.2.2.1] at hss ⊢
        have hlb := cSt_lab hX i (by omega)
        have hst := cSt_ok hX i (by omega)
        have hi : ((c + (i : Int)) % 256 - c + 256) % 256 = (i : Int) := by omega
        dsimp only [cSt] at hss ⊢
        dsimp only at hlb
        rw [hi, hlb.2]
        have hcond : (addN F D h m s f (i : Int) != (frameN F D h m s f + (i : Int)) % dayN F D || (i : Int) == (k : Int) || u != u) = false := by
          have : addN F D h m s f (i : Int) = (frameN F D h m s f + (i : Int)) % dayN F D := rfl
          rw [this]
          have : ((i : Int) == (k : Int)) = false := by simpa using (by omega : ¬ (i : Int) = k)
          rw [this]
          simp
        rw [hcond]
        have hsl : (stampsOf (got ((F, D), (h, m, s, f), u) c k g) q2).length ≤ 8 := by
          unfold stampsOf
          rw [List.length_map, List.length_take]
          omega
        refine ⟨by omega, hlt3, wd.1, wd.2.1, wd.2.2.2, hr, hlb.1, by simp only [fits]; omega, by simp only [fits]; omega, by omega, by simp only [fits]; omega, by omega, fun h => (by cases h), fun _ => ⟨by simp only [room]; omega, by simp only [fits]; omega, (q2 + 1, got ((F, D), (h, m, s, f), u) c k g), ⟨by dsimp only; rw [got_len hkN]; omega, rfl⟩, by dsimp only; rw [got_len hkN]; omega, rfl, by dsimp only; rw [got_len hkN], rfl, hss.symm⟩⟩
      · have hge3 : q2 = g - 1 := by have : ¬ q2 < g - 1 := by simpa using hge2
                                     omega
        rw [stamps_got hX hkN q2 (by omega)]
        have hll : ((List.range q2).map fun a => cSt ((F, D), (h, m, s, f), u) (idx k a)).length = q2 := by simp
        have hju := jumps_got hX (k := k) (M := q2) q2 (Nat.le_refl _)
        have hstk : ∀ x ∈ (List.range q2).map fun a => cSt ((F, D), (h, m, s, f), u) (idx k a), StOk x := by
          intro x hx
          obtain ⟨a, _, rfl⟩ := List.mem_map.1 hx
          exact cSt_ok hX _ (by omega)
        have at_ : ∀ a, a < q2 → List.getD ((List.range q2).map fun a => cSt ((F, D), (h, m, s, f), u) (idx k a)) a ((0, false), (0, 0, 0, 0), 0) = cSt ((F, D), (h, m, s, f), u) (idx k a) := by
          intro a ha
          rw [getD_of (by simpa using ha)]
          simp
        generalize ((List.range q2).map fun a => cSt ((F, D), (h, m, s, f), u) (idx k a)) = T at *
        rw [hll, hju]
        have hq3 : (0 < k ∧ k < q2) ↔ (0 < k ∧ k + 1 < g) := by omega
        have hj2 : (decide (0 < k ∧ k + 1 < g) && !decide ((if 0 < k ∧ k < q2 then [(k : Int)] else []) = [(k : Int)]) || !decide (0 < k ∧ k + 1 < g) && decide ((0 : Int) < ((if 0 < k ∧ k < q2 then [(k : Int)] else []).length : Int))) = false := by
          simp only [hq3]
          by_cases h1 : 0 < k ∧ k + 1 < g
          · simp [h1]
          · simp [h1]
        rw [hj2]
        refine ⟨by omega, hstk, fun _ => by split <;> simp, fun h => (by cases h), fun _ => ⟨fun hin => ?_, fun _ => trivial⟩⟩
        have hin2 : 0 < k ∧ k + 1 < g := by simpa using hin
        have e1 : ((k : Int) - 1).toNat = k - 1 := by omega
        have e2 : ((k : Int)).toNat = k := by omega
        have i1 : idx k (k - 1) = k - 1 := by unfold idx; rw [if_pos (by omega)]
        have i2 : idx k k = k + 1 := by unfold idx; rw [if_neg (by omega)]
        rw [e1, e2, at_ (k - 1) (by omega), at_ k (by omega), i1, i2]
        have tl := two_later hX (a := k - 1)
        rw [show k - 1 + 2 = k + 1 by omega] at tl
        have l1 := cSt_lab hX ((k - 1 : Nat) : Int) (by omega)
        dsimp only at tl l1
        dsimp only [cSt]
        refine ⟨by simp only [fits]; omega, by omega, by omega, by simp only [fits]; omega, by omega, by omega, hr, l1.1, by omega, fun _ => by omega, fun _ => by omega, ?_⟩
        rw [tl, Bool.and_true]
        rw [Bool.and_eq_true]
        exact ⟨rfl, (eqT_key rfl _ _).2 rfl⟩

end Go.Sx

/- From readings of arguments to pure data. -/
namespace Go.Sx
open Go.RowKit

/-- What a reading gives beside the cells: numbers fit their kinds, lengths are those of machines. -/
def WF : (t : Ty) → t.T → Prop
  | .int k, n => (Lit.int k n).wf = true
  | .bool, _ => True
  | .str, l => List.length l ≤ maxLen
  | .flt k, n => (Lit.float k n).wf = true
  | .cpx _, _ => True
  | .sl t, xs => List.length xs ≤ maxLen ∧ ∀ i (h : i < List.length xs), WF t (xs[i]'h)
  | .arr n t, xs => List.length xs = n ∧ ∀ i (h : i < List.length xs), WF t (xs[i]'h)
  | .pair a b, x => WF a x.1 ∧ WF b x.2

mutual
def rdChk (P : Program) : Nat → TypeId → Ty → Bool
  | 0, _, _ => false
  | n + 1, t, u => match P.underlying t with
      | some (.int k) => decide (u = .int k)
      | some .bool => decide (u = .bool)
      | some .string => decide (u = .str)
      | some (.float k) => decide (u = .flt k)
      | some (.slice e) => match u with
        | .sl v => decide (P.cellsOf e = v.sz) && decide (v.sz ≠ 0) && rdChk P n e v
        | _ => false
      | some (.array m e) => match u with
        | .arr m' v => decide (m = m') && decide (P.cellsOf e = v.sz) && decide (P.cellsOf t = m * v.sz) && rdChk P n e v
        | _ => false
      | some (.struct fs) => decide (P.cellsOf t = u.sz) && rdFs P n 0 fs.toList u
      | _ => false
def rdFs (P : Program) : Nat → Nat → List Field → Ty → Bool
  | 0, _, _, _ => false
  | n + 1, off, [f], u => decide (f.offset = off) && decide (P.cellsOf f.type = u.sz) && rdChk P n f.type u
  | n + 1, off, f :: r, .pair a b => decide (f.offset = off) && decide (P.cellsOf f.type = a.sz) && rdChk P n f.type a && rdFs P n (off + a.sz) r b
  | _, _, _, _ => false
end

def HW (w : World) : IH := fun b => w.heap[b]?

theorem addp (b off i : Nat) : (Addr.mk b off none).add i = ⟨b, off + i, none⟩ := by
  unfold Addr.add; split <;> simp_all
theorem cells_seg {w : World} {base : Nat} {a : Addr} {n : Nat} {cs : List Value} (h : w.cells? base a n = some cs) (hn : 0 < n) :
    ∃ b off c e fr, a = ⟨b, off, none⟩ ∧ w.heap[b]? = some (.cells c e fr) ∧ seg c off n = cs := by
  obtain ⟨_, hl, hc⟩ := World.cells?_some h
  obtain ⟨b, off, sp⟩ := a
  have h0 := hc 0 hn
  rw [List.getElem?_eq_getElem (by omega)] at h0
  have hs : sp = none := by
    have := World.cell?_spot h0
    simp only [Addr.add] at this
    cases sp with
    | none => rfl
    | some x => simp at this
  subst hs
  have hb : ∃ c e fr, w.heap[b]? = some (.cells c e fr) := by
    simp only [World.cell?, Addr.add] at h0
    split at h0
    · exact ⟨_, _, _, ‹_›⟩
    · cases h0
  obtain ⟨c, e, fr, hb⟩ := hb
  refine ⟨b, off, c, e, fr, rfl, hb, ?_⟩
  have hi : ∀ i, i < n → c[off + i]? = cs[i]? := by
    intro i hi
    have := hc i hi
    rw [addp] at this
    simpa [World.cell?, hb] using this
  apply List.ext_getElem?
  intro i
  simp only [seg, List.getElem?_take, List.getElem?_drop]
  split
  · rename_i h1
    rw [← hi i h1]; simp
  · rename_i h1
    rw [List.getElem?_eq_none (by omega)]

theorem choose_list {α : Type} (n : Nat) (p : Nat → α → Prop) (h : ∀ i, i < n → ∃ y, p i y) : ∃ ys : List α, ys.length = n ∧ ∀ i (hi : i < ys.length), p i (ys[i]'hi) := by
  induction n with
  | zero => exact ⟨[], rfl, fun i hi => by simp at hi⟩
  | succ n ih =>
    obtain ⟨ys, h1, h2⟩ := ih fun i hi => h i (by omega)
    obtain ⟨y, hy⟩ := h n (by omega)
    refine ⟨ys ++ [y], by simp [h1], fun i hi => ?_⟩
    by_cases hlt : i < ys.length
    · rw [List.getElem_append_left hlt]; exact h2 i hlt
    · simp at hi
      have : i = ys.length := by omega
      subst this
      simp
      rw [h1]; exact hy

theorem trod_rd_all {X : Type} {enc : TypeId × Value → X} {P : Program} {w : World} {base : Nat} {spare : Nat → Bool} {held : Bool} : ∀ (n : Nat),
    (∀ (t : TypeId) (u : Ty) (fuel : Nat) (cs : List Value) (x : DataW X × List MemPlace), rdChk P n t u = true → DataW.trod enc P w base spare held fuel t cs = some x → ∃ y : u.T, Rd (HW w) u y cs ∧ WF u y) ∧
    (∀ (off : Nat) (fs : List Field) (u : Ty) (fuel : Nat) (cs : List Value), rdFs P n off fs u = true → cs.length = off + u.sz →
      (∀ f ∈ fs, ∃ x, DataW.trod enc P w base spare held fuel f.type ((cs.drop f.offset).take (P.cellsOf f.type)) = some x) → ∃ y : u.T, Rd (HW w) u y (cs.drop off) ∧ WF u y) := by
  intro n
  induction n with
  | zero => exact ⟨fun _ _ _ _ _ h => by simp [rdChk] at h, fun _ _ _ _ _ h => by simp [rdFs] at h⟩
  | succ n ih =>
    refine ⟨?_, ?_⟩
    · intro t u fuel cs x h hx
      unfold rdChk at h
      split at h
      · rename_i k hu
        simp at h; subst h
        obtain ⟨m, rfl, _, hw⟩ := DataW.trod_int hu hx
        exact ⟨m, rfl, hw⟩
      · rename_i hu
        simp at h; subst h
        obtain ⟨m, rfl, _⟩ := DataW.trod_bool hu hx
        exact ⟨m, rfl, trivial⟩
      · rename_i hu
        simp at h; subst h
        obtain ⟨s, rfl, _, hw⟩ := DataW.trod_string hu hx
        refine ⟨s.data.toList, rfl, ?_⟩
        show s.data.toList.length ≤ maxLen
        rw [Array.length_toList]; exact hw
      · rename_i k hu
        simp at h; subst h
        cases fuel with
        | zero => simp [DataW.trod] at hx
        | succ m =>
          unfold DataW.trod at hx
          rw [hu] at hx
          have : ∃ b, cs = [.float k b] ∧ (Lit.float k b).wf = true := by split at hx <;> simp_all
          obtain ⟨b, rfl, hw⟩ := this
          exact ⟨b, rfl, hw⟩
      · rename_i e hu
        split at h
        · rename_i v
          simp only [Bool.and_eq_true, decide_eq_true_eq] at h
          obtain ⟨⟨h1, h2⟩, h3⟩ := h
          rcases DataW.trod_slice hu hx with ⟨rfl, _⟩ | ⟨a, len, cap, elems, rest, m, _, rfl, _, _, hlc, hm, hel, hei, _, _⟩
          · exact ⟨[], ⟨none, 0, rfl, Nat.le_refl _, .inl rfl⟩, by simp [WF]⟩
          · have hone : ∀ i, i < len → ∃ cs', w.cells? base (a.add (i * P.cellsOf e)) (P.cellsOf e) = some cs' ∧ ∃ y : v.T, Rd (HW w) v y cs' ∧ WF v y := by
              intro i hi
              have := hei i hi
              rw [List.getElem?_eq_getElem (by omega)] at this
              obtain ⟨cs', hc1, hc2⟩ := Option.bind_eq_some_iff.1 this
              exact ⟨cs', hc1, ih.1 _ _ _ _ _ h3 hc2⟩
            obtain ⟨ys, hy1, hy2⟩ := choose_list len (fun i (y : v.T) => ∃ cs', w.cells? base (a.add (i * P.cellsOf e)) (P.cellsOf e) = some cs' ∧ Rd (HW w) v y cs' ∧ WF v y)
              (fun i hi => by obtain ⟨cs', h1, y, h2⟩ := hone i hi; exact ⟨y, cs', h1, h2⟩)
            refine ⟨ys, ⟨some a, cap, by rw [hy1], by rw [hy1]; exact hlc, ?_⟩, by rw [hy1]; omega, fun i hi => ?_⟩
            · rcases Nat.eq_zero_or_pos ys.length with h0 | h0
              · exact .inl h0
              · right
                obtain ⟨cs0, hc0, _⟩ := hy2 0 h0
                obtain ⟨b, off, c, e', fr, ha, hb, _⟩ := cells_seg hc0 (by omega)
                have ha' : a = ⟨b, off, none⟩ := by rw [← ha]; simp [Addr.add]
                refine ⟨b, off, c, e', fr, by rw [ha'], hb, fun i hi => ?_⟩
                obtain ⟨cs', hc', hr, _⟩ := hy2 i hi
                obtain ⟨b', off', c', e'', fr', hab, hb', hsg⟩ := cells_seg hc' (by omega)
                rw [ha', addp] at hab
                simp only [Addr.mk.injEq] at hab
                obtain ⟨rfl, rfl, _⟩ := hab
                rw [hb] at hb'
                cases hb'
                rw [h1] at hsg
                rw [hsg]; exact hr
            · obtain ⟨_, _, _, hwf⟩ := hy2 i hi
              exact hwf
        · cases h
      · rename_i m e hu
        split at h
        · rename_i m' v
          simp only [Bool.and_eq_true, decide_eq_true_eq] at h
          obtain ⟨⟨⟨rfl, h1⟩, h2⟩, h3⟩ := h
          obtain ⟨xs, k, _, _, hl, hxl, hxi⟩ := DataW.trod_array hu hx
          obtain ⟨ys, hy1, hy2⟩ := choose_list m (fun i (y : v.T) => Rd (HW w) v y ((cs.drop (i * P.cellsOf e)).take (P.cellsOf e)) ∧ WF v y)
            (fun i hi => by
              have := hxi i hi
              rw [List.getElem?_eq_getElem (by omega)] at this
              exact ih.1 _ _ _ _ _ h3 this)
          refine ⟨ys, ⟨hy1, by rw [hl, h2], fun i hi => ?_⟩, hy1, fun i hi => (hy2 i hi).2⟩
          have := (hy2 i hi).1
          rw [h1] at this
          exact this
        · cases h
      · rename_i fs hu
        simp only [Bool.and_eq_true, decide_eq_true_eq] at h
        obtain ⟨xs, k, _, _, hl, hxl, hxi⟩ := DataW.trod_struct hu hx
        have := ih.2 0 fs.toList u k cs h.2 (by rw [hl, h.1]; omega) (fun f hf => by
          obtain ⟨i, hi, rfl⟩ := List.mem_iff_getElem.1 hf
          simp at hi
          have := hxi i fs[i] (by simp [hi])
          rw [List.getElem?_eq_getElem (by omega)] at this
          exact ⟨_, by simpa using this⟩)
        simpa using this
      · cases h
    · intro off fs u fuel cs h hl hf
      match fs, u, h, hl, hf with
      | [], u, h, _, _ => simp [rdFs] at h
      | [f], u, h, hl, hf =>
        simp only [rdFs, Bool.and_eq_true, decide_eq_true_eq] at h
        obtain ⟨⟨rfl, h1⟩, h2⟩ := h
        obtain ⟨x, hx⟩ := hf f (by simp)
        rw [h1, List.take_of_length_le (by simp; omega)] at hx
        exact ih.1 _ _ _ _ _ h2 hx
      | f :: g :: r, .pair a b, h, hl, hf =>
        simp only [rdFs, Bool.and_eq_true, decide_eq_true_eq] at h
        obtain ⟨⟨⟨rfl, h1⟩, h2⟩, h3⟩ := h
        simp only [Ty.sz] at hl
        obtain ⟨x, hx⟩ := hf f (by simp)
        rw [h1] at hx
        obtain ⟨y1, hy1, hw1⟩ := ih.1 _ _ _ _ _ h2 hx
        obtain ⟨y2, hy2, hw2⟩ := ih.2 _ _ _ fuel cs h3 (by omega) (fun g' hg => hf g' (List.mem_cons_of_mem _ hg))
        refine ⟨(y1, y2), ⟨hy1, ?_⟩, hw1, hw2⟩
        rw [List.drop_drop]; exact hy2
      | _ :: _ :: _, .int _, h, _, _ => simp [rdFs] at h
      | _ :: _ :: _, .bool, h, _, _ => simp [rdFs] at h
      | _ :: _ :: _, .str, h, _, _ => simp [rdFs] at h
      | _ :: _ :: _, .flt _, h, _, _ => simp [rdFs] at h
      | _ :: _ :: _, .cpx _, h, _, _ => simp [rdFs] at h
      | _ :: _ :: _, .sl _, h, _, _ => simp [rdFs] at h
      | _ :: _ :: _, .arr _ _, h, _, _ => simp [rdFs] at h

theorem trod_rd {X : Type} {enc : TypeId × Value → X} {P : Program} {w : World} {base : Nat} {spare : Nat → Bool} {held : Bool} (n : Nat)
    {t : TypeId} {u : Ty} (h : rdChk P n t u = true) {fuel : Nat} {cs : List Value} {x : DataW X × List MemPlace} (hx : DataW.trod enc P w base spare held fuel t cs = some x) : ∃ y : u.T, Rd (HW w) u y cs ∧ WF u y :=
  (trod_rd_all n).1 t u fuel cs x h hx
end Go.Sx

/- From readings of arguments to pure data: arguments, variables, what is left behind. -/
namespace Go.Sx
open Go.RowKit Go.ChangeShapes Go.WideShapes Go.ChangeAt

section
variable {X : Type} {enc : TypeId × Value → X} {P : Program} {w : World} {base base' : Nat} {spare : Nat → Bool} {held : Bool} {n : Nat} {t : TypeId} {u : Ty} {v : Value} {d : DataW X} {ps : List MemPlace}

theorem cells_one (hv : ∀ cs, v ≠ .agg cs) : v.cells.toList = [v] := by
  cases v <;> simp_all [Value.cells]

theorem okWide_one (ha : aggOf P t = false) (hok : Value.okWide P w .any base' t v) : ∀ cs, v ≠ .agg cs := by
  intro cs hv
  subst hv
  unfold aggOf at ha
  unfold Value.okWide at hok
  split at hok
  · rename_i h; rw [h] at ha; cases ha
  · rename_i h; rw [h] at ha; cases ha
  · unfold Cell.okWide at hok
    split at hok <;> try (rename_i h; cases h; done)
    all_goals first | (rename_i h _; cases h; done) | skip
    all_goals first | (unfold Cell.ok at hok; split at hok <;> first | (exact hok) | (rename_i h; cases h; done) | (rename_i h _; cases h; done) | simp_all; done) | simp_all

theorem arg_one (h : rdChk P n t u = true) (ha : aggOf P t = false) (hok : Value.okWide P w .any base' t v) (hT : DataW.Trod enc P w base spare held t v d ps) : ∃ y : u.T, Rd (HW w) u y [v] ∧ WF u y := by
  obtain ⟨fuel, hT⟩ := hT
  rw [cells_one (okWide_one ha hok)] at hT
  exact trod_rd n h hT

theorem arg_agg (h : rdChk P n t u = true) (ha : aggOf P t = true) (hok : Value.okWide P w .any base' t v) (hT : DataW.Trod enc P w base spare held t v d ps) : ∃ (vs : List Value) (y : u.T), v = .agg ⟨vs⟩ ∧ Rd (HW w) u y vs ∧ WF u y := by
  obtain ⟨fuel, hT⟩ := hT
  have hv : ∃ cs, v = .agg cs := by
    unfold aggOf at ha
    unfold Value.okWide at hok
    split at hok
    · exact ⟨_, hok.choose_spec.1⟩
    · exact ⟨_, hok.choose_spec.1⟩
    · rename_i h1 h2
      split at ha
      · exact absurd ‹_› (h1 _)
      · exact absurd ‹_› (h2 _ _)
      · cases ha
  obtain ⟨cs, rfl⟩ := hv
  obtain ⟨y, h1, h2⟩ := trod_rd n h hT
  exact ⟨cs.toList, y, rfl, h1, h2⟩
end

theorem trodAll_below {X : Type} {enc : TypeId × Value → X} {P : Program} (hl : laidOutB P = true) {W W' : World} (hb : Below W.heap.size W W') : ∀ {ts : List TypeId} {vs : List Value} {ds : List (DataW X)} {ps : List MemPlace},
    (ts.all fun t => P.readableRec t && decide (t < P.types.size)) = true → DataW.TrodAll enc P W 0 (fun _ => true) true ts vs ds ps → (∀ x ∈ ps, x.block < W.heap.size) → DataW.TrodAll enc P W' 0 (fun b => decide (b < W.heap.size)) true ts vs ds ps
  | [], vs, ds, ps, _, h, _ => by
    cases vs <;> cases ds <;> simp_all [DataW.TrodAll]
  | t :: ts, vs, ds, ps, ht, h, hlt => by
    obtain ⟨v, vs', d, ds', p, q, rfl, rfl, rfl, h1, h2⟩ := trodAll_cons h
    simp only [List.all_cons, Bool.and_eq_true, decide_eq_true_eq] at ht
    refine trodAll_cons_mk (Below.trod hl ht.1.1 ht.1.2 h1 hb fun x hx => hlt x (by simp [hx])) (trodAll_below hl hb ht.2 h2 fun x hx => hlt x (by simp [hx]))

/-- What a law leaves behind: true, and the arguments as they were. -/
theorem law_post {X : Type} {enc : TypeId × Value → X} {P : Program} (hl : laidOutB P = true) {s : ChangeSpec} {f : Func} {tb : TypeId} {W W' : World} {args : Array Value} {ds gs : List (DataW X)} {before : List MemPlace} {r : Value}
    (hvars : s.vars = []) (hts : (f.params.toList.all fun t => P.readableRec t && decide (t < P.types.size)) = true) (hres : f.resultTypes = #[tb]) (htb : P.underlying tb = some .bool)
    (hfn : s.fn X ds = { results := [.lit (.bool true)], args := ds })
    (hW : DataW.Whole enc P f.params.toList s.vars false W args.toList ds gs before) (hb : Below W.heap.size W W') (hr : r = .bool true) :
    s.post enc P f false true false false W args r W' := by
  subst hr
  have hW' := hW
  obtain ⟨p, q, hA, hV, rfl, hfz, hnd⟩ := hW
  rw [hvars] at hV
  obtain ⟨rfl, rfl⟩ := trodVars_none hV
  have hlt : ∀ x ∈ p, x.block < W.heap.size := fun x hx => hW'.lt x (by simp [hx])
  refine ⟨ds, [], p ++ [], [], p, [], hW', ?_, ?_, ?_, hb.frame _, fun h => by cases h⟩
  · rw [List.append_nil, hfn, hres]
    exact trodAll_cons_mk (shut_bool htb _) trodAll_mk0
  · rw [List.append_nil, hfn]
    exact trodAll_below hl hb hts hA hlt
  · rw [List.append_nil, hfn, hvars]
    rfl

theorem law_calls {X : Type} {enc : TypeId × Value → X} {P : Program} (hl : laidOutB P = true) {s : ChangeSpec} {f : Func} {tb : TypeId} {fid : FuncId} {W : World} {args : Array Value} {ds gs : List (DataW X)} {before : List MemPlace}
    (hvars : s.vars = []) (hts : (f.params.toList.all fun t => P.readableRec t && decide (t < P.types.size)) = true) (hres : f.resultTypes = #[tb]) (htb : P.underlying tb = some .bool)
    (hfn : s.fn X ds = { results := [.lit (.bool true)], args := ds })
    (hW : DataW.Whole enc P f.params.toList s.vars false W args.toList ds gs before)
    {gl : Nat → Option ((t : Ty) × t.T)} {avs : List V} (hF : Fn P gl fid avs (.val (.one (.bool true))) true) (hg : GlobOk gl (HW W)) (ha : DenVs ρ0 (HW W) avs args.toList) :
    Calls P fid args W fun e W' => ∃ v, e = .returned v ∧ s.post enc P f false true false false W args v W' := by
  refine (hF W (HW W) args.toList (fun b o h => h) hg ha).mono fun e W' h => ?_
  obtain ⟨v, H', rfl, hb, _, _, hd⟩ := h
  exact ⟨v, rfl, law_post hl hvars hts hres htb hfn hW hb hd.2⟩

theorem glob_tab {P : Program} {W : World} {name : String} {k : IntKind} {zs : List Int} {g : Nat} (h : Lib.TabIs P W name k zs) (hg : P.globalNamed name = some g) :
    ∃ c e fr, HW W g = some (.cells c e fr) ∧ Rd (HW W) (.arr zs.length (.int k)) zs (seg c 0 (zs.length * 1)) := by
  unfold Lib.TabIs at h
  simp only [World.var?, hg, Option.bind_some] at h
  split at h
  · rename_i cs e fr hh
    cases h
    refine ⟨_, _, _, hh, ?_⟩
    have e1 : seg (zs.map fun z => Value.int k z).toArray 0 (zs.length * 1) = zs.map fun z => Value.int k z := by
      simp [seg, List.take_of_length_le]
    rw [e1]
    refine ⟨rfl, by simp [Ty.sz], fun i hi => ?_⟩
    show List.take 1 (List.drop (i * 1) (List.map (fun z => Value.int k z) zs)) = [Value.int k zs[i]]
    simp only [Nat.mul_one]
    rw [List.drop_eq_getElem_cons (by simpa using hi)]
    simp
  · cases h
end Go.Sx
