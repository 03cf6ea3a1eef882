/- A verified symbolic run of functions, part 18: lemmas, no claim of their own. -/
import Derived.Test.YtpbipfdpoijgoaaGreatDoorS17
/- Contracts. -/
namespace Go.Sx
open U
theorem short_bd {R : List Rl} {L : List Ed} (h : (!shortB R L) = false) : (R.length ≤ 9 ∧ ∀ r ∈ R, r.2.2.length ≤ 257 ∧ r.1.length ≤ 40) ∧ L.length ≤ 17 := by
  simp only [Bool.not_eq_false', shortB, shortE, shortR, Bool.and_eq_true, Bool.or_eq_true, List.all_eq_true, decide_eq_true_eq] at h
  obtain ⟨h1, h2, h3, h4⟩ := h
  exact ⟨⟨by omega, fun r hr => by have := h1 r hr; omega⟩, by omega⟩
theorem fn46 (B : List (List Tk)) (hl : B.length ≤ 1000000) (hB : ∀ x ∈ B, x.length ≤ 1000000) : Fn P1 gl1 46 [.one (.sl (.sl tkT) B)] (.val (.one (.sl (.sl tkT) B))) false := by
  refine fn_of false [(48, sp48.frz)] [] (hCopy 46 (.sl tkT)) 0 Proofs.Tryz.f46 ⟨Sp1.frz so48, trivial⟩ trivial (by kernel_rfl) rfl (by kernel_rfl) rfl rfl rfl ?_
  rw [vc46]
  try simp only [splitB_iff, -eq_self]
  refine ⟨⟨0, Nat.zero_le _, rfl, by trivial, by trivial, by simp⟩, fun g hg => ⟨fun hlt => ?_, fun hge => ?_⟩⟩
  · have hlt' : g < B.length := by simpa using hlt
    exact ⟨by omega, hB _ (getD_mem (d := []) hlt'), by simp only [room, List.length_take]; omega, by simp only [fits]; omega, g + 1, hlt', by omega, by simp, by trivial, by trivial, copied hlt', trivial⟩
  · have hge' : ¬ g < B.length := by simpa using hge
    exact ⟨List.take_of_length_le (by omega), trivial⟩
theorem so46_ : SpecOk P1 gl1 46 sp46 := by
  intro vs ps r h hp
  simp only [sp46] at h
  split at h
  · cases h; exact fn46 _ (hp _ (.head _)) (hp _ (.tail _ (.head _)))
  · cases h
theorem so46 : Sp1 46 sp46 := ⟨so46_, Proofs.Tryz.f46, _, by kernel_rfl, rfl, by kernel_rfl⟩
theorem fn45 (a b : List (List Tk)) (hl : a.length ≤ 1000000) (ha : ∀ x ∈ a, x.length ≤ 1000000) : Fn P1 gl1 45 [.one (.sl (.sl tkT) a), .one (.sl (.sl tkT) b)] (.val (bV (decide (a = b)))) true := by
  refine Fn.flat ?_ rfl
  refine fn_of false [(47, sp47)] [] (hSame 45 (.sl tkT) []) 0 Proofs.Tryz.f45 ⟨so47, trivial⟩ trivial (by kernel_rfl) rfl (by kernel_rfl) rfl rfl rfl ?_
  rw [vc45]
  try simp only [splitB_iff, -eq_self]
  simp only [same_len]
  refine ⟨fun h => ⟨(decide_eq_false fun e => ?_).symm, trivial⟩, fun h => ?_⟩
  · rw [e] at h; simp at h
  · have h' : a.length = b.length := by simpa using h
    refine ⟨⟨0, ⟨Nat.zero_le _, fun j hj => absurd hj (Nat.not_lt_zero _)⟩, rfl, by trivial, by trivial, trivial⟩, fun g hg => ⟨fun hlt => ?_, fun hge => ?_⟩⟩
    · have hlt' : g < a.length := by have := of_decide_eq_true hlt; omega
      refine ⟨by omega, by omega, ha _ (getD_mem (d := []) hlt'), fun hne => ⟨(decide_eq_false fun e => ?_).symm, trivial⟩, fun hq => ⟨by simp only [fits]; omega, g + 1, ⟨hlt', fun j hj => ?_⟩, by omega, by omega, by trivial, by trivial, trivial⟩⟩
      · subst e
        simp at hne
      · by_cases ej : j = g
        · subst ej
          simpa using hq
        · exact hg.2 j (by omega)
    · exact ⟨(decide_eq_true (same_all [] h' fun j hj => hg.2 j (by have := of_decide_eq_false hge; omega))).symm, trivial⟩
theorem so45_ : SpecOk P1 gl1 45 sp45 := by
  intro vs ps r h hp
  simp only [sp45] at h
  split at h
  · cases h; exact fn45 _ _ (hp _ (.head _)) (hp _ (.tail _ (.head _)))
  · cases h; exact Fn.args (fn45 _ [] (hp _ (.head _)) (hp _ (.tail _ (.head _)))) fun H vs d => by
      obtain ⟨v0, r0, rfl, h0, v1, r1, rfl, h1, hz⟩ := d
      exact ⟨_, _, rfl, h0, _, _, rfl, nil_sl h1, hz⟩
  · cases h
theorem so45 : Sp1 45 sp45 := ⟨so45_, Proofs.Tryz.f45, _, by kernel_rfl, rfl, by kernel_rfl⟩

end Go.Sx

/- Plain laws: a list that is parted, and joined again. -/
namespace Go.Sx
open U

theorem lastTo_is {g : Pl → Int} {p : List Pl} {fr : Int} {k : Nat} : ∀ n, k < n → g (p.getD k pl0) ≤ fr → (∀ j, k < j → j < n → fr < g (p.getD j pl0)) → lastTo g p fr n = k
  | 0, h, _, _ => absurd h (Nat.not_lt_zero _)
  | n + 1, h, h1, h2 => by
    simp only [lastTo]
    by_cases e : k = n
    · subst e; rw [if_pos h1]
    · have := h2 n (by omega) (by omega)
      rw [if_neg (by omega)]
      exact lastTo_is n (by omega) h1 fun j hj hn => h2 j hj (by omega)
/-- Edits that are not empty. -/
def PosL (L : List Ed) : Prop := ∀ i, i < L.length → (L.getD i e0).2.1 < (L.getD i e0).2.2.1
theorem beg_lt {L : List Ed} (h : PosL L) : ∀ {i j : Nat}, i < j → j ≤ L.length → begN L i < begN L j := by
  intro i j hij hj
  induction j with
  | zero => omega
  | succ j ih =>
    have h1 := h j (by omega)
    have h2 : begN L (j + 1) = begN L j + ((L.getD j e0).2.2.1 - (L.getD j e0).2.1) := rfl
    by_cases e : i = j
    · subst e; omega
    · have := ih (by omega) (by omega); omega
theorem beg_le {L : List Ed} (h : PosL L) {i j : Nat} (hij : i ≤ j) (hj : j ≤ L.length) : begN L i ≤ begN L j := by
  by_cases e : i = j
  · subst e; exact Int.le_refl _
  · have := beg_lt h (show i < j by omega) hj; omega
theorem find_at {L : List Ed} {u : Int} (h0 : 0 ≤ u) : ∀ n, u < begN L n → ∃ k, k < n ∧ begN L k ≤ u ∧ u < begN L (k + 1)
  | 0, h => by have : begN L 0 = 0 := rfl; omega
  | n + 1, h => by
    by_cases h1 : u < begN L n
    · obtain ⟨k, k1, k2⟩ := find_at h0 n h1
      exact ⟨k, by omega, k2⟩
    · exact ⟨n, by omega, by omega, h⟩
theorem takes_at {L : List Ed} (h : PosL L) {k : Nat} {u : Int} (hk : k < L.length) (h1 : begN L k ≤ u) (h2 : u < begN L (k + 1)) : takesN (ls L) u = takesE (L.getD k e0) (L.getD (k - 1) e0) (u - begN L k) := by
  have e : lastTo begP (ls L) u (ls L).length = k := by
    refine lastTo_is _ (by rw [ls_len]; exact hk) (by rw [ls_get L hk]; exact h1) fun j hj hn => ?_
    rw [ls_len] at hn
    rw [ls_get L hn]
    have := beg_le h (show k + 1 ≤ j by omega) (by omega)
    show u < begN L j
    omega
  unfold takesN
  rw [e, ls_get L hk, ls_get L (show k - 1 < L.length by omega)]
theorem sound_at {L : List Ed} {k : Nat} {u : Int} (hk : k < L.length) (h1 : begN L k + (L.getD k e0).2.2.2.2 ≤ u) (h2 : ∀ j, k < j → j < L.length → u < begN L j + (L.getD j e0).2.2.2.2) :
    soundN (ls L) u = ((L.getD k e0).1, (L.getD k e0).2.1 + u - begN L k, 1, 1) := by
  have e : lastTo sndN (ls L) u (ls L).length = k := by
    refine lastTo_is _ (by rw [ls_len]; exact hk) (by rw [ls_get L hk]; exact h1) fun j hj hn => ?_
    rw [ls_len] at hn
    rw [ls_get L hn]
    exact h2 j hj hn
  unfold soundN
  rw [e, ls_get L hk]
theorem app_l (a b : List Ed) {i : Nat} (h : i < a.length) : (a ++ b).getD i e0 = a.getD i e0 := by
  rw [List.getD_eq_getElem?_getD, List.getElem?_append_left h, ← List.getD_eq_getElem?_getD]
theorem app_r (a b : List Ed) (i : Nat) : (a ++ b).getD (a.length + i) e0 = b.getD i e0 := by
  rw [List.getD_eq_getElem?_getD, List.getElem?_append_right (by omega), Nat.add_sub_cancel_left, ← List.getD_eq_getElem?_getD]
theorem beg_l (a b : List Ed) : ∀ {i : Nat}, i ≤ a.length → begN (a ++ b) i = begN a i
  | 0, _ => rfl
  | i + 1, h => by
    have ih := beg_l a b (i := i) (by omega)
    simp only [begN, ih, app_l a b (show i < a.length by omega)]
theorem beg_r (a b : List Ed) : ∀ i, begN (a ++ b) (a.length + i) = lenL a + begN b i
  | 0 => by rw [Nat.add_zero, beg_l a b (Nat.le_refl _)]; show begN a a.length = begN a a.length + 0; omega
  | i + 1 => by
    have ih := beg_r a b i
    rw [← Nat.add_assoc]
    simp only [begN, ih, app_r]
    omega
theorem len_app (a b : List Ed) : lenL (a ++ b) = lenL a + lenL b := by
  show begN (a ++ b) (a ++ b).length = _
  rw [List.length_append, beg_r]; rfl
theorem pos_app {a b : List Ed} (ha : PosL a) (hb : PosL b) : PosL (a ++ b) := by
  intro i hi
  rw [List.length_append] at hi
  by_cases h : i < a.length
  · rw [app_l a b h]; exact ha i h
  · obtain ⟨j, rfl⟩ : ∃ j, i = a.length + j := ⟨i - a.length, by omega⟩
    rw [app_r]; exact hb j (by omega)
theorem pos_ok {R : List Rl} {L : List Ed} (h : ListOk R L) : PosL L := fun _i hi => (h.eds.2 _ (getD_mem (d := e0) hi)).2.1
theorem takes_l {a b : List Ed} (ha : PosL a) (hb : PosL b) {u : Int} (h0 : 0 ≤ u) (h1 : u < lenL a) : takesN (ls (a ++ b)) u = takesN (ls a) u := by
  obtain ⟨k, k1, k2, k3⟩ := find_at h0 a.length h1
  rw [takes_at ha k1 k2 k3, takes_at (pos_app ha hb) (k := k) (by rw [List.length_append]; omega) (by rw [beg_l a b (by omega)]; exact k2) (by rw [beg_l a b (by omega)]; exact k3), app_l a b k1, app_l a b (show k - 1 < a.length by omega), beg_l a b (by omega)]
theorem takesE_in {x y z : Ed} {j : Int} (h : x.2.2.2.1 ≤ j) : takesE x y j = takesE x z j := by
  unfold takesE
  rw [if_pos h, if_pos h]
theorem takes_r {a b : List Ed} (ha : PosL a) (hb : PosL b) (hf : 0 < b.length → (b.getD 0 e0).2.2.2.1 = 0) {v : Int} (h0 : 0 ≤ v) (h1 : v < lenL b) : takesN (ls (a ++ b)) (lenL a + v) = takesN (ls b) v := by
  obtain ⟨k, k1, k2, k3⟩ := find_at h0 b.length h1
  have e1 := beg_r a b k
  have e2 := beg_r a b (k + 1)
  rw [takes_at hb k1 k2 k3, takes_at (pos_app ha hb) (k := a.length + k) (by rw [List.length_append]; omega) (by rw [e1]; omega) (by rw [Nat.add_assoc, e2]; omega), app_r, e1, show lenL a + v - (lenL a + begN b k) = v - begN b k by omega]
  cases k with
  | zero => exact takesE_in (by rw [hf (by omega)]; omega)
  | succ k => rw [show a.length + (k + 1) - 1 = a.length + k by omega, app_r]; rfl

/-! ### Both parts. -/

theorem sum_take {L : List Ed} {f : Nat → List Ed} : ∀ m, m ≤ L.length → (∀ j, j < m → f j = [L.getD j e0]) → sumTo f m = L.take m
  | 0, _, _ => by simp [sumTo]
  | m + 1, h, hf => by
    rw [show sumTo f (m + 1) = sumTo f m ++ f m from rfl, sum_take m (by omega) fun j hj => hf j (by omega), hf m (by omega), List.take_succ_eq_append_getElem (show m < L.length by omega), getD_of (show m < L.length by omega)]
theorem sum_nil {f : Nat → List Ed} {m : Nat} : ∀ n, m ≤ n → (∀ j, m ≤ j → j < n → f j = []) → sumTo f n = sumTo f m
  | 0, h, _ => by rw [show m = 0 by omega]
  | n + 1, h, hf => by
    by_cases e : m = n + 1
    · rw [e]
    · rw [show sumTo f (n + 1) = sumTo f n ++ f n from rfl, hf n (by omega) (by omega), List.append_nil]
      exact sum_nil n (by omega) fun j h1 h2 => hf j h1 (by omega)
theorem sum_drop {L : List Ed} {f : Nat → List Ed} {m : Nat} : ∀ n, m ≤ n → n ≤ L.length → (∀ j, m ≤ j → j < n → f j = [L.getD j e0]) → sumTo f n = sumTo f m ++ (L.take n).drop m
  | 0, h, _, _ => by rw [show m = 0 by omega]; simp
  | n + 1, h, hn, hf => by
    by_cases e : m = n + 1
    · rw [e, List.drop_eq_nil_of_le (by rw [List.length_take]; omega), List.append_nil]
    · have ih := sum_drop n (by omega) (by omega) fun j h1 h2 => hf j h1 (by omega)
      rw [show sumTo f (n + 1) = sumTo f n ++ f n from rfl, ih, hf n (by omega) (by omega), List.take_succ_eq_append_getElem (show n < L.length by omega), List.drop_append_of_le_length (by rw [List.length_take]; omega), getD_of (show n < L.length by omega), List.append_assoc]

/-- A list parted at a frame: between two edits, or within one. -/
def Cut (L : List Ed) (t : Int) (a b : List Ed) : Prop :=
  (a ++ b = L ∧ lenL a = t) ∨
  ∃ k, k < L.length ∧ begN L k < t ∧ t < begN L (k + 1) ∧ a = L.take k ++ [((L.getD k e0).1, (L.getD k e0).2.1, (L.getD k e0).2.1 + t - begN L k, (L.getD k e0).2.2.2.1, (L.getD k e0).2.2.2.2)] ∧
    b = ((L.getD k e0).1, (L.getD k e0).2.1 + t - begN L k, (L.getD k e0).2.2.1, 0, 0) :: L.drop (k + 1)

theorem partA_at {L : List Ed} {t : Int} {j : Nat} (h : j < L.length) : partA ((ls L).getD j pl0) t = if begN L j < t then (if begN L (j + 1) ≤ t then [L.getD j e0] else [((L.getD j e0).1, (L.getD j e0).2.1, (L.getD j e0).2.1 + t - begN L j, (L.getD j e0).2.2.2.1, (L.getD j e0).2.2.2.2)]) else [] := by
  rw [ls_get L h]; rfl
theorem partB_at {L : List Ed} {t : Int} {j : Nat} (h : j < L.length) : partB ((ls L).getD j pl0) t = if begN L j < t then (if begN L (j + 1) ≤ t then [] else [((L.getD j e0).1, (L.getD j e0).2.1 + t - begN L j, (L.getD j e0).2.2.1, 0, 0)]) else [L.getD j e0] := by
  rw [ls_get L h]; rfl

theorem cut_of {L : List Ed} (hp : PosL L) {t : Int} (h0 : 0 ≤ t) (h1 : t ≤ lenL L) : Cut L t (asN (ls L) t L.length) (bsN (ls L) t L.length) := by
  -- the number of edits that end at the frame or before it
  by_cases hm : ∃ m, m ≤ L.length ∧ begN L m = t
  · obtain ⟨m, m1, m2⟩ := hm
    have hA : asN (ls L) t L.length = L.take m := by
      show sumTo _ _ = _
      rw [sum_nil (m := m) L.length m1 fun j h1 h2 => ?_, sum_take m m1 fun j hj => ?_]
      · rw [partA_at (by omega), if_pos (by have := beg_lt hp hj m1; omega), if_pos (by have := beg_le hp (show j + 1 ≤ m by omega) m1; omega)]
      · rw [partA_at h2, if_neg (by have := beg_le hp h1 (by omega); omega)]
    have hB : bsN (ls L) t L.length = L.drop m := by
      show sumTo _ _ = _
      rw [sum_drop (L := L) (m := m) L.length m1 (Nat.le_refl _) fun j h1 h2 => ?_, sum_nil (m := 0) m (by omega) fun j _ hj => ?_]
      · rw [List.take_length]; rfl
      · rw [partB_at (by omega), if_pos (by have := beg_lt hp hj m1; omega), if_pos (by have := beg_le hp (show j + 1 ≤ m by omega) m1; omega)]
      · rw [partB_at h2, if_neg (by have := beg_le hp h1 (by omega); omega)]
    refine .inl ⟨by rw [hA, hB, List.take_append_drop], ?_⟩
    rw [hA]
    have e := beg_l (L.take m) (L.drop m) (i := (L.take m).length) (Nat.le_refl _)
    rw [List.take_append_drop, List.length_take, Nat.min_eq_left m1, m2] at e
    show begN (L.take m) (L.take m).length = t
    rw [List.length_take, Nat.min_eq_left m1]
    exact e.symm
  · have hne : ∀ m, m ≤ L.length → begN L m ≠ t := fun m h1 h2 => hm ⟨m, h1, h2⟩
    have hlt : t < begN L L.length := by have := hne L.length (Nat.le_refl _); have : lenL L = begN L L.length := rfl; omega
    obtain ⟨k, k1, k2, k3⟩ := find_at h0 L.length hlt
    have k2' : begN L k < t := by have := hne k (by omega); omega
    refine .inr ⟨k, k1, k2', k3, ?_, ?_⟩
    · show sumTo _ _ = _
      rw [sum_nil (m := k + 1) L.length (by omega) fun j h1 h2 => ?_]
      · show sumTo _ k ++ partA _ _ = _
        rw [sum_take (L := L) k (by omega) fun j hj => ?_, partA_at k1, if_pos k2', if_neg (by omega)]
        rw [partA_at (by omega), if_pos (by have := beg_lt hp hj (by omega); omega), if_pos (by have := beg_le hp (show j + 1 ≤ k by omega) (by omega); omega)]
      · rw [partA_at h2, if_neg (by have := beg_le hp h1 (by omega); omega)]
    · show sumTo _ _ = _
      rw [sum_drop (L := L) (m := k + 1) L.length (by omega) (Nat.le_refl _) fun j h1 h2 => ?_]
      · show (sumTo _ k ++ partB _ _) ++ _ = _
        rw [sum_nil (m := 0) k (by omega) fun j _ hj => ?_, partB_at k1, if_pos k2', if_neg (by omega), List.take_length]
        · rfl
        · rw [partB_at (by omega), if_pos (by have := beg_lt hp hj (by omega); omega), if_pos (by have := beg_le hp (show j + 1 ≤ k by omega) (by omega); omega)]
      · rw [partB_at h2, if_neg (by have := beg_le hp h1 (by omega); omega)]

/-! ### The joined list shows and sounds as the list. -/

theorem take_l (L : List Ed) (k : Nat) (M : List Ed) (hk : k ≤ L.length) {i : Nat} (h : i < k) : (L.take k ++ M).getD i e0 = L.getD i e0 := by
  rw [app_l _ _ (by rw [List.length_take]; omega), List.getD_eq_getElem?_getD, List.getElem?_take, if_pos h, ← List.getD_eq_getElem?_getD]
theorem take_r (L : List Ed) (k : Nat) (M : List Ed) (hk : k ≤ L.length) (i : Nat) : (L.take k ++ M).getD (k + i) e0 = M.getD i e0 := by
  have := app_r (L.take k) M i
  rwa [List.length_take, Nat.min_eq_left hk] at this
theorem drop_at (L : List Ed) (k i : Nat) : (L.drop k).getD i e0 = L.getD (k + i) e0 := by
  rw [List.getD_eq_getElem?_getD, List.getElem?_drop, ← List.getD_eq_getElem?_getD]

/-- An edit is split in two. -/
structure Splt (L M : List Ed) (k : Nat) (t : Int) : Prop where
  kL : k < L.length
  lt : begN L k < t
  gt : t < begN L (k + 1)
  len : M.length = L.length + 1
  lo : ∀ i, i < k → M.getD i e0 = L.getD i e0
  at1 : M.getD k e0 = ((L.getD k e0).1, (L.getD k e0).2.1, (L.getD k e0).2.1 + t - begN L k, (L.getD k e0).2.2.2.1, (L.getD k e0).2.2.2.2)
  at2 : M.getD (k + 1) e0 = ((L.getD k e0).1, (L.getD k e0).2.1 + t - begN L k, (L.getD k e0).2.2.1, 0, 0)
  hi : ∀ i, k < i → M.getD (i + 1) e0 = L.getD i e0

theorem splt_of {L : List Ed} {k : Nat} {t : Int} (h1 : k < L.length) (h2 : begN L k < t) (h3 : t < begN L (k + 1)) {x y : Ed} (hx : x = ((L.getD k e0).1, (L.getD k e0).2.1, (L.getD k e0).2.1 + t - begN L k, (L.getD k e0).2.2.2.1, (L.getD k e0).2.2.2.2))
    (hy : y = ((L.getD k e0).1, (L.getD k e0).2.1 + t - begN L k, (L.getD k e0).2.2.1, 0, 0)) : Splt L (L.take k ++ x :: y :: L.drop (k + 1)) k t := by
  refine ⟨h1, h2, h3, ?_, fun i hi => take_l L k _ (by omega) hi, ?_, ?_, fun i hi => ?_⟩
  · simp only [List.length_append, List.length_take, List.length_cons, List.length_drop]; omega
  · rw [← hx]; exact take_r L k _ (by omega) 0
  · rw [← hy]; exact take_r L k _ (by omega) 1
  · obtain ⟨j, rfl⟩ : ∃ j, i = k + 1 + j := ⟨i - (k + 1), by omega⟩
    rw [show k + 1 + j + 1 = k + (j + 2) by omega, take_r L k _ (by omega)]
    show (L.drop (k + 1)).getD j e0 = _
    rw [drop_at]

section
variable {L M : List Ed} {k : Nat} {t : Int} (S : Splt L M k t)
include S
theorem Splt.blo : ∀ i, i ≤ k → begN M i = begN L i
  | 0, _ => rfl
  | i + 1, h => by
    have ih := Splt.blo i (by omega)
    simp only [begN, ih, S.lo i (by omega)]
theorem Splt.bat : begN M (k + 1) = t := by
  have h1 := S.blo k (Nat.le_refl _)
  have h2 : begN M (k + 1) = begN M k + ((M.getD k e0).2.2.1 - (M.getD k e0).2.1) := rfl
  rw [h2, h1, S.at1]
  dsimp only
  omega
theorem Splt.bhi : ∀ i, k < i → begN M (i + 1) = begN L i
  | 0, h => absurd h (Nat.not_lt_zero _)
  | i + 1, h => by
    have h2 : begN M (i + 1 + 1) = begN M (i + 1) + ((M.getD (i + 1) e0).2.2.1 - (M.getD (i + 1) e0).2.1) := rfl
    have h3 : begN L (i + 1) = begN L i + ((L.getD i e0).2.2.1 - (L.getD i e0).2.1) := rfl
    by_cases e : i = k
    · subst e
      rw [h2, S.bat, S.at2, h3]
      dsimp only
      omega
    · rw [h2, Splt.bhi i (by omega), S.hi i (by omega), h3]
theorem Splt.lenL : lenL M = lenL L := by
  show begN M M.length = begN L L.length
  rw [S.len]
  exact S.bhi _ S.kL
theorem Splt.pos (hp : PosL L) : PosL M := by
  intro i hi
  rw [S.len] at hi
  have h1 := S.lt
  have h2 := S.gt
  have h3 : begN L (k + 1) = begN L k + ((L.getD k e0).2.2.1 - (L.getD k e0).2.1) := rfl
  by_cases c1 : i < k
  · rw [S.lo i c1]; exact hp i (by have := S.kL; omega)
  · by_cases c2 : i = k
    · subst c2; rw [S.at1]; dsimp only; omega
    · by_cases c3 : i = k + 1
      · subst c3; rw [S.at2]; dsimp only; omega
      · obtain ⟨j, rfl⟩ : ∃ j, i = j + 1 := ⟨i - 1, by omega⟩
        rw [S.hi j (by omega)]; exact hp j (by omega)
theorem Splt.takes (hp : PosL L) (hf0 : (L.getD 0 e0).2.2.2.1 = 0) (hf : begN L k + (L.getD k e0).2.2.2.1 ≤ t) {u : Int} (h0 : 0 ≤ u) (h1 : u < U.lenL L) : takesN (ls M) u = takesN (ls L) u := by
  obtain ⟨j, j1, j2, j3⟩ := find_at h0 L.length h1
  have hM := S.pos hp
  have hk := S.kL
  have hlen := S.len
  rw [takes_at hp j1 j2 j3]
  by_cases c1 : j < k
  · have b1 := S.blo j (by omega)
    have b2 := S.blo (j + 1) (by omega)
    rw [takes_at hM (k := j) (by omega) (by omega) (by omega), S.lo j c1, S.lo (j - 1) (by omega), b1]
  · by_cases c2 : j = k
    · subst c2
      have b1 := S.blo j (Nat.le_refl _)
      have b2 := S.bat
      by_cases c3 : u < t
      · rw [takes_at hM (k := j) (by omega) (by omega) (by omega), S.at1, b1]
        cases j with
        | zero =>
          unfold takesE
          dsimp only
          rw [if_pos (by omega), if_pos (by omega)]
        | succ j => rw [show j + 1 - 1 = j by omega, S.lo j (by omega)]; rfl
      · have b3 := S.bhi (j + 1) (by omega)
        rw [takes_at hM (k := j + 1) (by omega) (by omega) (by rw [b3]; exact j3), S.at2, b2]
        unfold takesE
        dsimp only
        rw [if_pos (by omega), if_pos (by omega)]
        congr 2
        congr 1
        omega
    · have b1 := S.bhi j (by omega)
      have b2 := S.bhi (j + 1) (by omega)
      rw [takes_at hM (k := j + 1) (by omega) (by omega) (by omega), S.hi j (by omega), b1, show j + 1 - 1 = j by omega]
      by_cases c3 : j = k + 1
      · subst c3
        rw [S.at2, show k + 1 - 1 = k by omega]
        rfl
      · obtain ⟨i, rfl⟩ : ∃ i, j = i + 1 := ⟨j - 1, by omega⟩
        rw [S.hi i (by omega), show i + 1 - 1 = i by omega]
theorem Splt.sounds (hz : (L.getD 0 e0).2.2.2.2 = 0) (hs : begN L k + (L.getD k e0).2.2.2.2 < t) {u : Int} (h0 : 0 ≤ u) : soundN (ls M) u = soundN (ls L) u := by
  have hk := S.kL
  have hlen := S.len
  obtain ⟨j, j1, j2, j3⟩ : ∃ j, j < L.length ∧ begN L j + (L.getD j e0).2.2.2.2 ≤ u ∧ ∀ i, j < i → i < L.length → u < begN L i + (L.getD i e0).2.2.2.2 := by
    have hl := lastTo_lt sndN (ls L) u (ls L).length (by rw [ls_len]; omega)
    have hle := lastTo_le (g := sndN) (p := ls L) (fr := u) (by
      rw [ls_get L (show 0 < L.length by omega)]
      show begN L 0 + (L.getD 0 e0).2.2.2.2 ≤ u
      rw [hz]; show (0 : Int) + 0 ≤ u; omega) (ls L).length
    have hgt := lastTo_gt sndN (ls L) u (ls L).length
    generalize lastTo sndN (ls L) u (ls L).length = j at *
    rw [ls_len] at hl hgt
    refine ⟨j, hl, by rw [ls_get L hl] at hle; exact hle, fun i hi hn => ?_⟩
    have := hgt i hi hn
    rw [ls_get L hn] at this
    exact this
  rw [sound_at j1 j2 j3]
  have hlo : ∀ i, i ≤ k → begN M i + (M.getD i e0).2.2.2.2 = begN L i + (L.getD i e0).2.2.2.2 := fun i hi => by
    rw [S.blo i hi]
    by_cases c : i = k
    · subst c; rw [S.at1]
    · rw [S.lo i (by omega)]
  have hhi : ∀ i, k < i → begN M (i + 1) + (M.getD (i + 1) e0).2.2.2.2 = begN L i + (L.getD i e0).2.2.2.2 := fun i hi => by
    rw [S.bhi i hi, S.hi i hi]
  have hat : begN M (k + 1) + (M.getD (k + 1) e0).2.2.2.2 = t := by
    rw [S.bat, S.at2]; dsimp only; omega
  by_cases c1 : j < k
  · have hkk := j3 k c1 hk
    rw [sound_at (L := M) (k := j) (by omega) (by rw [hlo j (by omega)]; exact j2) (fun i hi hn => ?_), S.lo j c1, S.blo j (by omega)]
    by_cases d1 : i ≤ k
    · rw [hlo i d1]; exact j3 i hi (by omega)
    · by_cases d2 : i = k + 1
      · subst d2; rw [hat]; omega
      · obtain ⟨n, rfl⟩ : ∃ n, i = n + 1 := ⟨i - 1, by omega⟩
        rw [hhi n (by omega)]; exact j3 n (by omega) (by omega)
  · by_cases c2 : j = k
    · subst c2
      by_cases c3 : u < t
      · rw [sound_at (L := M) (k := j) (by omega) (by rw [hlo j (by omega)]; exact j2) (fun i hi hn => ?_), S.at1, S.blo j (Nat.le_refl _)]
        by_cases d2 : i = j + 1
        · subst d2; rw [hat]; omega
        · obtain ⟨n, rfl⟩ : ∃ n, i = n + 1 := ⟨i - 1, by omega⟩
          rw [hhi n (by omega)]; exact j3 n (by omega) (by omega)
      · rw [sound_at (L := M) (k := j + 1) (by omega) (by rw [hat]; omega) (fun i hi hn => ?_), S.at2, S.bat]
        · dsimp only
          congr 2
          omega
        · obtain ⟨n, rfl⟩ : ∃ n, i = n + 1 := ⟨i - 1, by omega⟩
          rw [hhi n (by omega)]; exact j3 n (by omega) (by omega)
    · rw [sound_at (L := M) (k := j + 1) (by omega) (by rw [hhi j (by omega)]; exact j2) (fun i hi hn => ?_), S.hi j (by omega), S.bhi j (by omega)]
      obtain ⟨n, rfl⟩ : ∃ n, i = n + 1 := ⟨i - 1, by omega⟩
      rw [hhi n (by omega)]; exact j3 n (by omega) (by omega)
end

/-! ### The law. -/

theorem part_zero {R : List Rl} {L : List Ed} {t : Int} (hk : ListOk R L) (ht : 0 ≤ t ∧ t ≤ lenL L) (hz : partE R L t = 0) :
    (∀ j, j < L.length → tornE ((ls L).getD j pl0) t = 0) ∧ ListOk R (asN (ls L) t L.length) ∧ ListOk R (bsN (ls L) t L.length) ∧ partL R L t = (asN (ls L) t L.length, bsN (ls L) t L.length) := by
  have hp : partL R L t = (asN (ls L) t L.length, bsN (ls L) t L.length) := by unfold partL; rw [if_pos hz]
  unfold partE at hz
  rw [if_neg (by rw [chkEds_zero.2 hk]; decide), if_neg (by rw [within_zero.2 ht]; decide)] at hz
  split at hz
  · cases hz
  · rename_i h
    have h' : upTo (fun j => tornE ((ls L).getD j pl0) t) L.length = 0 := by simpa using h
    obtain ⟨h1, h2⟩ := bothE_zero.1 (show bothE R (asN (ls L) t L.length) (bsN (ls L) t L.length) = 0 from hz)
    exact ⟨fun j hj => upTo_zero.1 h' j hj, h1, h2, hp⟩
theorem torn_zero {L : List Ed} {t : Int} {k : Nat} (hk : k < L.length) (h : tornE ((ls L).getD k pl0) t = 0) (hb : begN L k < t) : begN L k + (L.getD k e0).2.2.2.1 ≤ t ∧ begN L k + (L.getD k e0).2.2.2.2 < t := by
  rw [ls_get L hk] at h
  unfold tornE whenE at h
  split at h
  · cases h
  · rename_i hc
    rw [Bool.not_eq_true, Bool.or_eq_false_iff] at hc
    obtain ⟨h1, h2⟩ := hc
    have h3 : decide (begN L k < t) = true := decide_eq_true hb
    have h1' : (decide (begN L k < t) && decide (t < begN L k + (L.getD k e0).2.2.2.1)) = false := h1
    have h2' : (decide (begN L k < t) != decide (begN L k + (L.getD k e0).2.2.2.2 < t)) = false := h2
    rw [h3] at h1' h2'
    constructor
    · have := of_decide_eq_false (show decide (t < begN L k + (L.getD k e0).2.2.2.1) = false by simpa using h1')
      omega
    · exact of_decide_eq_true (by simpa using h2')

theorem conf_len (R : List Rl) {L : List Ed} (h : ListOk R L) : confN R L = (List.range (lenL L).toNat).map fun t : Nat => takesN (ls L) t := by
  unfold confN; rw [if_pos (chkEds_zero.2 h)]

theorem join_nil {R : List Rl} {a : List Ed} (h : ListOk R a) : joinE R a [] = 0 ∧ joinL R a [] = a := by
  have h0 : ListOk R [] := by
    refine ⟨h.rs, by simp, fun i hi => absurd hi (Nat.not_lt_zero _), ?_, fun i hi => absurd hi (Nat.not_lt_zero _), fun i hi => absurd hi (Nat.not_lt_zero _)⟩
    show (0 : Int) ≤ 1024
    decide
  have h16 := h.len
  have hc : joinC R a [] = 0 := by
    unfold joinC
    rw [bothE_zero.2 ⟨h, h0⟩, decide_eq_false (show ¬ 16 < (a.length : Int) + (([] : List Ed).length : Int) by simp; omega)]
    rfl
  have he : joinE R a [] = 0 := by
    unfold joinE
    rw [hc, if_neg (by decide), List.append_nil]
    exact chkEds_zero.2 h
  refine ⟨he, ?_⟩
  unfold joinL
  rw [if_pos he, List.append_nil]

theorem upTo_val {f : Nat → Int} {P : Int → Prop} (h0 : P 0) : ∀ n, (∀ j, j < n → P (f j)) → P (upTo f n)
  | 0, _ => h0
  | n + 1, h => by
    simp only [upTo]
    split
    · exact h n (by omega)
    · exact upTo_val h0 n fun j hj => h j (by omega)

theorem join_err {R : List Rl} {a b : List Ed} (ha : ListOk R a) (hb : ListOk R b) : joinE R a b ≠ 10 ∧ joinE R a b ≠ 14 := by
  have hed : ∀ i, i < (a ++ b).length → chkEd R (a ++ b) i = 0 := by
    intro i hi
    rw [List.length_append] at hi
    unfold chkEd
    by_cases h : i < a.length
    · have := ha.ed i h
      unfold chkEd at this
      rw [app_l a b h]
      by_cases h2 : i = 0
      · rw [if_pos h2] at this ⊢; exact this
      · rw [if_neg h2] at this ⊢; rw [app_l a b (show i - 1 < a.length by omega)]; exact this
    · obtain ⟨j, rfl⟩ : ∃ j, i = a.length + j := ⟨i - a.length, by omega⟩
      have := hb.ed j (by omega)
      unfold chkEd at this
      rw [app_r]
      cases j with
      | succ j =>
        rw [if_neg (by omega)] at this ⊢
        rw [show a.length + (j + 1) - 1 = a.length + j by omega, app_r]
        exact this
      | zero =>
        rw [if_pos rfl] at this
        by_cases h2 : a.length = 0
        · rw [if_pos (by omega)]; exact this
        · rw [if_neg (by omega), show a.length + 0 - 1 = a.length - 1 by omega, app_l a b (show a.length - 1 < a.length by omega)]
          have h3 := ha.ed (a.length - 1) (by omega)
          unfold chkEd at h3
          generalize a.getD (a.length - 1) e0 = y at *
          generalize b.getD 0 e0 = x at *
          unfold chkE at this h3 ⊢
          split at this
          · cases this
          · rename_i g1
            rw [if_neg g1]
            split at this
            · cases this
            · rename_i g2
              rw [if_neg g2]
              split at this
              · rename_i g3; exact absurd this g3
              · rename_i g3
                rw [if_neg g3]
                have hx : x = (x.1, x.2.1, x.2.2.1, 0, 0) := by
                  apply Classical.byContradiction
                  intro hc
                  have e1 : decide (x ≠ (x.1, x.2.1, x.2.2.1, 0, 0)) = true := decide_eq_true hc
                  have this' : whenE (decide (x ≠ (x.1, x.2.1, x.2.2.1, 0, 0))) 21 = 0 := this
                  rw [e1] at this'
                  cases this'
                have hf : x.2.2.2.1 = 0 := by rw [hx]
                split at h3
                · cases h3
                · split at h3
                  · cases h3
                  · rename_i g4
                    show whenE (decide (endR (rlOf R y.1) < y.2.2.1 + x.2.2.2.1)) 16 = 0
                    rw [hf, decide_eq_false (by omega)]
                    rfl
  have key : joinE R a b = 0 ∨ joinE R a b = 5 ∨ joinE R a b = 4 ∨ joinE R a b = 11 ∨ joinE R a b = 16 := by
    unfold joinE
    have hj : joinC R a b = 0 ∨ joinC R a b = 5 := by
      unfold joinC
      rw [bothE_zero.2 ⟨ha, hb⟩]
      by_cases h : 16 < (a.length : Int) + (b.length : Int)
      · rw [decide_eq_true h]; exact .inr rfl
      · rw [decide_eq_false h]; exact .inl rfl
    rcases hj with hj | hj
    · rw [hj, if_neg (by decide)]
      unfold chkEds
      rw [if_neg (by rw [ha.rs]; decide)]
      split
      · exact .inr (.inl rfl)
      · have hu : upTo (chkEd R (a ++ b)) (a ++ b).length = 0 := upTo_val (P := fun e => e = 0) rfl _ hed
        rw [if_neg (by rw [hu]; decide)]
        split
        · exact .inr (.inr (.inl rfl))
        · split
          · exact .inr (.inr (.inr (.inl rfl)))
          · have := upTo_val (f := spE (mapR R R.length) (ls (a ++ b)) (lenL (a ++ b))) (P := fun e => e = 0 ∨ e = 16) (.inl rfl) (a ++ b).length fun j _ => by
              unfold spE whenE
              split
              · exact .inr rfl
              · exact .inl rfl
            rcases this with h | h
            · exact .inl h
            · exact .inr (.inr (.inr (.inr h)))
    · rw [hj]; exact .inr (.inl rfl)
  omega

theorem join_law {R : List Rl} {L : List Ed} {t : Int} (hk : ListOk R L) (ht : 0 ≤ t ∧ t ≤ lenL L) (hz : partE R L t = 0) :
    ListOk R (partL R L t).1 ∧ ListOk R (partL R L t).2 ∧ (0 < (partL R L t).2.length → ((partL R L t).2.getD 0 e0).2.2.2.1 = 0) ∧ lenL (partL R L t).1 = t ∧ lenL (partL R L t).2 = lenL L - t ∧
    confN R (partL R L t).1 = (confN R L).take t.toNat ∧ confN R (partL R L t).2 = (confN R L).drop t.toNat ∧
    (joinE R (partL R L t).1 (partL R L t).2 = 0 → bothE R L (joinL R (partL R L t).1 (partL R L t).2) = 0 ∧ diffN R L (joinL R (partL R L t).1 (partL R L t).2) = []) := by
  obtain ⟨htn, hA, hB, hp⟩ := part_zero hk ht hz
  rw [hp]
  dsimp only
  have hc := cut_of (pos_ok hk) ht.1 ht.2
  generalize asN (ls L) t L.length = a at *
  generalize bsN (ls L) t L.length = b at *
  have pL := pos_ok hk
  have pA := pos_ok hA
  have pB := pos_ok hB
  have hfb : 0 < b.length → (b.getD 0 e0).2.2.2.1 = 0 := fun h => ((chkEd_ok (hB.ed 0 h)).first rfl).1
  have both : lenL a = t ∧ (a ++ b = L ∨ ∃ k, Splt L (a ++ b) k t) := by
    rcases hc with ⟨h1, h2⟩ | ⟨k, k1, k2, k3, k4, k5⟩
    · exact ⟨h2, .inl h1⟩
    · have S := splt_of k1 k2 k3 rfl rfl
      have e : a ++ b = L.take k ++ ((L.getD k e0).1, (L.getD k e0).2.1, (L.getD k e0).2.1 + t - begN L k, (L.getD k e0).2.2.2.1, (L.getD k e0).2.2.2.2) :: ((L.getD k e0).1, (L.getD k e0).2.1 + t - begN L k, (L.getD k e0).2.2.1, 0, 0) :: L.drop (k + 1) := by
        rw [k4, k5, List.append_assoc]; rfl
      rw [← e] at S
      refine ⟨?_, .inr ⟨k, S⟩⟩
      have hl : a.length = k + 1 := by rw [k4, List.length_append, List.length_take]; simp; omega
      have := beg_l a b (i := a.length) (Nat.le_refl _)
      rw [hl, S.bat] at this
      show begN a a.length = t
      rw [hl]; exact this.symm
  obtain ⟨hla, hM⟩ := both
  have hz0 : 0 < L.length → (L.getD 0 e0).2.2.2.1 = 0 ∧ (L.getD 0 e0).2.2.2.2 = 0 := fun h => (chkEd_ok (hk.ed 0 h)).first rfl
  have hlen : lenL (a ++ b) = lenL L := by
    rcases hM with h | ⟨k, S⟩
    · rw [h]
    · exact S.lenL
  have hlb : lenL b = lenL L - t := by
    have := len_app a b
    omega
  have hT : ∀ u, 0 ≤ u → u < lenL L → takesN (ls (a ++ b)) u = takesN (ls L) u := fun u h0 h1 => by
    rcases hM with h | ⟨k, S⟩
    · rw [h]
    · have hkl := S.kL
      exact S.takes pL (hz0 (by omega)).1 (torn_zero hkl (htn k hkl) S.lt).1 h0 h1
  have hS : ∀ u, 0 ≤ u → soundN (ls (a ++ b)) u = soundN (ls L) u := fun u h0 => by
    rcases hM with h | ⟨k, S⟩
    · rw [h]
    · have hkl := S.kL
      exact S.sounds (hz0 (by omega)).2 (torn_zero hkl (htn k hkl) S.lt).2 h0
  refine ⟨hA, hB, hfb, hla, hlb, ?_, ?_, fun hj => ?_⟩
  · rw [conf_len R hA, conf_len R hk, ← List.map_take, List.take_range, hla, Nat.min_eq_left (by omega)]
    refine List.map_congr_left fun u hu => ?_
    have hu' := List.mem_range.1 hu
    rw [← takes_l pA pB (u := (u : Int)) (by omega) (by omega)]
    exact hT _ (by omega) (by omega)
  · rw [conf_len R hB, conf_len R hk, ← List.map_drop, hlb]
    refine List.ext_getElem (by simp; omega) fun u h1 h2 => ?_
    simp only [List.length_map, List.length_range] at h1
    simp only [List.getElem_map, List.getElem_range, List.getElem_drop]
    have := takes_r pA pB hfb (v := (u : Int)) (by omega) (by omega)
    rw [← this, hla, hT _ (by omega) (by omega)]
    congr 1
    omega
  · have hjl : joinL R a b = a ++ b := by unfold joinL; rw [if_pos hj]
    have hkM : chkEds R (a ++ b) = 0 := by
      unfold joinE at hj
      split at hj
      · rename_i h; exact absurd hj h
      · exact hj
    have hbo : bothE R L (a ++ b) = 0 := bothE_zero.2 ⟨hk, chkEds_zero.1 hkM⟩
    rw [hjl]
    refine ⟨hbo, ?_⟩
    unfold diffN
    rw [if_pos hbo]
    have key : ∀ i, i ≤ (lenL L).toNat → diffTo L (a ++ b) i = [] := by
      intro i
      induction i with
      | zero => intro _; rfl
      | succ i ih =>
        intro hi
        have h0 : diffB (ls L) (ls (a ++ b)) (lenL L) (lenL (a ++ b)) (0 + (i : Int)) = false := by
          unfold diffB
          rw [hlen, decide_eq_false (by omega), hT _ (by omega) (by omega), hS _ (by omega)]
          simp
        exact (spTo_m h0).trans (ih (by omega))
    exact key _ (by rw [hlen]; omega)
end Go.Sx

/- Plain functions and hints. -/
namespace Go.Sx
open U
def h13 : Hints := ⟨fun _ _ _ => none, 4⟩
end Go.Sx

/- What the engine asks, written out (printed by a program). -/
namespace Go.Sx
open U
theorem vc13 (R : List Rl) (L : List Ed) (n : Int) : exF (env false [(17, sp17), (38, sp38), (18, sp18), (39, sp39), (25, sp25), (34, sp34.frz), (57, sp57.frz), (84, sp84.frz), (35, sp35.frz), (46, sp46), (45, sp45), (83, sp83.frz), (56, sp56), (78, sp78.frz)] []) h13 0 13 Proofs.Tryz.f13 [.one (.sl rlT R), .one (.sl edT L), .one (.int .u8 n)] (.val (bV true)) = (let q8 := (lenL L + (1 : Int)); let q0 := (partL R L (n % q8)); let q4 := (Int.toNat (n % q8)); let q6 := (↑(List.length (confN R q0.1)) : Int); let q7 := (↑(List.length (confN R L)) : Int); let q9 := (↑(List.length (confN R q0.2)) : Int); let q1 := (bif bif bif bif chkEds R L + chkEds R q0.1 + chkEds R q0.2 != (0 : Int) then true else q6 != n % q8 then true else q7 != lenL L then true else q6 + q9 != lenL L then true else !decide (List.take q4 (confN R L) = confN R q0.1)); let q2 := (bif bif bif chkEds R L + chkEds R q0.1 + chkEds R q0.2 != (0 : Int) then true else q6 != n % q8 then true else q7 != lenL L then true else q6 + q9 != lenL L); let q3 := (1000000 : Nat); let q5 := (1000000000 : Nat); let q10 := (chkEds R q0.1 != (0 : Int)); let q11 := ((joinE R q0.1 [] != (0 : Int)) = false → List.length (joinL R q0.1 []) ≤ q3); let q12 := ((joinE R q0.2 [] != (0 : Int)) = false → List.length (joinL R q0.2 []) ≤ q3); let q13 := (joinL R q0.1 q0.2); let q14 := (q2 = false → List.length (List.take q4 (confN R L)) ≤ q3); let q15 := (q1 = false → List.length (List.drop q4 (confN R L)) ≤ q3); let q16 := (false = true ∧ True); let q17 := (100000 : Nat); let q18 := (↑(List.length q0.2) : Int); List.length R ≤ (9223372036854775807 : Nat) ∧ List.length L ≤ (9223372036854775807 : Nat) ∧ ((!shortB R L) = false → List.length R ≤ q5) ∧ ((!shortB R L) = false → ∀ (r : Rl), r ∈ R → List.length r.2.2 ≤ q3 ∧ List.length r.1 ≤ q5) ∧ ((!shortB R L) = false → List.length L ≤ q5) ∧ ((!shortB R L) = false → ∀ (x : Ed), x ∈ L → fits IntKind.i64 x.2.2.1) ∧ splitB (bif !shortB R L then true else chkEds R L != (0 : Int)) (true = true ∧ True) (EdsIn L ∧ fits IntKind.i64 n ∧ fits IntKind.i64 q8 ∧ ((0 : Int) ≤ n ∧ (0 : Int) < lenL L + (1 : Int)) ∧ List.length R ≤ q3 ∧ (∀ (r : Rl), r ∈ R → List.length r.2.2 ≤ q3) ∧ List.length L ≤ q3 ∧ List.length R ≤ q5 ∧ (∀ (r : Rl), r ∈ R → List.length r.2.2 ≤ q3) ∧ List.length L ≤ q5 ∧ splitB (partE R L (n % q8) != (0 : Int)) (true = true ∧ True) (List.length q0.1 ≤ q3 ∧ List.length R ≤ q5 ∧ (∀ (r : Rl), r ∈ R → List.length r.2.2 ≤ q3 ∧ List.length r.1 ≤ q5) ∧ List.length q0.1 ≤ q5 ∧ (∀ (x : Ed), x ∈ q0.1 → fits IntKind.i64 x.2.2.1) ∧ (q10 = false → List.length q0.2 ≤ q3) ∧ (q10 = false → List.length R ≤ q5) ∧ (q10 = false → ∀ (r : Rl), r ∈ R → List.length r.2.2 ≤ q3 ∧ List.length r.1 ≤ q5) ∧ (q10 = false → List.length q0.2 ≤ q5) ∧ (q10 = false → ∀ (x : Ed), x ∈ q0.2 → fits IntKind.i64 x.2.2.1) ∧ ((bif chkEds R q0.1 != (0 : Int) then true else chkEds R q0.2 != (0 : Int)) = false → decide ((0 : Int) < q18) = true → (0 : Int) ≤ (0 : Int) ∧ (0 : Int) < q18) ∧ splitB (bif bif chkEds R q0.1 != (0 : Int) then true else chkEds R q0.2 != (0 : Int) then true else bif decide ((0 : Int) < q18) then (List.getD q0.2 (0 : Nat) e0).2.2.2.1 != (0 : Int) else false) q16 (List.length R ≤ q3 ∧ (∀ (r : Rl), r ∈ R → List.length r.2.2 ≤ q3) ∧ List.length L ≤ q3 ∧ List.length R ≤ q5 ∧ (∀ (r : Rl), r ∈ R → List.length r.2.2 ≤ q3) ∧ List.length L ≤ q5 ∧ List.length R ≤ q3 ∧ (∀ (r : Rl), r ∈ R → List.length r.2.2 ≤ q3) ∧ List.length q0.1 ≤ q3 ∧ List.length q0.1 ≤ q3 ∧ List.length R ≤ q5 ∧ (∀ (r : Rl), r ∈ R → List.length r.2.2 ≤ q3) ∧ List.length q0.1 ≤ q5 ∧ List.length R ≤ q3 ∧ (∀ (r : Rl), r ∈ R → List.length r.2.2 ≤ q3) ∧ List.length q0.2 ≤ q3 ∧ List.length q0.2 ≤ q3 ∧ List.length R ≤ q5 ∧ (∀ (r : Rl), r ∈ R → List.length r.2.2 ≤ q3) ∧ List.length q0.2 ≤ q5 ∧ fits IntKind.i64 (chkEds R L + chkEds R q0.1) ∧ fits IntKind.i64 (chkEds R L + chkEds R q0.1 + chkEds R q0.2) ∧ ((bif bif chkEds R L + chkEds R q0.1 + chkEds R q0.2 != (0 : Int) then true else q6 != n % q8 then true else q7 != lenL L) = false → fits IntKind.i64 (q6 + q9)) ∧ (q2 = false → (0 : Int) ≤ (0 : Int) ∧ (0 : Int) ≤ n % q8 ∧ n % q8 ≤ q7) ∧ q14 ∧ (q2 = false → ∀ (x : List Tk), x ∈ List.take q4 (confN R L) → List.length x ≤ q3) ∧ (q2 = false → List.length (confN R q0.1) ≤ q3) ∧ (q2 = false → ∀ (x : List Tk), x ∈ confN R q0.1 → List.length x ≤ q3) ∧ q14 ∧ (q2 = false → ∀ (x : List Tk), x ∈ List.take q4 (confN R L) → List.length x ≤ q3) ∧ (q1 = false → (0 : Int) ≤ n % q8 ∧ n % q8 ≤ q7 ∧ q7 ≤ q7) ∧ q15 ∧ (q1 = false → ∀ (x : List Tk), x ∈ List.drop q4 (confN R L) → List.length x ≤ q3) ∧ (q1 = false → List.length (confN R q0.2) ≤ q3) ∧ (q1 = false → ∀ (x : List Tk), x ∈ confN R q0.2 → List.length x ≤ q3) ∧ q15 ∧ (q1 = false → ∀ (x : List Tk), x ∈ List.drop q4 (confN R L) → List.length x ≤ q3) ∧ splitB (bif bif bif bif bif chkEds R L + chkEds R q0.1 + chkEds R q0.2 != (0 : Int) then true else q6 != n % q8 then true else q7 != lenL L then true else q6 + q9 != lenL L then true else !decide (List.take q4 (confN R L) = confN R q0.1) then true else !decide (List.drop q4 (confN R L) = confN R q0.2)) q16 (((0 : Int) ≤ (0 : Int) ∧ (0 : Int) < (2 : Int)) ∧ List.length R ≤ q3 ∧ (∀ (r : Rl), r ∈ R → List.length r.2.2 ≤ q3) ∧ List.length q0.1 ≤ q3 ∧ List.length q0.1 ≤ q3 ∧ List.length R ≤ q5 ∧ (∀ (r : Rl), r ∈ R → List.length r.2.2 ≤ q3) ∧ List.length q0.1 ≤ q17 ∧ (0 : Nat) ≤ q17 ∧ q11 ∧ ((joinE R q0.1 [] != (0 : Int)) = false → List.length q0.1 ≤ q3) ∧ q11 ∧ splitB (bif joinE R q0.1 [] != (0 : Int) then true else !decide (joinL R q0.1 [] = q0.1)) q16 (fits IntKind.i64 (1 : Int) ∧ ((0 : Int) ≤ (1 : Int) ∧ (1 : Int) < (2 : Int)) ∧ List.length R ≤ q3 ∧ (∀ (r : Rl), r ∈ R → List.length r.2.2 ≤ q3) ∧ List.length q0.2 ≤ q3 ∧ List.length q0.2 ≤ q3 ∧ List.length R ≤ q5 ∧ (∀ (r : Rl), r ∈ R → List.length r.2.2 ≤ q3) ∧ List.length q0.2 ≤ q17 ∧ (0 : Nat) ≤ q17 ∧ q12 ∧ ((joinE R q0.2 [] != (0 : Int)) = false → List.length q0.2 ≤ q3) ∧ q12 ∧ splitB (bif joinE R q0.2 [] != (0 : Int) then true else !decide (joinL R q0.2 [] = q0.2)) q16 (fits IntKind.i64 (2 : Int) ∧ List.length R ≤ q3 ∧ (∀ (r : Rl), r ∈ R → List.length r.2.2 ≤ q3) ∧ List.length q0.1 ≤ q3 ∧ List.length q0.1 ≤ q3 ∧ List.length q0.2 ≤ q3 ∧ List.length q0.2 ≤ q3 ∧ List.length R ≤ q5 ∧ (∀ (r : Rl), r ∈ R → List.length r.2.2 ≤ q3) ∧ List.length q0.1 ≤ q17 ∧ List.length q0.2 ≤ q17 ∧ splitB (joinE R q0.1 q0.2 != (0 : Int)) ((bif bif joinE R q0.1 q0.2 != (10 : Int) then joinE R q0.1 q0.2 != (14 : Int) else false then true else false) = true ∧ True) (List.length R ≤ q3 ∧ (∀ (r : Rl), r ∈ R → List.length r.2.2 ≤ q3) ∧ List.length L ≤ q3 ∧ List.length q13 ≤ q3 ∧ List.length q13 ≤ q3 ∧ List.length R ≤ q5 ∧ (∀ (r : Rl), r ∈ R → List.length r.2.2 ≤ q3) ∧ List.length L ≤ q5 ∧ List.length q13 ≤ q5 ∧ (bif bif bothE R L q13 == (0 : Int) then (↑(List.length (diffN R L q13)) : Int) == (0 : Int) else false then true else false) = true ∧ True)))))))) := by
  kernel_rfl
end Go.Sx

/- Contracts. -/
namespace Go.Sx
open U
theorem fn13 (R : List Rl) (L : List Ed) (n : Int) (hl : R.length ≤ 9223372036854775807) (hL : L.length ≤ 9223372036854775807) (hF : ∀ x ∈ L, fits .i64 x.2.2.1) (hn : 0 ≤ n ∧ n ≤ 255) : Fn P1 gl1 13 [.one (.sl rlT R), .one (.sl edT L), .one (.int .u8 n)] (.val (bV true)) true := by
  refine Fn.flat ?_ rfl
  refine fn_of false [(17, sp17), (38, sp38), (18, sp18), (39, sp39), (25, sp25), (34, sp34.frz), (57, sp57.frz), (84, sp84.frz), (35, sp35.frz), (46, sp46), (45, sp45), (83, sp83.frz), (56, sp56), (78, sp78.frz)] [] h13 0 Proofs.Tryz.f13 ⟨so17, so38, so18, so39, so25, Sp1.frz so34, Sp1.frz so57, Sp1.frz so84, Sp1.frz so35, so46, so45, Sp1.frz so83, so56, Sp1.frz so78, trivial⟩ trivial (by kernel_rfl) rfl (by kernel_rfl) rfl rfl rfl ?_
  rw [vc13]
  try simp only [splitB_iff, -eq_self]
  simp only [eq_self, and_true, and_self]
  refine ⟨hl, hL, fun h => by have := (short_bd h).1.1; omega, fun h r hr => by have := (short_bd h).1.2 r hr; omega, fun h => by have := (short_bd h).2; omega, fun _ => hF, fun _ => trivial, fun h => ?_⟩
  rw [bcond_l, Bool.or_eq_false_iff] at h
  obtain ⟨⟨hR9, hRx⟩, hL17⟩ := short_bd h.1
  have eL : chkEds R L = 0 := by simpa using h.2
  have hk := chkEds_zero.1 eL
  clear h
  have hR2 : ∀ r ∈ R, r.2.2.length ≤ 1000000 := fun r hr => by have := hRx r hr; omega
  have hR3 : ∀ r ∈ R, r.2.2.length ≤ 1000000 ∧ r.1.length ≤ 1000000000 := fun r hr => by have := hRx r hr; omega
  have hbig := hk.big
  have hnn := lenL_nn hk
  have ht0 : 0 ≤ n % (lenL L + 1) := Int.emod_nonneg _ (by omega)
  have ht1 : n % (lenL L + 1) < lenL L + 1 := Int.emod_lt_of_pos _ (by omega)
  generalize n % (lenL L + 1) = t at *
  refine ⟨hk.eds, by simp only [fits]; omega, by simp only [fits]; omega, ⟨by omega, by omega⟩, by omega, hR2, by omega, by omega, hR2, by omega, fun _ => trivial, fun hz => ?_⟩
  have hz' : partE R L t = 0 := by simpa using hz
  obtain ⟨hA, hB, hfb, hla, hlb, hcA, hcB, hj⟩ := join_law hk ⟨ht0, by omega⟩ hz'
  obtain ⟨ja1, ja2⟩ := join_nil hA
  obtain ⟨jb1, jb2⟩ := join_nil hB
  obtain ⟨e10, e14⟩ := join_err hA hB
  have eA := chkEds_zero.2 hA
  have eB := chkEds_zero.2 hB
  have fA := ed_fits (eds_bd hA.eds)
  have fB := ed_fits (eds_bd hB.eds)
  have lA := hA.len
  have lB := hB.len
  clear hz hz' hF
  have lJ : (joinL R (partL R L t).1 (partL R L t).2).length ≤ 1000 := by
    unfold joinL
    split
    · rw [List.length_append]; omega
    · exact Nat.zero_le _
  have hcl : (confN R L).length = (lenL L).toNat := by rw [conf_len R hk]; simp
  have hc2 : ∀ x ∈ confN R L, x.length ≤ 1000000 := fun x hx => by
    rw [conf_len R hk] at hx
    obtain ⟨u, _, rfl⟩ := List.mem_map.1 hx
    have := takes_len2 (ls L) (u : Int)
    omega
  rw [hcA, hcB]
  generalize (partL R L t).1 = a at *
  generalize (partL R L t).2 = b at *
  clear hcA hcB
  generalize confN R L = c at *
  have t1 := eq_true hR2
  have t2 := eq_true hR3
  have t3 := eq_true fA
  have t4 := eq_true fB
  have t5 : (∀ x : List Tk, x ∈ c.take t.toNat → x.length ≤ 1000000) = True := eq_true fun x hx => hc2 x (List.mem_of_mem_take hx)
  have t6 : (∀ x : List Tk, x ∈ c.drop t.toNat → x.length ≤ 1000000) = True := eq_true fun x hx => hc2 x (List.mem_of_mem_drop hx)
  have a1 : a.length ≤ 1000000 := by omega
  have a2 : a.length ≤ 1000000000 := by omega
  have a3 : a.length ≤ 100000 := by omega
  have b1 : b.length ≤ 1000000 := by omega
  have b2 : b.length ≤ 1000000000 := by omega
  have b3 : b.length ≤ 100000 := by omega
  have r1 : R.length ≤ 1000000 := by omega
  have r2 : R.length ≤ 1000000000 := by omega
  have l1 : L.length ≤ 1000000 := by omega
  have l2 : L.length ≤ 1000000000 := by omega
  have j1 : (joinL R a b).length ≤ 1000000 := by omega
  have j2 : (joinL R a b).length ≤ 1000000000 := by omega
  have c1 : (c.take t.toNat).length ≤ 1000000 := by rw [List.length_take]; omega
  have c2 : (c.drop t.toNat).length ≤ 1000000 := by rw [List.length_drop]; omega
  have c3 : ((c.take t.toNat).length : Int) = t := by rw [List.length_take]; omega
  have c4 : (c.length : Int) = lenL L := by omega
  have c5 : (t + ((c.drop t.toNat).length : Int)) = lenL L := by rw [List.length_drop]; omega
  have f1 : fits .i64 (lenL L) := by simp only [fits]; omega
  have hbz : (bif decide (0 < (b.length : Int)) then (b.getD 0 e0).2.2.2.1 != 0 else false) = false := by
    by_cases h : 0 < b.length
    · rw [hfb h, decide_eq_true (by omega)]; rfl
    · rw [decide_eq_false (by omega)]; rfl
  have n10 : (joinE R a b != 10) = true := by simpa using e10
  have n14 : (joinE R a b != 14) = true := by simpa using e14
  have tL : t ≤ lenL L := by omega
  simp only [eL, eA, eB, c3, c4, c5, hbz, ja1, ja2, jb1, jb2, n10, n14, t1, t2, t3, t4, t5, t6, eq_true a1, eq_true a2, eq_true a3, eq_true b1, eq_true b2, eq_true b3, eq_true r1, eq_true r2, eq_true l1, eq_true l2, eq_true j1, eq_true j2, eq_true c1, eq_true c2, eq_true f1, eq_true ht0, eq_true tL]
  simp
  exact ⟨by simp only [fits]; omega, by simp only [fits]; omega, by simp only [fits]; omega, hj⟩

end Go.Sx
