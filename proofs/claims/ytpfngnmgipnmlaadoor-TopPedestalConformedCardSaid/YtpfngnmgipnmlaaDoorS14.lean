/- A verified symbolic run of functions, part 14: lemmas, no claim of their own. -/
import Derived.Test.YtpfngnmgipnmlaaDoorS13
/- Plain laws: the reference's checks of lists of edits. -/
namespace Go.Sx
open U

theorem findN_some {R : List Rl} {nm : List UInt8} (h : idxN nm R < R.length) : findN R nm = (idxN nm R : Int) ∧ R.getD (findN R nm).toNat r0 = rlOf R nm := by
  have e : findN R nm = (idxN nm R : Int) := by unfold findN; rw [if_pos h]
  exact ⟨e, by rw [e]; rfl⟩
theorem findN_none {R : List Rl} {nm : List UInt8} (h : ¬ idxN nm R < R.length) : findN R nm = -1 := by unfold findN; rw [if_neg h]
theorem hasB_iff (r : Rl) (f : Int) : hasB r f = true ↔ r.2.1 ≤ f ∧ f < endR r := by
  unfold hasB endR
  rw [bcond_r]
  simp only [Bool.and_eq_true, decide_eq_true_eq]
theorem hasB_not (r : Rl) (f : Int) : hasB r f = false ↔ ¬ (r.2.1 ≤ f ∧ f < endR r) := by
  rw [← Bool.not_eq_true, hasB_iff]

theorem chkEds_rs {R : List Rl} {L : List Ed} (h : chkRs R ≠ 0) : chkRs R = chkEds R L := by
  unfold chkEds; rw [if_pos h]
theorem chkEds_many {R : List Rl} {L : List Ed} (h : chkRs R = 0) (h2 : 16 < L.length) : 5 = chkEds R L := by
  unfold chkEds; rw [if_neg (by simpa using h), if_pos h2]
theorem chkEds_at {R : List Rl} {L : List Ed} {g : Nat} {e : Int} (h : chkRs R = 0) (h2 : ¬ 16 < L.length) (h3 : upTo (chkEd R L) g = 0) (hg : g < L.length) (he : chkEd R L g = e) (h0 : e ≠ 0) : e = chkEds R L := by
  have := upTo_eq h3 (by rw [he]; exact h0) hg
  unfold chkEds
  rw [if_neg (by simpa using h), if_neg h2, if_pos (by rw [this, he]; exact h0), this, he]
theorem chkEds_big {R : List Rl} {L : List Ed} (h : chkRs R = 0) (h2 : ¬ 16 < L.length) (h3 : upTo (chkEd R L) L.length = 0) (h4 : 1024 < lenL L) : 4 = chkEds R L := by
  unfold chkEds
  rw [if_neg (by simpa using h), if_neg h2, if_neg (by simpa using h3), if_pos h4]
theorem chkEds_ord {R : List Rl} {L : List Ed} {g : Nat} (h : chkRs R = 0) (h2 : ¬ 16 < L.length) (h3 : upTo (chkEd R L) L.length = 0) (h4 : ¬ 1024 < lenL L) (hg : g < L.length) (h5 : ordE (ls L) (lenL L) g ≠ 0) : 11 = chkEds R L := by
  unfold chkEds
  rw [if_neg (by simpa using h), if_neg h2, if_neg (by simpa using h3), if_neg h4, if_pos (fun e => h5 (upTo_zero.1 e g hg))]
theorem chkEds_sp {R : List Rl} {L : List Ed} {g : Nat} (h : chkRs R = 0) (h2 : ¬ 16 < L.length) (h3 : upTo (chkEd R L) L.length = 0) (h4 : ¬ 1024 < lenL L) (h5 : ∀ g, g < L.length → ordE (ls L) (lenL L) g = 0) (hg : g < L.length) (h6 : spE (mapR R R.length) (ls L) (lenL L) g ≠ 0) : 16 = chkEds R L := by
  have key : ∀ n, upTo (spE (mapR R R.length) (ls L) (lenL L)) n = 0 ∨ upTo (spE (mapR R R.length) (ls L) (lenL L)) n = 16 := by
    intro n
    induction n with
    | zero => exact .inl rfl
    | succ n ih =>
      simp only [upTo]
      split
      · unfold spE whenE
        split
        · exact .inr rfl
        · exact .inl rfl
      · exact ih
  unfold chkEds
  rw [if_neg (by simpa using h), if_neg h2, if_neg (by simpa using h3), if_neg h4, if_neg (by simpa using upTo_zero.2 h5)]
  rcases key L.length with k | k
  · exact absurd (upTo_zero.1 k g hg) h6
  · exact k.symm
theorem chkEds_good {R : List Rl} {L : List Ed} (h : chkRs R = 0) (h2 : ¬ 16 < L.length) (h3 : upTo (chkEd R L) L.length = 0) (h4 : ¬ 1024 < lenL L) (h5 : ∀ g, g < L.length → ordE (ls L) (lenL L) g = 0) (h6 : ∀ g, g < L.length → spE (mapR R R.length) (ls L) (lenL L) g = 0) : 0 = chkEds R L :=
  (chkEds_zero.2 ⟨h, by omega, upTo_zero.1 h3, by omega, h5, h6⟩).symm

/-! ### An edit by itself. -/

theorem chkEd_unknown {R : List Rl} {L : List Ed} {g : Nat} (h : ¬ idxN (L.getD g e0).1 R < R.length) : chkEd R L g = 10 := by
  unfold chkEd chkE; rw [if_pos (by omega)]
theorem chkEd_span {R : List Rl} {L : List Ed} {g : Nat} (h : idxN (L.getD g e0).1 R < R.length) (h2 : (L.getD g e0).2.2.1 ≤ (L.getD g e0).2.1 ∨ (L.getD g e0).2.1 < (rlOf R (L.getD g e0).1).2.1 ∨ endR (rlOf R (L.getD g e0).1) < (L.getD g e0).2.2.1) : chkEd R L g = 14 := by
  unfold chkEd chkE; rw [if_neg (by omega), if_pos h2]
theorem chkEd_prs {R : List Rl} {L : List Ed} {g : Nat} (h : idxN (L.getD g e0).1 R < R.length) (h2 : ¬ ((L.getD g e0).2.2.1 ≤ (L.getD g e0).2.1 ∨ (L.getD g e0).2.1 < (rlOf R (L.getD g e0).1).2.1 ∨ endR (rlOf R (L.getD g e0).1) < (L.getD g e0).2.2.1)) (h3 : prs (L.getD g e0) ≠ 0) : chkEd R L g = prs (L.getD g e0) := by
  unfold chkEd chkE; rw [if_neg (by omega), if_neg h2, if_pos h3]
theorem chkEd_first {R : List Rl} {L : List Ed} (h : idxN (L.getD 0 e0).1 R < R.length) (h2 : ¬ ((L.getD 0 e0).2.2.1 ≤ (L.getD 0 e0).2.1 ∨ (L.getD 0 e0).2.1 < (rlOf R (L.getD 0 e0).1).2.1 ∨ endR (rlOf R (L.getD 0 e0).1) < (L.getD 0 e0).2.2.1)) (h3 : prs (L.getD 0 e0) = 0) :
    chkEd R L 0 = whenE (decide ((L.getD 0 e0).2.2.2.1 ≠ 0 ∨ (L.getD 0 e0).2.2.2.2 ≠ 0)) 21 := by
  unfold chkEd chkE; rw [if_neg (by omega), if_neg h2, if_neg (by simpa using h3)]
  generalize L.getD 0 e0 = x
  obtain ⟨a, b, c, d, e⟩ := x
  simp only [if_true]
  congr 1
  rw [decide_eq_decide]
  simp only [ne_eq, Prod.mk.injEq, true_and]
  omega
theorem chkEd_later {R : List Rl} {L : List Ed} {g : Nat} (hg : 0 < g) (h : idxN (L.getD g e0).1 R < R.length) (h2 : ¬ ((L.getD g e0).2.2.1 ≤ (L.getD g e0).2.1 ∨ (L.getD g e0).2.1 < (rlOf R (L.getD g e0).1).2.1 ∨ endR (rlOf R (L.getD g e0).1) < (L.getD g e0).2.2.1)) (h3 : prs (L.getD g e0) = 0) :
    chkEd R L g = whenE (decide (endR (rlOf R (L.getD (g - 1) e0).1) < (L.getD (g - 1) e0).2.2.1 + (L.getD g e0).2.2.2.1)) 16 := by
  unfold chkEd chkE; rw [if_neg (by omega), if_neg h2, if_neg (by simpa using h3), if_neg (by omega)]

/-! ### What is heard. -/

/-- The frame at which the sound of an edit begins. -/
def sN (L : List Ed) (i : Nat) : Int := begN L i + (L.getD i e0).2.2.2.2
theorem sndN_ls {L : List Ed} {i : Nat} (h : i < L.length) : sndN ((ls L).getD i pl0) = sN L i := by rw [ls_get L h]; rfl

theorem sndI_of {L : List Ed} {t : Int} {k : Nat} : ∀ {n : Nat}, k < n → sN L k ≤ t → (∀ j, k < j → j < n → t < sN L j) → sndI L t n = (k : Int)
  | 0, h, _, _ => by omega
  | n + 1, h, h1, h2 => by
    simp only [sndI]
    by_cases e : k = n
    · subst e; exact if_pos h1
    · rw [if_neg (by have := h2 n (by omega) (by omega); unfold sN at this; omega)]
      exact sndI_of (by omega) h1 fun j hj hjn => h2 j hj (by omega)
theorem sndI_at {L : List Ed} {t : Int} {k : Nat} : ∀ {n : Nat}, sndI L t n = (k : Int) → k < n ∧ sN L k ≤ t ∧ ∀ j, k < j → j < n → t < sN L j
  | 0, h => by simp [sndI] at h
  | n + 1, h => by
    simp only [sndI] at h
    split at h
    · rename_i h1
      have : n = k := by omega
      subst this
      exact ⟨by omega, h1, fun j _ _ => by omega⟩
    · rename_i h1
      obtain ⟨a, b, c⟩ := sndI_at h
      refine ⟨by omega, b, fun j hj hjn => ?_⟩
      by_cases e : j = n
      · subst e; unfold sN; omega
      · exact c j hj (by omega)

/-- Sounds one after the other. -/
structure SndOk (L : List Ed) : Prop where
  first : 0 < L.length → sN L 0 = 0
  mono : ∀ i, i + 1 < L.length → sN L i < sN L (i + 1)
  lt : ∀ i, i < L.length → sN L i < lenL L

theorem sndOk_of {R : List Rl} {L : List Ed} (h : chkRs R = 0) (h2 : ¬ 16 < L.length) (h3 : ∀ i, i < L.length → chkEd R L i = 0) (h5 : ∀ g, g < L.length → ordE (ls L) (lenL L) g = 0) : SndOk L := by
  have hE := EdsIn_of h (by omega) h3
  have ho : ∀ g, 0 < g → g < L.length → sN L (g - 1) < sN L g ∧ sN L g < lenL L := by
    intro g h0 hg
    have := h5 g hg
    unfold ordE at this
    have := of_decide_eq_false ((whenE_zero (by decide)).1 this)
    rw [sndN_ls hg, sndN_ls (show g - 1 < L.length by omega)] at this
    constructor
    · apply Classical.byContradiction; intro hc; exact this ⟨h0, .inl (by omega)⟩
    · apply Classical.byContradiction; intro hc; exact this ⟨h0, .inr (by omega)⟩
  have h0 : 0 < L.length → sN L 0 = 0 := fun hn => by
    have := (chkEd_ok (h3 0 hn)).first rfl
    unfold sN
    rw [this.2]; rfl
  refine ⟨h0, fun i hi => ?_, fun i hi => ?_⟩
  · exact (ho (i + 1) (by omega) hi).1
  · by_cases e : i = 0
    · subst e
      rw [h0 hi]
      have h1 := begN_bd hE L.length (Nat.le_refl _)
      unfold lenL
      omega
    · exact (ho i (by omega) hi).2

theorem SndOk.le {L : List Ed} (h : SndOk L) : ∀ {i j : Nat}, i ≤ j → j < L.length → sN L i ≤ sN L j := by
  intro i j hij hj
  induction j with
  | zero => rw [Nat.le_zero.1 hij]; exact Int.le_refl _
  | succ j ih =>
    by_cases e : i = j + 1
    · subst e; exact Int.le_refl _
    · have := ih (by omega) (by omega)
      have := h.mono j hj
      omega

theorem heardN_ls {L : List Ed} {k : Nat} (hk : k < L.length) : heardN (ls L) (lenL L) k = (sN L k, if k + 1 < L.length then sN L (k + 1) else lenL L) := by
  unfold heardN
  rw [ls_len, sndN_ls hk]
  split
  · rename_i h; rw [sndN_ls h]
  · rfl

theorem SndOk.at_ {L : List Ed} (h : SndOk L) {k : Nat} {t : Int} (hk : k < L.length) : sndI L t L.length = (k : Int) ↔ sN L k ≤ t ∧ (k + 1 < L.length → t < sN L (k + 1)) := by
  constructor
  · intro e
    obtain ⟨_, b, c⟩ := sndI_at e
    exact ⟨b, fun h1 => c _ (by omega) h1⟩
  · rintro ⟨b, c⟩
    refine sndI_of hk b fun j hj hjn => ?_
    have := c (by omega)
    have := h.le (show k + 1 ≤ j by omega) hjn
    omega

theorem bad_iff {R : List Rl} {L : List Ed} (hr : chkRs R = 0) (h : SndOk L) {k : Nat} (hk : k < L.length) : spE (mapR R R.length) (ls L) (lenL L) k ≠ 0 ↔ ∃ t : Nat, (t : Int) < lenL L ∧ badH R L k t := by
  have hto : ∃ b, (heardN (ls L) (lenL L) k).2 = b ∧ sN L k < b ∧ b ≤ lenL L ∧ ∀ t : Int, t < lenL L → (sndI L t L.length = (k : Int) ↔ sN L k ≤ t ∧ t < b) := by
    rw [heardN_ls hk]
    dsimp only
    split
    · rename_i h1
      exact ⟨_, rfl, h.mono k h1, Int.le_of_lt (h.lt _ h1), fun t _ => by rw [h.at_ hk]; exact ⟨fun ⟨a, b⟩ => ⟨a, b h1⟩, fun ⟨a, b⟩ => ⟨a, fun _ => b⟩⟩⟩
    · rename_i h1
      exact ⟨_, rfl, h.lt k hk, Int.le_refl _, fun t ht => by rw [h.at_ hk]; exact ⟨fun ⟨a, b⟩ => ⟨a, ht⟩, fun ⟨a, b⟩ => ⟨a, fun h2 => absurd h2 h1⟩⟩⟩
  obtain ⟨b, hb, hlt, hle, hs⟩ := hto
  have h0 : 0 ≤ sN L k := by
    have := h.le (Nat.zero_le k) hk
    rw [h.first (by omega)] at this
    exact this
  have hsp : spE (mapR R R.length) (ls L) (lenL L) k ≠ 0 ↔ ((L.getD k e0).2.1 + sN L k - begN L k < (rlOf R (L.getD k e0).1).2.1 ∨ endR (rlOf R (L.getD k e0).1) < (L.getD k e0).2.1 + b - begN L k) := by
    unfold spE
    rw [Ne, whenE_zero (by decide), decide_eq_false_iff_not, Classical.not_not, hb, heardN_ls hk, ls_get L hk, rlM_eq (rs_nodup hr)]
  rw [hsp]
  constructor
  · intro hc
    rcases hc with hc | hc
    · refine ⟨(sN L k).toNat, by omega, ?_, ?_⟩
      · rw [hs _ (by omega)]; omega
      · rw [hasB_not]; omega
    · refine ⟨(b - 1).toNat, by omega, ?_, ?_⟩
      · rw [hs _ (by omega)]; omega
      · rw [hasB_not]; omega
  · rintro ⟨t, ht, h1, h2⟩
    rw [hs _ ht] at h1
    rw [hasB_not] at h2
    omega
end Go.Sx

/- Contracts. -/
namespace Go.Sx
open U
theorem nameAt_let (l : List UInt8) (i : Nat) : nameAt l i = (letB ((l.getD i 0).toNat : Int) || (i != 0 && (digB ((l.getD i 0).toNat : Int) || ((l.getD i 0).toNat : Int) == 95))) := by
  unfold nameAt letB digB
  generalize (l.getD i 0).toNat = b
  rw [Bool.eq_iff_iff]
  simp only [bcond_l, bcond_r, Bool.or_eq_true, Bool.and_eq_true, decide_eq_true_eq, beq_iff_eq, bne_iff_ne]
  omega
theorem upTo_map (g : Int → Int) (l : List Int) : ∀ n, n ≤ l.length → first ((l.take n).map g) = upTo (fun j => g (l.getD j 0)) n
  | 0, _ => rfl
  | n + 1, h => by
    have ih := upTo_map g l n (by omega)
    rw [List.take_succ_eq_append_getElem (show n < l.length by omega), List.map_append]
    simp only [upTo, ← ih, List.map_cons, List.map_nil]
    rw [getD_of (show n < l.length by omega)]
    generalize (l.take n).map g = xs
    induction xs with
    | nil => simp only [List.nil_append, first]; split <;> simp_all
    | cons x r ih2 =>
      by_cases h0 : x = 0 <;> simp [first, h0, ih2]
theorem fn146 (n : Int)  : Fn P1 gl1 146 [uV n] (.val (bV (letB n))) true := by
  refine Fn.flat ?_ rfl
  refine fn_of false [] [] h0 0 Proofs.Tryd.f146 trivial trivial (by kernel_rfl) rfl (by kernel_rfl) rfl rfl rfl ?_
  rw [vc146]
  try simp only [splitB_iff, -eq_self]
  exact ⟨rfl, trivial⟩
theorem so146_ : SpecOk P1 gl1 146 sp146 := by
  intro vs ps r h _
  simp only [sp146] at h
  split at h
  · cases h; exact fn146 _ 
  · cases h
theorem so146 : Sp1 146 sp146 := ⟨so146_, Proofs.Tryd.f146, _, by kernel_rfl, rfl, by kernel_rfl⟩
theorem fn147 (n : Int)  : Fn P1 gl1 147 [uV n] (.val (bV (digB n))) true := by
  refine Fn.flat ?_ rfl
  refine fn_of false [] [] h0 0 Proofs.Tryd.f147 trivial trivial (by kernel_rfl) rfl (by kernel_rfl) rfl rfl rfl ?_
  rw [vc147]
  try simp only [splitB_iff, -eq_self]
  exact ⟨rfl, trivial⟩
theorem so147_ : SpecOk P1 gl1 147 sp147 := by
  intro vs ps r h _
  simp only [sp147] at h
  split at h
  · cases h; exact fn147 _ 
  · cases h
theorem so147 : Sp1 147 sp147 := ⟨so147_, Proofs.Tryd.f147, _, by kernel_rfl, rfl, by kernel_rfl⟩
theorem fn134 (l : List UInt8) (hl : l.length ≤ 1000000000) : Fn P1 gl1 134 [sV l] (.val (bV (isName l))) true := by
  refine Fn.flat ?_ rfl
  refine fn_of false [(146, sp146), (147, sp147)] [] h134 0 Proofs.Tryd.f134 ⟨so146, so147, trivial⟩ trivial (by kernel_rfl) rfl (by kernel_rfl) rfl rfl rfl ?_
  rw [vc134]
  try simp only [splitB_iff, -eq_self]
  simp only [bcond_l, bcond_r, Bool.or_eq_true, Bool.or_eq_false_iff, Bool.and_eq_true, Bool.and_eq_false_iff, Bool.not_eq_true', Bool.not_eq_false', decide_eq_true_eq, decide_eq_false_iff_not, beq_iff_eq, beq_eq_false_iff_ne, bne_iff_ne, bne_eq_false_iff_eq]
  refine ⟨fun h => by omega, fun h => ⟨?_, trivial⟩, fun h => ?_⟩
  · rcases h with h | h
    · cases hq : isName l with
      | false => rfl
      | true =>
        unfold isName at hq
        simp only [Bool.and_eq_true, decide_eq_true_eq] at hq
        have h2 := hq.2
        have : l.length ≠ 0 := fun e => h2.1 (List.eq_nil_of_length_eq_zero e)
        omega
    · by_cases h0 : l.length = 0
      · have := List.eq_nil_of_length_eq_zero h0
        subst this; rfl
      · rw [isName_not (j := 0) (by omega)]
        rw [nameAt_let, h]; rfl
  · refine ⟨⟨1, ⟨by omega, by omega, fun j hj => ?_⟩, by trivial, by trivial, by trivial⟩, fun g hg => ⟨fun hlt => ⟨by omega, fun _ => by omega, fun _ => by omega, fun h2 => ⟨?_, by trivial⟩, fun h2 => ⟨by simp only [fits]; omega, g + 1, ⟨by omega, by omega, fun j hj => ?_⟩, by omega, by simp, by trivial, by trivial⟩⟩, fun hge => ⟨?_, by trivial⟩⟩⟩
    · have : j = 0 := by omega
      subst this
      rw [nameAt_let, h.2]; rfl
    · rw [isName_not (j := g) (by omega)]
      rw [nameAt_let]
      simp only [Bool.or_eq_false_iff, Bool.and_eq_false_iff, beq_eq_false_iff_ne, bne_eq_false_iff_eq]
      exact ⟨h2.1.1, .inr ⟨h2.1.2, h2.2⟩⟩
    · by_cases e : j < g
      · exact hg.2.2 j e
      · have : j = g := by omega
        subst this
        rw [nameAt_let]
        simp only [Bool.or_eq_true, Bool.and_eq_true, beq_iff_eq, bne_iff_ne]
        have := hg.2.1
        rcases h2 with (h2 | h2) | h2
        · exact .inl h2
        · exact .inr ⟨by omega, .inl h2⟩
        · exact .inr ⟨by omega, .inr h2⟩
    · have : g = l.length := by omega
      subst this
      rw [isName_of hg.2.2]
      symm
      simp only [Bool.and_eq_true, decide_eq_true_eq]
      refine ⟨fun e => ?_, by omega⟩
      subst e
      have := hg.2.1
      simp at this
theorem so134_ : SpecOk P1 gl1 134 sp134 := by
  intro vs ps r h hp
  simp only [sp134] at h
  split at h
  · cases h; exact fn134 _ (hp _ (.head _))
  · cases h
theorem so134 : Sp1 134 sp134 := ⟨so134_, Proofs.Tryd.f134, _, by kernel_rfl, rfl, by kernel_rfl⟩
theorem fn96 (l : List UInt8) (hl : l.length ≤ 1000000000) : Fn P1 gl1 96 [sV l] (.val (iV (whenE (!isName l) 8))) true := by
  refine Fn.flat ?_ rfl
  refine fn_of false [(134, sp134), (97, sp97)] [] h0 0 Proofs.Tryd.f96 ⟨so134, so97, trivial⟩ trivial (by kernel_rfl) rfl (by kernel_rfl) rfl rfl rfl ?_
  rw [vc96]
  try simp only [splitB_iff, -eq_self]
  exact ⟨hl, rfl, trivial⟩
theorem so96_ : SpecOk P1 gl1 96 sp96 := by
  intro vs ps r h hp
  simp only [sp96] at h
  split at h
  · cases h; exact fn96 _ (hp _ (.head _))
  · cases h
theorem so96 : Sp1 96 sp96 := ⟨so96_, Proofs.Tryd.f96, _, by kernel_rfl, rfl, by kernel_rfl⟩

theorem fn37 (nm : List UInt8) (f : Int) (l : List Int) (hn : nm.length ≤ 1000000000) (hl : l.length ≤ 1000000) : Fn P1 gl1 37 [rV nm f l] (.val (iV (checkReel nm f l))) true := by
  refine Fn.flat ?_ rfl
  refine fn_of false [(96, sp96), (46, sp46), (44, sp44), (97, sp97)] [] h37 0 Proofs.Tryd.f37 ⟨so96, so46, so44, so97, trivial⟩ trivial (by kernel_rfl) rfl (by kernel_rfl) rfl rfl rfl ?_
  rw [vc37]
  try simp only [splitB_iff, -eq_self]
  have hw : first (wf16 l) = upTo (fun j => within (l.getD j 0) 0 65535) l.length := by
    have := upTo_map (fun n => within n 0 65535) l l.length (Nat.le_refl _)
    rwa [List.take_length] at this
  simp only [decide_eq_true_eq, decide_eq_false_iff_not, beq_iff_eq, beq_eq_false_iff_ne, bne_iff_ne, bne_eq_false_iff_eq]
  refine ⟨hn, by decide, fun h => ⟨?_, trivial⟩, fun h => ⟨fun h2 => ⟨?_, trivial⟩, fun h2 => ⟨fun h3 => ⟨?_, trivial⟩, fun h3 => ⟨⟨0, ⟨Nat.zero_le _, rfl⟩, by trivial, by trivial, by trivial, by trivial, by trivial, by trivial⟩, fun g hg => ⟨fun hlt => ⟨by omega, fun h4 => ⟨?_, trivial⟩, fun h4 => ⟨by simp only [fits]; omega, g + 1, ⟨by omega, upTo_succ hg.2 h4⟩, by omega, by simp, by trivial, by trivial, by trivial, by trivial, by trivial⟩⟩, fun hge => ?_⟩⟩⟩⟩⟩
  · unfold checkReel
    have e : ∀ a b : Int, first [whenE (!isName nm) 8, within f 0 10000000, a, b] = first [whenE (!isName nm) 8, within f 0 10000000] := by
      intro a b
      simp only [first] at h ⊢
      by_cases h1 : whenE (!isName nm) 8 = 0
      · rw [if_pos h1, if_pos h1] at *
        by_cases h2 : within f 0 10000000 = 0
        · simp [h2] at h
        · rw [if_neg h2, if_neg h2]
      · rw [if_neg h1, if_neg h1]
    rw [e, if_neg h]
  · have hz := (first_zero_iff _).1 h
    have h0 : l.length = 0 := by omega
    unfold checkReel
    have : first [whenE (!isName nm) 8, within f 0 10000000, whenE (decide (l.length = 0)) 12, whenE (decide (256 < l.length)) 5] = 12 := by
      simp only [first]
      rw [hz _ List.mem_cons_self, hz (within f 0 10000000) (List.mem_cons_of_mem _ List.mem_cons_self), h0]
      rfl
    rw [this]; rfl
  · have hz := (first_zero_iff _).1 h
    unfold checkReel
    have e1 : decide (l.length = 0) = false := decide_eq_false (by omega)
    have e2 : decide (256 < l.length) = true := decide_eq_true (by omega)
    have : first [whenE (!isName nm) 8, within f 0 10000000, whenE (decide (l.length = 0)) 12, whenE (decide (256 < l.length)) 5] = 5 := by
      simp only [first]
      rw [hz _ List.mem_cons_self, hz (within f 0 10000000) (List.mem_cons_of_mem _ List.mem_cons_self), e1, e2]
      rfl
    rw [this]; rfl
  · have hz := (first_zero_iff _).1 h
    have e1 : decide (l.length = 0) = false := decide_eq_false (by omega)
    have e2 : decide (256 < l.length) = false := decide_eq_false (by omega)
    have h0 : first [whenE (!isName nm) 8, within f 0 10000000, whenE (decide (l.length = 0)) 12, whenE (decide (256 < l.length)) 5] = 0 := by
      simp only [first]
      rw [hz _ List.mem_cons_self, hz (within f 0 10000000) (List.mem_cons_of_mem _ List.mem_cons_self), e1, e2]
      rfl
    have hu := upTo_eq hg.2 h4 (show g < l.length by omega)
    unfold checkReel
    rw [if_pos h0, hw, if_neg (by rw [hu]; exact h4), hu]
  · have hz := (first_zero_iff _).1 h
    have e1 : decide (l.length = 0) = false := decide_eq_false (by omega)
    have e2 : decide (256 < l.length) = false := decide_eq_false (by omega)
    have h0 : first [whenE (!isName nm) 8, within f 0 10000000, whenE (decide (l.length = 0)) 12, whenE (decide (256 < l.length)) 5] = 0 := by
      simp only [first]
      rw [hz _ List.mem_cons_self, hz (within f 0 10000000) (List.mem_cons_of_mem _ List.mem_cons_self), e1, e2]
      rfl
    have hr := within_zero.1 (hz (within f 0 10000000) (List.mem_cons_of_mem _ List.mem_cons_self))
    have hgl : g = l.length := by omega
    subst hgl
    refine ⟨by simp only [fits]; omega, ?_, trivial⟩
    unfold checkReel
    rw [if_pos h0, hw, if_pos hg.2]
theorem so37_ : SpecOk P1 gl1 37 sp37 := by
  intro vs ps r h hp
  simp only [sp37] at h
  split at h
  · cases h; exact fn37 _ _ _ (hp _ (.head _)) (hp _ (.tail _ (.head _)))
  · cases h
theorem so37 : Sp1 37 sp37 := ⟨so37_, Proofs.Tryd.f37, _, by kernel_rfl, rfl, by kernel_rfl⟩

theorem fn83 (R : List Rl) (nm : List UInt8) (hl : R.length ≤ 1000000000) : Fn P1 gl1 83 [.one (.sl rlT R), sV nm] (.val (iV (findN R nm))) true := by
  refine Fn.flat ?_ rfl
  refine fn_of false [] [] h83 0 Proofs.Tryd.f83 trivial trivial (by kernel_rfl) rfl (by kernel_rfl) rfl rfl rfl ?_
  rw [vc83]
  try simp only [splitB_iff, -eq_self]
  simp only [decide_eq_true_eq, decide_eq_false_iff_not, beq_iff_eq, beq_eq_false_iff_ne]
  refine ⟨⟨0, ⟨Nat.zero_le _, Nat.zero_le _⟩, by trivial, by trivial, by trivial, by trivial⟩, fun g hg => ⟨fun hlt => ⟨by omega, fun h => ⟨?_, trivial⟩, fun h => ⟨by simp only [fits]; omega, g + 1, ⟨by omega, ?_⟩, by omega, by simp, by trivial, by trivial, by trivial⟩⟩, fun hge => ⟨?_, trivial⟩⟩⟩
  · have := idxN_at (show g < R.length by omega) h
    have e : idxN nm R = g := by omega
    unfold findN
    rw [e, if_pos (by omega)]
  · exact idxN_next hg.2 (by omega) h
  · have := idxN_le nm R
    unfold findN
    rw [if_neg (by omega)]
theorem so83_ : SpecOk P1 gl1 83 sp83 := by
  intro vs ps r h hp
  simp only [sp83] at h
  split at h
  · cases h; exact fn83 _ _ (hp _ (.head _))
  · cases h
theorem so83 : Sp1 83 sp83 := ⟨so83_, Proofs.Tryd.f83, _, by kernel_rfl, rfl, by kernel_rfl⟩

theorem fn82 (R : List Rl) (hl : R.length ≤ 1000000000) (hR : ∀ r ∈ R, r.2.2.length ≤ 1000000 ∧ r.1.length ≤ 1000000000) : Fn P1 gl1 82 [.one (.sl rlT R)] (.val (iV (chkRs R))) true := by
  refine Fn.flat ?_ rfl
  refine fn_of false [(37, sp37), (83, sp83)] [] h82 0 Proofs.Tryd.f82 ⟨so37, so83, trivial⟩ trivial (by kernel_rfl) rfl (by kernel_rfl) rfl rfl rfl ?_
  rw [vc82]
  try simp only [splitB_iff, -eq_self]
  simp only [decide_eq_true_eq, decide_eq_false_iff_not, bne_iff_ne, bne_eq_false_iff_eq]
  refine ⟨fun h => ⟨by unfold chkRs; rw [if_pos (by omega)], trivial⟩, fun h => ?_⟩
  have hc : chkRs R = upTo (chkRl R) R.length := by unfold chkRs; rw [if_neg (by omega)]
  rw [hc]
  refine ⟨⟨0, ⟨Nat.zero_le _, rfl⟩, by trivial, by trivial, by trivial⟩, fun g hg => ⟨fun hlt => ?_, fun hge => ?_⟩⟩
  · have hlt' : g < R.length := by omega
    have hT : (R.take g).length = g := by rw [List.length_take]; omega
    have hr := hR _ (getD_mem (d := r0) hlt')
    have hd : dupR R g = true ↔ idxN (R.getD g r0).1 R < g := by
      unfold dupR
      rw [decide_eq_true_eq]
      have e : ∀ i, i < g → (R.take g).getD i r0 = R.getD i r0 := fun i hi => by
        rw [List.getD_eq_getElem?_getD, List.getElem?_take, if_pos hi, ← List.getD_eq_getElem?_getD]
      constructor
      · intro hi
        have h1 : (rlOf (R.take g) (R.getD g r0).1).1 = (R.getD g r0).1 := idxN_name (by omega)
        unfold rlOf at h1
        rw [e _ hi] at h1
        have := idxN_at (nm := (R.getD g r0).1) (R := R) (d := r0) (by omega) h1
        omega
      · intro hi
        have h1 : (rlOf R (R.getD g r0).1).1 = (R.getD g r0).1 := idxN_name (by omega)
        unfold rlOf at h1
        rw [← e _ hi] at h1
        have := idxN_at (nm := (R.getD g r0).1) (R := R.take g) (d := r0) (by omega) h1
        omega
    have hle : idxN (R.getD g r0).1 R ≤ g := idxN_at (d := r0) hlt' rfl
    have hf : findN R (R.getD g r0).1 = (idxN (R.getD g r0).1 R : Int) := by unfold findN; rw [if_pos (by omega)]
    rw [hf]
    refine ⟨by omega, hr.2, hr.1, fun h2 => ⟨?_, trivial⟩, fun h2 => ⟨by omega, hl, fun h3 => ⟨?_, trivial⟩, fun h3 => ⟨by simp only [fits]; omega, g + 1, ⟨hlt', upTo_succ hg.2 ?_⟩, by omega, by simp, by trivial, by trivial⟩⟩⟩
    · have h4 : chkRl R g = checkReel (R.getD g r0).1 (R.getD g r0).2.1 (R.getD g r0).2.2 := by
        unfold chkRl; simp only [first]; rw [if_neg h2]
      rw [upTo_eq hg.2 (by rw [h4]; exact h2) hlt', h4]
    · have h4 : chkRl R g = 9 := by
        unfold chkRl; simp only [first]; rw [if_pos h2, hd.2 (by omega)]; rfl
      rw [upTo_eq hg.2 (by rw [h4]; decide) hlt', h4]
    · have h5 : dupR R g = false := by
        rw [← Bool.not_eq_true, hd]; omega
      unfold chkRl; simp only [first]; rw [if_pos h2, h5]; rfl
  · have : g = R.length := by omega
    subst this
    exact ⟨hg.2.symm, trivial⟩
theorem so82_ : SpecOk P1 gl1 82 sp82 := by
  intro vs ps r h hp
  simp only [sp82] at h
  split at h
  · cases h; exact fn82 _ (hp _ (.head _)) (hp _ (.tail _ (.head _)))
  · cases h
theorem so82 : Sp1 82 sp82 := ⟨so82_, Proofs.Tryd.f82, _, by kernel_rfl, rfl, by kernel_rfl⟩

theorem fn84 (nm : List UInt8) (f : Int) (l : List Int) (n : Int) (hf : fits .i64 (f + (l.length : Int))) : Fn P1 gl1 84 [rV nm f l, iV n] (.val (bV (hasB (nm, f, l) n))) true := by
  refine Fn.flat ?_ rfl
  refine fn_of false [] [] h0 0 Proofs.Tryd.f84 trivial trivial (by kernel_rfl) rfl (by kernel_rfl) rfl rfl rfl ?_
  rw [vc84]
  try simp only [splitB_iff, -eq_self]
  exact ⟨fun _ => hf, rfl, trivial⟩
theorem so84_ : SpecOk P1 gl1 84 sp84 := by
  intro vs ps r h hp
  simp only [sp84] at h
  split at h
  · cases h; exact fn84 _ _ _ _ (hp _ (.head _))
  · cases h
theorem so84 : Sp1 84 sp84 := ⟨so84_, Proofs.Tryd.f84, _, by kernel_rfl, rfl, by kernel_rfl⟩

theorem fn85 (L : List Ed) (hL : EdsIn L) : Fn P1 gl1 85 [.one (.sl edT L)] (.tup [.one (.frs (.int .i64) (startsL L)), iV (lenL L)]) true := by
  refine Fn.flat ?_ rfl
  refine fn_of false [] [] h85 0 Proofs.Tryd.f85 trivial trivial (by kernel_rfl) rfl (by kernel_rfl) rfl rfl rfl ?_
  rw [vc85]
  try simp only [splitB_iff, -eq_self]
  simp only [decide_eq_true_eq, decide_eq_false_iff_not]
  refine ⟨⟨0, Nat.zero_le _, by trivial, by trivial, by trivial, by trivial, by trivial⟩, fun g hg => ⟨fun hlt => ?_, fun hge => ?_⟩⟩
  · have hlt' : g < L.length := by omega
    have h16 := hL.1
    have hx := hL.2 _ (getD_mem (d := e0) hlt')
    have hb := begN_bd hL g (by omega)
    have e : begN L (g + 1) = begN L g + ((L.getD g e0).2.2.1 - (L.getD g e0).2.1) := rfl
    refine ⟨by simp only [room, List.length_map, List.length_range]; omega, by omega, by simp only [fits]; omega, by omega, by simp only [fits]; omega, by simp only [fits]; omega, g + 1, hlt', by omega, by simp, by omega, by trivial, ?_, by trivial⟩
    rw [map_range]
  · have : g = L.length := by have : g ≤ L.length := hg
                              omega
    subst this
    exact ⟨rfl, rfl, trivial⟩
theorem so85_ : SpecOk P1 gl1 85 sp85 := by
  intro vs ps r h hp
  simp only [sp85] at h
  split at h
  · cases h; exact fn85 _ (hp _ (.head _))
  · cases h
theorem so85 : Sp1 85 sp85 := ⟨so85_, Proofs.Tryd.f85, _, by kernel_rfl, rfl, by kernel_rfl⟩

theorem fn86 (L : List Ed) (fr : Int) (hL : EdsIn L) (hs : ∀ x ∈ L, -100 ≤ x.2.2.2.2 ∧ x.2.2.2.2 ≤ 100) : Fn P1 gl1 86 [.one (.sl edT L), iV fr] (.val (iV (sndI L fr L.length))) true := by
  refine Fn.flat ?_ rfl
  refine fn_of false [(85, sp85)] [] h86 0 Proofs.Tryd.f86 ⟨so85, trivial⟩ trivial (by kernel_rfl) rfl (by kernel_rfl) rfl rfl rfl ?_
  rw [vc86]
  try simp only [splitB_iff, -eq_self]
  have hS : ∀ g, g < L.length → (startsL L).getD g 0 = begN L g := fun g hg => by
    unfold startsL
    rw [List.getD_eq_getElem?_getD, List.getElem?_map, List.getElem?_range hg]; rfl
  have hSl : (startsL L).length = L.length := by simp [startsL]
  simp only [decide_eq_true_eq, decide_eq_false_iff_not, hSl]
  refine ⟨hL, ⟨0, Nat.zero_le _, by trivial, by trivial, by trivial, by trivial, by trivial, by trivial⟩, fun g hg => ⟨fun hlt => ?_, fun hge => ?_⟩⟩
  · have hlt' : g < L.length := by omega
    have h16 := hL.1
    have hb := begN_bd hL g (by omega)
    have hx := hs _ (getD_mem (d := e0) hlt')
    rw [hS g hlt']
    refine ⟨by omega, hlt', by omega, by simp only [fits]; omega, fun h => ⟨by simp only [fits]; omega, g + 1, hlt', by omega, by simp, ?_, by trivial, by trivial, by trivial, by trivial⟩, fun h => ⟨by simp only [fits]; omega, g + 1, hlt', by omega, by simp, ?_, by trivial, by trivial, by trivial, by trivial⟩⟩
    · simp only [sndI]; rw [if_pos h]
    · simp only [sndI]; rw [if_neg h]
  · have : g = L.length := by have : g ≤ L.length := hg
                              omega
    subst this
    exact ⟨rfl, trivial⟩
theorem so86_ : SpecOk P1 gl1 86 sp86 := by
  intro vs ps r h hp
  simp only [sp86] at h
  split at h
  · cases h; exact fn86 _ _ (hp _ (.head _)) (hp _ (.tail _ (.head _)))
  · cases h
theorem so86 : Sp1 86 sp86 := ⟨so86_, Proofs.Tryd.f86, _, by kernel_rfl, rfl, by kernel_rfl⟩

theorem fn80 (nm : List UInt8) (f : Int) (l : List Int)  : Fn P1 gl1 80 [rV nm f l] (.val (bV (shortR (nm, f, l)))) true := by
  refine Fn.flat ?_ rfl
  refine fn_of false [] [] h0 0 Proofs.Tryd.f80 trivial trivial (by kernel_rfl) rfl (by kernel_rfl) rfl rfl rfl ?_
  rw [vc80]
  try simp only [splitB_iff, -eq_self]
  refine ⟨?_, trivial⟩
  unfold shortR
  rw [Bool.eq_iff_iff]
  simp only [bcond_l, bcond_r, Bool.or_eq_true, Bool.and_eq_true, decide_eq_true_eq, beq_iff_eq]
  omega
theorem so80_ : SpecOk P1 gl1 80 sp80 := by
  intro vs ps r h _
  simp only [sp80] at h
  split at h
  · cases h; exact fn80 _ _ _ 
  · cases h
theorem so80 : Sp1 80 sp80 := ⟨so80_, Proofs.Tryd.f80, _, by kernel_rfl, rfl, by kernel_rfl⟩

theorem fn81 (L : List Ed) (hl : L.length ≤ 9223372036854775807) : Fn P1 gl1 81 [.one (.sl edT L)] (.val (bV (shortE L))) true := by
  refine Fn.flat ?_ rfl
  refine fn_of false [] [] h81 0 Proofs.Tryd.f81 trivial trivial (by kernel_rfl) rfl (by kernel_rfl) rfl rfl rfl ?_
  rw [vc81]
  try simp only [splitB_iff, -eq_self]
  simp only [bcond_l, decide_eq_true_eq, decide_eq_false_iff_not]
  refine ⟨⟨0, ⟨Nat.zero_le _, fun j hj => by omega⟩, by trivial, by trivial, by trivial⟩, fun g hg => ⟨fun hlt => ⟨by omega, fun h => ⟨?_, trivial⟩, fun h => ⟨by simp only [fits]; omega, g + 1, ⟨by omega, fun j hj => ?_⟩, by omega, by simp, by trivial, by trivial⟩⟩, fun hge => ⟨?_, trivial⟩⟩⟩
  · symm
    unfold shortE
    rw [Bool.and_eq_false_iff]
    left
    rw [List.all_eq_false]
    refine ⟨_, getD_mem (d := e0) (show g < L.length by omega), ?_⟩
    rw [decide_eq_true_eq]; omega
  · by_cases e : j < g
    · exact hg.2 j e
    · have : j = g := by omega
      subst this; omega
  · have : g = L.length := by omega
    subst this
    unfold shortE
    have : (L.all fun x => decide (x.1.length ≤ 40)) = true := by
      rw [List.all_eq_true]
      intro x hx
      obtain ⟨i, hi, rfl⟩ := mem_getD e0 hx
      exact decide_eq_true (hg.2 i hi)
    rw [this, Bool.true_and, Bool.eq_iff_iff]
    simp only [Bool.or_eq_true, decide_eq_true_eq, beq_iff_eq]
    omega
theorem so81_ : SpecOk P1 gl1 81 sp81 := by
  intro vs ps r h hp
  simp only [sp81] at h
  split at h
  · cases h; exact fn81 _ (hp _ (.head _))
  · cases h
theorem so81 : Sp1 81 sp81 := ⟨so81_, Proofs.Tryd.f81, _, by kernel_rfl, rfl, by kernel_rfl⟩

theorem fn24 (R : List Rl) (L : List Ed) (hl : R.length ≤ 9223372036854775807) (hL : L.length ≤ 9223372036854775807) : Fn P1 gl1 24 [.one (.sl rlT R), .one (.sl edT L)] (.val (bV (shortB R L))) true := by
  refine Fn.flat ?_ rfl
  refine fn_of false [(80, sp80), (81, sp81)] [] h24 0 Proofs.Tryd.f24 ⟨so80, so81, trivial⟩ trivial (by kernel_rfl) rfl (by kernel_rfl) rfl rfl rfl ?_
  rw [vc24]
  try simp only [splitB_iff, -eq_self]
  have h9 : (((R.length : Int) == 9)) = decide (R.length = 9) := by rw [Bool.eq_iff_iff]; simp only [decide_eq_true_eq, beq_iff_eq]; omega
  have h4 : decide ((R.length : Int) ≤ 4) = decide (R.length ≤ 4) := decide_eq_decide.2 (by omega)
  rw [h9, h4, bcond_l, bcond_r]
  simp only [Bool.not_eq_true', Bool.not_eq_false', decide_eq_true_eq, decide_eq_false_iff_not]
  refine ⟨⟨0, ⟨Nat.zero_le _, fun j hj => by omega⟩, by trivial, by trivial, by trivial, by trivial⟩, fun g hg => ⟨fun hlt => ⟨by omega, fun h => ⟨?_, trivial⟩, fun h => ⟨by simp only [fits]; omega, g + 1, ⟨by omega, fun j hj => ?_⟩, by omega, by simp, by trivial, by trivial, by trivial⟩⟩, fun hge => ⟨fun _ => hL, ?_, trivial⟩⟩⟩
  · symm
    unfold shortB
    rw [Bool.and_eq_false_iff]
    left
    rw [List.all_eq_false]
    refine ⟨_, getD_mem (d := r0) (show g < R.length by omega), ?_⟩
    rw [Bool.not_eq_true]; exact h
  · by_cases e : j < g
    · exact hg.2 j e
    · have : j = g := by omega
      subst this; exact h
  · have : g = R.length := by omega
    subst this
    unfold shortB
    have : R.all shortR = true := by
      rw [List.all_eq_true]
      intro x hx
      obtain ⟨i, hi, rfl⟩ := mem_getD r0 hx
      exact hg.2 i hi
    rw [this, Bool.true_and]
theorem so24_ : SpecOk P1 gl1 24 sp24 := by
  intro vs ps r h hp
  simp only [sp24] at h
  split at h
  · cases h; exact fn24 _ _ (hp _ (.head _)) (hp _ (.tail _ (.head _)))
  · cases h
theorem so24 : Sp1 24 sp24 := ⟨so24_, Proofs.Tryd.f24, _, by kernel_rfl, rfl, by kernel_rfl⟩

theorem fn25 (R : List Rl) (L : List Ed) (hl : R.length ≤ 1000000000) (hR : ∀ r ∈ R, r.2.2.length ≤ 1000000 ∧ r.1.length ≤ 1000000000) (hL : L.length ≤ 1000000000) (hF : ∀ x ∈ L, fits .i64 x.2.2.1) : Fn P1 gl1 25 [.one (.sl rlT R), .one (.sl edT L)] (.val (iV (chkEds R L))) true := by
  refine Fn.flat ?_ rfl
  refine fn_of false [(82, sp82), (83, sp83), (84, sp84), (85, sp85), (86, sp86), (46, sp46), (44, sp44)] [] h25 0 Proofs.Tryd.f25 ⟨so82, so83, so84, so85, so86, so46, so44, trivial⟩ trivial (by kernel_rfl) rfl (by kernel_rfl) rfl rfl rfl ?_
  rw [vc25]
  try simp only [splitB_iff, -eq_self]
  have hS : ∀ g, g < L.length → (startsL L).getD g 0 = begN L g := fun g hg => by
    unfold startsL
    rw [List.getD_eq_getElem?_getD, List.getElem?_map, List.getElem?_range hg]; rfl
  have hSl : (startsL L).length = L.length := by simp [startsL]
  refine ⟨hl, hR, fun h => ⟨chkEds_rs (by simpa using h), trivial⟩, fun h => ?_⟩
  have h1 : chkRs R = 0 := by simpa using h
  refine ⟨fun h => ⟨chkEds_many h1 (by have := of_decide_eq_true h; omega), trivial⟩, fun h => ?_⟩
  have h2 : ¬ 16 < L.length := by have := of_decide_eq_false h; omega
  have hrb := fun nm => reel_bd h1 nm
  refine ⟨⟨0, ⟨Nat.zero_le _, rfl⟩, by trivial, by trivial, by trivial, by trivial⟩, fun g hg => ⟨fun hlt => ?_, fun hge => ?_⟩⟩
  · have hlt' : g < L.length := by simpa using hlt
    have e1 : ((g : Int) - 1).toNat = g - 1 := by omega
    rw [e1]
    refine ⟨by omega, hl, fun h3 => ⟨?_, trivial⟩, fun h3 => ?_⟩
    · refine chkEds_at h1 h2 hg.2 hlt' (chkEd_unknown fun hk => ?_) (by decide)
      have := (findN_some hk).1
      have := of_decide_eq_true h3
      omega
    · have hk : idxN (L.getD g e0).1 R < R.length := by
        apply Classical.byContradiction
        intro hc
        have := findN_none hc
        have := of_decide_eq_false h3
        omega
      obtain ⟨f1, f2⟩ := findN_some hk
      have hr := hrb (L.getD g e0).1
      have hEq : ((rlOf R (L.getD g e0).1).1, (rlOf R (L.getD g e0).1).2.1, (rlOf R (L.getD g e0).1).2.2) = rlOf R (L.getD g e0).1 := rfl
      have hEn : endR (rlOf R (L.getD g e0).1) = (rlOf R (L.getD g e0).1).2.1 + ((rlOf R (L.getD g e0).1).2.2.length : Int) := rfl
      rw [f2, hEq, ← hEn]
      refine ⟨fun _ => by omega, fun _ => by simp only [fits]; omega, fun _ => by omega, fun h4 => ?_, fun _ => by simp only [fits]; omega, fun h4 => ⟨?_, trivial⟩, fun h4 => ?_⟩
      · simp only [bcond_l, Bool.or_eq_false_iff, Bool.not_eq_false', decide_eq_false_iff_not, hasB_iff] at h4
        have := hF _ (getD_mem (d := e0) hlt')
        simp only [fits] at *; omega
      · simp only [bcond_l, Bool.or_eq_true, Bool.not_eq_true', decide_eq_true_eq, hasB_not] at h4
        exact chkEds_at h1 h2 hg.2 hlt' (chkEd_span hk (by omega)) (by decide)
      · simp only [bcond_l, Bool.or_eq_false_iff, Bool.not_eq_false', decide_eq_false_iff_not, hasB_iff] at h4
        have hsp : ¬ ((L.getD g e0).2.2.1 ≤ (L.getD g e0).2.1 ∨ (L.getD g e0).2.1 < (rlOf R (L.getD g e0).1).2.1 ∨ endR (rlOf R (L.getD g e0).1) < (L.getD g e0).2.2.1) := by omega
        have hpr : first [within (L.getD g e0).2.2.2.1 0 ((L.getD g e0).2.2.1 - (L.getD g e0).2.1), within (L.getD g e0).2.2.2.2 (-100) 100] = prs (L.getD g e0) := rfl
        rw [hpr]
        refine ⟨by simp only [fits]; omega, by decide, fun h5 => ⟨?_, trivial⟩, fun h5 => ?_⟩
        · have h5' : prs (L.getD g e0) ≠ 0 := by simpa using h5
          exact chkEds_at h1 h2 hg.2 hlt' (chkEd_prs hk hsp h5') h5'
        · have h5' : prs (L.getD g e0) = 0 := by simpa using h5
          have hz := (first_zero_iff _).1 (hpr.trans h5')
          have hz1 := within_zero.1 (hz _ List.mem_cons_self)
          have hz2 := within_zero.1 (hz _ (List.mem_cons_of_mem _ List.mem_cons_self))
          simp only [bcond_l, bcond_r, Bool.or_eq_true, Bool.or_eq_false_iff, Bool.and_eq_true, Bool.and_eq_false_iff, Bool.not_eq_true', Bool.not_eq_false', decide_eq_true_eq, decide_eq_false_iff_not, beq_iff_eq, beq_eq_false_iff_ne, bne_iff_ne, bne_eq_false_iff_eq]
          refine ⟨fun h6 => ⟨?_, trivial⟩, fun h6 => ?_⟩
          · have g0 : g = 0 := by omega
            subst g0
            refine chkEds_at h1 h2 hg.2 hlt' ?_ (by decide)
            rw [chkEd_first hk hsp h5', decide_eq_true h6.2]; rfl
          · have hpk : 0 < g → idxN (L.getD (g - 1) e0).1 R < R.length ∧ (0 ≤ (L.getD (g - 1) e0).2.2.1 ∧ (L.getD (g - 1) e0).2.2.1 ≤ 10000000) ∧ (L.getD (g - 1) e0).2.2.1 ≤ endR (rlOf R (L.getD (g - 1) e0).1) ∧ (rlOf R (L.getD (g - 1) e0).1).2.1 < (L.getD (g - 1) e0).2.2.1 := fun h0 => by
              have hp := chkEd_ok (upTo_zero.1 hg.2 (g - 1) (by omega))
              have := hrb (L.getD (g - 1) e0).1
              have a1 := hp.lo
              have a2 := hp.lt
              have a3 := hp.hi
              exact ⟨hp.idx, by omega, by omega, by omega⟩
            have hEn' : endR (rlOf R (L.getD (g - 1) e0).1) = (rlOf R (L.getD (g - 1) e0).1).2.1 + ((rlOf R (L.getD (g - 1) e0).1).2.2.length : Int) := rfl
            have hEq' : ((rlOf R (L.getD (g - 1) e0).1).1, (rlOf R (L.getD (g - 1) e0).1).2.1, (rlOf R (L.getD (g - 1) e0).1).2.2) = rlOf R (L.getD (g - 1) e0).1 := rfl
            have hr' := hrb (L.getD (g - 1) e0).1
            refine ⟨fun _ => by simp only [fits]; omega, fun _ => by omega, fun _ => hl, fun h7 => ?_, fun _ => by simp only [fits]; omega, fun _ => by omega, fun h7 => ?_, fun h7 => ?_, fun h7 => ?_, fun h7 => ⟨?_, trivial⟩, fun h7 => ?_⟩
            · have := (findN_some (hpk (by omega)).1).1
              have := (hpk (by omega)).1
              omega
            · have := hpk (by omega)
              simp only [fits]; omega
            · have := hpk (by omega)
              simp only [fits]; omega
            · have h8 := hpk (by omega)
              rw [(findN_some h8.1).2, ← hEn']
              simp only [fits]; omega
            · have h8 := hpk (by omega)
              have h9 := h7.2
              rw [(findN_some h8.1).2, hEq', hasB_not] at h9
              refine chkEds_at h1 h2 hg.2 hlt' ?_ (by decide)
              rw [chkEd_later (by omega) hk hsp h5', decide_eq_true (by omega)]; rfl
            · refine ⟨by simp only [fits]; omega, g + 1, ⟨hlt', upTo_succ hg.2 ?_⟩, by omega, by omega, by trivial, by trivial, by trivial⟩
              by_cases g0 : g = 0
              · subst g0
                rw [chkEd_first hk hsp h5', whenE_zero (by decide), decide_eq_false_iff_not]
                rcases h6 with h6 | h6
                · omega
                · omega
              · have h8 := hpk (by omega)
                rw [chkEd_later (by omega) hk hsp h5', whenE_zero (by decide), decide_eq_false_iff_not]
                rcases h7 with h7 | h7
                · omega
                · rw [(findN_some h8.1).2, hEq', hasB_iff] at h7
                  omega
  · have hgl : g = L.length := by have : ¬ g < L.length := by simpa using hge
                                  omega
    subst hgl
    have he := upTo_zero.1 hg.2
    have hE : EdsIn L := EdsIn_of h1 (by omega) he
    refine ⟨hE, fun h3 => ⟨chkEds_big h1 h2 hg.2 (of_decide_eq_true h3), trivial⟩, fun h3 => ?_⟩
    have h3' : ¬ 1024 < lenL L := of_decide_eq_false h3
    have hb : ∀ i, i < L.length → (0 ≤ begN L i ∧ begN L i ≤ 1024) ∧ (-100 ≤ (L.getD i e0).2.2.2.2 ∧ (L.getD i e0).2.2.2.2 ≤ 100) := fun i hi => by
      have := pl_bd h1 (by omega) he (by omega) _ (getD_mem (d := pl0) (show i < (ls L).length by rw [ls_len]; exact hi))
      rw [ls_get L hi] at this
      exact ⟨this.2.2.2.2, this.2.2.2.1⟩
    have hn := begN_bd hE L.length (Nat.le_refl _)
    have hN : begN L L.length = lenL L := rfl
    rw [hN] at hn
    rw [hSl]
    have hord : ∀ i, 0 < i → i < L.length → (ordE (ls L) (lenL L) i = 0 ↔ ¬ (sN L i ≤ sN L (i - 1) ∨ lenL L ≤ sN L i)) := fun i h0 hi => by
      unfold ordE
      rw [whenE_zero (by decide), decide_eq_false_iff_not, sndN_ls hi, sndN_ls (show i - 1 < L.length by omega)]
      constructor
      · exact fun h5 h6 => h5 ⟨h0, h6⟩
      · exact fun h5 h6 => h5 h6.2
    refine ⟨⟨1, ⟨by omega, .inl rfl, fun k hk hkl => ?_⟩, by trivial, by trivial, by trivial, by trivial, by trivial, by trivial⟩, fun i hi => ⟨fun hlt => ?_, fun hge => ?_⟩⟩
    · have : k = 0 := by omega
      subst this
      unfold ordE
      rw [whenE_zero (by decide), decide_eq_false_iff_not]
      omega
    · have hlt' : i < L.length := by simpa using hlt
      have e1 : ((i : Int) - 1).toNat = i - 1 := by omega
      have hi1 := hi.1
      have b1 := hb i hlt'
      have b2 := hb (i - 1) (by omega)
      rw [e1, hS i hlt', hS (i - 1) (by omega)]
      have hs1 : begN L i + (L.getD i e0).2.2.2.2 = sN L i := rfl
      have hs2 : begN L (i - 1) + (L.getD (i - 1) e0).2.2.2.2 = sN L (i - 1) := rfl
      rw [hs1, hs2]
      refine ⟨by omega, hlt', by omega, by simp only [fits]; omega, by simp only [fits]; omega, by omega, by omega, by simp only [fits]; omega, by omega, by simp only [fits]; omega, fun _ => by omega, fun _ => hlt', fun _ => by omega, fun _ => by simp only [fits]; omega, fun h5 => ⟨?_, trivial⟩, fun h5 => ⟨by simp only [fits]; omega, i + 1, ⟨by omega, .inr hlt', fun k hk hkl => ?_⟩, by omega, by omega, by trivial, by trivial, by trivial, by trivial, by trivial⟩⟩
      · simp only [bcond_l, Bool.or_eq_true, decide_eq_true_eq] at h5
        exact chkEds_ord h1 h2 hg.2 h3' hlt' (by rw [Ne, hord i (by omega) hlt']; exact fun h6 => h6 h5)
      · by_cases e : k = i
        · subst e
          rw [hord k (by omega) hlt']
          simp only [bcond_l, Bool.or_eq_false_iff, decide_eq_false_iff_not] at h5
          omega
        · exact hi.2.2 k (by omega) hkl
    · have hge' : ¬ i < L.length := by simpa using hge
      have ho : ∀ g, g < L.length → ordE (ls L) (lenL L) g = 0 := fun g hg => hi.2.2 g (by omega) hg
      have hsnd := sndOk_of h1 h2 he ho
      refine ⟨⟨0, ⟨Nat.zero_le _, fun k t hk => by omega⟩, by trivial, by trivial, by trivial, by trivial, by trivial, by trivial⟩, fun k hk => ⟨fun hlt => ?_, fun hge => ?_⟩⟩
      · have hkl : k < L.length := by simpa using hlt
        refine ⟨⟨0, ⟨Nat.zero_le _, fun t ht => by omega⟩, by trivial, by trivial, by trivial, by trivial, by trivial, by trivial, by trivial⟩, fun t ht => ⟨fun htl => ?_, fun htg => ?_⟩⟩
        · have htl' : (t : Int) < lenL L := of_decide_eq_true htl
          have hx := chkEd_ok (he k hkl)
          obtain ⟨f1, f2⟩ := findN_some hx.idx
          have hr := hrb (L.getD k e0).1
          have hEq : ((rlOf R (L.getD k e0).1).1, (rlOf R (L.getD k e0).1).2.1, (rlOf R (L.getD k e0).1).2.2) = rlOf R (L.getD k e0).1 := rfl
          have hEn : endR (rlOf R (L.getD k e0).1) = (rlOf R (L.getD k e0).1).2.1 + ((rlOf R (L.getD k e0).1).2.2.length : Int) := rfl
          have hb1 := hb k hkl
          have hin := hE.2 _ (getD_mem (d := e0) hkl)
          have hidx := hx.idx
          rw [f2, hEq, ← hEn, hS k hkl]
          refine ⟨hE, fun x hx => ?_, fun _ => by omega, fun _ => hl, fun _ => by omega, fun _ => by omega, fun _ => by simp only [fits]; omega, fun _ => by omega, fun _ => hkl, fun _ => by simp only [fits]; omega, fun _ => by simp only [fits]; omega, fun h5 => ⟨?_, trivial⟩, fun h5 => ⟨by simp only [fits]; omega, t + 1, ⟨by omega, fun t' ht' => ?_⟩, by omega, by omega, by trivial, by trivial, by trivial, by trivial, by trivial, by trivial⟩⟩
          · obtain ⟨j, hj, rfl⟩ := mem_getD e0 hx
            exact (hb j hj).2
          · simp only [bcond_r, Bool.and_eq_true, beq_iff_eq, Bool.not_eq_true'] at h5
            exact chkEds_sp h1 h2 hg.2 h3' ho hkl ((bad_iff h1 hsnd hkl).2 ⟨t, htl', h5⟩)
          · by_cases e : t' < t
            · exact ht.2 t' e
            · have : t' = t := by omega
              subst this
              intro h6
              rw [← Bool.not_eq_true] at h5
              apply h5
              simp only [bcond_r, Bool.and_eq_true, beq_iff_eq, Bool.not_eq_true']
              exact h6
        · have htg' : ¬ (t : Int) < lenL L := of_decide_eq_false htg
          refine ⟨by simp only [fits]; omega, k + 1, ⟨hkl, fun j t' hj ht' => ?_⟩, by omega, by omega, by trivial, by trivial, by trivial, by trivial, by trivial⟩
          by_cases e : j < k
          · exact hk.2 j t' e ht'
          · have : j = k := by omega
            subst this
            exact ht.2 t' (by omega)
      · have hge' : ¬ k < L.length := by simpa using hge
        refine ⟨chkEds_good h1 h2 hg.2 h3' ho fun g hg => ?_, trivial⟩
        apply Classical.byContradiction
        intro hc
        obtain ⟨t, ht, hb⟩ := (bad_iff h1 hsnd hg).1 hc
        exact hk.2 g t (by omega) ht hb
theorem so25_ : SpecOk P1 gl1 25 sp25 := by
  intro vs ps r h hp
  simp only [sp25] at h
  split at h
  · cases h; exact fn25 _ _ (hp _ (.head _)) (hp _ (.tail _ (.head _))) (hp _ (.tail _ (.tail _ (.head _)))) (hp _ (.tail _ (.tail _ (.tail _ (.head _)))))
  · cases h
theorem so25 : Sp1 25 sp25 := ⟨so25_, Proofs.Tryd.f25, _, by kernel_rfl, rfl, by kernel_rfl⟩

end Go.Sx

/- Plain functions and hints. -/
namespace Go.Sx.U
def RateOk (F : Int) (D : Bool) : Prop := (F = 24 ∨ F = 25 ∨ F = 30) ∧ (D = true → F = 30)
def dayN (F : Int) (D : Bool) : Int := if D then 86400 * F - 2592 else 86400 * F
def frameN (F : Int) (D : Bool) (h m s f : Int) : Int := if D then (60 * (60 * h + m) + s) * F + f - 2 * ((60 * h + m) - (60 * h + m) / 10) else (60 * (60 * h + m) + s) * F + f
def skipN (D : Bool) (n : Int) : Int := if D then (if 1800 ≤ n % 17982 then n + 18 * (n / 17982) + 2 * (1 + (n % 17982 - 1800) / 1798) else n + 18 * (n / 17982)) else n
def LabOk (F : Int) (D : Bool) (h m s f : Int) : Prop := (0 ≤ h ∧ h ≤ 23) ∧ (0 ≤ m ∧ m ≤ 59) ∧ (0 ≤ s ∧ s ≤ 59) ∧ (0 ≤ f ∧ f ≤ F - 1) ∧ ¬ (D = true ∧ m % 10 ≠ 0 ∧ s = 0 ∧ f < 2)
def labH (F : Int) (D : Bool) (n : Int) : Int := skipN D n / F / 3600
def labM (F : Int) (D : Bool) (n : Int) : Int := skipN D n / F / 60 % 60
def labS (F : Int) (D : Bool) (n : Int) : Int := skipN D n / F % 60
def labF (F : Int) (D : Bool) (n : Int) : Int := skipN D n % F
def chkRate (F : Int) (D : Bool) : Int := if F = 24 ∨ F = 25 ∨ F = 30 then (if D = true ∧ F ≠ 30 then 24 else 0) else 13
def dropB (D : Bool) (m s f : Int) : Bool := D && (m % 10 != 0) && (s == 0) && decide (f < 2)
def chkLab (F : Int) (D : Bool) (h m s f : Int) : Int := first [chkRate F D, within h 0 23, within m 0 59, within s 0 59, within f 0 (F - 1), whenE (dropB D m s f) 7]
def chkStamp (F : Int) (D : Bool) (h m s f u : Int) : Int := first [chkLab F D h m s f, within u 0 65535]
abbrev Lb := Int × Int × Int × Int
abbrev St7 := (Int × Bool) × Lb × Int
def chkSt (x : St7) : Int := chkStamp x.1.1 x.1.2 x.2.1.1 x.2.1.2.1 x.2.1.2.2.1 x.2.1.2.2.2 x.2.2
def addN (F : Int) (D : Bool) (h m s f n : Int) : Int := (frameN F D h m s f + n) % dayN F D
def lab (F : Int) (D : Bool) (n : Int) : Lb := (labH F D n, labM F D n, labS F D n, labF F D n)
def bcd (n : Int) : Int := (n / 10 * 16 + n % 10) % 256
def word0 (F : Int) (D : Bool) (h m s f u : Int) : List Int := [bcd f, bcd s, bcd m, bcd h, F % 256 + (if D then 128 else 0), u / 256 % 256, u % 256]
def wordS (F : Int) (D : Bool) (h m s f u : Int) : List Int := word0 F D h m s f u ++ [par (word0 F D h m s f u), 63, 253]
def zero10w : List Int := List.replicate 10 0
def lo4 (x : Int) : Int := bits .and .u8 x 15
def dig (x : Int) : Int := x / 16 * 10 + lo4 x
def stOf (d : List Int) : St7 := ((bits .andNot .u8 (d.getD 4 0) 128, decide (0 < bits .and .u8 (d.getD 4 0) 128)), (dig (d.getD 3 0), dig (d.getD 2 0), dig (d.getD 1 0), dig (d.getD 0 0)), d.getD 5 0 * 256 + d.getD 6 0)
def digOk (x : Int) : Prop := x / 16 ≤ 9 ∧ lo4 x ≤ 9
def okW (d : List Int) : Prop := d.getD 8 0 = 63 ∧ d.getD 9 0 = 253 ∧ par (d.take 7) = d.getD 7 0 ∧ (digOk (d.getD 0 0) ∧ digOk (d.getD 1 0) ∧ digOk (d.getD 2 0) ∧ digOk (d.getD 3 0)) ∧ chkSt (stOf d) = 0
def StOk (x : St7) : Prop := RateOk x.1.1 x.1.2 ∧ LabOk x.1.1 x.1.2 x.2.1.1 x.2.1.2.1 x.2.1.2.2.1 x.2.1.2.2.2 ∧ 0 ≤ x.2.2 ∧ x.2.2 ≤ 65535
def follows (x o : St7) : Bool := decide (x.1 = o.1) && decide (x.2.1 = lab o.1.1 o.1.2 (addN o.1.1 o.1.2 o.2.1.1 o.2.1.2.1 o.2.1.2.2.1 o.2.1.2.2.2 1))
def st0 : St7 := ((0, false), (0, 0, 0, 0), 0)
/-- The indices at which stamps jump. -/
def jumpsTo (l : List St7) : Nat → List Int
  | 0 => []
  | i + 1 => if 0 < i ∧ follows (l.getD i st0) (l.getD (i - 1) st0) = false then jumpsTo l i ++ [(i : Int)] else jumpsTo l i
end Go.Sx.U
namespace Go.Sx
open U
abbrev rtT : Ty := .pair (.int .i64) .bool
abbrev lbT : Ty := .pair (.int .i64) (.pair (.int .i64) (.pair (.int .i64) (.int .i64)))
abbrev stT : Ty := .pair (.pair (.int .i64) .bool) (.pair (.pair (.int .i64) (.pair (.int .i64) (.pair (.int .i64) (.int .i64)))) (.int .i64))
@[reducible] def rtV (F : Int) (D : Bool) : V := .agg [.one (.int .i64 F), .one (.bool D)]
@[reducible] def lbV (h m s f : Int) : V := .agg [.one (.int .i64 h), .one (.int .i64 m), .one (.int .i64 s), .one (.int .i64 f)]
@[reducible] def lbW (l : Lb) : V := lbV l.1 l.2.1 l.2.2.1 l.2.2.2
@[reducible] def stV (F : Int) (D : Bool) (h m s f u : Int) : V := .agg [.one (.int .i64 F), .one (.bool D), .one (.int .i64 h), .one (.int .i64 m), .one (.int .i64 s), .one (.int .i64 f), .one (.int .i64 u)]
@[reducible] def stW (x : St7) : V := stV x.1.1 x.1.2 x.2.1.1 x.2.1.2.1 x.2.1.2.2.1 x.2.1.2.2.2 x.2.2
def h52 : Hints := ⟨fun f k s => match f, k with
  | 52, 2 => hFirst 5 6 7 s
  | _, _ => none, 0⟩
def h66 : Hints := hPar 66 3 6 7 8 3 []
def h69 : Hints := ⟨fun f k s => match f, k with
  | 69, 3 => hMapI stT chkSt 8 9 10 5 [1] s
  | _, _ => none, 0⟩
def h19 : Hints := ⟨fun f k s => match f, k with
  | 19, 9 => match listAs s 21 stT with
    | some xs => some ⟨Nat, fun i => ⟨[tI 23 i, (6, .val (.one (.own s.nx)))] ++ keepT [0, 21, 22] s.tm, (s.nx, some (.row (.int .i64) (jumpsTo xs i))) :: lessO s [6], s.nx + 1, s.lr⟩, fun i => i ≤ List.length xs, fun i => List.length xs - i⟩
    | _ => none
  | _, _ => none, 0⟩
@[reducible] noncomputable def fb143 : Nat × Func := (143, Proofs.Tryd.f143)
@[reducible] noncomputable def fb67 : Nat × Func := (67, Proofs.Tryd.f67)
def sp109 : FSpec := ⟨fun vs => match vs with
  | [.one (.sl (.int .i64) xs), .one (.int .i64 n)] => some ([xs = [24, 25, 30]], .val (bV (decide (n = 24 ∨ n = 25 ∨ n = 30))))
  | _ => none, true⟩
end Go.Sx
namespace Go.Sx
open U
def sp68 : FSpec := ⟨fun vs => match vs with
  | [.one (.bool b), .one (.int .i64 e)] => some ([], .val (iV (whenE b e)))
  | _ => none, true⟩
def sp53 : FSpec := ⟨fun vs => match vs with
  | [.one (.int .i64 n), .one (.int .i64 lo), .one (.int .i64 hi)] => some ([], .val (iV (within n lo hi)))
  | _ => none, true⟩
def sp52 : FSpec := ⟨fun vs => match vs with
  | [.one (.sl (.int .i64) xs)] => some ([List.length xs ≤ 1000000000], .val (iV (first xs)))
  | _ => none, true⟩
def sp107 : FSpec := ⟨fun vs => match vs with
  | [.agg [.one (.int .i64 F), .one (.bool D)]] => some ([], .val (iV (chkRate F D)))
  | _ => none, true⟩
def sp108 : FSpec := ⟨fun vs => match vs with
  | [.agg [.one (.int .i64 _F), .one (.bool D)], .agg [.one (.int .i64 _h), .one (.int .i64 m), .one (.int .i64 s), .one (.int .i64 f)]] => some ([0 ≤ m], .val (bV (dropB D m s f)))
  | _ => none, true⟩
def sp45 : FSpec := ⟨fun vs => match vs with
  | [.agg [.one (.int .i64 F), .one (.bool D)], .agg [.one (.int .i64 h), .one (.int .i64 m), .one (.int .i64 s), .one (.int .i64 f)]] => some ([], .val (iV (chkLab F D h m s f)))
  | _ => none, true⟩
def sp8 : FSpec := ⟨fun vs => match vs with
  | [.agg [.one (.int .i64 F), .one (.bool D), .one (.int .i64 h), .one (.int .i64 m), .one (.int .i64 s), .one (.int .i64 f), .one (.int .i64 u)]] => some ([], .val (iV (chkStamp F D h m s f u)))
  | _ => none, true⟩
def sp48 : FSpec := ⟨fun vs => match vs with
  | [.agg [.one (.int .i64 F), .one (.bool D)]] => some ([], .val (iV (chkRate F D)))
  | _ => none, true⟩
def sp49 : FSpec := ⟨fun vs => match vs with
  | [.agg [.one (.int .i64 F), .one (.bool D)]] => some ([0 ≤ F ∧ F ≤ 1000], .val (iV (dayN F D)))
  | _ => none, true⟩
def sp110 : FSpec := ⟨fun vs => match vs with
  | [.agg [.one (.int .i64 _h), .one (.int .i64 m), .one (.int .i64 s), .one (.int .i64 f)], .agg [.one (.int .i64 _F), .one (.bool D)]] => some ([0 ≤ m], .val (bV (dropB D m s f)))
  | _ => none, true⟩
def sp50 : FSpec := ⟨fun vs => match vs with
  | [.agg [.one (.int .i64 F), .one (.bool D)], .agg [.one (.int .i64 h), .one (.int .i64 m), .one (.int .i64 s), .one (.int .i64 f)]] => some ([0 ≤ m, 0 ≤ F ∧ F ≤ 1000], .val (iV (chkLab F D h m s f)))
  | _ => none, true⟩
def sp55 : FSpec := ⟨fun vs => match vs with
  | [.agg [.one (.int .i64 F), .one (.bool D), .one (.int .i64 h), .one (.int .i64 m), .one (.int .i64 s), .one (.int .i64 f), .one (.int .i64 u)]] => some ([0 ≤ m, 0 ≤ F ∧ F ≤ 1000], .val (iV (chkStamp F D h m s f u)))
  | _ => none, true⟩
def sp51 : FSpec := ⟨fun vs => match vs with
  | [.agg [.one (.int .i64 h), .one (.int .i64 m), .one (.int .i64 s), .one (.int .i64 f)], .agg [.one (.int .i64 F), .one (.bool D)]] => some ([RateOk F D, LabOk F D h m s f], .val (iV (frameN F D h m s f)))
  | _ => none, true⟩
def sp10 : FSpec := ⟨fun vs => match vs with
  | [.agg [.one (.int .i64 F), .one (.bool D)]] => some ([RateOk F D], .tup [iV (dayN F D), iV 0])
  | _ => none, true⟩
def sp11 : FSpec := ⟨fun vs => match vs with
  | [.agg [.one (.int .i64 F), .one (.bool D)], .agg [.one (.int .i64 h), .one (.int .i64 m), .one (.int .i64 s), .one (.int .i64 f)]] => some ([RateOk F D, LabOk F D h m s f], .tup [iV (frameN F D h m s f), iV 0])
  | _ => none, true⟩
def sp111 : FSpec := ⟨fun vs => match vs with
  | [.agg [.one (.int .i64 F), .one (.bool D)], .one (.int .i64 n)] => some ([RateOk F D, 0 ≤ n ∧ n < dayN F D], .val (lbW (lab F D n)))
  | _ => none, true⟩
def sp54 : FSpec := ⟨fun vs => match vs with
  | [.agg [.one (.int .i64 h), .one (.int .i64 m), .one (.int .i64 s), .one (.int .i64 f)], .agg [.one (.int .i64 F), .one (.bool D)], .one (.int .i64 n)] => some ([RateOk F D, LabOk F D h m s f, 0 ≤ n ∧ n ≤ 10000000], .val (lbW (lab F D (addN F D h m s f n))))
  | _ => none, true⟩
def sp12 : FSpec := ⟨fun vs => match vs with
  | [.agg [.one (.int .i64 F), .one (.bool D)], .agg [.one (.int .i64 h), .one (.int .i64 m), .one (.int .i64 s), .one (.int .i64 f)], .one (.int .i64 n)] => some ([RateOk F D, LabOk F D h m s f, 0 ≤ n ∧ n ≤ 10000000], .tup [lbW (lab F D (addN F D h m s f n)), iV 0])
  | _ => none, true⟩
def sp66 : FSpec := ⟨fun vs => match vs with
  | [.one (.sl (.int .u8) xs)] => some ([List.length xs ≤ 1000000000, Bytes xs], .val (uV (par xs)))
  | _ => none, true⟩
def sp56 : FSpec := ⟨fun vs => match vs with
  | [.agg [.one (.int .i64 F), .one (.bool D), .one (.int .i64 h), .one (.int .i64 m), .one (.int .i64 s), .one (.int .i64 f), .one (.int .i64 u)]] => some ([RateOk F D, LabOk F D h m s f, 0 ≤ u ∧ u ≤ 65535], .val (aV 10 (wordS F D h m s f u)))
  | _ => none, true⟩
def sp13 : FSpec := ⟨fun vs => match vs with
  | [.agg [.one (.int .i64 F), .one (.bool D), .one (.int .i64 h), .one (.int .i64 m), .one (.int .i64 s), .one (.int .i64 f), .one (.int .i64 u)]] => some ([RateOk F D, LabOk F D h m s f, 0 ≤ u ∧ u ≤ 65535], .tup [aV 10 (wordS F D h m s f u), iV 0])
  | _ => none, true⟩
def sp18 : FSpec := ⟨fun vs => match vs with
  | [.agg [.arr 10 (.int .u8) d]] => some ([List.length d = 10, Bytes d, okW d], .tup [stW (stOf d), iV 0])
  | _ => none, true⟩
def sp69 : FSpec := ⟨fun vs => match vs with
  | [.one (.sl (.pair (.pair (.int .i64) .bool) (.pair (.pair (.int .i64) (.pair (.int .i64) (.pair (.int .i64) (.int .i64)))) (.int .i64))) l), .one (.fn 55 [] [])] => some ([List.length l ≤ 1000000, ∀ x ∈ (show List St7 from l), StOk x], .val (.one (.frs (.int .i64) (List.map chkSt (show List St7 from l)))))
  | _ => none, true⟩
def sp70 : FSpec := ⟨fun vs => match vs with
  | [.agg [.one (.int .i64 F), .one (.bool D), .one (.int .i64 h), .one (.int .i64 m), .one (.int .i64 s), .one (.int .i64 f), .one (.int .i64 u), .one (.int .i64 _a)], .agg [.one (.int .i64 F'), .one (.bool D'), .one (.int .i64 h'), .one (.int .i64 m'), .one (.int .i64 s'), .one (.int .i64 f'), .one (.int .i64 u'), .one (.int .i64 _b)]] => some ([StOk ((F', D'), (h', m', s', f'), u')], .val (bV (follows ((F, D), (h, m, s, f), u) ((F', D'), (h', m', s', f'), u'))))
  | _ => none, true⟩
def sp19 : FSpec := ⟨fun vs => match vs with
  | [.one (.sl (.pair (.pair (.int .i64) .bool) (.pair (.pair (.int .i64) (.pair (.int .i64) (.pair (.int .i64) (.int .i64)))) (.int .i64))) l)] => some ([List.length l ≤ 256, ∀ x ∈ (show List St7 from l), StOk x], .tup [.one (.frs (.int .i64) (jumpsTo (show List St7 from l) (List.length l))), iV 0])
  | _ => none, true⟩
end Go.Sx
