/- A verified symbolic run of functions, part 13: lemmas, no claim of their own. -/
import Derived.Test.YtpfngnmgipnmlaaDoorS12
/- Plain laws of reels and lists of edits: what a list without an error has. -/
namespace Go.Sx
open U

theorem upTo_zero {f : Nat → Int} : ∀ {n : Nat}, upTo f n = 0 ↔ ∀ i, i < n → f i = 0
  | 0 => by simp [upTo]
  | n + 1 => by
    have ih := upTo_zero (f := f) (n := n)
    simp only [upTo]
    constructor
    · intro h i hi
      split at h
      · rename_i h0
        by_cases e : i = n
        · subst e; exact h
        · exact ih.1 h0 i (by omega)
      · rename_i h0; exact absurd h h0
    · intro h
      rw [if_pos (ih.2 fun i hi => h i (by omega))]
      exact h n (by omega)

theorem upTo_eq {f : Nat → Int} {g n : Nat} (h0 : upTo f g = 0) (hf : f g ≠ 0) (hg : g < n) : upTo f n = f g := by
  have h1 : upTo f (g + 1) = f g := by simp only [upTo]; rw [if_pos h0]
  have := upTo_stay (f := f) (i := g + 1) (by rw [h1]; exact hf) (n - (g + 1))
  rw [show g + 1 + (n - (g + 1)) = n by omega, h1] at this
  exact this

theorem upTo_succ {f : Nat → Int} {g : Nat} (h0 : upTo f g = 0) (hf : f g = 0) : upTo f (g + 1) = 0 := by
  simp only [upTo]; rw [if_pos h0]; exact hf

theorem ls_len (L : List Ed) : (ls L).length = L.length := plTo_len L _
theorem plTo_get (L : List Ed) : ∀ (n i : Nat), i < n → (plTo L n).getD i pl0 = (L.getD i e0, begN L i)
  | 0, _, h => by omega
  | n + 1, i, h => by
    simp only [plTo]
    by_cases e : i = n
    · subst e
      rw [List.getD_eq_getElem?_getD, List.getElem?_append_right (by rw [plTo_len]; omega), plTo_len]
      simp
    · rw [List.getD_eq_getElem?_getD, List.getElem?_append_left (by rw [plTo_len]; omega), ← List.getD_eq_getElem?_getD]
      exact plTo_get L n i (by omega)
theorem ls_get (L : List Ed) {i : Nat} (h : i < L.length) : (ls L).getD i pl0 = (L.getD i e0, begN L i) := plTo_get L _ i h
theorem mem_getD {α : Type} {l : List α} {x : α} (d : α) (h : x ∈ l) : ∃ i, i < l.length ∧ l.getD i d = x := by
  obtain ⟨i, hi, rfl⟩ := List.mem_iff_getElem.1 h
  exact ⟨i, hi, getD_of hi⟩

/-! ### Maps of reels. -/

theorem mapGet_put {t : Ty} : ∀ (l : List (List UInt8 × t.T)) (x : List UInt8) (y : t.T) (z : List UInt8),
    U.mapGet .str t (U.mapPut .str t l x y) z = if x = z then some y else U.mapGet .str t l z
  | [], x, y, z => by
    simp only [U.mapPut, U.mapGet, eqT, beq_iff_eq]
    by_cases h : x = z
    · simp [h]
    · simp [h, Ne.symm h]
  | p :: r, x, y, z => by
    have ih := mapGet_put r x y z
    simp only [U.mapPut, eqT, beq_iff_eq]
    by_cases hx : x = p.1
    · rw [if_pos hx]
      simp only [U.mapGet, eqT, beq_iff_eq]
      by_cases h : z = p.1
      · simp [h, hx]
      · rw [if_neg h, if_neg (by rw [hx]; exact Ne.symm h), if_neg h]
    · rw [if_neg hx]
      simp only [U.mapGet, eqT, beq_iff_eq]
      by_cases h : z = p.1
      · rw [if_pos h, if_pos h, if_neg (by rw [h]; exact hx)]
      · rw [if_neg h, if_neg h]; exact ih

/-- Reels with different names. -/
def NoDup (R : List Rl) : Prop := ∀ i j, i < j → j < R.length → (R.getD i r0).1 ≠ (R.getD j r0).1

theorem rs_nodup {R : List Rl} (h : chkRs R = 0) : NoDup R := by
  intro i j hij hj e
  have h8 := (rs_at h).1
  unfold chkRs at h
  rw [if_neg (by omega)] at h
  have h1 := (first_zero_iff _).1 (upTo_zero.1 h j hj) _ (List.mem_cons_of_mem _ List.mem_cons_self)
  have h2 := (whenE_zero (by decide)).1 h1
  unfold dupR at h2
  have h3 := of_decide_eq_false h2
  have hT : (R.take j).length = j := by rw [List.length_take]; omega
  have hg : (R.take j).getD i r0 = R.getD i r0 := by
    rw [List.getD_eq_getElem?_getD, List.getElem?_take, if_pos hij, ← List.getD_eq_getElem?_getD]
  have := idxN_at (nm := (R.getD j r0).1) (R := R.take j) (j := i) (d := r0) (by omega) (by rw [hg]; exact e)
  omega

theorem mapR_get {R : List Rl} (hd : NoDup R) (nm : List UInt8) : ∀ n, n ≤ R.length →
    (∀ i, i < n → (R.getD i r0).1 = nm → U.mapGet .str (.pair .str (.pair (.int .i64) (.sl (.int .i64)))) (mapR R n) nm = some (R.getD i r0)) ∧
    ((∀ i, i < n → (R.getD i r0).1 ≠ nm) → U.mapGet .str (.pair .str (.pair (.int .i64) (.sl (.int .i64)))) (mapR R n) nm = none)
  | 0, _ => ⟨fun i h => by omega, fun _ => rfl⟩
  | n + 1, hn => by
    obtain ⟨ih1, ih2⟩ := mapR_get hd nm n (by omega)
    simp only [mapR]
    constructor
    · intro i hi e
      refine (mapGet_put _ _ _ _).trans ?_
      by_cases h : i = n
      · subst h; rw [if_pos e]
      · rw [if_neg (fun h2 => hd i n (by omega) (by omega) (e.trans h2.symm))]
        exact ih1 i (by omega) e
    · intro h
      refine (mapGet_put _ _ _ _).trans ?_
      rw [if_neg (h n (by omega))]
      exact ih2 fun i hi => h i (by omega)

theorem idxN_name {R : List Rl} {nm : List UInt8} (h : idxN nm R < R.length) : (rlOf R nm).1 = nm := by
  have h2 := List.findIdx_getElem (w := h)
  simp only [decide_eq_true_eq] at h2
  unfold rlOf
  rw [getD_of h]
  exact h2

theorem mapR_some {R : List Rl} (hd : NoDup R) (nm : List UInt8) : U.mapGet .str (.pair .str (.pair (.int .i64) (.sl (.int .i64)))) (mapR R R.length) nm = if idxN nm R < R.length then some (rlOf R nm) else none := by
  obtain ⟨h1, h2⟩ := mapR_get hd nm R.length (Nat.le_refl _)
  split
  · rename_i h
    exact h1 _ h (idxN_name h)
  · rename_i h
    refine h2 fun i hi e => h ?_
    have := idxN_at (d := r0) hi e
    omega

theorem rlM_eq {R : List Rl} (hd : NoDup R) (nm : List UInt8) : rlM (mapR R R.length) nm = rlOf R nm := by
  unfold rlM
  rw [mapR_some hd]
  split
  · rfl
  · rename_i h
    unfold rlOf
    rw [List.getD_eq_getElem?_getD, List.getElem?_eq_none (by omega)]
    rfl

/-! ### Lists without errors. -/

structure EdOk (R : List Rl) (L : List Ed) (i : Nat) : Prop where
  idx : idxN (L.getD i e0).1 R < R.length
  lo : (rlOf R (L.getD i e0).1).2.1 ≤ (L.getD i e0).2.1
  lt : (L.getD i e0).2.1 < (L.getD i e0).2.2.1
  hi : (L.getD i e0).2.2.1 ≤ endR (rlOf R (L.getD i e0).1)
  fade : 0 ≤ (L.getD i e0).2.2.2.1 ∧ (L.getD i e0).2.2.2.1 ≤ (L.getD i e0).2.2.1 - (L.getD i e0).2.1
  snd : -100 ≤ (L.getD i e0).2.2.2.2 ∧ (L.getD i e0).2.2.2.2 ≤ 100
  first : i = 0 → (L.getD i e0).2.2.2.1 = 0 ∧ (L.getD i e0).2.2.2.2 = 0
  prev : 0 < i → (L.getD (i - 1) e0).2.2.1 + (L.getD i e0).2.2.2.1 ≤ endR (rlOf R (L.getD (i - 1) e0).1)

theorem chkEd_ok {R : List Rl} {L : List Ed} {i : Nat} (h : chkEd R L i = 0) : EdOk R L i := by
  unfold chkEd at h
  obtain ⟨h1, h2, h3, h4, h5, h6⟩ := chkE_ok h
  refine ⟨h1, h2, h3, h4, h5, h6, fun i0 => ?_, fun i0 => ?_⟩
  · subst i0
    simp only [if_true] at h
    unfold chkE at h
    rw [if_neg (by omega), if_neg (by omega)] at h
    split at h
    · rename_i hp; exact absurd h hp
    · have := (whenE_zero (by decide)).1 h
      have := of_decide_eq_false this
      have e := Classical.not_not.1 this
      rw [e]
      exact ⟨rfl, rfl⟩
  · rw [if_neg (by omega)] at h
    unfold chkE at h
    rw [if_neg (by omega), if_neg (by omega)] at h
    split at h
    · rename_i hp; exact absurd h hp
    · have := (whenE_zero (by decide)).1 h
      have := of_decide_eq_false this
      omega

structure ListOk (R : List Rl) (L : List Ed) : Prop where
  rs : chkRs R = 0
  len : L.length ≤ 16
  ed : ∀ i, i < L.length → chkEd R L i = 0
  big : lenL L ≤ 1024
  ord : ∀ i, i < L.length → ordE (ls L) (lenL L) i = 0
  sp : ∀ i, i < L.length → spE (mapR R R.length) (ls L) (lenL L) i = 0

theorem chkEds_zero {R : List Rl} {L : List Ed} : chkEds R L = 0 ↔ ListOk R L := by
  unfold chkEds
  constructor
  · intro h
    by_cases h1 : chkRs R = 0
    · rw [if_neg (by simpa using h1)] at h
      by_cases h2 : 16 < L.length
      · rw [if_pos h2] at h; cases h
      · rw [if_neg h2] at h
        by_cases h3 : upTo (chkEd R L) L.length = 0
        · rw [if_neg (by simpa using h3)] at h
          by_cases h4 : 1024 < lenL L
          · rw [if_pos h4] at h; cases h
          · rw [if_neg h4] at h
            by_cases h5 : upTo (ordE (ls L) (lenL L)) L.length = 0
            · rw [if_neg (by simpa using h5)] at h
              exact ⟨h1, by omega, upTo_zero.1 h3, by omega, upTo_zero.1 h5, upTo_zero.1 h⟩
            · rw [if_pos h5] at h; cases h
        · rw [if_pos h3] at h; exact absurd h h3
    · rw [if_pos h1] at h; exact absurd h h1
  · intro h
    rw [if_neg (by simpa using h.rs), if_neg (by have := h.len; omega), if_neg (by simpa using upTo_zero.2 h.ed), if_neg (by have := h.big; omega), if_neg (by simpa using upTo_zero.2 h.ord)]
    exact upTo_zero.2 h.sp

theorem reel_bd {R : List Rl} (hr : chkRs R = 0) (nm : List UInt8) : (0 ≤ (rlOf R nm).2.1 ∧ (rlOf R nm).2.1 ≤ 10000000) ∧ (rlOf R nm).2.1 ≤ endR (rlOf R nm) ∧ endR (rlOf R nm) ≤ 10000000 ∧ (rlOf R nm).2.2.length ≤ 256 := by
  by_cases h : idxN nm R < R.length
  · have := (rs_at hr).2 _ (getD_mem (d := r0) h)
    have h1 := this.start
    have h2 := this.fin
    have h3 := this.len
    simp only [rlOf, endR] at *
    omega
  · have : rlOf R nm = r0 := by
      unfold rlOf
      rw [List.getD_eq_getElem?_getD, List.getElem?_eq_none (by omega)]; rfl
    rw [this]
    simp only [endR, r0, List.length_nil]
    omega

theorem EdsIn_of {R : List Rl} {L : List Ed} (hr : chkRs R = 0) (hl : L.length ≤ 16) (he : ∀ i, i < L.length → chkEd R L i = 0) : EdsIn L := by
  refine ⟨hl, fun x hx => ?_⟩
  obtain ⟨i, hi, rfl⟩ := mem_getD e0 hx
  have h := chkEd_ok (he i hi)
  have := reel_bd hr (L.getD i e0).1
  have h1 := h.lo
  have h2 := h.lt
  have h3 := h.hi
  omega

theorem begN_lt {L : List Ed} (h : EdsIn L) {i : Nat} (hi : i < L.length) : begN L i < begN L (i + 1) := by
  have := h.2 _ (getD_mem (d := e0) hi)
  simp only [begN]
  omega
theorem begN_mono {L : List Ed} (h : EdsIn L) : ∀ {i j : Nat}, i ≤ j → j ≤ L.length → begN L i ≤ begN L j := by
  intro i j hij hj
  induction j with
  | zero => rw [Nat.le_zero.1 hij]; exact Int.le_refl _
  | succ j ih =>
    by_cases e : i = j + 1
    · subst e; exact Int.le_refl _
    · have := ih (by omega) (by omega)
      have := begN_lt h (i := j) (by omega)
      omega

theorem ListOk.eds {R : List Rl} {L : List Ed} (h : ListOk R L) : EdsIn L := EdsIn_of h.rs h.len h.ed

theorem ListOk.pls {R : List Rl} {L : List Ed} (h : ListOk R L) (hn : 0 < L.length) : PlsOk (ls L) := by
  refine ⟨by rw [ls_len]; exact hn, by rw [ls_len]; exact h.len, fun x hx => ?_, ?_, ?_⟩
  · obtain ⟨i, hi, rfl⟩ := mem_getD pl0 hx
    rw [ls_len] at hi
    rw [ls_get L hi]
    have h1 := chkEd_ok (h.ed i hi)
    have h2 := h.eds.2 _ (getD_mem (d := e0) hi)
    have h3 := begN_bd h.eds i (by omega)
    have h4 := begN_mono h.eds (show i ≤ L.length by omega) (Nat.le_refl _)
    have h5 := h.big
    have h6 := h1.fade
    have h7 := h1.snd
    have h8 := begN_mono h.eds (show i + 1 ≤ L.length by omega) (Nat.le_refl _)
    have h9 : begN L (i + 1) = begN L i + ((L.getD i e0).2.2.1 - (L.getD i e0).2.1) := rfl
    unfold lenL at h5
    dsimp only
    omega
  · rw [ls_get L hn]; rfl
  · rw [ls_get L hn]
    exact ((chkEd_ok (h.ed 0 hn)).first rfl).1

theorem pl_bd {R : List Rl} {L : List Ed} (hr : chkRs R = 0) (hl : L.length ≤ 16) (he : ∀ i, i < L.length → chkEd R L i = 0) (hb : lenL L ≤ 1024) :
    ∀ x ∈ ls L, (0 ≤ x.1.2.1 ∧ x.1.2.1 ≤ 10000000) ∧ (0 ≤ x.1.2.2.1 ∧ x.1.2.2.1 ≤ 10000000) ∧ (0 ≤ x.1.2.2.2.1 ∧ x.1.2.2.2.1 ≤ 1024) ∧ (-100 ≤ x.1.2.2.2.2 ∧ x.1.2.2.2.2 ≤ 100) ∧ (0 ≤ x.2 ∧ x.2 ≤ 1024) := by
  intro x hx
  obtain ⟨i, hi, rfl⟩ := mem_getD pl0 hx
  rw [ls_len] at hi
  rw [ls_get L hi]
  have hE := EdsIn_of hr hl he
  have h1 := chkEd_ok (he i hi)
  have h2 := hE.2 _ (getD_mem (d := e0) hi)
  have h3 := begN_bd hE i (by omega)
  have h4 := begN_mono hE (show i ≤ L.length by omega) (Nat.le_refl _)
  have h6 := h1.fade
  have h7 := h1.snd
  have h8 := begN_mono hE (show i + 1 ≤ L.length by omega) (Nat.le_refl _)
  have h9 : begN L (i + 1) = begN L i + ((L.getD i e0).2.2.1 - (L.getD i e0).2.1) := rfl
  unfold lenL at hb
  dsimp only
  omega
theorem heard_bd {p : List Pl} {n : Int} (hp : ∀ x ∈ p, (-100 ≤ x.1.2.2.2.2 ∧ x.1.2.2.2.2 ≤ 100) ∧ (0 ≤ x.2 ∧ x.2 ≤ 1024)) (hn : 0 ≤ n ∧ n ≤ 1024) {i : Nat} (hi : i < p.length) :
    (-100 ≤ (heardN p n i).1 ∧ (heardN p n i).1 ≤ 2000) ∧ (-100 ≤ (heardN p n i).2 ∧ (heardN p n i).2 ≤ 2000) := by
  have h1 := hp _ (getD_mem (d := pl0) hi)
  unfold heardN sndN
  split
  · rename_i h
    have h2 := hp _ (getD_mem (d := pl0) h)
    dsimp only
    omega
  · dsimp only
    omega

theorem lastTo_gt (g : Pl → Int) (p : List Pl) (fr : Int) : ∀ n j, lastTo g p fr n < j → j < n → fr < g (p.getD j pl0)
  | 0, j, _, h => by omega
  | n + 1, j, h1, h2 => by
    simp only [lastTo] at h1
    split at h1
    · omega
    · rename_i h
      by_cases e : j = n
      · subst e; omega
      · exact lastTo_gt g p fr n j h1 (by omega)

/-- The edit that is seen at a frame. -/
theorem seen_at {R : List Rl} {L : List Ed} (_h : ListOk R L) {t : Int} (h0 : 0 ≤ t) (ht : t < lenL L) :
    ∃ k, k < L.length ∧ lastTo begP (ls L) t (ls L).length = k ∧ begN L k ≤ t ∧ t < begN L (k + 1) := by
  have hn : 0 < L.length := by
    apply Nat.pos_of_ne_zero
    intro e
    unfold lenL at ht
    rw [e] at ht
    simp only [begN] at ht
    omega
  have hl := lastTo_lt begP (ls L) t (ls L).length (by rw [ls_len]; exact hn)
  have hle : begP ((ls L).getD (lastTo begP (ls L) t (ls L).length) pl0) ≤ t := lastTo_le (by rw [ls_get L hn]; exact h0) _
  have hgt := lastTo_gt begP (ls L) t (ls L).length (lastTo begP (ls L) t (ls L).length + 1) (by omega)
  rw [ls_len] at *
  refine ⟨_, hl, rfl, ?_, ?_⟩
  · rw [ls_get L hl] at hle; exact hle
  · by_cases e : lastTo begP (ls L) t L.length + 1 < L.length
    · have := hgt e
      rw [ls_get L e] at this
      exact this
    · have : lastTo begP (ls L) t L.length + 1 = L.length := by omega
      rw [this]; exact ht

/-- A take of a reel's frame, with a part. -/
structure TkOk (R : List Rl) (x : Tk) : Prop where
  idx : idxN x.1 R < R.length
  lo : (rlOf R x.1).2.1 ≤ x.2.1
  hi : x.2.1 < endR (rlOf R x.1)
  num : 1 ≤ x.2.2.1 ∧ x.2.2.1 ≤ 2000
  den : 1 ≤ x.2.2.2 ∧ x.2.2.2 ≤ 2000

theorem low_bd {n d : Int} (hn : 1 ≤ n ∧ n ≤ 2000) (hd : 1 ≤ d ∧ d ≤ 2000) : (1 ≤ (lowN n d).1 ∧ (lowN n d).1 ≤ 2000) ∧ (1 ≤ (lowN n d).2 ∧ (lowN n d).2 ≤ 2000) := by
  unfold lowN
  have hg : 0 < Nat.gcd n.toNat d.toNat := Nat.gcd_pos_of_pos_left _ (by omega)
  have h1 : (Nat.gcd n.toNat d.toNat : Int) ≤ n := by have := Nat.le_of_dvd (by omega) (Nat.gcd_dvd_left n.toNat d.toNat); omega
  have h2 : (Nat.gcd n.toNat d.toNat : Int) ≤ d := by have := Nat.le_of_dvd (by omega) (Nat.gcd_dvd_right n.toNat d.toNat); omega
  have a1 := Int.ediv_le_self (a := n) (Nat.gcd n.toNat d.toNat : Int) (by omega)
  have a2 := Int.ediv_le_self (a := d) (Nat.gcd n.toNat d.toNat : Int) (by omega)
  have b1 : 1 ≤ n / (Nat.gcd n.toNat d.toNat : Int) := (Int.le_ediv_iff_mul_le (by omega)).2 (by omega)
  have b2 : 1 ≤ d / (Nat.gcd n.toNat d.toNat : Int) := (Int.le_ediv_iff_mul_le (by omega)).2 (by omega)
  dsimp only
  omega

theorem takes_ok {R : List Rl} {L : List Ed} (h : ListOk R L) {t : Int} (h0 : 0 ≤ t) (ht : t < lenL L) :
    (1 ≤ (takesN (ls L) t).length ∧ (takesN (ls L) t).length ≤ 2) ∧ ∀ x ∈ takesN (ls L) t, TkOk R x := by
  obtain ⟨k, hk, ek, hb, hb2⟩ := seen_at h h0 ht
  have hE := chkEd_ok (h.ed k hk)
  have e2 : begN L (k + 1) = begN L k + ((L.getD k e0).2.2.1 - (L.getD k e0).2.1) := rfl
  have h1 := hE.lo
  have h2 := hE.lt
  have h3 := hE.hi
  have h4 := hE.fade
  have h5 := h.big
  have hm := begN_mono h.eds (show k + 1 ≤ L.length by omega) (Nat.le_refl _)
  have hp := begN_bd h.eds k (by omega)
  unfold lenL at h5
  unfold takesN
  rw [ek, ls_get L hk]
  unfold takesE
  dsimp only
  split
  · refine ⟨by simp, fun x hx => ?_⟩
    simp only [List.mem_singleton] at hx
    subst hx
    exact ⟨hE.idx, by dsimp only; omega, by dsimp only; omega, by dsimp only; omega, by dsimp only; omega⟩
  · rename_i hf
    have hk0 : 0 < k := by
      apply Nat.pos_of_ne_zero
      rintro rfl
      have := (hE.first rfl).1
      omega
    have hP := hE.prev hk0
    have hB := chkEd_ok (h.ed (k - 1) (by omega))
    have g1 := hB.lo
    have g2 := hB.lt
    rw [ls_get L (show k - 1 < L.length by omega)]
    have l1 := low_bd (n := (L.getD k e0).2.2.2.1 - (t - begN L k)) (d := (L.getD k e0).2.2.2.1 + 1) (by omega) (by omega)
    have l2 := low_bd (n := t - begN L k + 1) (d := (L.getD k e0).2.2.2.1 + 1) (by omega) (by omega)
    refine ⟨by simp, fun x hx => ?_⟩
    simp only [List.mem_cons, List.not_mem_nil, or_false] at hx
    rcases hx with rfl | rfl
    · exact ⟨hB.idx, by dsimp only; omega, by dsimp only; omega, l1.1, l1.2⟩
    · exact ⟨hE.idx, by dsimp only; omega, by dsimp only; omega, l2.1, l2.2⟩

theorem ListOk.pls' {R : List Rl} {L : List Ed} (h : ListOk R L) {t : Int} (h0 : 0 ≤ t) (ht : t < lenL L) : PlsOk (ls L) := by
  obtain ⟨k, hk, _⟩ := seen_at h h0 ht
  exact h.pls (by omega)
theorem ListOk.frame {R : List Rl} {L : List Ed} (h : ListOk R L) {t : Int} (ht : t < lenL L) : t ≤ 100000 := by
  have := h.big
  omega
theorem lenL_nn {R : List Rl} {L : List Ed} (h : ListOk R L) : 0 ≤ lenL L := by
  have := begN_bd h.eds L.length (Nat.le_refl _)
  unfold lenL
  omega
theorem map_range {α : Type} (f : Nat → α) (g : Nat) : (List.range (g + 1)).map f = (List.range g).map f ++ [f g] := by
  rw [List.range_succ, List.map_append]; rfl

theorem mul_bd {a b A B : Int} (ha : 0 ≤ a) (hA : a ≤ A) (hb : 0 ≤ b) (hB : b ≤ B) : 0 ≤ a * b ∧ a * b ≤ A * B :=
  ⟨Int.mul_nonneg ha hb, Int.mul_le_mul hA hB hb (by omega)⟩

/-- The check of a take is one of its reel's. -/
theorem take_check {R : List Rl} (hr : chkRs R = 0) {x : Tk} (h : TkOk R x) :
    (0 ≤ x.2.1 - (rlOf R x.1).2.1 ∧ x.2.1 - (rlOf R x.1).2.1 < ((rlOf R x.1).2.2.length : Int)) ∧ (0 ≤ (rlOf R x.1).2.2.getD (x.2.1 - (rlOf R x.1).2.1).toNat 0 ∧ (rlOf R x.1).2.2.getD (x.2.1 - (rlOf R x.1).2.1).toNat 0 ≤ 65535) := by
  have h1 := h.lo
  have h2 := h.hi
  unfold endR at h2
  have hw := ((rs_at hr).2 _ (getD_mem (d := r0) h.idx)).w
  refine ⟨by omega, ?_⟩
  exact hw _ (getD_mem (show (x.2.1 - (rlOf R x.1).2.1).toNat < (rlOf R x.1).2.2.length by omega))

structure MixBd (N D : Int) (q : Int × Int) : Prop where
  n0 : 0 ≤ q.1
  n1 : q.1 ≤ N
  d0 : 1 ≤ q.2
  d1 : q.2 ≤ D

theorem mix_step {N D n d c a b : Int} (hN : N ≤ 131070000) (hD : D ≤ 2000) (h : 0 ≤ n ∧ n ≤ N) (h' : 1 ≤ d ∧ d ≤ D) (hc : 0 ≤ c ∧ c ≤ 65535) (ha : 1 ≤ a ∧ a ≤ 2000) (hb : 1 ≤ b ∧ b ≤ 2000) :
    fits .i64 (n * b) ∧ fits .i64 (c * a) ∧ fits .i64 (c * a * d) ∧ fits .i64 (n * b + c * a * d) ∧ fits .i64 (d * b) ∧ MixBd (N * 2000 + 131070000 * D) (D * 2000) (n * b + c * a * d, d * b) := by
  have e1 := mul_bd h.1 h.2 (show 0 ≤ b by omega) hb.2
  have e2 := mul_bd hc.1 hc.2 (show 0 ≤ a by omega) ha.2
  have e3 := mul_bd e2.1 e2.2 (show 0 ≤ d by omega) h'.2
  have e4 := mul_bd (show 0 ≤ d by omega) h'.2 (show 0 ≤ b by omega) hb.2
  have e5 : 1 ≤ d * b := Int.mul_pos (by omega) (by omega)
  simp only [fits]
  refine ⟨by omega, by omega, by omega, by omega, by omega, by dsimp only; omega, by dsimp only; omega, e5, e4.2⟩

theorem mixTo_succ {R : List Rl} (hd : NoDup R) (ts : List Tk) (j : Nat) : mixTo (mapR R R.length) ts (j + 1) =
    ((mixTo (mapR R R.length) ts j).1 * (ts.getD j tk0).2.2.2 + (rlOf R (ts.getD j tk0).1).2.2.getD ((ts.getD j tk0).2.1 - (rlOf R (ts.getD j tk0).1).2.1).toNat 0 * (ts.getD j tk0).2.2.1 * (mixTo (mapR R R.length) ts j).2, (mixTo (mapR R R.length) ts j).2 * (ts.getD j tk0).2.2.2) := by
  simp only [mixTo, rlM_eq hd]

def nB : Nat → Int
  | 0 => 0
  | 1 => 131070000
  | _ => 524280000000
def dB : Nat → Int
  | 0 => 1
  | 1 => 2000
  | _ => 4000000
theorem mix_bd {R : List Rl} (hr : chkRs R = 0) {ts : List Tk} (h : ∀ x ∈ ts, TkOk R x) : ∀ j, j ≤ ts.length → j ≤ 2 → MixBd (nB j) (dB j) (mixTo (mapR R R.length) ts j)
  | 0, _, _ => ⟨by simp [mixTo], by simp [mixTo, nB], by simp [mixTo], by simp [mixTo, dB]⟩
  | j + 1, hj, h2 => by
    have h4 := mix_bd hr h j (by omega) (by omega)
    have hx := h _ (getD_mem (d := tk0) (show j < ts.length by omega))
    have hB : nB j ≤ 131070000 ∧ dB j ≤ 2000 ∧ nB j * 2000 + 131070000 * dB j = nB (j + 1) ∧ dB j * 2000 = dB (j + 1) := by
      have : j = 0 ∨ j = 1 := by omega
      rcases this with rfl | rfl <;> decide
    have := (mix_step hB.1 hB.2.1 ⟨h4.n0, h4.n1⟩ ⟨h4.d0, h4.d1⟩ (take_check hr hx).2 hx.num hx.den).2.2.2.2.2
    rw [mixTo_succ (rs_nodup hr), ← hB.2.2.1, ← hB.2.2.2]
    exact this

theorem trimL_len (L : List Ed) (k : Nat) (b : Int) : (trimL L k b).length = L.length := by simp [trimL]
theorem frontL_len (L : List Ed) (k : Nat) (b : Int) : (frontL L k b).length = L.length := by simp [frontL]
theorem rollL_len (L : List Ed) (k : Nat) (b : Int) : (rollL L k b).length = L.length := by simp [rollL, trimL, frontL]
theorem slipL_len (L : List Ed) (k : Nat) (b : Int) : (slipL L k b).length = L.length := by simp [slipL, trimL, frontL]
theorem trimL_get (L : List Ed) (k j : Nat) (b : Int) (hk : k < L.length) : (trimL L k b).getD j e0 = if k = j then ((L.getD k e0).1, (L.getD k e0).2.1, (L.getD k e0).2.2.1 + b, (L.getD k e0).2.2.2.1, (L.getD k e0).2.2.2.2) else L.getD j e0 := by
  unfold trimL
  rw [List.getD_eq_getElem?_getD, List.getElem?_set]
  split
  · first | rfl | (rw [if_pos hk]; rfl)
  · rw [← List.getD_eq_getElem?_getD]
theorem frontL_get (L : List Ed) (k j : Nat) (b : Int) (hk : k < L.length) : (frontL L k b).getD j e0 = if k = j then ((L.getD k e0).1, (L.getD k e0).2.1 + b, (L.getD k e0).2.2.1, (L.getD k e0).2.2.2.1, (L.getD k e0).2.2.2.2) else L.getD j e0 := by
  unfold frontL
  rw [List.getD_eq_getElem?_getD, List.getElem?_set]
  split
  · first | rfl | (rw [if_pos hk]; rfl)
  · rw [← List.getD_eq_getElem?_getD]
theorem trim_fold (L : List Ed) (k : Nat) (b : Int) : L.set k ((L.getD k e0).1, (L.getD k e0).2.1, (L.getD k e0).2.2.1 + b, (L.getD k e0).2.2.2.1, (L.getD k e0).2.2.2.2) = trimL L k b := rfl
theorem front_fold (L : List Ed) (k : Nat) (b : Int) : L.set k ((L.getD k e0).1, (L.getD k e0).2.1 + b, (L.getD k e0).2.2.1, (L.getD k e0).2.2.2.1, (L.getD k e0).2.2.2.2) = frontL L k b := rfl
theorem roll_fold (L : List Ed) (k : Nat) (b : Int) : frontL (trimL L (k - 1) b) k b = rollL L k b := rfl
theorem slip_fold (L : List Ed) (k : Nat) (b : Int) : trimL (frontL L k b) k b = slipL L k b := rfl

theorem chg_bad {R : List Rl} {L : List Ed} {i b least : Int} {g : List Ed → Nat → Int → List Ed} (h : chkEds R L ≠ 0) : chgL R L i b least g = [] ∧ chkEds R L = chgE R L i b least g := by
  have hc : chkCh R L i b least = chkEds R L := if_pos h
  have he : chgE R L i b least g = chkEds R L := by unfold chgE; rw [hc, if_pos h]
  exact ⟨by unfold chgL; rw [he, if_neg h], he.symm⟩
theorem chg_err {R : List Rl} {L : List Ed} {i b least : Int} {g : List Ed → Nat → Int → List Ed} (h : chkCh R L i b least ≠ 0) : chgL R L i b least g = [] ∧ chkCh R L i b least = chgE R L i b least g := by
  have he : chgE R L i b least g = chkCh R L i b least := if_pos h
  exact ⟨by unfold chgL; rw [he, if_neg h], he.symm⟩
theorem chkCh_eq {R : List Rl} {L : List Ed} {i b least : Int} (h : chkEds R L = 0) : first [whenE (bif decide (i < 0) then true else decide ((L.length : Int) ≤ i)) 10, within b (-10000000) 10000000, whenE (decide (i < least)) 21] = chkCh R L i b least := by
  unfold chkCh
  rw [if_neg (by simpa using h), bcond_l, Bool.decide_or]
theorem chkCh_zero {R : List Rl} {L : List Ed} {i b least : Int} (_hl : 0 ≤ least) (h : chkCh R L i b least = 0) : ListOk R L ∧ (least ≤ i ∧ i < L.length) ∧ (-10000000 ≤ b ∧ b ≤ 10000000) := by
  unfold chkCh at h
  split at h
  · rename_i h1; exact absurd h h1
  · rename_i h1
    have h1' : chkEds R L = 0 := by simpa using h1
    have hz := (first_zero_iff _).1 h
    have a1 := of_decide_eq_false ((whenE_zero (by decide)).1 (hz _ (List.mem_cons_self)))
    have a2 := within_zero.1 (hz _ (List.mem_cons_of_mem _ List.mem_cons_self))
    have a3 := of_decide_eq_false ((whenE_zero (by decide)).1 (hz _ (List.mem_cons_of_mem _ (List.mem_cons_of_mem _ List.mem_cons_self))))
    exact ⟨chkEds_zero.1 h1', by omega, a2⟩
theorem chg_ok {R : List Rl} {L : List Ed} {i b least : Int} {g : List Ed → Nat → Int → List Ed} (h : chkCh R L i b least = 0) :
    (chkEds R (g L i.toNat b) ≠ 0 → chgL R L i b least g = [] ∧ chkEds R (g L i.toNat b) = chgE R L i b least g) ∧ (chkEds R (g L i.toNat b) = 0 → g L i.toNat b = chgL R L i b least g ∧ 0 = chgE R L i b least g) := by
  have he : chgE R L i b least g = chkEds R (g L i.toNat b) := if_neg (by simpa using h)
  refine ⟨fun h2 => ⟨by unfold chgL; rw [he, if_neg h2], he.symm⟩, fun h2 => ⟨by unfold chgL; rw [he, if_pos h2], by rw [he, h2]⟩⟩
end Go.Sx

/- Contracts. -/
namespace Go.Sx
open U
theorem fn43 (R : List Rl) (L : List Ed) (hl : R.length ≤ 1000000000) (hR : ∀ r ∈ R, r.2.2.length ≤ 1000000) (hL : L.length ≤ 1000000000) : Fn P1 gl1 43 [.one (.sl rlT R), .one (.sl edT L)] (.val (iV (chkEds R L))) true := by
  refine Fn.flat ?_ rfl
  refine fn_of false [(103, sp103), (79, sp79), (78, sp78), (104, sp104), (88, sp88), (105, sp105), (106, sp106), (77, sp77)] [] h43 0 Proofs.Tryd.f43 ⟨so103, so79, so78, so104, so88, so105, so106, so77, trivial⟩ trivial (by kernel_rfl) rfl (by kernel_rfl) rfl rfl rfl ?_
  rw [vc43]
  try simp only [splitB_iff, -eq_self]
  refine ⟨hl, hR, by decide, fun h => ?_, fun h => ?_⟩
  · have h' : first [chkRs R, whenE (decide ((16 : Int) < (L.length : Int))) 5] ≠ 0 := by simpa using h
    refine ⟨?_, trivial⟩
    unfold chkEds
    by_cases h1 : chkRs R = 0
    · rw [if_neg (by simpa using h1)]
      have h16 : 16 < L.length := by
        apply Classical.byContradiction
        intro hn
        apply h'
        have : decide ((16 : Int) < (L.length : Int)) = false := by rw [decide_eq_false_iff_not]; omega
        rw [h1, this]; rfl
      have : decide ((16 : Int) < (L.length : Int)) = true := by rw [decide_eq_true_eq]; omega
      rw [if_pos h16, h1, this]; rfl
    · rw [if_pos h1]
      simp [first, h1]
  · have hz := (first_zero_iff _).1 (show first [chkRs R, whenE (decide ((16 : Int) < (L.length : Int))) 5] = 0 by simpa using h)
    have h1 := hz (chkRs R) (by simp)
    have h16 : ¬ 16 < L.length := by
      have := hz _ (List.mem_cons_of_mem _ (List.mem_singleton.2 rfl))
      have := of_decide_eq_false ((whenE_zero (by decide)).1 this)
      omega
    have hc : chkEds R L = if upTo (chkEd R L) L.length ≠ 0 then upTo (chkEd R L) L.length else if 1024 < lenL L then 4 else if upTo (ordE (ls L) (lenL L)) L.length ≠ 0 then 11 else upTo (spE (mapR R R.length) (ls L) (lenL L)) L.length := by
      conv => lhs; unfold chkEds
      rw [if_neg (by simpa using h1), if_neg h16]
    have hN : begN L L.length = lenL L := rfl
    have hP : plTo L L.length = ls L := rfl
    have hrl : ∀ nm : List UInt8, Option.getD (U.mapGet .str (.pair .str (.pair (.int .i64) (.sl (.int .i64)))) (mapR R R.length) nm) r0 = rlOf R nm := rlM_eq (rs_nodup h1)
    simp only [hc, hN, hP, hrl, ls_len]
    refine ⟨⟨0, ⟨Nat.zero_le _, rfl⟩, rfl, trivial, trivial, trivial, trivial, trivial⟩, fun g hg => ⟨fun hlt => ?_, fun hge => ?_⟩⟩
    · have hlt' : g < L.length := by simpa using hlt
      refine ⟨h1, trivial, hlt', by omega, fun h0 => upTo_zero.1 hg.2 _ (by omega), fun h2 => ⟨?_, trivial⟩, fun h2 => ⟨by simp only [fits]; omega, g + 1, ⟨hlt', upTo_succ hg.2 (by simpa using h2)⟩, by omega, by simp, trivial, trivial, trivial, trivial, trivial⟩⟩
      have hne : chkEd R L g ≠ 0 := by simpa using h2
      have := upTo_eq hg.2 hne hlt'
      rw [if_pos (by rw [this]; exact hne), this]
    · have hge' : ¬ g < L.length := by simpa using hge
      have hgl : g = L.length := by omega
      subst hgl
      have he := upTo_zero.1 hg.2
      have hE : EdsIn L := EdsIn_of h1 (by omega) he
      rw [if_neg (by simpa using hg.2)]
      refine ⟨hl, hE, fun h3 => ⟨by rw [if_pos (of_decide_eq_true h3)], trivial⟩, fun h3 => ?_⟩
      have h3' : ¬ 1024 < lenL L := of_decide_eq_false h3
      rw [if_neg h3']
      have hb := pl_bd h1 (by omega) he (by omega)
      have hn := begN_bd hE L.length (Nat.le_refl _)
      rw [hN] at hn
      have hs : ∀ x ∈ ls L, fits .i64 (sndN x) := fun x hx => by have := hb x hx; simp only [fits, sndN]; omega
      have hs' : ∀ i, i < L.length → fits .i64 (sndN ((ls L).getD i pl0)) := fun i hi => hs _ (getD_mem (by rw [ls_len]; exact hi))
      refine ⟨⟨0, ⟨Nat.zero_le _, rfl⟩, rfl, trivial, trivial, trivial, trivial, trivial, trivial, trivial, trivial, trivial⟩, fun i hi => ⟨fun hlt => ?_, fun hge => ?_⟩⟩
      · have hlt' : i < L.length := by simpa using hlt
        have e1 : ((i : Int) - 1).toNat = i - 1 := by omega
        rw [e1]
        refine ⟨by omega, fun _ => hs' i hlt', fun _ => by simp only [fits]; omega, fun h0 => by have := of_decide_eq_true h0; omega, fun _ => hs' (i - 1) (by omega), fun _ => hs' i hlt', fun h4 => ⟨?_, trivial⟩, fun h4 => ⟨by simp only [fits]; omega, i + 1, ⟨hlt', upTo_succ hi.2 ?_⟩, by omega, by simp, trivial, trivial, trivial, trivial, trivial, trivial, trivial, trivial, trivial⟩⟩
        · simp only [bcond_l, bcond_r, Bool.and_eq_true, Bool.or_eq_true, decide_eq_true_eq] at h4
          have hne : ordE (ls L) (lenL L) i ≠ 0 := by
            unfold ordE
            rw [show decide (0 < i ∧ (sndN ((ls L).getD i pl0) ≤ sndN ((ls L).getD (i - 1) pl0) ∨ lenL L ≤ sndN ((ls L).getD i pl0))) = true from decide_eq_true ⟨by omega, h4.2⟩]
            decide
          have := upTo_eq hi.2 hne hlt'
          rw [if_pos (by rw [this]; exact hne)]
        · unfold ordE
          rw [whenE_zero (by decide), decide_eq_false_iff_not]
          rintro ⟨k1, k2⟩
          rw [← Bool.not_eq_true] at h4
          apply h4
          simp only [bcond_l, bcond_r, Bool.and_eq_true, Bool.or_eq_true, decide_eq_true_eq]
          exact ⟨by omega, k2⟩
      · have hge' : ¬ i < L.length := by simpa using hge
        have hil : i = L.length := by omega
        subst hil
        rw [if_neg (by simpa using hi.2)]
        refine ⟨⟨0, ⟨Nat.zero_le _, rfl⟩, rfl, trivial, trivial, trivial, trivial, trivial, trivial, trivial, trivial, trivial⟩, fun j hj => ⟨fun hlt => ?_, fun hge => ?_⟩⟩
        · have hlt' : j < L.length := by simpa using hlt
          have hx := hb _ (getD_mem (d := pl0) (show j < (ls L).length by rw [ls_len]; exact hlt'))
          have hh := heard_bd (fun x hx => (hb x hx).2.2.2) (n := lenL L) (by omega) (show j < (ls L).length by rw [ls_len]; exact hlt')
          have hr := reel_bd h1 ((ls L).getD j pl0).1.1
          have hrl2 := hr.2.2.2
          have hsp : spE (mapR R R.length) (ls L) (lenL L) j = whenE (decide (((ls L).getD j pl0).1.2.1 + (heardN (ls L) (lenL L) j).1 - ((ls L).getD j pl0).2 < (rlOf R ((ls L).getD j pl0).1.1).2.1 ∨ endR (rlOf R ((ls L).getD j pl0).1.1) < ((ls L).getD j pl0).1.2.1 + (heardN (ls L) (lenL L) j).2 - ((ls L).getD j pl0).2)) 16 := by
            simp only [spE, rlM_eq (rs_nodup h1)]
          refine ⟨by omega, trivial, hlt', hs, by omega, by simp only [fits]; omega, by simp only [fits]; omega, fun _ => by simp only [fits]; omega, fun _ => by simp only [fits]; omega, fun _ => by simp only [fits]; omega, fun h4 => ⟨?_, trivial⟩, fun h4 => ⟨by simp only [fits]; omega, j + 1, ⟨hlt', upTo_succ hj.2 ?_⟩, by omega, by simp, trivial, trivial, trivial, trivial, trivial, trivial, trivial, trivial, trivial⟩⟩
          · simp only [bcond_l, Bool.or_eq_true, decide_eq_true_eq] at h4
            have h16 : spE (mapR R R.length) (ls L) (lenL L) j = 16 := by
              exact hsp.trans (congrArg (fun b => whenE b 16) (decide_eq_true h4))
            have := upTo_eq hj.2 (by rw [h16]; decide) hlt'
            rw [this, h16]
          · rw [hsp, whenE_zero (by decide), decide_eq_false_iff_not]
            intro hk
            rw [← Bool.not_eq_true] at h4
            apply h4
            simp only [bcond_l, Bool.or_eq_true, decide_eq_true_eq]
            exact hk
        · have hge' : ¬ j < L.length := by simpa using hge
          have hjl : j = L.length := by omega
          subst hjl
          rw [hj.2]
          exact ⟨rfl, trivial⟩
theorem so43_ : SpecOk P1 gl1 43 sp43 := by
  intro vs ps r h hp
  simp only [sp43] at h
  split at h
  · cases h; exact fn43 _ _ (hp _ (.head _)) (hp _ (.tail _ (.head _))) (hp _ (.tail _ (.tail _ (.head _))))
  · cases h
theorem so43 : Sp1 43 sp43 := ⟨so43_, Proofs.Tryd.f43, _, by kernel_rfl, rfl, by kernel_rfl⟩

theorem fn89 (p : List Pl) (hl : p.length ≤ 1000000) : Fn P1 gl1 89 [.one (.sl plT p), .one (.fn 90 [] [])] (.val (.one (.frs (.int .i64) (p.map fun x => x.2)))) true := by
  refine Fn.flat ?_ rfl
  refine fn_of false [] [fb90] h89 3 Proofs.Tryd.f89 trivial ⟨⟨by kernel_rfl, by kernel_rfl, _, rfl, by kernel_rfl⟩, trivial⟩ (by kernel_rfl) rfl (by kernel_rfl) rfl rfl rfl ?_
  rw [vc89]
  try simp only [splitB_iff, -eq_self]
  refine ⟨⟨0, Nat.zero_le _, rfl, rfl, rfl, by simp⟩, fun g hg => ⟨fun hlt => ?_, fun hge => ?_⟩⟩
  · have hlt' : g < p.length := by simpa using hlt
    refine ⟨by omega, by simp only [room, List.length_map, List.length_take]; omega, by simp only [fits]; omega, g + 1, hlt', by omega, by simp, rfl, rfl, ?_, trivial⟩
    rw [getD_of hlt', List.take_succ_eq_append_getElem hlt', List.map_append]
    rfl
  · have hge' : ¬ g < p.length := by simpa using hge
    rw [List.take_of_length_le (by omega)]
    exact ⟨rfl, trivial⟩
theorem so89_ : SpecOk P1 gl1 89 sp89 := by
  intro vs ps r h hp
  simp only [sp89] at h
  split at h
  · cases h; exact fn89 _ (hp _ (.head _))
  · cases h
theorem so89 : Sp1 89 sp89 := ⟨so89_, Proofs.Tryd.f89, _, by kernel_rfl, rfl, by kernel_rfl⟩

theorem fn28 (R : List Rl) (L : List Ed) (hl : R.length ≤ 1000000000) (hR : ∀ r ∈ R, r.2.2.length ≤ 1000000) (hL : L.length ≤ 1000000000) : Fn P1 gl1 28 [.one (.sl rlT R), .one (.sl edT L)] (.tup [.one (.frs (.int .i64) (startsN R L)), iV (lenN R L), iV (chkEds R L)]) true := by
  refine Fn.flat ?_ rfl
  refine fn_of false [(43, sp43), (88, sp88), (89, sp89)] [] h0 0 Proofs.Tryd.f28 ⟨so43, so88, so89, trivial⟩ trivial (by kernel_rfl) rfl (by kernel_rfl) rfl rfl rfl ?_
  rw [vc28]
  try simp only [splitB_iff, -eq_self]
  refine ⟨hl, hR, hL, fun h => ?_, fun h => ?_⟩
  · have h' : chkEds R L ≠ 0 := by simpa using h
    unfold startsN lenN
    rw [if_neg h', if_neg h']
    exact ⟨rfl, rfl, rfl, trivial⟩
  · have h' : chkEds R L = 0 := by simpa using h
    have hk := chkEds_zero.1 h'
    have := hk.len
    unfold startsN lenN
    rw [if_pos h', if_pos h', h']
    exact ⟨hl, hk.eds, by rw [plTo_len]; omega, rfl, rfl, rfl, trivial⟩
theorem so28_ : SpecOk P1 gl1 28 sp28 := by
  intro vs ps r h hp
  simp only [sp28] at h
  split at h
  · cases h; exact fn28 _ _ (hp _ (.head _)) (hp _ (.tail _ (.head _))) (hp _ (.tail _ (.tail _ (.head _))))
  · cases h
theorem so28 : Sp1 28 sp28 := ⟨so28_, Proofs.Tryd.f28, _, by kernel_rfl, rfl, by kernel_rfl⟩

theorem fn40 (R : List Rl) (L : List Ed) (hl : R.length ≤ 1000000000) (hR : ∀ r ∈ R, r.2.2.length ≤ 1000000) (hL : L.length ≤ 1000000000) : Fn P1 gl1 40 [.one (.sl rlT R), .one (.sl edT L)] (.tup [.one (.frs tkT (soundsN R L)), iV (chkEds R L)]) true := by
  refine Fn.flat ?_ rfl
  refine fn_of false [(43, sp43), (88, sp88), (98, sp98)] [] h40 0 Proofs.Tryd.f40 ⟨so43, so88, so98, trivial⟩ trivial (by kernel_rfl) rfl (by kernel_rfl) rfl rfl rfl ?_
  rw [vc40]
  try simp only [splitB_iff, -eq_self]
  refine ⟨hl, hR, hL, fun h => ?_, fun h => ?_⟩
  · have h' : chkEds R L ≠ 0 := by simpa using h
    unfold soundsN
    rw [if_neg h']
    exact ⟨rfl, rfl, trivial⟩
  · have h' : chkEds R L = 0 := by simpa using h
    have hk := chkEds_zero.1 h'
    have hn := lenL_nn hk
    have hbig := hk.big
    have hN : begN L L.length = lenL L := rfl
    rw [hN]
    refine ⟨hl, hk.eds, ⟨0, Nat.zero_le _, rfl, rfl, rfl, rfl, rfl, rfl, rfl, rfl, trivial⟩, fun g hg => ⟨fun hlt => ?_, fun hge => ?_⟩⟩
    · have hlt' : (g : Int) < lenL L := of_decide_eq_true hlt
      refine ⟨hk.pls' (by omega) hlt', ⟨by omega, hk.frame hlt'⟩, by simp only [room, List.length_map, List.length_range]; omega, by simp only [fits]; omega, g + 1, by show g + 1 ≤ _; omega, by omega, by simp, rfl, rfl, rfl, ?_, rfl, rfl, rfl, trivial⟩
      rw [map_range]
    · have hge' : ¬ (g : Int) < lenL L := of_decide_eq_false hge
      have : g = (lenL L).toNat := by have : g ≤ (lenL L).toNat := hg
                                      omega
      subst this
      unfold soundsN
      rw [if_pos h', h']
      exact ⟨rfl, rfl, trivial⟩
theorem so40_ : SpecOk P1 gl1 40 sp40 := by
  intro vs ps r h hp
  simp only [sp40] at h
  split at h
  · cases h; exact fn40 _ _ (hp _ (.head _)) (hp _ (.tail _ (.head _))) (hp _ (.tail _ (.tail _ (.head _))))
  · cases h
theorem so40 : Sp1 40 sp40 := ⟨so40_, Proofs.Tryd.f40, _, by kernel_rfl, rfl, by kernel_rfl⟩

theorem fn39 (R : List Rl) (L : List Ed) (hl : R.length ≤ 1000000000) (hR : ∀ r ∈ R, r.2.2.length ≤ 1000000) (hL : L.length ≤ 1000000000) : Fn P1 gl1 39 [.one (.sl rlT R), .one (.sl edT L)] (.tup [.one (.frs (.sl tkT) (confN R L)), iV (chkEds R L)]) false := by
  refine fn_of false [(43, sp43), (88, sp88), (133, sp133)] [fb95, fb132] h39 3 Proofs.Tryd.f39 ⟨so43, so88, so133, trivial⟩ ⟨⟨by kernel_rfl, by kernel_rfl, _, rfl, by kernel_rfl⟩, ⟨by kernel_rfl, by kernel_rfl, _, rfl, by kernel_rfl⟩, trivial⟩ (by kernel_rfl) rfl (by kernel_rfl) rfl rfl rfl ?_
  rw [vc39]
  try simp only [splitB_iff, -eq_self]
  refine ⟨hl, hR, hL, fun h => ?_, fun h => ?_⟩
  · have h' : chkEds R L ≠ 0 := by simpa using h
    unfold confN
    rw [if_neg h']
    exact ⟨rfl, rfl, trivial⟩
  · have h' : chkEds R L = 0 := by simpa using h
    have hk := chkEds_zero.1 h'
    have hn := lenL_nn hk
    have hbig := hk.big
    have hN : begN L L.length = lenL L := rfl
    rw [hN]
    refine ⟨hl, hk.eds, ⟨0, Nat.zero_le _, rfl, rfl, rfl, rfl, rfl, rfl, trivial⟩, fun g hg => ⟨fun hlt => ?_, fun hge => ?_⟩⟩
    · have hlt' : (g : Int) < lenL L := of_decide_eq_true hlt
      refine ⟨hk.pls' (by omega) hlt', ⟨by omega, hk.frame hlt'⟩, by simp only [room, List.length_map, List.length_range]; omega, by simp only [fits]; omega, g + 1, by show g + 1 ≤ _; omega, by omega, by simp, rfl, ?_, rfl, rfl, rfl, trivial⟩
      rw [map_range]
    · have hge' : ¬ (g : Int) < lenL L := of_decide_eq_false hge
      have : g = (lenL L).toNat := by have : g ≤ (lenL L).toNat := hg
                                      omega
      subst this
      unfold confN
      rw [if_pos h', h']
      exact ⟨rfl, rfl, trivial⟩
theorem so39_ : SpecOk P1 gl1 39 sp39 := by
  intro vs ps r h hp
  simp only [sp39] at h
  split at h
  · cases h; exact fn39 _ _ (hp _ (.head _)) (hp _ (.tail _ (.head _))) (hp _ (.tail _ (.tail _ (.head _))))
  · cases h
theorem so39 : Sp1 39 sp39 := ⟨so39_, Proofs.Tryd.f39, _, by kernel_rfl, rfl, by kernel_rfl⟩

theorem fn33 (R : List Rl) (L : List Ed) (hl : R.length ≤ 1000000000) (hR : ∀ r ∈ R, r.2.2.length ≤ 1000000) (hL : L.length ≤ 1000000000) : Fn P1 gl1 33 [.one (.sl rlT R), .one (.sl edT L)] (.tup [.one (.frs (.int .i64) (playN R L)), iV (chkEds R L)]) true := by
  refine Fn.flat ?_ rfl
  refine fn_of false [(43, sp43), (88, sp88), (133, sp133)] [fb95, fb132] h33 3 Proofs.Tryd.f33 ⟨so43, so88, so133, trivial⟩ ⟨⟨by kernel_rfl, by kernel_rfl, _, rfl, by kernel_rfl⟩, ⟨by kernel_rfl, by kernel_rfl, _, rfl, by kernel_rfl⟩, trivial⟩ (by kernel_rfl) rfl (by kernel_rfl) rfl rfl rfl ?_
  rw [vc33]
  try simp only [splitB_iff, -eq_self]
  refine ⟨hl, hR, hL, fun h => ?_, fun h => ?_⟩
  · have h' : chkEds R L ≠ 0 := by simpa using h
    unfold playN
    rw [if_neg h']
    exact ⟨rfl, rfl, trivial⟩
  · have h' : chkEds R L = 0 := by simpa using h
    have hk := chkEds_zero.1 h'
    have hn := lenL_nn hk
    have hbig := hk.big
    have hN : begN L L.length = lenL L := rfl
    have hP : plTo L L.length = ls L := rfl
    have hrl : ∀ nm : List UInt8, Option.getD (U.mapGet .str (.pair .str (.pair (.int .i64) (.sl (.int .i64)))) (mapR R R.length) nm) r0 = rlOf R nm := rlM_eq (rs_nodup hk.rs)
    simp only [hN, hP, hrl]
    refine ⟨hl, hk.eds, ⟨0, Nat.zero_le _, rfl, trivial, rfl, trivial, trivial, trivial, trivial, trivial, trivial, trivial⟩, fun g hg => ⟨fun hlt => ?_, fun hge => ?_⟩⟩
    · have hlt' : (g : Int) < lenL L := of_decide_eq_true hlt
      have ht := takes_ok hk (show (0 : Int) ≤ g by omega) hlt'
      generalize hts : takesN (ls L) (g : Int) = ts at *
      refine ⟨hk.pls' (by omega) hlt', ⟨by omega, hk.frame hlt'⟩, ⟨0, Nat.zero_le _, rfl, rfl, rfl, trivial, trivial, trivial, trivial, trivial, trivial, trivial, trivial, trivial, trivial⟩, fun j hj => ⟨fun hjl => ?_, fun hjg => ?_⟩⟩
      · have hjl' : j < ts.length := by simpa using hjl
        have hm := mix_bd hk.rs ht.2 j (by omega) (by omega)
        have hx := ht.2 _ (getD_mem (d := tk0) hjl')
        have hs := mixTo_succ (rs_nodup hk.rs) ts j
        have hB : nB j ≤ 131070000 ∧ dB j ≤ 2000 := by
          have : j = 0 ∨ j = 1 := by omega
          rcases this with rfl | rfl <;> decide
        have hc := take_check hk.rs hx
        have hst := mix_step hB.1 hB.2 ⟨hm.n0, hm.n1⟩ ⟨hm.d0, hm.d1⟩ hc.2 hx.num hx.den
        have hr := reel_bd hk.rs (ts.getD j tk0).1
        have h1 := hx.lo
        have h2 := hx.hi
        refine ⟨by omega, hst.1, by simp only [fits]; omega, hc.1, hst.2.1, hst.2.2.1, hst.2.2.2.1, hst.2.2.2.2.1, by simp only [fits]; omega, j + 1, hjl', by omega, by simp, ?_, ?_, trivial, trivial, trivial, trivial, trivial, trivial, trivial, trivial, trivial, trivial⟩
        · rw [hs]
        · rw [hs]
      · have hjg' : ¬ j < ts.length := by simpa using hjg
        have hjj : j = ts.length := by have : j ≤ ts.length := hj
                                       omega
        have hm := mix_bd hk.rs ht.2 j (by omega) (by omega)
        have hB : nB j ≤ 524280000000 ∧ dB j ≤ 4000000 := by
          have : j = 0 ∨ j = 1 ∨ j = 2 := by omega
          rcases this with rfl | rfl | rfl <;> decide
        have n0 := hm.n0
        have n1 := hm.n1
        have d0 := hm.d0
        have d1 := hm.d1
        have q1 := Int.ediv_nonneg (a := 2 * (mixTo (mapR R R.length) ts j).1 + (mixTo (mapR R R.length) ts j).2) (b := 2 * (mixTo (mapR R R.length) ts j).2) (by omega) (by omega)
        have q2 := Int.ediv_le_self (a := 2 * (mixTo (mapR R R.length) ts j).1 + (mixTo (mapR R R.length) ts j).2) (2 * (mixTo (mapR R R.length) ts j).2) (by omega)
        refine ⟨by simp only [fits]; omega, by simp only [fits]; omega, by simp only [fits]; omega, ⟨by omega, by omega, by simp only [fits]; omega⟩, by simp only [room, List.length_map, List.length_range]; omega, by simp only [fits]; omega, g + 1, by show g + 1 ≤ _; omega, by omega, by simp, trivial, ?_, trivial, trivial, trivial, trivial, trivial, trivial, trivial⟩
        rw [map_range, hts, hjj]
        rfl
    · have hge' : ¬ (g : Int) < lenL L := of_decide_eq_false hge
      have : g = (lenL L).toNat := by have : g ≤ (lenL L).toNat := hg
                                      omega
      subst this
      unfold playN
      rw [if_pos h', h']
      exact ⟨rfl, rfl, trivial⟩
theorem so33_ : SpecOk P1 gl1 33 sp33 := by
  intro vs ps r h hp
  simp only [sp33] at h
  split at h
  · cases h; exact fn33 _ _ (hp _ (.head _)) (hp _ (.tail _ (.head _))) (hp _ (.tail _ (.tail _ (.head _))))
  · cases h
theorem so33 : Sp1 33 sp33 := ⟨so33_, Proofs.Tryd.f33, _, by kernel_rfl, rfl, by kernel_rfl⟩

theorem fn41 (R : List Rl) (L : List Ed) (i by_ : Int) (hl : R.length ≤ 1000000000) (hR : ∀ r ∈ R, r.2.2.length ≤ 1000000) (hL : L.length ≤ 1000000000) : Fn P1 gl1 41 [.one (.sl rlT R), .one (.sl edT L), iV i, iV by_] (.tup [.one (.frs edT (chgL R L i by_ 1 rollL)), iV (chgE R L i by_ 1 rollL)]) true := by
  refine Fn.flat ?_ rfl
  refine fn_of false [(43, sp43), (79, sp79), (122, sp122), (78, sp78)] [fb99, fb100, fb137, fb136] h0 3 Proofs.Tryd.f41 ⟨so43, so79, so122, so78, trivial⟩ ⟨⟨by kernel_rfl, by kernel_rfl, _, rfl, by kernel_rfl⟩, ⟨by kernel_rfl, by kernel_rfl, _, rfl, by kernel_rfl⟩, ⟨by kernel_rfl, by kernel_rfl, _, rfl, by kernel_rfl⟩, ⟨by kernel_rfl, by kernel_rfl, _, rfl, by kernel_rfl⟩, trivial⟩ (by kernel_rfl) rfl (by kernel_rfl) rfl rfl rfl ?_
  rw [vc41]
  try simp only [splitB_iff, -eq_self]
  simp only [U.copyL_all (show L.length = L.length from rfl)]
  simp only [trim_fold, front_fold]
  refine ⟨hl, hR, hL, fun h => ?_, fun h => ?_⟩
  · have := chg_bad (i := i) (b := by_) (least := 1) (g := rollL) (show chkEds R L ≠ 0 by simpa using h)
    exact ⟨this.1, this.2, trivial⟩
  · have h' : chkEds R L = 0 := by simpa using h
    rw [chkCh_eq h']
    refine ⟨by decide, fun h2 => ?_, fun h2 => ?_⟩
    · have := chg_err (g := rollL) (show chkCh R L i by_ 1 ≠ 0 by simpa using h2)
      exact ⟨this.1, this.2, trivial⟩
    · have h2' : chkCh R L i by_ 1 = 0 := by simpa using h2
      obtain ⟨hk, hi, hb⟩ := chkCh_zero (by decide) h2'
      obtain ⟨k1, k2⟩ := chg_ok (g := rollL) h2'
      have hlen := hk.len
      have e1 : (i - 1).toNat = i.toNat - 1 := by omega
      have g1 := hk.eds.2 _ (getD_mem (d := e0) (show i.toNat - 1 < L.length by omega))
      have g2 := hk.eds.2 _ (getD_mem (d := e0) (show i.toNat < L.length by omega))
      have g3 : ((trimL L (i.toNat - 1) by_).getD i.toNat e0) = L.getD i.toNat e0 := by
        rw [trimL_get _ _ _ _ (by omega), if_neg (by omega)]
      rw [e1]
      simp only [roll_fold, trimL_len, rollL_len, g3]
      refine ⟨by omega, by simp only [room]; omega, by omega, by simp only [fits]; omega, by omega, by omega, by simp only [fits]; omega, by omega, by omega, by omega, by omega, by simp only [fits]; omega, by omega, by omega, hl, hR, hL, fun h3 => ?_, fun h3 => ?_⟩
      · have := k1 (by simpa using h3)
        exact ⟨this.1, this.2, trivial⟩
      · have := k2 (by simpa using h3)
        exact ⟨this.1, this.2, trivial⟩
theorem so41_ : SpecOk P1 gl1 41 sp41 := by
  intro vs ps r h hp
  simp only [sp41] at h
  split at h
  · cases h; exact fn41 _ _ _ _ (hp _ (.head _)) (hp _ (.tail _ (.head _))) (hp _ (.tail _ (.tail _ (.head _))))
  · cases h
theorem so41 : Sp1 41 sp41 := ⟨so41_, Proofs.Tryd.f41, _, by kernel_rfl, rfl, by kernel_rfl⟩

end Go.Sx

/- Plain functions and hints. -/
namespace Go.Sx.U
def letB (n : Int) : Bool := bif (bif decide (65 ≤ n) then decide (n ≤ 90) else false) then true else (bif decide (97 ≤ n) then decide (n ≤ 122) else false)
def digB (n : Int) : Bool := bif decide (48 ≤ n) then decide (n ≤ 57) else false
def hasB (r : Rl) (f : Int) : Bool := bif decide (r.2.1 ≤ f) then decide (f < r.2.1 + (r.2.2.length : Int)) else false
def findN (R : List Rl) (nm : List UInt8) : Int := if idxN nm R < R.length then (idxN nm R : Int) else -1
def startsL (L : List Ed) : List Int := (List.range L.length).map (begN L)
/-- The edit that is heard at a frame; -1, if there is none. -/
def sndI (L : List Ed) (fr : Int) : Nat → Int
  | 0 => -1
  | i + 1 => if begN L i + (L.getD i e0).2.2.2.2 ≤ fr then (i : Int) else sndI L fr i
def shortR (r : Rl) : Bool := decide (r.1.length ≤ 40) && (decide (r.2.2.length ≤ 20) || decide (r.2.2.length = 257))
def shortE (L : List Ed) : Bool := (L.all fun x => decide (x.1.length ≤ 40)) && (decide (L.length ≤ 6) || decide (L.length = 17))
def shortB (R : List Rl) (L : List Ed) : Bool := (R.all shortR) && ((decide (R.length ≤ 4) || decide (R.length = 9)) && shortE L)
/-- A frame at which an edit is heard that its reel does not have. -/
def badH (R : List Rl) (L : List Ed) (k t : Nat) : Prop := sndI L t L.length = (k : Int) ∧ hasB (rlOf R (L.getD k e0).1) ((L.getD k e0).2.1 + (t : Int) - begN L k) = false
end Go.Sx.U
namespace Go.Sx
open U
def strOf (s : St) (t : Nat) : Option (List UInt8) := match lookT s.tm t with
  | some (.val (.one (.str l))) => some l
  | _ => none
/-- A loop that counts up to a number. -/
def hCt (s : St) (keep : List Nat) (ti n : Nat) (J : Nat → Prop) : Option LInv := some ⟨Nat, fun i => s.at keep [tI ti i], fun i => i ≤ n ∧ J i, fun i => n - i⟩
def rlAt (s : St) (t : Nat) : Option Rl := match ptrId s t with
  | some b => match lookO s.ob b with
    | some (.box [.one (.str nm), .one (.int .i64 f), .one (.sl (.int .i64) l)]) => some (nm, f, l)
    | _ => none
  | none => none
def h134 : Hints := ⟨fun f k s => match f, k with
  | 134, 4 => match strOf s 0 with
    | some l => hCt s [0] 3 (List.length l) fun i => 1 ≤ i ∧ ∀ j, j < i → nameAt l j = true
    | _ => none
  | _, _ => none, 0⟩
def h37 : Hints := ⟨fun f k s => match f, k with
  | 37, 9 => match rlAt s 1 with
    | some (_, _, l) => hCt s [1] 4 (List.length l) fun i => upTo (fun j => within (List.getD l j 0) 0 65535) i = 0
    | _ => none
  | _, _ => none, 0⟩
def h83 : Hints := ⟨fun f k s => match f, k with
  | 83, 2 => match listAs s 0 rlT, strOf s 1 with
    | some R, some nm => hCt s [0, 1] 5 (List.length R) fun i => i ≤ idxN nm R
    | _, _ => none
  | _, _ => none, 0⟩
def h82 : Hints := ⟨fun f k s => match f, k with
  | 82, 4 => match listAs s 0 rlT with
    | some R => hCt s [0] 3 (List.length R) fun i => upTo (chkRl R) i = 0
    | _ => none
  | _, _ => none, 0⟩
def h85 : Hints := ⟨fun f k s => match f, k with
  | 85, 4 => match listAs s 0 edT with
    | some L => some ⟨Nat, fun i => ⟨[tI 6 i, tI 5 (begN L i), (4, .val (.one (.own s.nx)))] ++ keepT [0] s.tm, (s.nx, some (.row (.int .i64) ((List.range i).map (begN L)))) :: lessO s [4], s.nx + 1, s.lr⟩, fun i => i ≤ List.length L, fun i => List.length L - i⟩
    | _ => none
  | _, _ => none, 0⟩
def h86 : Hints := ⟨fun f k s => match f, k with
  | 86, 4 => match listAs s 0 edT, intOfT s 1 with
    | some L, some fr => some ⟨Nat, fun i => s.at [0, 1, 5] [tI 8 i, tI 7 (sndI L fr i)], fun i => i ≤ List.length L, fun i => List.length L - i⟩
    | _, _ => none
  | _, _ => none, 0⟩
def h81 : Hints := ⟨fun f k s => match f, k with
  | 81, 2 => match listAs s 0 edT with
    | some L => hCt s [0] 3 (List.length L) fun i => ∀ j, j < i → (List.getD L j e0).1.length ≤ 40
    | _ => none
  | _, _ => none, 0⟩
def h24 : Hints := ⟨fun f k s => match f, k with
  | 24, 2 => match listAs s 0 rlT with
    | some R => hCt s [0, 1] 5 (List.length R) fun i => ∀ j, j < i → shortR (List.getD R j r0) = true
    | _ => none
  | _, _ => none, 0⟩
def h25 : Hints := ⟨fun f k s => match f, k with
  | 25, 7 => match listAs s 0 rlT, listAs s 1 edT with
    | some R, some L => hCt s [0, 1] 6 (List.length L) fun i => upTo (chkEd R L) i = 0
    | _, _ => none
  | 25, 26 => match listAs s 1 edT with
    | some L => some ⟨Nat, fun i => s.at [0, 1, 10, 11] [tI 12 i], fun i => 1 ≤ i ∧ (i = 1 ∨ i ≤ List.length L) ∧ ∀ k, k < i → k < List.length L → ordE (ls L) (lenL L) k = 0, fun i => List.length L - i⟩
    | _ => none
  | 25, 31 => match listAs s 0 rlT, listAs s 1 edT with
    | some R, some L => hCt s [0, 1, 10, 11] 13 (List.length L) fun i => ∀ k t : Nat, k < i → (t : Int) < lenL L → ¬ badH R L k t
    | _, _ => none
  | 25, 34 => match listAs s 0 rlT, listAs s 1 edT, intOfT s 13 with
    | some R, some L, some i => hCt s [0, 1, 10, 11, 13] 14 (lenL L).toNat fun n => ∀ t : Nat, t < n → ¬ badH R L i.toNat t
    | _, _, _ => none
  | _, _ => none, 0⟩
end Go.Sx
namespace Go.Sx
open U
def sp146 : FSpec := ⟨fun vs => match vs with
  | [.one (.int .u8 n)] => some ([], .val (bV (letB n)))
  | _ => none, true⟩
def sp147 : FSpec := ⟨fun vs => match vs with
  | [.one (.int .u8 n)] => some ([], .val (bV (digB n)))
  | _ => none, true⟩
def sp134 : FSpec := ⟨fun vs => match vs with
  | [.one (.str l)] => some ([List.length l ≤ 1000000000], .val (bV (isName l)))
  | _ => none, true⟩
def sp96 : FSpec := ⟨fun vs => match vs with
  | [.one (.str l)] => some ([List.length l ≤ 1000000000], .val (iV (whenE (!isName l) 8)))
  | _ => none, true⟩
def sp37 : FSpec := ⟨fun vs => match vs with
  | [.agg [.one (.str nm), .one (.int .i64 f), .one (.sl (.int .i64) l)]] => some ([List.length nm ≤ 1000000000, List.length l ≤ 1000000], .val (iV (checkReel nm f l)))
  | _ => none, true⟩
def sp83 : FSpec := ⟨fun vs => match vs with
  | [.one (.sl (.pair .str (.pair (.int .i64) (.sl (.int .i64)))) R), .one (.str nm)] => some ([List.length R ≤ 1000000000], .val (iV (findN R nm)))
  | _ => none, true⟩
def sp82 : FSpec := ⟨fun vs => match vs with
  | [.one (.sl (.pair .str (.pair (.int .i64) (.sl (.int .i64)))) R)] => some ([List.length R ≤ 1000000000, ∀ r ∈ (show List Rl from R), List.length r.2.2 ≤ 1000000 ∧ List.length r.1 ≤ 1000000000], .val (iV (chkRs R)))
  | _ => none, true⟩
def sp84 : FSpec := ⟨fun vs => match vs with
  | [.agg [.one (.str nm), .one (.int .i64 f), .one (.sl (.int .i64) l)], .one (.int .i64 n)] => some ([fits .i64 (f + (List.length l : Int))], .val (bV (hasB (nm, f, l) n)))
  | _ => none, true⟩
def sp85 : FSpec := ⟨fun vs => match vs with
  | [.one (.sl (.pair .str (.pair (.int .i64) (.pair (.int .i64) (.pair (.int .i64) (.int .i64))))) L)] => some ([EdsIn L], .tup [.one (.frs (.int .i64) (startsL L)), iV (lenL L)])
  | _ => none, true⟩
def sp86 : FSpec := ⟨fun vs => match vs with
  | [.one (.sl (.pair .str (.pair (.int .i64) (.pair (.int .i64) (.pair (.int .i64) (.int .i64))))) L), .one (.int .i64 fr)] => some ([EdsIn L, ∀ x ∈ (show List Ed from L), -100 ≤ x.2.2.2.2 ∧ x.2.2.2.2 ≤ 100], .val (iV (sndI L fr (List.length L))))
  | _ => none, true⟩
def sp80 : FSpec := ⟨fun vs => match vs with
  | [.agg [.one (.str nm), .one (.int .i64 f), .one (.sl (.int .i64) l)]] => some ([], .val (bV (shortR (nm, f, l))))
  | _ => none, true⟩
def sp81 : FSpec := ⟨fun vs => match vs with
  | [.one (.sl (.pair .str (.pair (.int .i64) (.pair (.int .i64) (.pair (.int .i64) (.int .i64))))) L)] => some ([List.length L ≤ 9223372036854775807], .val (bV (shortE L)))
  | _ => none, true⟩
def sp24 : FSpec := ⟨fun vs => match vs with
  | [.one (.sl (.pair .str (.pair (.int .i64) (.sl (.int .i64)))) R), .one (.sl (.pair .str (.pair (.int .i64) (.pair (.int .i64) (.pair (.int .i64) (.int .i64))))) L)] => some ([List.length R ≤ 9223372036854775807, List.length L ≤ 9223372036854775807], .val (bV (shortB R L)))
  | _ => none, true⟩
def sp25 : FSpec := ⟨fun vs => match vs with
  | [.one (.sl (.pair .str (.pair (.int .i64) (.sl (.int .i64)))) R), .one (.sl (.pair .str (.pair (.int .i64) (.pair (.int .i64) (.pair (.int .i64) (.int .i64))))) L)] => some ([List.length R ≤ 1000000000, ∀ r ∈ (show List Rl from R), List.length r.2.2 ≤ 1000000 ∧ List.length r.1 ≤ 1000000000, List.length L ≤ 1000000000, ∀ x ∈ (show List Ed from L), fits .i64 x.2.2.1], .val (iV (chkEds R L)))
  | _ => none, true⟩
end Go.Sx

/- What the engine asks, written out (printed by a program). -/
namespace Go.Sx
open U
theorem vc146 (n : Int) : exF (env false [] []) h0 0 146 Proofs.Tryd.f146 [uV n] (.val (bV (letB n))) = ((bif bif decide ((65 : Int) ≤ n) then decide (n ≤ (90 : Int)) else false then true else bif decide ((97 : Int) ≤ n) then decide (n ≤ (122 : Int)) else false) = letB n ∧ True) := by
  kernel_rfl
theorem vc147 (n : Int) : exF (env false [] []) h0 0 147 Proofs.Tryd.f147 [uV n] (.val (bV (digB n))) = ((bif decide ((48 : Int) ≤ n) then decide (n ≤ (57 : Int)) else false) = digB n ∧ True) := by
  kernel_rfl
theorem vc134 (l : List UInt8) : exF (env false [(146, sp146), (147, sp147)] []) h134 0 134 Proofs.Tryd.f134 [sV l] (.val (bV (isName l))) = (let q1 := (↑(List.length l) : Int); ((bif q1 == (0 : Int) then true else decide ((24 : Int) < q1)) = false → (0 : Int) ≤ (0 : Int) ∧ (0 : Int) < q1) ∧ splitB (bif bif q1 == (0 : Int) then true else decide ((24 : Int) < q1) then true else !letB (↑(UInt8.toNat (List.getD l (0 : Nat) (0 : UInt8))) : Int)) (false = isName l ∧ True) ((∃ (g : Nat), (g ≤ List.length l ∧ (1 : Nat) ≤ g ∧ ∀ (j : Nat), j < g → nameAt l j = true) ∧ (1 : Int) = (↑g : Int) ∧ l = l ∧ True) ∧ ∀ (g : Nat), let q0 := (↑(UInt8.toNat (List.getD l g (0 : UInt8))) : Int); (g ≤ List.length l ∧ (1 : Nat) ≤ g ∧ ∀ (j : Nat), j < g → nameAt l j = true) → splitB (decide ((↑g : Int) < q1)) (((0 : Int) ≤ (↑g : Int) ∧ (↑g : Int) < q1) ∧ ((!letB q0) = true → (0 : Int) ≤ (↑g : Int) ∧ (↑g : Int) < q1) ∧ ((bif !letB q0 then !digB q0 else false) = true → (0 : Int) ≤ (↑g : Int) ∧ (↑g : Int) < q1) ∧ splitB (bif bif !letB q0 then !digB q0 else false then q0 != (95 : Int) else false) (false = isName l ∧ True) (fits IntKind.i64 ((↑g : Int) + (1 : Int)) ∧ ∃ (g' : Nat), (g' ≤ List.length l ∧ (1 : Nat) ≤ g' ∧ ∀ (j : Nat), j < g' → nameAt l j = true) ∧ List.length l - g' < List.length l - g ∧ (↑g : Int) + (1 : Int) = (↑g' : Int) ∧ l = l ∧ True)) (true = isName l ∧ True))) := by
  kernel_rfl
theorem vc96 (l : List UInt8) : exF (env false [(134, sp134), (97, sp97)] []) h0 0 96 Proofs.Tryd.f96 [sV l] (.val (iV (whenE (!isName l) 8))) = (List.length l ≤ (1000000000 : Nat) ∧ whenE (!isName l) (8 : Int) = whenE (!isName l) (8 : Int) ∧ True) := by
  kernel_rfl
theorem vc37 (nm : List UInt8) (f : Int) (l : List Int) : exF (env false [(96, sp96), (46, sp46), (44, sp44), (97, sp97)] []) h37 0 37 Proofs.Tryd.f37 [rV nm f l] (.val (iV (checkReel nm f l))) = (let q0 := (↑(List.length l) : Int); let q1 := (10000000 : Int); List.length nm ≤ (1000000000 : Nat) ∧ (2 : Nat) ≤ (1000000000 : Nat) ∧ splitB (first [whenE (!isName nm) (8 : Int), within f (0 : Int) q1] != (0 : Int)) (first [whenE (!isName nm) (8 : Int), within f (0 : Int) q1] = checkReel nm f l ∧ True) (splitB (q0 == (0 : Int)) ((12 : Int) = checkReel nm f l ∧ True) (splitB (decide ((256 : Int) < q0)) ((5 : Int) = checkReel nm f l ∧ True) ((∃ (g : Nat), (g ≤ List.length l ∧ upTo (fun (j : Nat) => within (List.getD l j (0 : Int)) (0 : Int) (65535 : Int)) g = (0 : Int)) ∧ (0 : Int) = (↑g : Int) ∧ [whenE (!isName nm) (8 : Int), within f (0 : Int) q1] = [whenE (!isName nm) (8 : Int), within f (0 : Int) q1] ∧ nm = nm ∧ f = f ∧ l = l ∧ True) ∧ ∀ (g : Nat), g ≤ List.length l ∧ upTo (fun (j : Nat) => within (List.getD l j (0 : Int)) (0 : Int) (65535 : Int)) g = (0 : Int) → splitB (decide ((↑g : Int) < q0)) (((0 : Int) ≤ (↑g : Int) ∧ (↑g : Int) < q0) ∧ splitB (within (List.getD l g (0 : Int)) (0 : Int) (65535 : Int) != (0 : Int)) (within (List.getD l g (0 : Int)) (0 : Int) (65535 : Int) = checkReel nm f l ∧ True) (fits IntKind.i64 ((↑g : Int) + (1 : Int)) ∧ ∃ (g' : Nat), (g' ≤ List.length l ∧ upTo (fun (j : Nat) => within (List.getD l j (0 : Int)) (0 : Int) (65535 : Int)) g' = (0 : Int)) ∧ List.length l - g' < List.length l - g ∧ (↑g : Int) + (1 : Int) = (↑g' : Int) ∧ [whenE (!isName nm) (8 : Int), within f (0 : Int) q1] = [whenE (!isName nm) (8 : Int), within f (0 : Int) q1] ∧ nm = nm ∧ f = f ∧ l = l ∧ True)) (fits IntKind.i64 (f + q0) ∧ whenE (decide (q1 < f + q0)) (4 : Int) = checkReel nm f l ∧ True))))) := by
  kernel_rfl
theorem vc83 (R : List Rl) (nm : List UInt8) : exF (env false [] []) h83 0 83 Proofs.Tryd.f83 [.one (.sl rlT R), sV nm] (.val (iV (findN R nm))) = ((∃ (g : Nat), (g ≤ List.length R ∧ g ≤ idxN nm R) ∧ (0 : Int) = (↑g : Int) ∧ R = R ∧ nm = nm ∧ True) ∧ ∀ (g : Nat), g ≤ List.length R ∧ g ≤ idxN nm R → splitB (decide ((↑g : Int) < (↑(List.length R) : Int))) (((0 : Int) ≤ (↑g : Int) ∧ (↑g : Int) < (↑(List.length R) : Int)) ∧ splitB ((List.getD R g r0).1 == nm) ((↑g : Int) = findN R nm ∧ True) (fits IntKind.i64 ((↑g : Int) + (1 : Int)) ∧ ∃ (g' : Nat), (g' ≤ List.length R ∧ g' ≤ idxN nm R) ∧ List.length R - g' < List.length R - g ∧ (↑g : Int) + (1 : Int) = (↑g' : Int) ∧ R = R ∧ nm = nm ∧ True)) ((-1 : Int) = findN R nm ∧ True)) := by
  kernel_rfl
theorem vc82 (R : List Rl) : exF (env false [(37, sp37), (83, sp83)] []) h82 0 82 Proofs.Tryd.f82 [.one (.sl rlT R)] (.val (iV (chkRs R))) = (let q1 := (↑(List.length R) : Int); splitB (decide ((8 : Int) < q1)) ((5 : Int) = chkRs R ∧ True) ((∃ (g : Nat), (g ≤ List.length R ∧ upTo (chkRl R) g = (0 : Int)) ∧ (0 : Int) = (↑g : Int) ∧ R = R ∧ True) ∧ ∀ (g : Nat), let q0 := (List.getD R g r0); g ≤ List.length R ∧ upTo (chkRl R) g = (0 : Int) → splitB (decide ((↑g : Int) < q1)) (((0 : Int) ≤ (↑g : Int) ∧ (↑g : Int) < q1) ∧ List.length q0.1 ≤ (1000000000 : Nat) ∧ List.length q0.2.2 ≤ (1000000 : Nat) ∧ splitB (checkReel q0.1 q0.2.1 q0.2.2 != (0 : Int)) (checkReel q0.1 q0.2.1 q0.2.2 = chkRs R ∧ True) (((0 : Int) ≤ (↑g : Int) ∧ (↑g : Int) < q1) ∧ List.length R ≤ (1000000000 : Nat) ∧ splitB (findN R q0.1 != (↑g : Int)) ((9 : Int) = chkRs R ∧ True) (fits IntKind.i64 ((↑g : Int) + (1 : Int)) ∧ ∃ (g' : Nat), (g' ≤ List.length R ∧ upTo (chkRl R) g' = (0 : Int)) ∧ List.length R - g' < List.length R - g ∧ (↑g : Int) + (1 : Int) = (↑g' : Int) ∧ R = R ∧ True))) ((0 : Int) = chkRs R ∧ True))) := by
  kernel_rfl
theorem vc84 (nm : List UInt8) (f : Int) (l : List Int) (n : Int) : exF (env false [] []) h0 0 84 Proofs.Tryd.f84 [rV nm f l, iV n] (.val (bV (hasB (nm, f, l) n))) = ((decide (f ≤ n) = true → fits IntKind.i64 (f + (↑(List.length l) : Int))) ∧ (bif decide (f ≤ n) then decide (n < f + (↑(List.length l) : Int)) else false) = hasB (nm, f, l) n ∧ True) := by
  kernel_rfl
theorem vc85 (L : List Ed) : exF (env false [] []) h85 0 85 Proofs.Tryd.f85 [.one (.sl edT L)] (.tup [.one (.frs (.int .i64) (startsL L)), iV (lenL L)]) = (let q2 := (List.length L); (∃ (g : Nat), Nat.le g q2 ∧ (0 : Int) = (↑g : Int) ∧ (0 : Int) = begN L g ∧ L = L ∧ List.map (begN L) (List.range g) = [] ∧ True) ∧ ∀ (g : Nat), let q0 := ((0 : Int) ≤ (↑g : Int) ∧ (↑g : Int) < (↑q2 : Int)); let q1 := (List.getD L g e0); Nat.le g q2 → splitB (decide ((↑g : Int) < (↑q2 : Int))) (room (List.length (List.map (begN L) (List.range g)) + (1 : Nat)) (8 : Nat) ∧ q0 ∧ fits IntKind.i64 (begN L g + q1.2.2.1) ∧ q0 ∧ fits IntKind.i64 (begN L g + q1.2.2.1 - q1.2.1) ∧ fits IntKind.i64 ((↑g : Int) + (1 : Int)) ∧ ∃ (g' : Nat), Nat.le g' q2 ∧ List.length L - g' < List.length L - g ∧ (↑g : Int) + (1 : Int) = (↑g' : Int) ∧ begN L g + q1.2.2.1 - q1.2.1 = begN L g' ∧ L = L ∧ List.map (begN L) (List.range g) ++ [begN L g] = List.map (begN L) (List.range g') ∧ True) (List.map (begN L) (List.range g) = startsL L ∧ begN L g = lenL L ∧ True)) := by
  kernel_rfl
theorem vc86 (L : List Ed) (fr : Int) : exF (env false [(85, sp85)] []) h86 0 86 Proofs.Tryd.f86 [.one (.sl edT L), iV fr] (.val (iV (sndI L fr L.length))) = (let q0 := (List.length L); EdsIn L ∧ (∃ (g : Nat), Nat.le g q0 ∧ (0 : Int) = (↑g : Int) ∧ (-1 : Int) = sndI L fr g ∧ L = L ∧ fr = fr ∧ startsL L = startsL L ∧ True) ∧ ∀ (g : Nat), Nat.le g q0 → splitB (decide ((↑g : Int) < (↑q0 : Int))) (((0 : Int) ≤ (↑g : Int) ∧ (↑g : Int) < (↑(List.length (startsL L)) : Int)) ∧ g < List.length (startsL L) ∧ ((0 : Int) ≤ (↑g : Int) ∧ (↑g : Int) < (↑q0 : Int)) ∧ fits IntKind.i64 (List.getD (startsL L) g (0 : Int) + (List.getD L g e0).2.2.2.2) ∧ splitB (decide (List.getD (startsL L) g (0 : Int) + (List.getD L g e0).2.2.2.2 ≤ fr)) (fits IntKind.i64 ((↑g : Int) + (1 : Int)) ∧ ∃ (g' : Nat), Nat.le g' q0 ∧ List.length L - g' < List.length L - g ∧ (↑g : Int) + (1 : Int) = (↑g' : Int) ∧ (↑g : Int) = sndI L fr g' ∧ L = L ∧ fr = fr ∧ startsL L = startsL L ∧ True) (fits IntKind.i64 ((↑g : Int) + (1 : Int)) ∧ ∃ (g' : Nat), Nat.le g' q0 ∧ List.length L - g' < List.length L - g ∧ (↑g : Int) + (1 : Int) = (↑g' : Int) ∧ sndI L fr g = sndI L fr g' ∧ L = L ∧ fr = fr ∧ startsL L = startsL L ∧ True)) (sndI L fr g = sndI L fr q0 ∧ True)) := by
  kernel_rfl
theorem vc80 (nm : List UInt8) (f : Int) (l : List Int) : exF (env false [] []) h0 0 80 Proofs.Tryd.f80 [rV nm f l] (.val (bV (shortR (nm, f, l)))) = ((bif decide ((↑(List.length nm) : Int) ≤ (40 : Int)) then bif decide ((↑(List.length l) : Int) ≤ (20 : Int)) then true else (↑(List.length l) : Int) == (257 : Int) else false) = shortR (nm, f, l) ∧ True) := by
  kernel_rfl
theorem vc81 (L : List Ed) : exF (env false [] []) h81 0 81 Proofs.Tryd.f81 [.one (.sl edT L)] (.val (bV (shortE L))) = (let q0 := (↑(List.length L) : Int); (∃ (g : Nat), (g ≤ List.length L ∧ ∀ (j : Nat), j < g → List.length (List.getD L j e0).1 ≤ (40 : Nat)) ∧ (0 : Int) = (↑g : Int) ∧ L = L ∧ True) ∧ ∀ (g : Nat), (g ≤ List.length L ∧ ∀ (j : Nat), j < g → List.length (List.getD L j e0).1 ≤ (40 : Nat)) → splitB (decide ((↑g : Int) < q0)) (((0 : Int) ≤ (↑g : Int) ∧ (↑g : Int) < q0) ∧ splitB (decide ((40 : Int) < (↑(List.length (List.getD L g e0).1) : Int))) (false = shortE L ∧ True) (fits IntKind.i64 ((↑g : Int) + (1 : Int)) ∧ ∃ (g' : Nat), (g' ≤ List.length L ∧ ∀ (j : Nat), j < g' → List.length (List.getD L j e0).1 ≤ (40 : Nat)) ∧ List.length L - g' < List.length L - g ∧ (↑g : Int) + (1 : Int) = (↑g' : Int) ∧ L = L ∧ True)) ((bif decide (q0 ≤ (6 : Int)) then true else q0 == (17 : Int)) = shortE L ∧ True)) := by
  kernel_rfl
theorem vc24 (R : List Rl) (L : List Ed) : exF (env false [(80, sp80), (81, sp81)] []) h24 0 24 Proofs.Tryd.f24 [.one (.sl rlT R), .one (.sl edT L)] (.val (bV (shortB R L))) = (let q0 := (↑(List.length R) : Int); (∃ (g : Nat), (g ≤ List.length R ∧ ∀ (j : Nat), j < g → shortR (List.getD R j r0) = true) ∧ (0 : Int) = (↑g : Int) ∧ R = R ∧ L = L ∧ True) ∧ ∀ (g : Nat), (g ≤ List.length R ∧ ∀ (j : Nat), j < g → shortR (List.getD R j r0) = true) → splitB (decide ((↑g : Int) < q0)) (((0 : Int) ≤ (↑g : Int) ∧ (↑g : Int) < q0) ∧ splitB (!shortR ((List.getD R g r0).1, (List.getD R g r0).2.1, (List.getD R g r0).2.2)) (false = shortB R L ∧ True) (fits IntKind.i64 ((↑g : Int) + (1 : Int)) ∧ ∃ (g' : Nat), (g' ≤ List.length R ∧ ∀ (j : Nat), j < g' → shortR (List.getD R j r0) = true) ∧ List.length R - g' < List.length R - g ∧ (↑g : Int) + (1 : Int) = (↑g' : Int) ∧ R = R ∧ L = L ∧ True)) (((bif decide (q0 ≤ (4 : Int)) then true else q0 == (9 : Int)) = true → List.length L ≤ (9223372036854775807 : Nat)) ∧ (bif bif decide (q0 ≤ (4 : Int)) then true else q0 == (9 : Int) then shortE L else false) = shortB R L ∧ True)) := by
  kernel_rfl
theorem vc25 (R : List Rl) (L : List Ed) : exF (env false [(82, sp82), (83, sp83), (84, sp84), (85, sp85), (86, sp86), (46, sp46), (44, sp44)] []) h25 0 25 Proofs.Tryd.f25 [.one (.sl rlT R), .one (.sl edT L)] (.val (iV (chkEds R L))) = (let q6 := (↑(List.length L) : Int); let q11 := (↑(List.length (startsL L)) : Int); let q14 := (1000000000 : Nat); let q15 := (↑(List.length R) : Int); List.length R ≤ q14 ∧ (∀ (r : Rl), r ∈ R → List.length r.2.2 ≤ (1000000 : Nat) ∧ List.length r.1 ≤ q14) ∧ splitB (chkRs R != (0 : Int)) (chkRs R = chkEds R L ∧ True) (splitB (decide ((16 : Int) < q6)) ((5 : Int) = chkEds R L ∧ True) ((∃ (g : Nat), (g ≤ List.length L ∧ upTo (chkEd R L) g = (0 : Int)) ∧ (0 : Int) = (↑g : Int) ∧ R = R ∧ L = L ∧ True) ∧ ∀ (g : Nat), let q3 := (List.getD L g e0); let q0 := (List.getD R (Int.toNat (findN R q3.1)) r0); let q2 := (bif decide ((0 : Int) < (↑g : Int)) then decide ((0 : Int) < q3.2.2.2.1) else false); let q4 := (List.getD L (Int.toNat ((↑g : Int) - (1 : Int))) e0); let q20 := (q3.2.2.1 ≤ q3.2.1); let q8 := (bif decide q20 then true else !hasB (q0.1, q0.2.1, q0.2.2) q3.2.1); let q9 := (List.getD R (Int.toNat (findN R q4.1)) r0); let q12 := (q2 = true → (0 : Int) ≤ (↑g : Int) - (1 : Int) ∧ (↑g : Int) - (1 : Int) < q6); let q18 := (q2 = true → fits IntKind.i64 ((↑g : Int) - (1 : Int))); g ≤ List.length L ∧ upTo (chkEd R L) g = (0 : Int) → splitB (decide ((↑g : Int) < q6)) (((0 : Int) ≤ (↑g : Int) ∧ (↑g : Int) < q6) ∧ List.length R ≤ q14 ∧ splitB (decide (findN R q3.1 < (0 : Int))) ((10 : Int) = chkEds R L ∧ True) ((decide q20 = false → (0 : Int) ≤ findN R q3.1 ∧ findN R q3.1 < q15) ∧ (decide q20 = false → fits IntKind.i64 (q0.2.1 + (↑(List.length q0.2.2) : Int))) ∧ (q8 = false → (0 : Int) ≤ findN R q3.1 ∧ findN R q3.1 < q15) ∧ (q8 = false → fits IntKind.i64 (q3.2.2.1 - (1 : Int))) ∧ (q8 = false → fits IntKind.i64 (q0.2.1 + (↑(List.length q0.2.2) : Int))) ∧ splitB (bif bif decide q20 then true else !hasB (q0.1, q0.2.1, q0.2.2) q3.2.1 then true else !hasB (q0.1, q0.2.1, q0.2.2) (q3.2.2.1 - (1 : Int))) ((14 : Int) = chkEds R L ∧ True) (fits IntKind.i64 (q3.2.2.1 - q3.2.1) ∧ (2 : Nat) ≤ q14 ∧ splitB (first [within q3.2.2.2.1 (0 : Int) (q3.2.2.1 - q3.2.1), within q3.2.2.2.2 (-100 : Int) (100 : Int)] != (0 : Int)) (first [within q3.2.2.2.1 (0 : Int) (q3.2.2.1 - q3.2.1), within q3.2.2.2.2 (-100 : Int) (100 : Int)] = chkEds R L ∧ True) (splitB (bif (↑g : Int) == (0 : Int) then bif q3.2.2.2.1 != (0 : Int) then true else q3.2.2.2.2 != (0 : Int) else false) ((21 : Int) = chkEds R L ∧ True) (q18 ∧ q12 ∧ (q2 = true → List.length R ≤ q14) ∧ (q2 = true → (0 : Int) ≤ findN R q4.1 ∧ findN R q4.1 < q15) ∧ q18 ∧ q12 ∧ (q2 = true → fits IntKind.i64 (q4.2.2.1 + q3.2.2.2.1)) ∧ (q2 = true → fits IntKind.i64 (q4.2.2.1 + q3.2.2.2.1 - (1 : Int))) ∧ (q2 = true → fits IntKind.i64 (q9.2.1 + (↑(List.length q9.2.2) : Int))) ∧ splitB (bif bif decide ((0 : Int) < (↑g : Int)) then decide ((0 : Int) < q3.2.2.2.1) else false then !hasB (q9.1, q9.2.1, q9.2.2) (q4.2.2.1 + q3.2.2.2.1 - (1 : Int)) else false) ((16 : Int) = chkEds R L ∧ True) (fits IntKind.i64 ((↑g : Int) + (1 : Int)) ∧ ∃ (g' : Nat), (g' ≤ List.length L ∧ upTo (chkEd R L) g' = (0 : Int)) ∧ List.length L - g' < List.length L - g ∧ (↑g : Int) + (1 : Int) = (↑g' : Int) ∧ R = R ∧ L = L ∧ True)))))) (EdsIn L ∧ splitB (decide ((1024 : Int) < lenL L)) ((4 : Int) = chkEds R L ∧ True) ((∃ (g : Nat), ((1 : Nat) ≤ g ∧ (g = (1 : Nat) ∨ g ≤ List.length L) ∧ ∀ (k : Nat), k < g → k < List.length L → ordE (ls L) (lenL L) k = (0 : Int)) ∧ (1 : Int) = (↑g : Int) ∧ lenL L = lenL L ∧ R = R ∧ L = L ∧ startsL L = startsL L ∧ True) ∧ ∀ (g : Nat), let q10 := ((↑g : Int) - (1 : Int)); let q1 := (List.getD (startsL L) g (0 : Int) + (List.getD L g e0).2.2.2.2 ≤ List.getD (startsL L) (Int.toNat q10) (0 : Int) + (List.getD L (Int.toNat q10) e0).2.2.2.2); let q16 := (List.getD (startsL L) g (0 : Int) + (List.getD L g e0).2.2.2.2); ((1 : Nat) ≤ g ∧ (g = (1 : Nat) ∨ g ≤ List.length L) ∧ ∀ (k : Nat), k < g → k < List.length L → ordE (ls L) (lenL L) k = (0 : Int)) → splitB (decide ((↑g : Int) < q6)) (((0 : Int) ≤ (↑g : Int) ∧ (↑g : Int) < q11) ∧ g < List.length (startsL L) ∧ ((0 : Int) ≤ (↑g : Int) ∧ (↑g : Int) < q6) ∧ fits IntKind.i64 q16 ∧ fits IntKind.i64 q10 ∧ ((0 : Int) ≤ (↑g : Int) - (1 : Int) ∧ (↑g : Int) - (1 : Int) < q11) ∧ Int.toNat q10 < List.length (startsL L) ∧ fits IntKind.i64 q10 ∧ ((0 : Int) ≤ (↑g : Int) - (1 : Int) ∧ (↑g : Int) - (1 : Int) < q6) ∧ fits IntKind.i64 (List.getD (startsL L) (Int.toNat q10) (0 : Int) + (List.getD L (Int.toNat q10) e0).2.2.2.2) ∧ (decide q1 = false → (0 : Int) ≤ (↑g : Int) ∧ (↑g : Int) < q11) ∧ (decide q1 = false → g < List.length (startsL L)) ∧ (decide q1 = false → (0 : Int) ≤ (↑g : Int) ∧ (↑g : Int) < q6) ∧ (decide q1 = false → fits IntKind.i64 q16) ∧ splitB (bif decide q1 then true else decide (lenL L ≤ List.getD (startsL L) g (0 : Int) + (List.getD L g e0).2.2.2.2)) ((11 : Int) = chkEds R L ∧ True) (fits IntKind.i64 ((↑g : Int) + (1 : Int)) ∧ ∃ (g' : Nat), ((1 : Nat) ≤ g' ∧ (g' = (1 : Nat) ∨ g' ≤ List.length L) ∧ ∀ (k : Nat), k < g' → k < List.length L → ordE (ls L) (lenL L) k = (0 : Int)) ∧ List.length L - g' < List.length L - g ∧ (↑g : Int) + (1 : Int) = (↑g' : Int) ∧ lenL L = lenL L ∧ R = R ∧ L = L ∧ startsL L = startsL L ∧ True)) ((∃ (g : Nat), (g ≤ List.length L ∧ ∀ (k t : Nat), k < g → (↑t : Int) < lenL L → ¬badH R L k t) ∧ (0 : Int) = (↑g : Int) ∧ lenL L = lenL L ∧ R = R ∧ L = L ∧ startsL L = startsL L ∧ True) ∧ ∀ (g : Nat), let q17 := (List.getD L g e0); let q7 := (List.getD R (Int.toNat (findN R q17.1)) r0); (g ≤ List.length L ∧ ∀ (k t : Nat), k < g → (↑t : Int) < lenL L → ¬badH R L k t) → splitB (decide ((↑g : Int) < q6)) ((∃ (g_1 : Nat), (g_1 ≤ Int.toNat (lenL L) ∧ ∀ (t : Nat), t < g_1 → ¬badH R L g t) ∧ (0 : Int) = (↑g_1 : Int) ∧ (↑g : Int) = (↑g : Int) ∧ lenL L = lenL L ∧ R = R ∧ L = L ∧ startsL L = startsL L ∧ True) ∧ ∀ (g_1 : Nat), let q5 := (sndI L (↑g_1 : Int) (List.length L) == (↑g : Int)); let q13 := (q17.2.1 + (↑g_1 : Int) - List.getD (startsL L) g (0 : Int)); let q19 := (q5 = true → (0 : Int) ≤ (↑g : Int) ∧ (↑g : Int) < q6); (g_1 ≤ Int.toNat (lenL L) ∧ ∀ (t : Nat), t < g_1 → ¬badH R L g t) → splitB (decide ((↑g_1 : Int) < lenL L)) (EdsIn L ∧ (∀ (x : Ed), x ∈ L → (-100 : Int) ≤ x.2.2.2.2 ∧ x.2.2.2.2 ≤ (100 : Int)) ∧ q19 ∧ (q5 = true → List.length R ≤ q14) ∧ (q5 = true → (0 : Int) ≤ findN R q17.1 ∧ findN R q17.1 < q15) ∧ q19 ∧ (q5 = true → fits IntKind.i64 (q17.2.1 + (↑g_1 : Int))) ∧ (q5 = true → (0 : Int) ≤ (↑g : Int) ∧ (↑g : Int) < q11) ∧ (q5 = true → g < List.length (startsL L)) ∧ (q5 = true → fits IntKind.i64 q13) ∧ (q5 = true → fits IntKind.i64 (q7.2.1 + (↑(List.length q7.2.2) : Int))) ∧ splitB (bif sndI L (↑g_1 : Int) (List.length L) == (↑g : Int) then !hasB (q7.1, q7.2.1, q7.2.2) q13 else false) ((16 : Int) = chkEds R L ∧ True) (fits IntKind.i64 ((↑g_1 : Int) + (1 : Int)) ∧ ∃ (g' : Nat), (g' ≤ Int.toNat (lenL L) ∧ ∀ (t : Nat), t < g' → ¬badH R L g t) ∧ Int.toNat (lenL L) - g' < Int.toNat (lenL L) - g_1 ∧ (↑g_1 : Int) + (1 : Int) = (↑g' : Int) ∧ (↑g : Int) = (↑g : Int) ∧ lenL L = lenL L ∧ R = R ∧ L = L ∧ startsL L = startsL L ∧ True)) (fits IntKind.i64 ((↑g : Int) + (1 : Int)) ∧ ∃ (g' : Nat), (g' ≤ List.length L ∧ ∀ (k t : Nat), k < g' → (↑t : Int) < lenL L → ¬badH R L k t) ∧ List.length L - g' < List.length L - g ∧ (↑g : Int) + (1 : Int) = (↑g' : Int) ∧ lenL L = lenL L ∧ R = R ∧ L = L ∧ startsL L = startsL L ∧ True)) ((0 : Int) = chkEds R L ∧ True))))))) := by
  kernel_rfl
end Go.Sx

/- Plain laws: the reference's checks of lists of edits. -/
namespace Go.Sx
open U

theorem findN_some {R : List Rl} {nm : List UInt8} (h : idxN nm R < R.length) : findN R nm = (idxN nm R : Int) ∧ R.getD (findN R nm).toNat r0 = rlOf R nm := by
  have e : findN R nm = (idxN nm R : Int) := by unfold findN; rw [if_pos h]
  exact ⟨e, by rw [e]; rfl⟩
theorem findN_none {R : List Rl} {nm : List UInt8} (h : ¬ idxN nm R < R.length) : findN R nm = -1 := by unfold findN; rw [if_neg h]
theorem hasB_iff (r : Rl) (f : Int) : hasB r f = true ↔ r.2.1 ≤ f ∧ f < endR r := by
  unfold hasB endR
  rw [bcond_r]
  simp only [Bool.and_eq_true, decide_eq_true_eq]
theorem hasB_not (r : Rl) (f : Int) : hasB r f = false ↔ ¬ (r.2.1 ≤ f ∧ f < endR r) := by
  rw [← Bool.not_eq_true, hasB_iff]

theorem chkEds_rs {R : List Rl} {L : List Ed} (h : chkRs R ≠ 0) : chkRs R = chkEds R L := by
  unfold chkEds; rw [if_pos h]
theorem chkEds_many {R : List Rl} {L : List Ed} (h : chkRs R = 0) (h2 : 16 < L.length) : 5 = chkEds R L := by
  unfold chkEds; rw [if_neg (by simpa using h), if_pos h2]
theorem chkEds_at {R : List Rl} {L : List Ed} {g : Nat} {e : Int} (h : chkRs R = 0) (h2 : ¬ 16 < L.length) (h3 : upTo (chkEd R L) g = 0) (hg : g < L.length) (he : chkEd R L g = e) (h0 : e ≠ 0) : e = chkEds R L := by
  have := upTo_eq h3 (by rw [he]; exact h0) hg
  unfold chkEds
  rw [if_neg (by simpa using h), if_neg h2, if_pos (by rw [this, he]; exact h0), this, he]
theorem chkEds_big {R : List Rl} {L : List Ed} (h : chkRs R = 0) (h2 : ¬ 16 < L.length) (h3 : upTo (chkEd R L) L.length = 0) (h4 : 1024 < lenL L) : 4 = chkEds R L := by
  unfold chkEds
  rw [if_neg (by simpa using h), if_neg h2, if_neg (by simpa using h3), if_pos h4]
theorem chkEds_ord {R : List Rl} {L : List Ed} {g : Nat} (h : chkRs R = 0) (h2 : ¬ 16 < L.length) (h3 : upTo (chkEd R L) L.length = 0) (h4 : ¬ 1024 < lenL L) (hg : g < L.length) (h5 : ordE (ls L) (lenL L) g ≠ 0) : 11 = chkEds R L := by
  unfold chkEds
  rw [if_neg (by simpa using h), if_neg h2, if_neg (by simpa using h3), if_neg h4, if_pos (fun e => h5 (upTo_zero.1 e g hg))]
theorem chkEds_sp {R : List Rl} {L : List Ed} {g : Nat} (h : chkRs R = 0) (h2 : ¬ 16 < L.length) (h3 : upTo (chkEd R L) L.length = 0) (h4 : ¬ 1024 < lenL L) (h5 : ∀ g, g < L.length → ordE (ls L) (lenL L) g = 0) (hg : g < L.length) (h6 : spE (mapR R R.length) (ls L) (lenL L) g ≠ 0) : 16 = chkEds R L := by
  have key : ∀ n, upTo (spE (mapR R R.length) (ls L) (lenL L)) n = 0 ∨ upTo (spE (mapR R R.length) (ls L) (lenL L)) n = 16 := by
    intro n
    induction n with
    | zero => exact .inl rfl
    | succ n ih =>
      simp only [upTo]
      split
      · unfold spE whenE
        split
        · exact .inr rfl
        · exact .inl rfl
      · exact ih
  unfold chkEds
  rw [if_neg (by simpa using h), if_neg h2, if_neg (by simpa using h3), if_neg h4, if_neg (by simpa using upTo_zero.2 h5)]
  rcases key L.length with k | k
  · exact absurd (upTo_zero.1 k g hg) h6
  · exact k.symm
theorem chkEds_good {R : List Rl} {L : List Ed} (h : chkRs R = 0) (h2 : ¬ 16 < L.length) (h3 : upTo (chkEd R L) L.length = 0) (h4 : ¬ 1024 < lenL L) (h5 : ∀ g, g < L.length → ordE (ls L) (lenL L) g = 0) (h6 : ∀ g, g < L.length → spE (mapR R R.length) (ls L) (lenL L) g = 0) : 0 = chkEds R L :=
  (chkEds_zero.2 ⟨h, by omega, upTo_zero.1 h3, by omega, h5, h6⟩).symm

/-! ### An edit by itself. -/

theorem chkEd_unknown {R : List Rl} {L : List Ed} {g : Nat} (h : ¬ idxN (L.getD g e0).1 R < R.length) : chkEd R L g = 10 := by
  unfold chkEd chkE; rw [if_pos (by omega)]
theorem chkEd_span {R : List Rl} {L : List Ed} {g : Nat} (h : idxN (L.getD g e0).1 R < R.length) (h2 : (L.getD g e0).2.2.1 ≤ (L.getD g e0).2.1 ∨ (L.getD g e0).2.1 < (rlOf R (L.getD g e0).1).2.1 ∨ endR (rlOf R (L.getD g e0).1) < (L.getD g e0).2.2.1) : chkEd R L g = 14 := by
  unfold chkEd chkE; rw [if_neg (by omega), if_pos h2]
theorem chkEd_prs {R : List Rl} {L : List Ed} {g : Nat} (h : idxN (L.getD g e0).1 R < R.length) (h2 : ¬ ((L.getD g e0).2.2.1 ≤ (L.getD g e0).2.1 ∨ (L.getD g e0).2.1 < (rlOf R (L.getD g e0).1).2.1 ∨ endR (rlOf R (L.getD g e0).1) < (L.getD g e0).2.2.1)) (h3 : prs (L.getD g e0) ≠ 0) : chkEd R L g = prs (L.getD g e0) := by
  unfold chkEd chkE; rw [if_neg (by omega), if_neg h2, if_pos h3]
theorem chkEd_first {R : List Rl} {L : List Ed} (h : idxN (L.getD 0 e0).1 R < R.length) (h2 : ¬ ((L.getD 0 e0).2.2.1 ≤ (L.getD 0 e0).2.1 ∨ (L.getD 0 e0).2.1 < (rlOf R (L.getD 0 e0).1).2.1 ∨ endR (rlOf R (L.getD 0 e0).1) < (L.getD 0 e0).2.2.1)) (h3 : prs (L.getD 0 e0) = 0) :
    chkEd R L 0 = whenE (decide ((L.getD 0 e0).2.2.2.1 ≠ 0 ∨ (L.getD 0 e0).2.2.2.2 ≠ 0)) 21 := by
  unfold chkEd chkE; rw [if_neg (by omega), if_neg h2, if_neg (by simpa using h3)]
  generalize L.getD 0 e0 = x
  obtain ⟨a, b, c, d, e⟩ := x
  simp only [if_true]
  congr 1
  rw [decide_eq_decide]
  simp only [ne_eq, Prod.mk.injEq, true_and]
  omega
theorem chkEd_later {R : List Rl} {L : List Ed} {g : Nat} (hg : 0 < g) (h : idxN (L.getD g e0).1 R < R.length) (h2 : ¬ ((L.getD g e0).2.2.1 ≤ (L.getD g e0).2.1 ∨ (L.getD g e0).2.1 < (rlOf R (L.getD g e0).1).2.1 ∨ endR (rlOf R (L.getD g e0).1) < (L.getD g e0).2.2.1)) (h3 : prs (L.getD g e0) = 0) :
    chkEd R L g = whenE (decide (endR (rlOf R (L.getD (g - 1) e0).1) < (L.getD (g - 1) e0).2.2.1 + (L.getD g e0).2.2.2.1)) 16 := by
  unfold chkEd chkE; rw [if_neg (by omega), if_neg h2, if_neg (by simpa using h3), if_neg (by omega)]

/-! ### What is heard. -/

/-- The frame at which the sound of an edit begins. -/
def sN (L : List Ed) (i : Nat) : Int := begN L i + (L.getD i e0).2.2.2.2
theorem sndN_ls {L : List Ed} {i : Nat} (h : i < L.length) : sndN ((ls L).getD i pl0) = sN L i := by rw [ls_get L h]; rfl

theorem sndI_of {L : List Ed} {t : Int} {k : Nat} : ∀ {n : Nat}, k < n → sN L k ≤ t → (∀ j, k < j → j < n → t < sN L j) → sndI L t n = (k : Int)
  | 0, h, _, _ => by omega
  | n + 1, h, h1, h2 => by
    simp only [sndI]
    by_cases e : k = n
    · subst e; exact if_pos h1
    · rw [if_neg (by have := h2 n (by omega) (by omega); unfold sN at this; omega)]
      exact sndI_of (by omega) h1 fun j hj hjn => h2 j hj (by omega)
theorem sndI_at {L : List Ed} {t : Int} {k : Nat} : ∀ {n : Nat}, sndI L t n = (k : Int) → k < n ∧ sN L k ≤ t ∧ ∀ j, k < j → j < n → t < sN L j
  | 0, h => by simp [sndI] at h
  | n + 1, h => by
    simp only [sndI] at h
    split at h
    · rename_i h1
      have : n = k := by omega
      subst this
      exact ⟨by omega, h1, fun j _ _ => by omega⟩
    · rename_i h1
      obtain ⟨a, b, c⟩ := sndI_at h
      refine ⟨by omega, b, fun j hj hjn => ?_⟩
      by_cases e : j = n
      · subst e; unfold sN; omega
      · exact c j hj (by omega)

/-- Sounds one after the other. -/
structure SndOk (L : List Ed) : Prop where
  first : 0 < L.length → sN L 0 = 0
  mono : ∀ i, i + 1 < L.length → sN L i < sN L (i + 1)
  lt : ∀ i, i < L.length → sN L i < lenL L

theorem sndOk_of {R : List Rl} {L : List Ed} (h : chkRs R = 0) (h2 : ¬ 16 < L.length) (h3 : ∀ i, i < L.length → chkEd R L i = 0) (h5 : ∀ g, g < L.length → ordE (ls L) (lenL L) g = 0) : SndOk L := by
  have hE := EdsIn_of h (by omega) h3
  have ho : ∀ g, 0 < g → g < L.length → sN L (g - 1) < sN L g ∧ sN L g < lenL L := by
    intro g h0 hg
    have := h5 g hg
    unfold ordE at this
    have := of_decide_eq_false ((whenE_zero (by decide)).1 this)
    rw [sndN_ls hg, sndN_ls (show g - 1 < L.length by omega)] at this
    constructor
    · apply Classical.byContradiction; intro hc; exact this ⟨h0, .inl (by omega)⟩
    · apply Classical.byContradiction; intro hc; exact this ⟨h0, .inr (by omega)⟩
  have h0 : 0 < L.length → sN L 0 = 0 := fun hn => by
    have := (chkEd_ok (h3 0 hn)).first rfl
    unfold sN
    rw [this.2]; rfl
  refine ⟨h0, fun i hi => ?_, fun i hi => ?_⟩
  · exact (ho (i + 1) (by omega) hi).1
  · by_cases e : i = 0
    · subst e
      rw [h0 hi]
      have h1 := begN_bd hE L.length (Nat.le_refl _)
      unfold lenL
      omega
    · exact (ho i (by omega) hi).2

theorem SndOk.le {L : List Ed} (h : SndOk L) : ∀ {i j : Nat}, i ≤ j → j < L.length → sN L i ≤ sN L j := by
  intro i j hij hj
  induction j with
  | zero => rw [Nat.le_zero.1 hij]; exact Int.le_refl _
  | succ j ih =>
    by_cases e : i = j + 1
    · subst e; exact Int.le_refl _
    · have := ih (by omega) (by omega)
      have := h.mono j hj
      omega

theorem heardN_ls {L : List Ed} {k : Nat} (hk : k < L.length) : heardN (ls L) (lenL L) k = (sN L k, if k + 1 < L.length then sN L (k + 1) else lenL L) := by
  unfold heardN
  rw [ls_len, sndN_ls hk]
  split
  · rename_i h; rw [sndN_ls h]
  · rfl

theorem SndOk.at_ {L : List Ed} (h : SndOk L) {k : Nat} {t : Int} (hk : k < L.length) : sndI L t L.length = (k : Int) ↔ sN L k ≤ t ∧ (k + 1 < L.length → t < sN L (k + 1)) := by
  constructor
  · intro e
    obtain ⟨_, b, c⟩ := sndI_at e
    exact ⟨b, fun h1 => c _ (by omega) h1⟩
  · rintro ⟨b, c⟩
    refine sndI_of hk b fun j hj hjn => ?_
    have := c (by omega)
    have := h.le (show k + 1 ≤ j by omega) hjn
    omega

theorem bad_iff {R : List Rl} {L : List Ed} (hr : chkRs R = 0) (h : SndOk L) {k : Nat} (hk : k < L.length) : spE (mapR R R.length) (ls L) (lenL L) k ≠ 0 ↔ ∃ t : Nat, (t : Int) < lenL L ∧ badH R L k t := by
  have hto : ∃ b, (heardN (ls L) (lenL L) k).2 = b ∧ sN L k < b ∧ b ≤ lenL L ∧ ∀ t : Int, t < lenL L → (sndI L t L.length = (k : Int) ↔ sN L k ≤ t ∧ t < b) := by
    rw [heardN_ls hk]
    dsimp only
    split
    · rename_i h1
      exact ⟨_, rfl, h.mono k h1, Int.le_of_lt (h.lt _ h1), fun t _ => by rw [h.at_ hk]; exact ⟨fun ⟨a, b⟩ => ⟨a, b h1⟩, fun ⟨a, b⟩ => ⟨a, fun _ => b⟩⟩⟩
    · rename_i h1
      exact ⟨_, rfl, h.lt k hk, Int.le_refl _, fun t ht => by rw [h.at_ hk]; exact ⟨fun ⟨a, b⟩ => ⟨a, ht⟩, fun ⟨a, b⟩ => ⟨a, fun h2 => absurd h2 h1⟩⟩⟩
  obtain ⟨b, hb, hlt, hle, hs⟩ := hto
  have h0 : 0 ≤ sN L k := by
    have := h.le (Nat.zero_le k) hk
    rw [h.first (by omega)] at this
    exact this
  have hsp : spE (mapR R R.length) (ls L) (lenL L) k ≠ 0 ↔ ((L.getD k e0).2.1 + sN L k - begN L k < (rlOf R (L.getD k e0).1).2.1 ∨ endR (rlOf R (L.getD k e0).1) < (L.getD k e0).2.1 + b - begN L k) := by
    unfold spE
    rw [Ne, whenE_zero (by decide), decide_eq_false_iff_not, Classical.not_not, hb, heardN_ls hk, ls_get L hk, rlM_eq (rs_nodup hr)]
  rw [hsp]
  constructor
  · intro hc
    rcases hc with hc | hc
    · refine ⟨(sN L k).toNat, by omega, ?_, ?_⟩
      · rw [hs _ (by omega)]; omega
      · rw [hasB_not]; omega
    · refine ⟨(b - 1).toNat, by omega, ?_, ?_⟩
      · rw [hs _ (by omega)]; omega
      · rw [hasB_not]; omega
  · rintro ⟨t, ht, h1, h2⟩
    rw [hs _ ht] at h1
    rw [hasB_not] at h2
    omega
end Go.Sx
