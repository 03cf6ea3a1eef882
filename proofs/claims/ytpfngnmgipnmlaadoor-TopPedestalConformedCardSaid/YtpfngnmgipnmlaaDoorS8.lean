/- A verified symbolic run of functions, part 8: lemmas, no claim of their own. -/
import Derived.Test.YtpfngnmgipnmlaaDoorS7
import Derived.Sort.LoopGhostIn
/- The engine's runs are right: states that fit. -/
namespace Go.Sx
open Go.RowKit

def Mt.le (m m' : Mt) : Prop := (∀ p ∈ m.ps, p ∈ m'.ps) ∧ (∀ k v, lnOf m.ln k = some v → lnOf m'.ln k = some v) ∧ ∀ i ∈ m.fz, i ∈ m'.fz

theorem Mt.le_refl (m : Mt) : m.le m := ⟨fun _ h => h, fun _ _ h => h, fun _ h => h⟩
theorem Mt.le.trans {a b c : Mt} (h : a.le b) (k : b.le c) : a.le c := ⟨fun p hp => k.1 p (h.1 p hp), fun x v hx => k.2.1 x v (h.2.1 x v hx), fun i hi => k.2.2 i (h.2.2 i hi)⟩

theorem Mt.eq_ok {m m' : Mt} {p : Prop} (h : m.eq p = some m') : m.le m' ∧ p ∈ m'.ps := by
  cases h
  exact ⟨⟨fun q hq => by simp [hq], fun _ _ h => h, fun _ h => h⟩, by simp⟩

theorem lnOf_cons (k t : Nat) (v : Option Nat) (l : List (Nat × Option Nat)) : lnOf ((k, v) :: l) t = if k = t then some v else lnOf l t := by simp [lnOf]

theorem link_ok {m m' : Mt} {i : Nat} {x : Option Nat} (h : link m i x = some m') : m.le m' ∧ lnOf m'.ln i = some x := by
  unfold link at h
  split at h
  · rename_i hn
    cases h
    refine ⟨⟨fun _ h => h, fun k v hv => ?_, fun _ h => h⟩, by simp [lnOf_cons]⟩
    simp only [lnOf_cons]
    split
    · rename_i e; subst e; rw [hn] at hv; cases hv
    · exact hv
  · rename_i y hy
    split at h
    · rename_i e; subst e; cases h; exact ⟨Mt.le_refl _, hy⟩
    · cases h

/-- The handles of the second state. -/
def rho (fl : Nat) (M : Mt) (ρ : Nat → Value) : Nat → Value := fun k => if k < fl then ρ k else match lnOf M.ln k with
  | some (some i) => ρ i
  | some none => .slice none 0 0
  | none => .nilFunc

theorem lnOf_mem : ∀ {l : List (Nat × Option Nat)} {k : Nat} {v : Option Nat}, lnOf l k = some v → (k, v) ∈ l
  | [], _, _, h => by simp [lnOf] at h
  | (j, v) :: r, k, x, h => by
    rw [lnOf_cons] at h
    split at h
    · rename_i e; subst e; cases h; simp
    · exact List.mem_cons_of_mem _ (lnOf_mem h)

theorem lnFl_spec {fl : Nat} {l : List (Nat × Option Nat)} (h : lnFl fl l = true) {k : Nat} {v : Option Nat} (hk : lnOf l k = some v) (hlt : k < fl) : v = some k := by
  have := List.all_eq_true.1 h _ (lnOf_mem hk)
  simp only [Bool.or_eq_true, decide_eq_true_eq] at this
  rcases this with h | h
  · omega
  · exact h

/-- A row, or a map, that stays. -/
def FzP (ρ : Nat → Value) (H : IH) (id : Nat) (o : Option AObj) : Prop := match o with
  | some (.row t xs) => Rd H (.sl t) xs [ρ id]
  | some (.map gk gt k t l) => DenC ρ H (.mp gk gt k t l) (ρ id)
  | _ => True

theorem addFz_mem {id : Nat} {l : List Nat} : id ∈ addFz id l := by
  unfold addFz
  cases h : l.contains id with
  | true => simpa using h
  | false => simp
theorem addFz_sub {id i : Nat} {l : List Nat} (h : i ∈ l) : i ∈ addFz id l := by
  unfold addFz
  cases l.contains id <;> simp [h]

section
variable {ρ : Nat → Value} {H : IH} {ob : Nat → Option AObj} {M : Mt}

theorem rho_some {fl : Nat} (hfl : lnFl fl M.ln = true) {k i : Nat} (h : lnOf M.ln k = some (some i)) : rho fl M ρ k = ρ i := by
  by_cases hk : k < fl
  · have := lnFl_spec hfl h hk
    cases this
    simp [rho, hk]
  · simp [rho, h, hk]
theorem rho_none {fl : Nat} (hfl : lnFl fl M.ln = true) {k : Nat} (h : lnOf M.ln k = some none) : rho fl M ρ k = .slice none 0 0 := by
  by_cases hk : k < fl
  · have := lnFl_spec hfl h hk
    cases this
  · simp [rho, h, hk]

theorem links_ok {fl : Nat} (hfl : lnFl fl M.ln = true) : ∀ {a b : List (Nat × Nat)} {m m' : Mt} , links m a b = some m' → m.le m' ∧ (m'.le M → ∀ vs, ptrsOf ρ a vs → ptrsOf (rho fl M ρ) b vs)
  | [], [], m, m', h => by cases h; exact ⟨Mt.le_refl _, fun _ vs h => h⟩
  | (i, o) :: r, (i', o') :: r', m, m', h => by
    simp only [links] at h
    split at h
    · rename_i e
      subst e
      obtain ⟨m1, h1, h2⟩ := Option.bind_eq_some_iff.1 h
      obtain ⟨k1, k2⟩ := link_ok h1
      obtain ⟨k3, k4⟩ := links_ok hfl h2
      refine ⟨k1.trans k3, fun hle vs hv => ?_⟩
      obtain ⟨v, q, rfl, hv1, hv2⟩ := hv
      obtain ⟨b, hb1, hb2⟩ := hv1
      refine ⟨v, q, rfl, ⟨b, ?_, hb2⟩, k4 hle q hv2⟩
      rw [rho_some hfl ((k3.trans hle).2.1 _ _ k2)]
      exact hb1
    · cases h
  | [], _ :: _, m, m', h => by simp [links] at h
  | _ :: _, [], m, m', h => by simp [links] at h

variable {fl : Nat} (hfl : lnFl fl M.ln = true) (hps : ∀ p ∈ M.ps, p) (hρ : ∀ id, (ρ id).oneCell' = true) (hfz : ∀ id ∈ M.fz, FzP ρ H id (ob id))
include hfl hps hρ hfz

theorem mC_ok {m m' : Mt} {c c' : C} (h : mC ob m c c' = some m') : m.le m' ∧ (m'.le M → ∀ v, DenC ρ H c v → DenC (rho fl M ρ) H c' v) := by
  have eqq : ∀ {p : Prop}, m.eq p = some m' → (p → ∀ v, DenC ρ H c v → DenC (rho fl M ρ) H c' v) → m.le m' ∧ (m'.le M → ∀ v, DenC ρ H c v → DenC (rho fl M ρ) H c' v) := by
    intro p h1 h2
    obtain ⟨k1, k2⟩ := Mt.eq_ok h1
    exact ⟨k1, fun hle => h2 (hps _ (hle.1 _ k2))⟩
  cases c' with
  | any =>
    simp only [mC] at h
    split at h
    · cases h
    · cases h; exact ⟨Mt.le_refl _, fun _ v hv => DenC.one hρ hv⟩
  | int k' n' =>
    simp only [mC] at h
    split at h
    · split at h
      · rename_i e; subst e; exact eqq h (fun e v hv => by subst e; exact hv)
      · cases h
    · cases h
  | bool b' =>
    simp only [mC] at h
    split at h
    · exact eqq h (fun e v hv => by subst e; exact hv)
    · cases h
  | str b' =>
    simp only [mC] at h
    split at h
    · exact eqq h (fun e v hv => by subst e; exact hv)
    · cases h
  | flt k' n' =>
    simp only [mC] at h
    split at h
    · split at h
      · rename_i e; subst e; exact eqq h (fun e v hv => by subst e; exact hv)
      · cases h
    · cases h
  | cpx k' x y =>
    simp only [mC] at h
    split at h
    · split at h
      · rename_i e; subst e; exact eqq h (fun e v hv => by obtain ⟨rfl, rfl⟩ := e; exact hv)
      · cases h
    · cases h
  | sl t' ys =>
    simp only [mC] at h
    split at h
    · split at h
      · rename_i e; subst e; exact eqq h (fun e v hv => by subst e; exact hv)
      · cases h
    · exact eqq h (fun e v hv => by
        subst e
        rw [show v = _ from hv]
        exact ⟨none, 0, rfl, Nat.le_refl _, .inl rfl⟩)
    · rename_i id
      split at h
      · rename_i t xs hrow
        split at h
        · rename_i e
          subst e
          cases h
          refine ⟨⟨fun p hp => by simp [hp], fun _ _ h => h, fun i hi => addFz_sub hi⟩, fun hle v hv => ?_⟩
          have e1 : xs = ys := hps _ (hle.1 _ (by simp))
          subst e1
          rw [show v = ρ id from hv]
          have := hfz id (hle.2.2 _ addFz_mem)
          rw [hrow] at this
          exact this
        · cases h
      · cases h
    · cases h
  | nilm =>
    simp only [mC] at h
    split at h
    · cases h; exact ⟨Mt.le_refl _, fun _ v hv => hv⟩
    · cases h
  | mp gk' gt' k' t' l' =>
    simp only [mC] at h
    split at h
    · split at h
      · rename_i e
        obtain ⟨rfl, rfl, rfl, rfl⟩ := e
        exact eqq h (fun e v hv => by
          have e' := (show _ = l' from e)
          simp only [castM] at e'
          subst e'; exact hv)
      · cases h
    · rename_i id
      split at h
      · rename_i gk gt k t l hmap
        split at h
        · rename_i e
          obtain ⟨rfl, rfl, rfl, rfl⟩ := e
          cases h
          refine ⟨⟨fun p hp => by simp [hp], fun _ _ h => h, fun i hi => addFz_sub hi⟩, fun hle v hv => ?_⟩
          have e1 : l = l' := hps _ (hle.1 _ (by simp [castM]))
          subst e1
          rw [show v = ρ id from hv]
          have := hfz id (hle.2.2 _ addFz_mem)
          rw [hmap] at this
          exact this
        · cases h
      · cases h
    · cases h
  | ref t' x' =>
    simp only [mC] at h
    split at h
    · split at h
      · rename_i e; subst e; exact eqq h (fun e v hv => by subst e; exact hv)
      · cases h
    · cases h
  | ptr id' o' =>
    simp only [mC] at h
    split at h
    · split at h
      · rename_i e; subst e
        obtain ⟨k1, k2⟩ := link_ok h
        refine ⟨k1, fun hle v hv => ?_⟩
        obtain ⟨b, hb1, hb2⟩ := hv
        exact ⟨b, by rw [rho_some hfl (hle.2.1 _ _ k2)]; exact hb1, hb2⟩
      · cases h
    · cases h
  | el id' o' z' i' s' =>
    simp only [mC] at h
    split at h
    · split at h
      · rename_i e
        obtain ⟨rfl, rfl, rfl⟩ := e
        obtain ⟨m1, h1, h2⟩ := Option.bind_eq_some_iff.1 h
        obtain ⟨k1, k2⟩ := link_ok h1
        obtain ⟨k3, k4⟩ := Mt.eq_ok h2
        refine ⟨k1.trans k3, fun hle v hv => ?_⟩
        obtain ⟨b, hb1, hb2⟩ := hv
        have e := hps _ (hle.1 _ k4)
        subst e
        exact ⟨b, by rw [rho_some hfl ((k3.trans hle).2.1 _ _ k2)]; exact hb1, hb2⟩
      · cases h
    · cases h
  | own id' =>
    simp only [mC] at h
    split at h
    · obtain ⟨k1, k2⟩ := link_ok h
      refine ⟨k1, fun hle v hv => ?_⟩
      show v = _
      rw [rho_some hfl (hle.2.1 _ _ k2)]
      exact hv
    · obtain ⟨k1, k2⟩ := link_ok h
      refine ⟨k1, fun hle v hv => ?_⟩
      show v = _
      rw [rho_none hfl (hle.2.1 _ _ k2)]
      exact hv
    · cases h
  | view id' o' z' l' n' =>
    simp only [mC] at h
    split at h
    · split at h
      · rename_i e
        obtain ⟨rfl, rfl⟩ := e
        obtain ⟨m1, h1, h2⟩ := Option.bind_eq_some_iff.1 h
        obtain ⟨k1, k2⟩ := link_ok h1
        obtain ⟨k3, k4⟩ := Mt.eq_ok h2
        refine ⟨k1.trans k3, fun hle v hv => ?_⟩
        obtain ⟨rfl, rfl⟩ := hps _ (hle.1 _ k4)
        rcases hv with ⟨b, cap, hb1, hb2⟩ | hv
        · exact .inl ⟨b, cap, by rw [rho_some hfl ((k3.trans hle).2.1 _ _ k2)]; exact hb1, hb2⟩
        · exact .inr hv
      · cases h
    · cases h
  | yl id' =>
    simp only [mC] at h
    split at h
    · obtain ⟨k1, k2⟩ := link_ok h
      refine ⟨k1, fun hle v hv => ?_⟩
      show v = _
      rw [rho_some hfl (hle.2.1 _ _ k2)]
      exact hv
    · cases h
  | vp id' o' z' l' n' =>
    simp only [mC] at h
    split at h
    · split at h
      · rename_i e
        obtain ⟨rfl, rfl, rfl⟩ := e
        obtain ⟨m1, h1, h2⟩ := Option.bind_eq_some_iff.1 h
        obtain ⟨k1, k2⟩ := link_ok h1
        obtain ⟨k3, k4⟩ := Mt.eq_ok h2
        refine ⟨k1.trans k3, fun hle v hv => ?_⟩
        have e := hps _ (hle.1 _ k4)
        subst e
        obtain ⟨h0, b, hb1, hb2⟩ := hv
        exact ⟨h0, b, by rw [rho_some hfl ((k3.trans hle).2.1 _ _ k2)]; exact hb1, hb2⟩
      · cases h
    · cases h
  | frs t x => simp [mC] at h
  | nilp =>
    simp only [mC] at h
    split at h
    · cases h; exact ⟨Mt.le_refl _, fun _ v hv => hv⟩
    · cases h
  | nils =>
    simp only [mC] at h
    split at h
    · cases h; exact ⟨Mt.le_refl _, fun _ v hv => hv⟩
    · cases h
  | nilf =>
    simp only [mC] at h
    split at h
    · cases h; exact ⟨Mt.le_refl _, fun _ v hv => hv⟩
    · cases h
  | fn f' a' b' =>
    simp only [mC] at h
    split at h
    · split at h
      · rename_i e
        subst e
        obtain ⟨m1, h1, h2⟩ := Option.bind_eq_some_iff.1 h
        obtain ⟨k1, k2⟩ := links_ok (M := M) (ρ := ρ) hfl h1
        obtain ⟨k3, k4⟩ := links_ok (M := M) (ρ := ρ) hfl h2
        refine ⟨k1.trans k3, fun hle v hv => ?_⟩
        obtain ⟨x, y, hv1, hv2, hv3⟩ := hv
        exact ⟨x, y, hv1, k2 (k3.trans hle) x hv2, k4 hle y hv3⟩
      · cases h
    · cases h

theorem mChs_ok : ∀ {cs cs' : List Ch} {m m' : Mt}, mChs ob m cs cs' = some m' → m.le m' ∧ (m'.le M → ∀ vs, DenChs ρ H cs vs → DenChs (rho fl M ρ) H cs' vs)
  | [], [], m, m', h => by cases h; exact ⟨Mt.le_refl _, fun _ _ h => h⟩
  | .one c :: r, .one c' :: r', m, m', h => by
    simp only [mChs] at h
    obtain ⟨m1, h1, h2⟩ := Option.bind_eq_some_iff.1 h
    obtain ⟨k1, k2⟩ := mC_ok hfl hps hρ hfz h1
    obtain ⟨k3, k4⟩ := mChs_ok h2
    refine ⟨k1.trans k3, fun hle vs hv => ?_⟩
    obtain ⟨v, vs', rfl, hv1, hv2⟩ := hv
    exact ⟨v, vs', rfl, k2 (k3.trans hle) v hv1, k4 hle vs' hv2⟩
  | .arr n t xs :: r, .arr n' t' ys :: r', m, m', h => by
    simp only [mChs] at h
    split at h
    · rename_i e
      obtain ⟨rfl, rfl⟩ := e
      obtain ⟨m1, h1, h2⟩ := Option.bind_eq_some_iff.1 h
      obtain ⟨k1, k2⟩ := Mt.eq_ok h1
      obtain ⟨k3, k4⟩ := mChs_ok h2
      refine ⟨k1.trans k3, fun hle vs hv => ?_⟩
      have e1 : xs = ys := hps _ ((k3.trans hle).1 _ k2)
      subst e1
      exact ⟨hv.1, k4 hle _ hv.2⟩
    · cases h
  | [], _ :: _, m, m', h => by simp [mChs] at h
  | .one _ :: _, [], m, m', h => by simp [mChs] at h
  | .arr _ _ _ :: _, [], m, m', h => by simp [mChs] at h
  | .one _ :: _, .arr _ _ _ :: _, m, m', h => by simp [mChs] at h
  | .arr _ _ _ :: _, .one _ :: _, m, m', h => by simp [mChs] at h

theorem mV_ok {x y : V} {m m' : Mt} (h : mV ob m x y = some m') : m.le m' ∧ (m'.le M → ∀ v, DenV ρ H x v → DenV (rho fl M ρ) H y v) := by
  cases x <;> cases y <;> simp only [mV] at h
  · exact mC_ok hfl hps hρ hfz h
  · cases h
  · cases h
  · obtain ⟨k1, k2⟩ := mChs_ok hfl hps hρ hfz h
    exact ⟨k1, fun hle v hv => let ⟨vs, h1, h2⟩ := hv; ⟨vs, h1, k2 hle vs h2⟩⟩

theorem mVs_ok : ∀ {x y : List V} {m m' : Mt}, mVs ob m x y = some m' → m.le m' ∧ (m'.le M → ∀ vs, DenVs ρ H x vs → DenVs (rho fl M ρ) H y vs)
  | [], [], m, m', h => by cases h; exact ⟨Mt.le_refl _, fun _ _ h => h⟩
  | x :: r, y :: r', m, m', h => by
    simp only [mVs] at h
    obtain ⟨m1, h1, h2⟩ := Option.bind_eq_some_iff.1 h
    obtain ⟨k1, k2⟩ := mV_ok hfl hps hρ hfz h1
    obtain ⟨k3, k4⟩ := mVs_ok h2
    refine ⟨k1.trans k3, fun hle vs hv => ?_⟩
    obtain ⟨v, vs', rfl, hv1, hv2⟩ := hv
    exact ⟨v, vs', rfl, k2 (k3.trans hle) v hv1, k4 hle vs' hv2⟩
  | [], _ :: _, m, m', h => by simp [mVs] at h
  | _ :: _, [], m, m', h => by simp [mVs] at h

theorem mSV_ok {x y : SV} {m m' : Mt} (h : mSV ob m x y = some m') : m.le m' ∧ (m'.le M → ∀ v, DenSV ρ H x v → DenSV (rho fl M ρ) H y v) := by
  cases x <;> cases y <;> simp only [mSV] at h
  · exact mV_ok hfl hps hρ hfz h
  · cases h
  · cases h
  · obtain ⟨k1, k2⟩ := mVs_ok hfl hps hρ hfz h
    exact ⟨k1, fun hle v hv => let ⟨vs, h1, h2⟩ := hv; ⟨vs, h1, k2 hle vs h2⟩⟩
end
end Go.Sx

/- The engine's runs are right: states that fit, whole. -/
namespace Go.Sx
open Go.RowKit

section
variable {E : Env} {w0 : Base} {B n : Nat} {ρ : Nat → Value} {H : IH} {ob : List (Nat × Option AObj)} {nx : Nat} {w : World} {a : Act}

theorem FzP.mono {ρ : Nat → Value} {H H' : IH} (hh : HLe H H') {id : Nat} {o : Option AObj} (h : FzP ρ H id o) : FzP ρ H' id o := by
  unfold FzP at h ⊢
  split
  · exact Rd.mono hh _ _ _ h
  · obtain ⟨g, es, cl, d1, d2, d3⟩ := h
    exact ⟨g, es, cl, d1, hh _ _ d2, d3.mono hh⟩
  · trivial

/-- Rows that stay from now on. -/
theorem freeze : ∀ (fz : List Nat) (H : IH) (ob : List (Nat × Option AObj)), Inv w0 B ρ H ob nx w → fz.Nodup →
    ∃ H', HLe H H' ∧ Agree H' w ∧ (∀ b, w0.K b → H' b = none) ∧ (∀ id p, lookO ob id = some p → id ∉ fz → DenO w B ρ H' id p) ∧ ∀ id ∈ fz, FzP ρ H' id (lookO ob id)
  | [], H, ob, I, _ => ⟨H, HLe.refl _, I.agree, fun b hk => (I.kp b hk).2.2.1, fun id p h _ => (I.objs id p h).2.2, by simp⟩
  | k :: fz, H, ob, I, hn => by
    obtain ⟨hn1, hn2⟩ := List.nodup_cons.1 hn
    have I1 := I.del k
    -- the row itself
    have hit : ∃ H1, HLe H H1 ∧ Inv w0 B ρ H1 ((k, none) :: ob) nx w ∧ FzP ρ H1 k (lookO ob k) := by
      cases hk : lookO ob k with
      | none => exact ⟨H, HLe.refl _, I1, trivial⟩
      | some p =>
        have hsep : ∀ g, HB (ρ k) g → (∀ id p, lookO ((k, none) :: ob) id = some p → ¬ HB (ρ id) g) ∧ ¬ w0.K g := by
          intro g hg
          refine ⟨fun id p hp hb => ?_, fun h => (I.kp g h).2.2.2 k _ hk hg⟩
          rw [lookO_cons] at hp
          split at hp
          · cases hp
          · rename_i hne
            exact I.sep k id _ _ hne hk hp g hg hb
        cases p with
        | box cs => exact ⟨H, HLe.refl _, I1, trivial⟩
        | sit => exact ⟨H, HLe.refl _, I1, trivial⟩
        | map gk gt kt t l =>
          obtain ⟨g, es, cl, d1, d2, d3, d4, d5⟩ := (I.objs k _ hk).2.2
          obtain ⟨hf, hK⟩ := hsep g (.inr (.inr d1))
          obtain ⟨I2, hle⟩ := I1.imm d4 d3 hf hK
          exact ⟨_, hle, I2, g, es, cl, d1, upd_same _ _ _, d5.mono hle⟩
        | row t xs =>
          rcases (I.objs k _ hk).2.2 with ⟨d1, d2⟩ | ⟨g, cap, cur, e, d1, d2, d3, d4, d5, d6, d7, d8⟩
          · refine ⟨H, HLe.refl _, I1, ?_⟩
            show Rd H (.sl t) xs [ρ k]
            rw [d1, d2]
            exact ⟨none, 0, rfl, Nat.le_refl _, .inl rfl⟩
          · obtain ⟨hf, hK⟩ := hsep g (.inr (.inl ⟨_, _, d1⟩))
            obtain ⟨I2, hle⟩ := I1.imm d4 d3 hf hK
            refine ⟨_, hle, I2, ?_⟩
            show Rd _ (.sl t) xs [ρ k]
            rw [d1]
            refine ⟨_, cap, rfl, d5, .inr ⟨g, 0, cur, _, _, rfl, upd_same _ _ _, fun i hi => ?_⟩⟩
            rw [Nat.zero_add]
            exact Rd.mono hle _ _ _ (d8 i hi)
    obtain ⟨H1, hle1, I2, hrow⟩ := hit
    obtain ⟨H', hle, hag, hK, hob, hfz⟩ := freeze fz H1 _ I2 hn2
    have hlook : ∀ id, id ≠ k → lookO ((k, none) :: ob) id = lookO ob id := by
      intro id hne
      rw [lookO_cons, if_neg (fun e => hne e.symm)]
    refine ⟨H', hle1.trans hle, hag, hK, fun id p hp hid => ?_, fun id hid => ?_⟩
    · simp only [List.mem_cons, not_or] at hid
      exact hob id p (by rw [hlook id hid.1]; exact hp) hid.2
    · rcases List.mem_cons.1 hid with rfl | hid
      · exact hrow.mono hle
      · have hne : id ≠ k := fun e => hn1 (e ▸ hid)
        have := hfz id hid
        rwa [hlook id hne] at this

theorem lookO_mem : ∀ {ob : List (Nat × Option AObj)} {id : Nat} {p : AObj}, lookO ob id = some p → (id, some p) ∈ ob
  | [], _, _, h => by simp [lookO] at h
  | (k, v) :: r, id, p, h => by
    rw [lookO_cons] at h
    split at h
    · rename_i e; subst e; subst h; simp
    · exact List.mem_cons_of_mem _ (lookO_mem h)

theorem lookT_mem : ∀ {tm : List (Nat × SV)} {t : Nat} {v : SV}, lookT tm t = some v → (t, v) ∈ tm
  | [], _, _, h => by simp [lookT] at h
  | (k, v) :: r, t, x, h => by
    rw [lookT_cons] at h
    split at h
    · rename_i e; subst e; cases h; simp
    · exact List.mem_cons_of_mem _ (lookT_mem h)

/-- What the two tables' fit brings, for any final list. -/
theorem mTm_ok {fl : Nat} {s : St} : ∀ {l : List (Nat × SV)} {m m' : Mt}, mTm s m l = some m' → m.le m' ∧ ∀ (M : Mt) (H : IH), lnFl fl M.ln = true → (∀ p ∈ M.ps, p) → (∀ id, (ρ id).oneCell' = true) → (∀ id ∈ M.fz, FzP ρ H id (lookO s.ob id)) → m'.le M →
    ∀ t v', (t, v') ∈ l → ∃ v, lookT s.tm t = some v ∧ ∀ u, DenSV ρ H v u → DenSV (rho fl M ρ) H v' u
  | [], m, m', h => by cases h; exact ⟨Mt.le_refl _, by simp⟩
  | (t, v') :: r, m, m', h => by
    simp only [mTm] at h
    split at h
    · rename_i v hv
      obtain ⟨m1, h1, h2⟩ := Option.bind_eq_some_iff.1 h
      obtain ⟨k3, k4⟩ := mTm_ok h2
      refine ⟨(mSV_ok (fl := 0) (M := ⟨[], [], []⟩) (ρ := ρ0) (H := fun _ => none) rfl (by simp) ρ0_one (by simp) h1).1.trans k3, fun M H hfl hps hρ hfz hle t' x hx => ?_⟩
      rcases List.mem_cons.1 hx with e | hx
      · cases e
        exact ⟨v, hv, (mSV_ok hfl hps hρ hfz h1).2 (k3.trans hle)⟩
      · exact k4 M H hfl hps hρ hfz hle t' x hx
    · cases h

theorem preLink_le (m : Mt) (k : Nat) : m.le (preLink m k) := by
  unfold preLink
  split
  · exact Mt.le_refl _
  · rename_i h
    refine ⟨fun _ h => h, fun i v hv => ?_, fun _ h => h⟩
    rw [lnOf_cons]
    split
    · rename_i e; subst e; rw [h] at hv; cases hv
    · exact hv

theorem mOb_ok {fl : Nat} {s : St} : ∀ {l : List (Nat × Option AObj)} {m m' : Mt}, mOb s m l = some m' → m.le m' ∧ ∀ (M : Mt) (H : IH) (w : World) (B : Nat), lnFl fl M.ln = true → (∀ p ∈ M.ps, p) → (∀ id, (ρ id).oneCell' = true) →
    (∀ id ∈ M.fz, FzP ρ H id (lookO s.ob id)) → m'.le M → (∀ id k, lnOf M.ln k = some (some id) → ∀ p, lookO s.ob id = some p → DenO w B ρ H id p) →
    ∀ k p', (k, some p') ∈ l → DenO w B (rho fl M ρ) H k p' ∧ (lnOf M.ln k = some none ∨ ∃ id p, lnOf M.ln k = some (some id) ∧ lookO s.ob id = some p)
  | [], m, m', h => by cases h; exact ⟨Mt.le_refl _, by simp⟩
  | (k, none) :: r, m, m', h => by simp [mOb] at h
  | (k, some o') :: r, m, m', h => by
    have hpre := preLink_le m k
    have fin : ∀ {m1 : Mt}, (preLink m k).le m1 → mOb s m1 r = some m' →
        (∀ (M : Mt) (H : IH) (w : World) (B : Nat), lnFl fl M.ln = true → (∀ p ∈ M.ps, p) → (∀ id, (ρ id).oneCell' = true) → (∀ id ∈ M.fz, FzP ρ H id (lookO s.ob id)) → m1.le M →
          (∀ id k, lnOf M.ln k = some (some id) → ∀ p, lookO s.ob id = some p → DenO w B ρ H id p) → DenO w B (rho fl M ρ) H k o' ∧ (lnOf M.ln k = some none ∨ ∃ id p, lnOf M.ln k = some (some id) ∧ lookO s.ob id = some p)) →
        m.le m' ∧ ∀ (M : Mt) (H : IH) (w : World) (B : Nat), lnFl fl M.ln = true → (∀ p ∈ M.ps, p) → (∀ id, (ρ id).oneCell' = true) →
          (∀ id ∈ M.fz, FzP ρ H id (lookO s.ob id)) → m'.le M → (∀ id k, lnOf M.ln k = some (some id) → ∀ p, lookO s.ob id = some p → DenO w B ρ H id p) →
          ∀ k' p', (k', some p') ∈ (k, some o') :: r → DenO w B (rho fl M ρ) H k' p' ∧ (lnOf M.ln k' = some none ∨ ∃ id p, lnOf M.ln k' = some (some id) ∧ lookO s.ob id = some p) := by
      intro m1 h1 h2 h3
      obtain ⟨k3, k4⟩ := mOb_ok h2
      refine ⟨hpre.trans (h1.trans k3), fun M H w B hfl hps hρ hfz hle hob k' p' hm => ?_⟩
      rcases List.mem_cons.1 hm with e | hm
      · cases e
        exact h3 M H w B hfl hps hρ hfz (k3.trans hle) hob
      · exact k4 M H w B hfl hps hρ hfz hle hob k' p' hm
    simp only [mOb] at h
    split at h
    · rename_i t ys hln
      obtain ⟨m1, h1, h2⟩ := Option.bind_eq_some_iff.1 h
      obtain ⟨k1, k2⟩ := Mt.eq_ok h1
      refine fin k1 h2 fun M H w B hfl hps hρ hfz hle hob => ?_
      have hln' := hle.2.1 _ _ (k1.2.1 _ _ hln)
      have e : ys = [] := hps _ (hle.1 _ k2)
      exact ⟨.inl ⟨rho_none hfl hln', e⟩, .inl hln'⟩
    · rename_i id hln
      split at h
      · rename_i x y hx
        obtain ⟨m1, h1, h2⟩ := Option.bind_eq_some_iff.1 h
        have k1 := (mChs_ok (fl := 0) (M := ⟨[], [], []⟩) (ρ := ρ0) (H := fun _ => none) rfl (by simp) ρ0_one (by simp) h1).1
        refine fin k1 h2 fun M H w B hfl hps hρ hfz hle hob => ?_
        have hln' := hle.2.1 _ _ (k1.2.1 _ _ hln)
        obtain ⟨g, cur, e, d1, d2, d3, d4, d5⟩ := hob id k hln' _ hx
        exact ⟨⟨g, cur, e, by rw [rho_some hfl hln']; exact d1, d2, d3, d4, (mChs_ok hfl hps hρ hfz h1).2 hle _ d5⟩, .inr ⟨id, _, hln', hx⟩⟩
      · rename_i t xs t' ys hx
        split at h
        · rename_i e
          subst e
          obtain ⟨m1, h1, h2⟩ := Option.bind_eq_some_iff.1 h
          obtain ⟨k1, k2⟩ := Mt.eq_ok h1
          refine fin k1 h2 fun M H w B hfl hps hρ hfz hle hob => ?_
          have hln' := hle.2.1 _ _ (k1.2.1 _ _ hln)
          have e1 : xs = ys := hps _ (hle.1 _ k2)
          subst e1
          refine ⟨?_, .inr ⟨id, _, hln', hx⟩⟩
          show OwnRow _ _ _ (rho fl M ρ k) _ _
          rw [rho_some hfl hln']
          exact hob id k hln' _ hx
        · cases h
      · rename_i l n l' n' hx
        obtain ⟨m1, h1, h2⟩ := Option.bind_eq_some_iff.1 h
        obtain ⟨k1, k2⟩ := Mt.eq_ok h1
        refine fin k1 h2 fun M H w B hfl hps hρ hfz hle hob => ?_
        have hln' := hle.2.1 _ _ (k1.2.1 _ _ hln)
        obtain ⟨e1, e2⟩ : l = l' ∧ n = n' := hps _ (hle.1 _ k2)
        subst e1 e2
        obtain ⟨g, d1, d2, d3, d4⟩ := hob id k hln' _ hx
        exact ⟨⟨g, by rw [rho_some hfl hln']; exact d1, d2, d3, d4⟩, .inr ⟨id, _, hln', hx⟩⟩
      · rename_i gk gt kt t l gk' gt' kt' t' l' hx
        split at h
        · rename_i e
          obtain ⟨rfl, rfl, rfl, rfl⟩ := e
          obtain ⟨m1, h1, h2⟩ := Option.bind_eq_some_iff.1 h
          obtain ⟨k1, k2⟩ := Mt.eq_ok h1
          refine fin k1 h2 fun M H w B hfl hps hρ hfz hle hob => ?_
          have hln' := hle.2.1 _ _ (k1.2.1 _ _ hln)
          have e1 : l = l' := hps _ (hle.1 _ k2)
          subst e1
          obtain ⟨g, es, cl, d1, d2, d3, d4, d5⟩ := hob id k hln' _ hx
          exact ⟨⟨g, es, cl, by rw [rho_some hfl hln']; exact d1, d2, d3, d4, d5⟩, .inr ⟨id, _, hln', hx⟩⟩
        · cases h
      · cases h
    · cases h

/-- A state that fits another one is one. -/
theorem mtch_sound {s s' : St} (h : mtch w0.fl s s') (hs : Sat E w0 B n s [] a w) : Sat E w0 B n s' [] a w := by
  obtain ⟨ρ, H, b0, ds, I, G, hT, _, hdf, hsz⟩ := hs
  unfold mtch at h
  split at h
  · rename_i M hM
    obtain ⟨m1, h1, h2⟩ := Option.bind_eq_some_iff.1 hM
    split at h
    · rename_i hok
      simp only [Bool.and_eq_true] at hok
      obtain ⟨⟨⟨⟨hmok, hids⟩, hfl⟩, hnx⟩, hlr⟩ := hok
      simp only [decide_eq_true_eq] at hnx hlr
      rw [conj_iff] at h
      have hps : ∀ p ∈ M.ps, p := fun p hp => h.1 p (by simpa using hp)
      simp only [mOk, Bool.and_eq_true, List.all_eq_true, decide_eq_true_eq] at hmok
      obtain ⟨⟨hm1, hm2⟩, hm3⟩ := hmok
      obtain ⟨H', hle, hag, hK, hob, hfz⟩ := freeze (ρ := ρ) (w := w) (w0 := b0) (B := B) (nx := s.nx) M.fz H s.ob I hm2
      obtain ⟨_, kt⟩ := mTm_ok (fl := w0.fl) (ρ := ρ) h1
      obtain ⟨le2, ko⟩ := mOb_ok (fl := w0.fl) (ρ := ρ) h2
      have kt' := kt M H' hfl hps I.one hfz le2
      have ko' := ko M H' w B hfl hps I.one hfz (Mt.le_refl _) (fun id k hl p hp => hob id p hp (by
        have := hm1 id (List.mem_filterMap.2 ⟨_, lnOf_mem hl, rfl⟩)
        simpa using this))
      simp only [idsOk, Bool.and_eq_true, List.all_eq_true, decide_eq_true_eq] at hids
      obtain ⟨⟨hi1, hi2⟩, _⟩ := hids
      refine ⟨rho w0.fl M ρ, H', b0, ds, ⟨I.below, I.bsz, fun id => ?_, hag, fun id p hp => ?_, fun i j p q hij hp hq b hb1 hb2 => ?_, fun b hk => ?_⟩, { G with gl := G.gl.mono hle, hle := G.hle.trans hle, fl := hnx, re := fun i hi => by simp only [rho, if_pos hi]; exact G.re i hi, lrK := hlr ▸ G.lrK, lrI := hlr ▸ G.lrI }, fun t v' ht => ?_, by simp, hdf, hsz⟩
      · unfold rho
        split
        · exact I.one _
        · split
          · exact I.one _
          · rfl
          · rfl
      · have hmem := lookO_mem hp
        have := hi2 _ hmem
        simp only [] at this
        refine ⟨this.1, ?_, (ko' id p hmem).1⟩
        cases p with
        | row => trivial
        | sit => trivial
        | map => trivial
        | box cs =>
          intro c hc
          have h3 := List.all_eq_true.1 this.2 c hc
          exact Ch.lt_of_ids fun id' hid' => by simpa using List.all_eq_true.1 h3 id' hid'
      · rcases (ko' i p (lookO_mem hp)).2 with hi | ⟨id, o1, hi, ho1⟩
        · rw [rho_none hfl hi] at hb1
          rcases hb1 with e | ⟨_, _, e⟩ | e <;> cases e
        · rcases (ko' j q (lookO_mem hq)).2 with hj | ⟨jd, o2, hj, ho2⟩
          · rw [rho_none hfl hj] at hb2
            rcases hb2 with e | ⟨_, _, e⟩ | e <;> cases e
          · rw [rho_some hfl hi] at hb1
            rw [rho_some hfl hj] at hb2
            refine I.sep id jd o1 o2 (fun e => ?_) ho1 ho2 b hb1 hb2
            subst e
            obtain ⟨x, hx, hx'⟩ := List.mem_iff_getElem.1 (lnOf_mem hi)
            obtain ⟨y, hy, hy'⟩ := List.mem_iff_getElem.1 (lnOf_mem hj)
            have hxy := nodup_at (f := fun z : Nat × Option Nat => z.2) hm3 (List.getElem?_eq_some_iff.2 ⟨hx, hx'⟩) (List.getElem?_eq_some_iff.2 ⟨hy, hy'⟩) rfl rfl
            subst hxy
            rw [hx'] at hy'
            cases hy'
            exact hij rfl
      · obtain ⟨k1, k2, _, k4⟩ := I.kp b hk
        refine ⟨k1, k2, hK b hk, fun id p hp hb => ?_⟩
        rcases (ko' id p (lookO_mem hp)).2 with hi | ⟨id', o1, hi, ho1⟩
        · rw [rho_none hfl hi] at hb
          rcases hb with e | ⟨_, _, e⟩ | e <;> cases e
        · rw [rho_some hfl hi] at hb
          exact k4 id' o1 ho1 hb
      · have hmem := lookT_mem ht
        obtain ⟨v, hv1, hv2⟩ := kt' t v' hmem
        obtain ⟨q1, q2, q3⟩ := hT t v hv1
        refine ⟨q1, SV.lt_of_ids fun id hid => ?_, hv2 _ (q3.mono (REq.refl _ _) hle q2)⟩
        simpa using hi1 _ hmem id hid
    · exact h.elim
  · exact h.elim
end
end Go.Sx

/- The engine's runs are right: bases, records of loops over functions. -/
namespace Go.Sx
open Go.RowKit

section
variable {E : Env} {w0 b b' : Base} {B : Nat} {ρ : Nat → Value} {H : IH} {ob : List (Nat × Option AObj)} {nx : Nat} {w : World} {lr : LR} {ds : List Deferred}

theorem lookL_cons (k : Nat) (v : Option Ex) (l : LR) (t : Nat) : lookL ((k, v) :: l) t = if k = t then some v else lookL l t := by simp [lookL]

theorem lookL_delL (d t : Nat) : ∀ (l : LR), lookL (delL d l) t = if t = d then none else lookL l t
  | [] => by simp [delL, lookL]
  | (k, v) :: r => by
    have ih := lookL_delL d t r
    unfold delL at ih ⊢
    rw [List.filter_cons]
    by_cases h1 : k = d
    · subst h1
      simp only [bne_self_eq_false, Bool.false_eq_true, if_false, ih, lookL_cons]
      by_cases h2 : t = k
      · simp [h2]
      · simp [h2, Ne.symm h2]
    · have : (k != d) = true := by simpa using h1
      simp only [this, if_true, lookL_cons, ih]
      by_cases h2 : k = t
      · subst h2; simp [h1]
      · simp [h2]

/-- Another base, which begins now. -/
theorem Inv.rebase (I : Inv b B ρ H ob nx w) (hw : b'.w = w) (hK : ∀ k, b'.K k → k < w.heap.size ∧ H k = none ∧ ∀ id o, lookO ob id = some o → ¬ HB (ρ id) k) : Inv b' B ρ H ob nx w :=
  ⟨by rw [hw]; exact Below.refl _ _, by rw [hw]; exact Nat.le_trans I.bsz I.below.size, I.one, I.agree, I.objs, I.sep, fun k hk => by rw [hw]; obtain ⟨h1, h2, h3⟩ := hK k hk; exact ⟨h1, rfl, h2, h3⟩⟩

/-- Other handles for ids that are not in use. -/
theorem Inv.rho {ρ' : Nat → Value} (I : Inv b B ρ H ob nx w) (hr : REq nx ρ ρ') (ho : ∀ id, (ρ' id).oneCell' = true) : Inv b B ρ' H ob nx w := by
  have hh : ∀ id o, lookO ob id = some o → ρ' id = ρ id := fun id o h => hr id (I.objs id o h).1
  refine ⟨I.below, I.bsz, ho, I.agree, fun id o h => ?_, fun i j o p hij hi hj k => ?_, fun k hk => ?_⟩
  · obtain ⟨h1, h2, h3⟩ := I.objs id o h
    exact ⟨h1, h2, h3.kept h1 h2 hr (HLe.refl _) fun k hk => ⟨rfl, (I.hb h hk).2.1⟩⟩
  · rw [hh i o hi, hh j p hj]; exact I.sep i j o p hij hi hj k
  · obtain ⟨k1, k2, k3, k4⟩ := I.kp k hk
    exact ⟨k1, k2, k3, fun id o h => by rw [hh id o h]; exact k4 id o h⟩

/-- A kept block turns. -/
theorem Inv.turn (I : Inv b B ρ H ob nx w) {g : Nat} {x : Obj} (hg : b.K g) (hw : b'.w = w.putObj g x) (hK : ∀ k, b'.K k → b.K k) : Inv b' B ρ H ob nx (w.putObj g x) := by
  obtain ⟨g1, g2, g3⟩ := I.kAll hg
  refine ⟨by rw [hw]; exact Below.refl _ _, by rw [hw, World.putObj_size]; exact Nat.le_trans I.bsz I.below.size, I.one, fun k o h => ?_, fun id o h => ?_, I.sep, fun k hk => ?_⟩
  · have hne : k ≠ g := fun e => by rw [e, g2] at h; cases h
    rw [World.putObj_heap_other hne]; exact I.agree k o h
  · obtain ⟨h1, h2, h3⟩ := I.objs id o h
    refine ⟨h1, h2, h3.kept h1 h2 (REq.refl _ _) (HLe.refl _) fun k hk => ?_⟩
    have hne : k ≠ g := fun e => g3 id o h (e ▸ hk)
    exact ⟨World.putObj_heap_other hne, (I.hb h hk).2.1⟩
  · obtain ⟨k1, k2, k3⟩ := I.kAll (hK k hk)
    rw [hw]
    exact ⟨by rw [World.putObj_size]; exact k1, rfl, k2, k3⟩

theorem below_put {a c : World} {g : Nat} {x : Obj} (h : Below B a c) (hB : B ≤ g) : Below B a (c.putObj g x) :=
  ⟨h.os, h.tape, h.output, by rw [World.putObj_size]; exact h.size, fun k hk => by rw [World.putObj_heap_other (by omega)]; exact h.block k hk⟩

theorem below_put2 {a c : World} {g : Nat} {x : Obj} (h : Below B a c) (hB : B ≤ g) : Below B (a.putObj g x) (c.putObj g x) :=
  ⟨h.os, h.tape, h.output, by rw [World.putObj_size, World.putObj_size]; exact h.size, fun k hk => by rw [World.putObj_heap_other (by omega), World.putObj_heap_other (by omega)]; exact h.block k hk⟩

/-- A record is taken out. -/
theorem GlB.del (G : GlB E w0 b B ρ H nx lr ds) {id g : Nat} {st : Option Ex} {r : Loop} (hid : lookL lr id = some st) (hlt : w0.lt id = some (g, r)) (hb : Below B b.w b'.w) (hK : ∀ k, b.K k → k ≠ g → b'.K k ∧ b'.w.heap[k]? = b.w.heap[k]?) :
    GlB E w0 b' B ρ H nx (delL id lr) ds := by
  obtain ⟨g', r', e1, e2, e3, e4, e5, e6⟩ := G.lrK id st hid
  rw [hlt] at e1
  cases e1
  refine { G with bel := G.bel.trans hb, kp := fun k hk => ?_, df := fun d hd => ?_, rd := fun l hl => ?_, lrK := fun i t h => ?_, lrI := fun i j s t g p q hi hj => ?_ }
  · obtain ⟨h1, h2, h3⟩ := G.kp k hk
    have hne : k ≠ g := fun e => e5 (e ▸ hk)
    exact ⟨(hK k h1 hne).1, h2, (hK k h1 hne).2.trans h3⟩
  · obtain ⟨r1, h1, h2, h3, h4⟩ := G.df d hd
    have hne : r1 ≠ g := fun e => by rw [e, e4] at h4; cases h4
    exact ⟨r1, h1, h2, (hK r1 h3 hne).1, (hK r1 h3 hne).2.trans h4⟩
  · obtain ⟨h1, r1, h2⟩ := G.rd l hl
    have hne : l ≠ g := fun e => e6 (e ▸ hl)
    exact ⟨(hK l h1 hne).1, r1, (hK l h1 hne).2.trans h2⟩
  · rw [lookL_delL] at h
    split at h
    · cases h
    · rename_i hne
      obtain ⟨g1, r1, h1, h2, h3, h4, h5, h6⟩ := G.lrK i t h
      have hg : g1 ≠ g := fun e => hne (G.lrI i id t st g1 r1 r h hid h1 (e ▸ hlt))
      exact ⟨g1, r1, h1, h2, (hK g1 h3 hg).1, (hK g1 h3 hg).2.trans h4, h5, h6⟩
  · rw [lookL_delL] at hi hj
    split at hi
    · cases hi
    · split at hj
      · cases hj
      · exact G.lrI i j s t g p q hi hj

/-! ### The parameters of a round. -/

theorem setPs_ok : ∀ (ps : List Nat) (vs : List V) (us : List Value) (tm : List (Nat × SV)) (tmps : Array Value), (∀ p ∈ ps, p < tmps.size) → DenVs ρ H vs us → (∀ v ∈ vs, v.lt nx) → TmOk ρ H tm nx tmps →
    TmOk ρ H (setPs ps vs tm) nx ((ps.zip us).foldl (fun t x => t.setIfInBounds x.1 x.2) tmps) ∧ ((ps.zip us).foldl (fun t x => t.setIfInBounds x.1 x.2) tmps).size = tmps.size
  | [], vs, us, tm, tmps, _, _, _, h => by cases vs <;> exact ⟨h, rfl⟩
  | p :: ps, [], us, tm, tmps, _, hd, _, h => by rw [show us = [] from hd]; exact ⟨h, rfl⟩
  | p :: ps, v :: vs, us, tm, tmps, hp, hd, hl, h => by
    obtain ⟨u, us', rfl, h1, h2⟩ := hd
    have hps : p < tmps.size := hp p (by simp)
    obtain ⟨k1, k2⟩ := setPs_ok ps vs us' ((p, .val v) :: tm) (tmps.setIfInBounds p u) (fun q hq => by simpa using hp q (by simp [hq])) h2 (fun x hx => hl x (by simp [hx])) (by
      intro t sv ht
      rw [lookT_cons] at ht
      have hg : (tmps.setIfInBounds p u).getD t undef = if t = p then u else tmps.getD t undef := by
        simp only [Array.getD_eq_getD_getElem?, Array.getElem?_setIfInBounds]
        by_cases e : t = p
        · subst e; simp [hps]
        · rw [if_neg e, if_neg (fun x => e x.symm)]
      rw [hg]
      split at ht
      · rename_i e
        subst e
        cases ht
        simp only [if_true, Array.size_setIfInBounds]
        exact ⟨hps, hl v (by simp), h1⟩
      · rename_i e
        rw [if_neg (fun x => e x.symm), Array.size_setIfInBounds]
        exact h t sv ht)
    refine ⟨k1, k2.trans (by simp)⟩

theorem recAt_state (r : Loop) (st : Option Ex) : (recAt r st).state ≠ .busy := by
  cases st with
  | none => simp [recAt]
  | some e => simp only [recAt]; split <;> simp

theorem YtOk.mono {w0 w1 : Base} {yt : YT} (h : YtOk E w0 B yt) (h1 : w0.fl ≤ w1.fl) (h2 : REq w0.fl w0.ρ w1.ρ) (h3 : HLe w0.H0 w1.H0) (h4 : ∀ i x, w0.lt i = some x → w1.lt i = some x) : YtOk E w1 B yt := by
  intro id y hy
  obtain ⟨k1, g, r, k2, k3, k4⟩ := h id y hy
  refine ⟨Nat.lt_of_lt_of_le k1 h1, g, r, h4 _ _ k2, by rw [h2 id k1]; exact k3, ?_⟩
  intro vs ob nx lr k hyk w2 b ρ H ds us w I G l1 l2 l3 l4 l5 l6 l7
  exact k4 vs ob nx lr k hyk w2 b ρ H ds us w I G l1 (fun i x hx => l2 i x (h4 i x hx)) (h3.trans l3) (fun i hi => by rw [l4 i (Nat.lt_of_lt_of_le hi h1), h2 i hi]) (Nat.le_trans h1 l5) l6 l7
end
end Go.Sx

/- The engine's runs are right: a round of a loop over a function. -/
namespace Go.Sx
open Go.RowKit

def exitOf : Ex → Exit
  | .nrm => .normal
  | .ret => .ret
  | .ext id => .exit id
  | .gto l => .goto l

/-- What is shown of a piece of code. -/
def ExOk (E : Env) (h : Hints) (inl : Inl) (f : FuncId) (yt : YT) (B n : Nat) (c : Code) : Prop :=
  ∀ (w0 : Base) (s : St) (k : Ex → St → Prop) (Q : Exit → Act → World → Prop) (a : Act) (w : World) (m : Nat), YtOk E w0 B yt → ex E h inl f yt c w0.fl s k → Sat E w0 B n s [] a w →
    (∀ e s' a' w', k e s' → Sat E w0 B n s' [] a' w' → Q (exitOf e) a' w') → c.wpIn (Fw w0.rd) m E.P Q a w

theorem inRound_Fw (rd : Option Nat) (g : Nat) : (Fw rd).inRound g = Fw (some g) := rfl

section
variable {E : Env} {h : Hints} {inl : Inl} {f : FuncId} {yt : YT} {B n : Nat}

theorem recAt_busy (r : Loop) : ({ recAt r none with state := .busy } : Loop) = { r with state := .busy, pending := none } := by simp [recAt]

theorem round_ok {ps : Array Tmp} {assign body : Code} (ihA : ExOk E h inl f yt B n assign) (ihB : ExOk E h inl f yt B n body) (hps : ∀ p ∈ ps.toList, p < n)
    {s : St} {a : Act} {wp : Base} {ρ0 ρ1 : Nat → Value} {H0 : IH} (hT : TmOk ρ0 H0 s.tm s.nx a.tmps) (hsz : a.tmps.size = n) (hYp : YtOk E wp B yt) (hfl : wp.fl ≤ s.nx) (hre : REq wp.fl wp.ρ ρ0) (hle : HLe wp.H0 H0) (hr1 : REq s.nx ρ0 ρ1)
    {g : Nat} {r : Loop} (r1 : r.tmps = a.tmps) (r2 : r.params = ps) (r3 : r.assign = assign) (r4 : r.body = body) {lt1 : Nat → Option (Nat × Loop)} (hlt : ∀ i x, wp.lt i = some x → lt1 i = some x) :
    YSem E B s.nx g r ρ1 H0 (s.nx + 1) lt1 (fun vs ob nx lr k' => match lookL lr s.nx with
              | some none => if vs.length = ps.size then
                  ex E h inl f yt assign nx ⟨setPs ps.toList vs s.tm, ob, nx, delL s.nx lr⟩ fun
                    | .nrm, s1 => ex E h inl f yt body nx s1 fun
                      | .nrm, s2 => k' (.val (.one (.bool true))) s2.ob s2.nx ((s.nx, none) :: s2.lr)
                      | e, s2 => k' (.val (.one (.bool false))) s2.ob s2.nx ((s.nx, some e) :: s2.lr)
                    | _, _ => False
                else False
              | _ => False) := by
  intro vs ob nx lr k' hy w0 b ρ H ds us w I G hid hlt0 hH0 hρ1 hnx hden hvl
  split at hy
  · rename_i hlook
    split at hy
    · rename_i hvs
      obtain ⟨g', r', e1, e2, e3, e4, e5, e6⟩ := G.lrK _ _ hlook
      rw [hid] at e1
      cases e1
      have hwg : w.heap[g]? = some (.loop (recAt r none)) := (I.kSame e3).trans e4
      have hus : us.length = vs.length := by
        clear hy hvs hvl
        induction vs generalizing us with
        | nil => rw [show us = [] from hden]; rfl
        | cons v vs ih => obtain ⟨u, us', rfl, _, h2⟩ := hden; simp [ih us' h2]
      refine ⟨_, hwg, by simp [recAt, r2, hus, hvs], ?_⟩
      -- the base of the round
      let W2 : Base := ⟨b.w, fun k => b.K k ∧ ∀ i st g' r', lookL (delL s.nx lr) i = some st → w0.lt i = some (g', r') → k ≠ g', H, ρ, nx, w0.lt, some g⟩
      have hkL : ∀ k, b.K k → k < b.w.heap.size := fun k hk => (I.kp k hk).1
      have hW2g : W2.K g := ⟨e3, fun i st g' r' hi hg' e => by
        rw [lookL_delL] at hi
        split at hi
        · cases hi
        · rename_i hne
          exact hne (G.lrI _ _ _ _ _ _ _ hi hlook hg' (e ▸ hid))⟩
      have G2 : GlB E W2 b B ρ H nx (delL s.nx lr) [] := by
        refine ⟨G.gl, HLe.refl _, Nat.le_refl _, REq.refl _ _, Below.refl _ _, fun k hk => ⟨hk.1, hkL k hk.1, rfl⟩, by simp, by simp, fun l hl => ?_, fun id st hi => ?_, fun i j p q g' u v hi hj => ?_, fun i hi => G.lo i (Nat.le_trans G.fl hi)⟩
        · cases hl; exact ⟨e3, _, e4⟩
        · have hi' := hi
          rw [lookL_delL] at hi
          split at hi
          · cases hi
          · rename_i hne
            obtain ⟨g1, q1, h1, h2, h3, h4, h5, h6⟩ := G.lrK id st hi
            refine ⟨g1, q1, h1, h2, h3, h4, fun hk => hk.2 id st g1 q1 hi' h1 rfl, fun e => ?_⟩
            cases e
            exact hne (G.lrI _ _ _ _ _ _ _ hi hlook h1 hid)
        · rw [lookL_delL] at hi hj
          split at hi
          · cases hi
          · split at hj
            · cases hj
            · exact G.lrI i j p q g' u v hi hj
      have hYw : YtOk E W2 B yt := hYp.mono (Nat.le_trans hfl (by show s.nx ≤ nx; omega)) (fun i hi => by
          show ρ i = wp.ρ i
          rw [hρ1 i (by omega), hr1 i (by omega), hre i hi]) (hle.trans hH0) (fun i x hx => hlt0 i x (hlt i x hx))
      have hT2 : TmOk ρ H s.tm nx a.tmps := (hT.mono hr1 (HLe.refl _) (Nat.le_refl _)).mono (fun i hi => hρ1 i (by omega)) hH0 (by omega)
      have hfold : ((recAt r none).params.zip us.toArray).foldl (fun tmps (t, a) => tmps.setIfInBounds t a) (recAt r none).tmps = (ps.toList.zip us).foldl (fun t x => t.setIfInBounds x.1 x.2) a.tmps := by
        have : (recAt r none).params = ps := r2
        rw [this, show (recAt r none).tmps = a.tmps from r1, ← Array.foldl_toList, Array.toList_zip]
      obtain ⟨q1, q2⟩ := setPs_ok ps.toList vs us s.tm a.tmps (by rw [hsz]; exact hps) hden hvl hT2
      rw [hfold, show (recAt r none).assign = assign from r3, show (recAt r none).body = body from r4, show (recAt r none).fn = r.fn from rfl]
      refine roundIn_of_wpIn trivial ?_
      rw [inRound_Fw]
      refine ihA W2 _ _ _ _ w 0 hYw hy ⟨ρ, H, b, [], I, G2, q1, by simp, rfl, q2.trans hsz⟩ ?_
      -- the assignments are done
      intro e s1 a1 w1 hk1 hs1
      cases e with
      | ret => exact hk1.elim
      | ext => exact hk1.elim
      | gto => exact hk1.elim
      | nrm =>
        obtain ⟨ρ2, H2, b2, ds2, I2, G3, hT3, _, hdf3, hsz3⟩ := hs1
        obtain ⟨p1, p2, p3⟩ := G3.kp g hW2g
        have hw1 : w1.heap[g]? = some (.loop (recAt r none)) := (I2.kSame p1).trans (p3.trans e4)
        refine ⟨_, run_beginRound hw1 rfl, ?_⟩
        rw [recAt_busy]
        let X : Obj := .loop { r with state := .busy, pending := none }
        let W3 : Base := { W2 with w := b.w.putObj g X }
        let b3 : Base := { b2 with w := w1.putObj g X }
        have I3 : Inv b3 B ρ2 H2 s1.ob s1.nx (w1.putObj g X) := I2.turn p1 rfl (fun k hk => hk)
        have hgb : g < b.w.heap.size := hkL g e3
        have hgw : g < w1.heap.size := lt_of_some hw1
        have hoth : ∀ k, b2.K k → k ≠ g → b3.w.heap[k]? = b2.w.heap[k]? := fun k hk hne => (World.putObj_heap_other hne).trans (I2.kSame hk)
        have G4 : GlB E W3 b3 B ρ2 H2 s1.nx s1.lr ds2 := by
          refine ⟨G3.gl, G3.hle, G3.fl, G3.re, below_put2 (G3.bel.trans I2.below) e2, fun k hk => ?_, fun d hd => ?_, G3.dn, fun l hl => ?_, fun id st hi => ?_, G3.lrI, G3.lo⟩
          · obtain ⟨k1, k2, k3⟩ := G3.kp k hk
            refine ⟨k1, by show k < (b.w.putObj g X).heap.size; rw [World.putObj_size]; exact k2, ?_⟩
            by_cases hne : k = g
            · subst hne
              show (w1.putObj k X).heap[k]? = (b.w.putObj k X).heap[k]?
              rw [World.putObj_heap_same hgw, World.putObj_heap_same hgb]
            · rw [hoth k k1 hne, k3]
              exact (World.putObj_heap_other hne).symm
          · obtain ⟨q, k1, k2, k3, k4⟩ := G3.df d hd
            have hne : q ≠ g := fun e => by rw [e, p3] at k4; rw [show W2.w = b.w from rfl, e4] at k4; cases k4
            exact ⟨q, k1, k2, k3, (hoth q k3 hne).trans k4⟩
          · cases hl
            exact ⟨p1, _, World.putObj_heap_same hgw⟩
          · obtain ⟨g1, q1, k1, k2, k3, k4, k5, k6⟩ := G3.lrK id st hi
            have hne : g1 ≠ g := fun e => k6 (by rw [e])
            exact ⟨g1, q1, k1, k2, k3, (hoth g1 k3 hne).trans k4, k5, k6⟩
        refine ihB W3 s1 _ _ a1 _ 0 hYw hk1 ⟨ρ2, H2, b3, ds2, I3, G4, hT3, by simp, hdf3, hsz3⟩ ?_
        -- the body is left
        intro e s2 a2 w2 hk2 hs2
        obtain ⟨ρ3, H3, b4, ds3, I4, G5, _, _, _, _⟩ := hs2
        obtain ⟨y1, y2, y3⟩ := G5.kp g hW2g
        have hb4g : b4.w.heap[g]? = some X := by rw [y3]; exact World.putObj_heap_same hgb
        have hw2 : w2.heap[g]? = some (.loop { r with state := .busy, pending := none }) := (I4.kSame y1).trans hb4g
        -- what is left of it, by the record's new state
        have fin : ∀ (st : Option Ex) (sv : Bool), k' (.val (.one (.bool sv))) s2.ob s2.nx ((s.nx, st) :: s2.lr) → AfterOk E w0 B ρ H nx ds k' (.bool sv) (w2.putObj g (.loop (recAt r st))) := by
          intro st sv hk
          let b5 : Base := { b4 with w := w2.putObj g (.loop (recAt r st)) }
          have I5 : Inv b5 B ρ3 H3 s2.ob s2.nx (w2.putObj g (.loop (recAt r st))) := I4.turn y1 rfl (fun k hk => hk)
          have hgw2 : g < w2.heap.size := lt_of_some hw2
          have hoth5 : ∀ k, b4.K k → k ≠ g → b5.w.heap[k]? = b4.w.heap[k]? := fun k hk hne => (World.putObj_heap_other hne).trans (I4.kSame hk)
          have keep : ∀ k, b.K k → k ≠ g → W2.K k → b5.K k ∧ b5.w.heap[k]? = b.w.heap[k]? := by
            intro k hk hne hW
            obtain ⟨k1, _, k3⟩ := G5.kp k hW
            exact ⟨k1, (hoth5 k k1 hne).trans (k3.trans (World.putObj_heap_other hne))⟩
          have inW : ∀ k, b.K k → (∀ i st g' r', lookL lr i = some st → w0.lt i = some (g', r') → k ≠ g') → W2.K k := by
            intro k hk hh
            refine ⟨hk, fun i st g' r' hi => ?_⟩
            rw [lookL_delL] at hi
            split at hi
            · cases hi
            · exact hh i st g' r' hi
          have w0K : ∀ k, w0.K k → W2.K k ∧ k ≠ g := fun k hk => ⟨inW k (G.kp k hk).1 (fun i st g' r' hi hg' e => by
            obtain ⟨g1, q1, h1, _, _, _, h5, _⟩ := G.lrK i st hi
            rw [hg'] at h1; cases h1
            exact h5 (e ▸ hk)), fun e => e5 (e ▸ hk)⟩
          have rdK : ∀ l, w0.rd = some l → W2.K l ∧ l ≠ g := fun l hl => ⟨inW l (G.rd l hl).1 (fun i st g' r' hi hg' e => by
            obtain ⟨g1, q1, h1, _, _, _, _, h6⟩ := G.lrK i st hi
            rw [hg'] at h1; cases h1
            exact h6 (e ▸ hl)), fun e => e6 (e ▸ hl)⟩
          refine ⟨.val (.one (.bool sv)), s2.ob, s2.nx, (s.nx, st) :: s2.lr, ρ3, H3, b5, hk, I5, ?_, G5.hle, G5.re, G5.fl, rfl, trivial⟩
          refine ⟨G5.gl, G.hle.trans G5.hle, Nat.le_trans G.fl G5.fl, fun i hi => (G5.re i (Nat.lt_of_lt_of_le hi G.fl)).trans (G.re i hi), ?_, fun k hk => ?_, fun d hd => ?_, G.dn, fun l hl => ?_, fun id t hi => ?_, fun i j p q g1 u v hi hj hu hv => ?_, G.lo⟩
          · refine G.bel.trans (below_put ?_ e2)
            have h1 : Below B (b.w.putObj g X) b4.w := G5.bel
            exact (below_put (Below.refl _ _) e2).trans (h1.trans I4.below)
          · obtain ⟨h1, h2, h3⟩ := G.kp k hk
            obtain ⟨k1, k2⟩ := w0K k hk
            obtain ⟨k3, k4⟩ := keep k h1 k2 k1
            exact ⟨k3, h2, k4.trans h3⟩
          · obtain ⟨q, h1, h2, h3, h4⟩ := G.df d hd
            have hne : q ≠ g := fun e => by rw [e, e4] at h4; cases h4
            have hW := inW q h3 (fun i st g' r' hi hg' e => by
              obtain ⟨g1, q1, k1, _, _, k4, _, _⟩ := G.lrK i st hi
              rw [hg'] at k1; cases k1
              rw [e, k4] at h4; cases h4)
            obtain ⟨k3, k4⟩ := keep q h3 hne hW
            exact ⟨q, h1, h2, k3, k4.trans h4⟩
          · obtain ⟨h1, q, h2⟩ := G.rd l hl
            obtain ⟨k1, k2⟩ := rdK l hl
            obtain ⟨k3, k4⟩ := keep l h1 k2 k1
            exact ⟨k3, q, k4.trans h2⟩
          · rw [lookL_cons] at hi
            split at hi
            · rename_i e
              subst e
              cases hi
              exact ⟨g, r, hid, e2, y1, World.putObj_heap_same hgw2, e5, e6⟩
            · obtain ⟨g1, q1, k1, k2, k3, k4, k5, k6⟩ := G5.lrK id t hi
              have hne : g1 ≠ g := fun e => k6 (by rw [e])
              exact ⟨g1, q1, k1, k2, k3, (hoth5 g1 k3 hne).trans k4, fun hk => k5 (w0K g1 hk).1, fun hl => k5 (rdK g1 hl).1⟩
          · rw [lookL_cons] at hi hj
            split at hi
            · rename_i ei
              split at hj
              · rename_i ej; exact ei.symm.trans ej
              · obtain ⟨g2, q2, k1, _, _, _, _, k6⟩ := G5.lrK j q hj
                rw [show W3.lt = w0.lt from rfl, hv] at k1; cases k1
                subst ei
                rw [hid] at hu; cases hu
                exact absurd rfl k6
            · split at hj
              · rename_i ej
                obtain ⟨g2, q2, k1, _, _, _, _, k6⟩ := G5.lrK i p hi
                rw [show W3.lt = w0.lt from rfl, hu] at k1; cases k1
                subst ej
                rw [hid] at hv; cases hv
                exact absurd rfl k6
              · exact G5.lrI i j p q g1 u v hi hj hu hv
        cases e with
        | nrm => exact ⟨_, _, run_endRound none hw2, _, rfl, fin none true hk2⟩
        | ret => exact ⟨_, _, run_endRound (some .ret) hw2, _, rfl, fin (some .ret) false hk2⟩
        | ext i => exact ⟨_, _, run_endRound (some (.exit i)) hw2, _, rfl, fin (some (.ext i)) false hk2⟩
        | gto l => exact ⟨_, _, run_endRound (some (.goto l)) hw2, _, rfl, fin (some (.gto l)) false hk2⟩
    · exact hy.elim
  · exact hy.elim
end
end Go.Sx

/- The engine's runs are right: code. -/
namespace Go.Sx
open Go.RowKit

section
variable {E : Env} {h : Hints} {inl : Inl} {f : FuncId} {yt : YT} {B n : Nat}

theorem ops_ok {id : Nat} {ops : Array Oper} {b : Bool} (hc : codeOk n (.region id ops b) = true) : ∀ o ∈ ops.toList, ∀ d, o.dst = some d → d < n := by
  intro o ho d hd
  simp only [codeOk, List.all_eq_true] at hc
  have := hc o ho
  rw [hd] at this
  simpa using this

theorem range_get (ops : Array Oper) : (List.range ops.size).map (ops[·]?) = ops.toList.map some := by
  apply List.ext_getElem
  · simp
  · intro i h1 h2
    have : i < ops.size := by simpa using h1
    simp [this]

def noGoto (Q : Exit → Act → World → Prop) : Exit → Act → World → Prop
  | .goto _, _, _ => False
  | e, a, w => Q e a w

theorem wpIn_scope_straight {F : Fence} {m : Nat} {P : Program} {c : Code} {Q : Exit → Act → World → Prop} {a : Act} {w : World} (h : c.wpIn F m P (noGoto Q) a w) : (Code.scope c).wpIn F m P Q a w := by
  intro b k cs hro hb hr
  have h0 : (lone (b.atR a (.code (.scope c) :: k)) cs w).fenced P F := fenced_calm hb hr rfl
  have s1 : step P (lone (b.atR a (.code (.scope c) :: k)) cs w) = .next (lone (b.atR a (.code c :: .inScope c :: k)) cs w) := step_lone_go (by simp [Go.stepG, Go.stepG.exec, Frame.atR])
  have s2 : ∀ a w, step P (lone (b.atR a (.inScope c :: k)) cs w) = .next (lone (b.atR a k) cs w) := fun a w => step_lone_go (by simp [Go.stepG, Go.stepG.exec, Frame.atR])
  obtain ⟨e, a₁, w₁, hq, harr⟩ := h b (.inScope c :: k) cs hro hb hr
  cases e with
  | normal => exact ⟨.normal, a₁, w₁, hq, .head h0 s1 (StepsIn.trans harr (.one (fenced_calm hb hr rfl) (s2 _ _)))⟩
  | exit id =>
    have hx : exitTo id (.inScope c :: k) = exitTo id k := by simp [exitTo]
    exact ⟨.exit id, a₁, w₁, hq, fun k' hk => .head h0 s1 (harr.1 k' (by rw [hx]; exact hk)),
      fun hr' hk => let ⟨k₁, h1, h2⟩ := harr.2 hr' (by rw [hx]; exact hk); ⟨k₁, h1, .head h0 s1 h2⟩⟩
  | goto l => exact hq.elim
  | ret => exact ⟨_, a₁, w₁, hq, .of_steps (.one h0 s1) harr⟩
  | panic ch => exact ⟨_, a₁, w₁, hq, .of_steps (.one h0 s1) harr⟩
  | outgrown => exact ⟨_, a₁, w₁, hq, .of_steps (.one h0 s1) harr⟩

/-- A loop over a function. -/
theorem range_ok (hE : EnvOk E) (hI : InlOk E inl) {g : Operand} {ps : Array Tmp} {assign body : Code} (ihA : ExOk E h inl f yt B n assign) (ihB : ExOk E h inl f yt B n body) (hps : ∀ p ∈ ps.toList, p < n) : ExOk E h inl f yt B n (.rangeFunc g ps assign body) := by
  intro w0 s k Q a w m hY hx hs hk
  obtain ⟨ρ, H, b, ds, I, G, hT, _, hdf, hsz⟩ := hs
  simp only [ex] at hx
  split at hx
  · rename_i f' pa pb hf'
    split at hx
    · rename_i fn hfn
      obtain ⟨hfs, hnm, _, hbd, _⟩ := hE.fb f' fn hfn
      have hv := evalO_ok (E := E) (a := a) (nx := s.nx) (ρ := ρ) G.gl (ev := lookT s.tm) (fun t sv h => ⟨(hT t sv h).2.2, (hT t sv h).2.1⟩)
      obtain ⟨⟨u1, u2, v1, v2, v3⟩, l1, l2⟩ := hv.one hf'
      have hnew : ∀ j, w.heap.size ≤ j → H j = none ∧ ∀ id o, lookO s.ob id = some o → ¬ HB (ρ id) j := fun j hj => ⟨by
        cases hh : H j with
        | none => rfl
        | some o => have := lt_of_some (I.agree _ _ hh); omega, fun id o ho => DenO.fresh I id o ho j hj⟩
      -- the record is laid
      have main : ∀ (w1 : World) (g0 : Nat) (mk : List Deferred) (r : Loop), Below w.heap.size w w1 → w.heap.size ≤ g0 → w1.heap[g0]? = some (.loop (recAt r none)) → r.tmps = a.tmps → r.params = ps → r.assign = assign → r.body = body →
          (∀ d ∈ mk, ∃ q, d = markAt q ∧ w.heap.size ≤ q ∧ w1.heap[q]? = some (.deferred (some []))) → mk.Nodup →
          Calls E.P f' ⟨u1 ++ [.func (.yield g0) #[] #[]] ++ u2⟩ w1 (fun e w3 => rangePost (Fw w0.rd) m E.P g0 Q { a with defers := mk ++ a.defers } e w3) := by
        intro w1 g0 mk r hbel hg0 hg0c r1 r2 r3 r4 hmk hmn
        have hB : B ≤ w.heap.size := Nat.le_trans I.bsz I.below.size
        have hbelB : Below B w w1 := hbel.mono hB
        let ρ1 := upd ρ s.nx (.func (.yield g0) #[] #[])
        let lt1 : Nat → Option (Nat × Loop) := fun i => if i = s.nx then some (g0, r) else w0.lt i
        let wc : Base := ⟨w0.w, w0.K, H, ρ1, s.nx + 1, lt1, w0.rd⟩
        let b1 : Base := { b with w := w1, K := fun k => b.K k ∨ (w.heap.size ≤ k ∧ k < w1.heap.size) }
        have hre1 : REq s.nx ρ ρ1 := REq.upd _ _ _ (Nat.le_refl _)
        have I1 : Inv b1 B ρ1 H s.ob (s.nx + 1) w1 := by
          refine (((I.grow hbel).rebase (b' := b1) rfl ?_).rho hre1 ?_).more (Nat.le_add_right _ _)
          · rintro k (hk | ⟨hk1, hk2⟩)
            · obtain ⟨h1, h2, h3⟩ := I.kAll hk
              exact ⟨Nat.lt_of_lt_of_le h1 hbel.size, h2, h3⟩
            · exact ⟨hk2, hnew k hk1⟩
          · intro id
            simp only [ρ1, upd]
            split
            · rfl
            · exact I.one id
        have hold : ∀ j, b.K j → b1.K j ∧ b1.w.heap[j]? = b.w.heap[j]? := fun j hj => ⟨.inl hj, (hbel.block j (I.kLt hj)).trans (I.kSame hj)⟩
        have hltN : ∀ i x, w0.lt i = some x → lt1 i = some x := fun i x hx => by
          simp only [lt1]
          rw [if_neg (fun e => by rw [e, G.lo _ G.fl] at hx; cases hx)]
          exact hx
        have hnwK : ∀ j, w.heap.size ≤ j → ¬ w0.K j := fun j hj hK => by
          have := I.kLt (G.kp j hK).1; omega
        have G0 : GlB E w0 b1 B ρ H s.nx s.lr ds := G.to (I.below.trans hbelB) hold
        have G1 : GlB E wc b1 B ρ1 H (s.nx + 1) ((s.nx, none) :: s.lr) (mk ++ ds) := by
          refine ⟨G.gl, HLe.refl _, Nat.le_refl _, REq.refl _ _, G0.bel, G0.kp, fun d hd => ?_, ?_, G0.rd, fun id st hi => ?_, fun i j p q g1 u v hi hj hu hv => ?_, fun i hi => ?_⟩
          · rcases List.mem_append.1 hd with hd | hd
            · obtain ⟨q, q1, q2, q3⟩ := hmk d hd
              exact ⟨q, q1, ⟨Nat.le_trans hB q2, hnwK q q2⟩, .inr ⟨q2, lt_of_some q3⟩, q3⟩
            · exact G0.df d hd
          · refine List.nodup_append.2 ⟨hmn, G.dn, fun x hx y hy e => ?_⟩
            subst e
            obtain ⟨q, q1, q2, _⟩ := hmk x hx
            obtain ⟨p, p1, _, p3, _⟩ := G.df x hy
            rw [p1] at q1
            simp only [markAt, Deferred.mk.injEq, Target.collected.injEq, and_true] at q1
            have := I.kLt p3
            omega
          · rw [lookL_cons] at hi
            split at hi
            · rename_i e
              subst e
              cases hi
              refine ⟨g0, r, by simp [wc, lt1], Nat.le_trans hB hg0, .inr ⟨hg0, lt_of_some hg0c⟩, hg0c, hnwK g0 hg0, fun e => ?_⟩
              have := I.kLt (G.rd g0 e).1
              omega
            · rename_i hne
              obtain ⟨g1, q1, k1, k2, k3, k4, k5, k6⟩ := G0.lrK id st hi
              exact ⟨g1, q1, hltN _ _ k1, k2, k3, k4, k5, k6⟩
          · have old : ∀ i p u, lookL s.lr i = some p → i ≠ s.nx → wc.lt i = some (g1, u) → w0.lt i = some (g1, u) ∧ g1 ≠ g0 := by
              intro i p u hi hne hu
              simp only [wc, lt1] at hu
              rw [if_neg hne] at hu
              refine ⟨hu, fun e => ?_⟩
              obtain ⟨g2, q2, k1, _, k3, _⟩ := G.lrK i p hi
              rw [hu] at k1; cases k1
              have := I.kLt k3
              omega
            have nw : ∀ u, wc.lt s.nx = some (g1, u) → g1 = g0 := fun u hu => by
              simp only [wc, lt1, if_true] at hu
              cases hu; rfl
            rw [lookL_cons] at hi hj
            split at hi
            · rename_i ei
              split at hj
              · rename_i ej; exact ei.symm.trans ej
              · rename_i ej
                rw [← ei] at hu
                exact absurd (nw u hu) (old j q v hj (fun e => ej e.symm) hv).2
            · rename_i ei
              split at hj
              · rename_i ej
                rw [← ej] at hv
                exact absurd (nw v hv) (old i p u hi (fun e => ei e.symm) hu).2
              · rename_i ej
                exact G.lrI i j p q g1 u v hi hj (old i p u hi (fun e => ei e.symm) hu).1 (old j q v hj (fun e => ej e.symm) hv).1
          · simp only [wc, lt1]
            have hi' : s.nx + 1 ≤ i := hi
            rw [if_neg (by omega)]
            exact G.lo i (Nat.le_trans G.fl (by omega))
        have hY1 : YtOk E wc B yt := hY.mono (Nat.le_trans G.fl (Nat.le_add_right _ _)) (fun i hi => (hre1 i (Nat.lt_of_lt_of_le hi G.fl)).trans (G.re i hi)) G.hle hltN
        have hround := round_ok (ρ1 := ρ1) (lt1 := lt1) (g := g0) (r := r) ihA ihB hps hT hsz hY G.fl G.re G.hle hre1 r1 r2 r3 r4 hltN
        have hY2 : YtOk E wc B (fun i => bif i == s.nx then some (fun vs ob nx lr k' => match lookL lr s.nx with
              | some none => if vs.length = ps.size then
                  ex E h inl f yt assign nx ⟨setPs ps.toList vs s.tm, ob, nx, delL s.nx lr⟩ fun
                    | .nrm, s1 => ex E h inl f yt body nx s1 fun
                      | .nrm, s2 => k' (.val (.one (.bool true))) s2.ob s2.nx ((s.nx, none) :: s2.lr)
                      | e, s2 => k' (.val (.one (.bool false))) s2.ob s2.nx ((s.nx, some e) :: s2.lr)
                    | _, _ => False
                else False
              | _ => False) else yt i) := by
          intro id y hy
          by_cases e : id = s.nx
          · subst e
            simp only [beq_self_eq_true, cond_true, Option.some.injEq] at hy
            subst hy
            exact ⟨Nat.lt_succ_self _, g0, r, by simp [wc, lt1], upd_same _ _ _, hround⟩
          · have : (id == s.nx) = false := by simpa using e
            exact hY1 id y (by simpa only [this, cond_false] using hy)
        have hcall := hI _ _ _ _ _ _ _ hx wc b1 B ρ1 H (mk ++ ds) (u1 ++ [.func (.yield g0) #[] #[]] ++ u2) w1 I1 G1 hY2
          (((ptrVs_den (v2.mono hre1 l1)).append (show DenVs ρ1 H [.one (.yl s.nx)] [.func (.yield g0) #[] #[]] from ⟨_, [], rfl, (upd_same _ _ _).symm, rfl⟩)).append (ptrVs_den (v3.mono hre1 l2))) (by
            intro v hv
            rcases List.mem_append.1 hv with hv | hv
            · rcases List.mem_append.1 hv with hv | hv
              · exact ptrVs_lt (fun p hp => Nat.lt_succ_of_lt (l1 p hp)) v hv
              · simp only [List.mem_singleton] at hv; subst hv; exact Nat.lt_succ_self _
            · exact ptrVs_lt (fun p hp => Nat.lt_succ_of_lt (l2 p hp)) v hv)
        refine hcall.mono ?_
        rintro e w3 ⟨v, rfl, sv, ob', nx', lr', ρ', H', b', hk', I', G', hle', hre', hn', _, _⟩
        -- the function has returned
        have fin : ∀ (st : Option Ex), lookL lr' s.nx = some st → (Instr.endLoop g0).run E.P w3 = .ok (recAt r st).pending (w3.putObj g0 (.loop { recAt r st with state := .exhausted })) ∧
            Sat E w0 B n ⟨s.tm, ob', nx', delL s.nx lr'⟩ [] { a with defers := mk ++ a.defers } (w3.putObj g0 (.loop { recAt r st with state := .exhausted })) := by
          intro st hst
          obtain ⟨g2, q2, k1, k2, k3, k4, k5, k6⟩ := G'.lrK _ _ hst
          simp only [wc, lt1, if_true] at k1
          cases k1
          have hw3 : w3.heap[g0]? = some (.loop (recAt r st)) := (I'.kSame k3).trans k4
          refine ⟨run_endLoop hw3 (recAt_state r st), ?_⟩
          let b4 : Base := { b' with w := w3.putObj g0 (.loop { recAt r st with state := .exhausted }) }
          have I4 : Inv b4 B ρ' H' ob' nx' b4.w := I'.turn k3 rfl (fun k hk => hk)
          have G4 : GlB E wc b4 B ρ' H' nx' (delL s.nx lr') (mk ++ ds) := G'.del hst (g := g0) (r := r) (by simp [wc, lt1]) (below_put I'.below k2) (fun k hk hne => ⟨hk, (World.putObj_heap_other hne).trans (I'.kSame hk)⟩)
          have hre2 : REq s.nx ρ ρ' := fun i hi => (hre' i (Nat.lt_succ_of_lt hi)).trans (hre1 i hi)
          have hltB : ∀ i st, lookL (delL s.nx lr') i = some st → wc.lt i = w0.lt i := fun i st hi => by
            rw [lookL_delL] at hi
            split at hi
            · cases hi
            · rename_i hne; simp only [wc, lt1]; rw [if_neg hne]
          refine ⟨ρ', H', b4, mk ++ ds, I4, ⟨G4.gl, G.hle.trans G4.hle, Nat.le_trans G.fl (show s.nx ≤ nx' by omega), fun i hi => (hre2 i (Nat.lt_of_lt_of_le hi G.fl)).trans (G.re i hi), G4.bel, G4.kp, G4.df, G4.dn, G4.rd, fun id st hi => ?_, fun i j p q g1 u v hi hj hu hv => ?_, G.lo⟩, hT.mono hre2 hle' (show s.nx ≤ nx' by omega), by simp, by rw [hdf], hsz⟩
          · obtain ⟨g1, q1, h1, h2⟩ := G4.lrK id st hi
            rw [hltB id st hi] at h1
            exact ⟨g1, q1, h1, h2⟩
          · exact G4.lrI i j p q g1 u v hi hj (by rw [hltB i p hi]; exact hu) (by rw [hltB j q hj]; exact hv)
        split at hk'
        · rename_i hst
          obtain ⟨f1, f2⟩ := fin none hst
          exact ⟨_, _, f1, hk .nrm _ _ _ hk' f2⟩
        · rename_i e hst
          obtain ⟨f1, f2⟩ := fin (some e) hst
          refine ⟨_, _, f1, ?_⟩
          have hq := hk e _ _ _ hk' f2
          cases e with
          | nrm => exact hq
          | ret => exact wpIn_ret hq
          | ext i => exact wpIn_exit hq
          | gto l => exact wpIn_goto hq
        · exact hk'.elim
      -- the statement
      refine wpIn_rangeFunc fun fn0 _ => ?_
      have hn' : ¬ fn.name = "runtime.NumGoroutine" := by simpa using hnm
      have hres : ∀ (l : Nat) (w' : World), (resolve a.eval (rangeCall g l) 0).run E.P w' = .ok { target := .fn (.func f') ⟨u2⟩, args := ⟨u1⟩ ++ #[.func (.yield l) #[] #[]] } w' := by
        intro l w'
        have hcst : ∀ v : Value, a.eval (.const v) = v := fun _ => rfl
        simp [resolve, v1, Deferred.ofValue, hcst]
      have hinv : ∀ (l : Nat) (w' : World), (invoke (.fn (.func f') ⟨u2⟩) ((⟨u1⟩ : Array Value) ++ #[.func (.yield l) #[] #[]])).run E.P w' = .ok (.enter f' ⟨u1 ++ [.func (.yield l) #[] #[]] ++ u2⟩) w' := by
        intro l w'
        have : ((⟨u1⟩ : Array Value) ++ #[.func (.yield l) #[] #[]] ++ (⟨u2⟩ : Array Value)) = ⟨u1 ++ [.func (.yield l) #[] #[]] ++ u2⟩ := by apply Array.ext'; simp
        rw [← this]
        simp [invoke, callFunc, hfs, hbd, hn']
      have hdep : (Fw w0.rd).depth.isSome = true → 1 ≤ m := fun h => by simp [Fw, Fence.wide] at h
      cases hrd : w0.rd with
      | none =>
        have hmain := main ((w.alloc (.deferred (some []))).alloc (.loop { state := .ready, pending := none, fn := fn0, tmps := a.tmps, params := ps, assign, body, defers := w.heap.size })) (w.heap.size + 1) [markAt w.heap.size]
          { state := .ready, pending := none, fn := fn0, tmps := a.tmps, params := ps, assign, body, defers := w.heap.size }
          (((Below.refl _ _).alloc (Nat.le_refl _) _).alloc (by simp) _) (by omega) (by
            have := World.alloc_heap_new (w.alloc (.deferred (some []))) (.loop { state := .ready, pending := none, fn := fn0, tmps := a.tmps, params := ps, assign, body, defers := w.heap.size })
            simpa [recAt] using this) rfl rfl rfl rfl (by
            intro d hd
            simp only [List.mem_singleton] at hd
            subst hd
            refine ⟨_, rfl, Nat.le_refl _, ?_⟩
            rw [Below.heap_alloc _ _ _ (by simp)]
            exact World.alloc_heap_new _ _) (by simp)
        rw [hrd] at hmain hdep
        exact ⟨w.heap.size + 1, [markAt w.heap.size], _, _, _, f', _, _, run_enterLoop_outer fn0 a.tmps ps assign body, hres _ _, fun _ _ => trivial, hinv _ _, hdep, callsIn_Fw hmain⟩
      | some l0 =>
        obtain ⟨q1, r0, q2⟩ := G.rd l0 hrd
        have hmain := main (w.alloc (.loop { state := .ready, pending := none, fn := fn0, tmps := a.tmps, params := ps, assign, body, defers := r0.defers })) w.heap.size []
          { state := .ready, pending := none, fn := fn0, tmps := a.tmps, params := ps, assign, body, defers := r0.defers }
          ((Below.refl _ _).alloc (Nat.le_refl _) _) (Nat.le_refl _) (by
            have := World.alloc_heap_new w (.loop { state := .ready, pending := none, fn := fn0, tmps := a.tmps, params := ps, assign, body, defers := r0.defers })
            simpa [recAt] using this) rfl rfl rfl rfl (by simp) (by simp)
        rw [hrd] at hmain hdep
        exact ⟨w.heap.size, [], _, _, _, f', _, _, run_enterLoop_inner ((I.kSame q1).trans q2) fn0 a.tmps ps assign body, hres _ _, fun _ _ => trivial, hinv _ _, hdep, callsIn_Fw hmain⟩
    · exact hx.elim
  · exact hx.elim

theorem ex_sound (hE : EnvOk E) (hI : InlOk E inl) (hmix : E.P.follows .mixedOrders = true) : ∀ (c : Code), codeOk n c = true → ExOk E h inl f yt B n c := by
  intro c
  induction c with
  | skip => intro _ w0 s k Q a w m _ hx hs hk; exact wpIn_skip (hk .nrm s a w hx hs)
  | label l => intro _ w0 s k Q a w m _ hx hs hk; exact wpIn_label (hk .nrm s a w hx hs)
  | exit id => intro _ w0 s k Q a w m _ hx hs hk; exact wpIn_exit (hk (.ext id) s a w hx hs)
  | goto l => intro _ w0 s k Q a w m _ hx hs hk; exact wpIn_goto (hk (.gto l) s a w hx hs)
  | ret => intro _ w0 s k Q a w m _ hx hs hk; exact wpIn_ret (hk .ret s a w hx hs)
  | region id ops b =>
    intro hc w0 s k Q a w m hY hx hs hk
    cases b with
    | false => exact wpIn_region (seq_sound hE hI hY (ops_ok hc) (fun s' a' w' h1 h2 => hk .nrm s' a' w' h1 h2) ops.toList _ s [] a w (range_get ops) hx hs)
    | true =>
      simp only [ex] at hx
      split at hx
      · rename_i hh
        simp only [Bool.and_eq_true, decide_eq_true_eq] at hh
        exact draw_sound hE hI hY hmix (ops_ok hc) (fun s' a' w' h1 h2 => hk .nrm s' a' w' h1 h2) hh.1 hh.2 hx hs
      · exact hx.elim
  | seq x y ihx ihy =>
    intro hc w0 s k Q a w m hY hx hs hk
    simp only [codeOk, Bool.and_eq_true] at hc
    simp only [ex] at hx
    refine wpIn_seq (ihx hc.1 w0 s _ _ a w m hY hx hs ?_)
    intro e s' a' w' h1 h2
    cases e with
    | nrm => exact ihy hc.2 w0 s' k Q a' w' m hY h1 h2 hk
    | ret => exact hk _ _ _ _ h1 h2
    | ext id => exact hk _ _ _ _ h1 h2
    | gto l => exact hk _ _ _ _ h1 h2
  | cond c x y ihx ihy =>
    intro hc w0 s k Q a w m hY hx hs hk
    simp only [codeOk, Bool.and_eq_true] at hc
    simp only [ex] at hx
    split at hx
    · rename_i t ht
      rw [splitB_iff] at hx
      obtain ⟨ρ, H, b, ds, I, G, hT, _⟩ := id hs
      have := (evalO_ok (E := E) (a := a) (nx := s.nx) (ρ := ρ) G.gl (ev := lookT s.tm) (fun t sv h => ⟨(hT t sv h).2.2, (hT t sv h).2.1⟩) _ _ ht).1
      exact wpIn_cond_split this (fun e => ihx hc.1 w0 s k Q a w m hY (hx.1 e) hs hk) (fun e => ihy hc.2 w0 s k Q a w m hY (hx.2 e) hs hk)
    · exact hx.elim
  | block id c ih =>
    intro hc w0 s k Q a w m hY hx hs hk
    simp only [codeOk] at hc
    simp only [ex] at hx
    refine wpIn_block (ih hc w0 s _ _ a w m hY hx hs ?_)
    intro e s' a' w' h1 h2
    cases e with
    | nrm => exact hk _ _ _ _ h1 h2
    | ret => exact hk _ _ _ _ h1 h2
    | ext i =>
      simp only [] at h1
      simp only [exitOf, Exit.inBlock]
      split at h1
      · rename_i e; rw [if_pos e]; exact hk .nrm s' a' w' h1 h2
      · rename_i e; rw [if_neg e]; exact hk (.ext i) s' a' w' h1 h2
    | gto l => exact hk _ _ _ _ h1 h2
  | scope c ih =>
    intro hc w0 s k Q a w m hY hx hs hk
    simp only [codeOk] at hc
    simp only [ex] at hx
    refine wpIn_scope_straight (ih hc w0 s _ _ a w m hY hx hs ?_)
    intro e s' a' w' h1 h2
    cases e with
    | nrm => exact hk .nrm _ _ _ h1 h2
    | ret => exact hk .ret _ _ _ h1 h2
    | ext i => exact hk (.ext i) _ _ _ h1 h2
    | gto l => exact h1.elim
  | loop c ih =>
    intro hc w0 s k Q a w m hY hx hs hk
    simp only [codeOk] at hc
    simp only [ex] at hx
    split at hx
    · rename_i L hL
      obtain ⟨⟨g, hg, hm⟩, hround⟩ := hx
      refine wpIn_loop_ghost (fun j a w => ∃ g, L.J g ∧ L.μ g = j ∧ Sat E w0 B n (L.S g) [] a w) (L.μ g) ⟨g, hg, rfl, mtch_sound hm hs⟩ ?_
      rintro j a w ⟨g, hg, rfl, hs⟩
      refine ih hc w0 (L.S g) _ _ a w m hY (hround g hg) hs ?_
      intro e s' a' w' h1 h2
      cases e with
      | nrm =>
        obtain ⟨g', hg', hlt, hm'⟩ := h1
        exact ⟨L.μ g', hlt, g', hg', rfl, mtch_sound hm' h2⟩
      | ret => exact hk _ _ _ _ h1 h2
      | ext id => exact hk _ _ _ _ h1 h2
      | gto l => exact hk _ _ _ _ h1 h2
    · refine wpIn_loop_ghost (fun j a w => ∃ s, loopN j (ex E h inl f yt c w0.fl) s k ∧ Sat E w0 B n s [] a w) h.un ⟨s, hx, hs⟩ ?_
      rintro j a w ⟨s, hx, hs⟩
      cases j with
      | zero => exact hx.elim
      | succ j =>
        refine ih hc w0 s _ _ a w m hY hx hs ?_
        intro e s' a' w' h1 h2
        cases e with
        | nrm => exact ⟨j, Nat.lt_succ_self _, s', h1, h2⟩
        | ret => exact hk _ _ _ _ h1 h2
        | ext id => exact hk _ _ _ _ h1 h2
        | gto l => exact hk _ _ _ _ h1 h2
  | rangeFunc g ps x y ihx ihy =>
    intro hc
    simp only [codeOk, Bool.and_eq_true, List.all_eq_true, decide_eq_true_eq] at hc
    exact range_ok hE hI (ihx hc.1.2) (ihy hc.2) hc.1.1
  | _ => intro _ w0 s k Q a w m _ hx; simp [ex] at hx
end
end Go.Sx
