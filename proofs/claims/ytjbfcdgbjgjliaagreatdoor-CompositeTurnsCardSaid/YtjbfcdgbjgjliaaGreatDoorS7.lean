/- A verified symbolic run of functions, part 7: lemmas, no claim of their own. -/
import Derived.Test.YtjbfcdgbjgjliaaGreatDoorS6
import Derived.MapKept
import Derived.OrdersIn
/- The engine's steps are right: maps. -/
namespace Go.Sx
open Go.RowKit
theorem key_cells {H : IH} : ∀ {k : Ty}, keyTy k = true → ∀ {x y : k.T} {vs ws : List Value}, Rd H k x vs → Rd H k y ws → (eqT k x y = true → vs = ws ∧ x = y) ∧ (x = y → eqT k x y = true)
  | .int _, _, x, y, vs, ws, h1, h2 => by
    rw [show vs = _ from h1, show ws = _ from h2]
    refine ⟨fun h => ?_, fun h => ?_⟩
    · have : x = y := by simpa [eqT] using h
      subst this; exact ⟨rfl, rfl⟩
    · subst h; simp [eqT]
  | .bool, _, x, y, vs, ws, h1, h2 => by
    rw [show vs = _ from h1, show ws = _ from h2]
    refine ⟨fun h => ?_, fun h => ?_⟩
    · have : x = y := by simpa [eqT] using h
      subst this; exact ⟨rfl, rfl⟩
    · subst h; simp [eqT]
  | .str, _, x, y, vs, ws, h1, h2 => by
    rw [show vs = _ from h1, show ws = _ from h2]
    refine ⟨fun h => ?_, fun h => ?_⟩
    · have : x = y := by simpa [eqT] using h
      subst this; exact ⟨rfl, rfl⟩
    · subst h; simp [eqT]
  | .pair a b, hk, x, y, vs, ws, h1, h2 => by
    simp only [keyTy, Bool.and_eq_true] at hk
    have ka := key_cells hk.1 h1.1 h2.1
    have kb := key_cells hk.2 h1.2 h2.2
    refine ⟨fun h => ?_, fun h => ?_⟩
    · simp only [eqT, Bool.and_eq_true] at h
      obtain ⟨p1, p2⟩ := ka.1 h.1
      obtain ⟨q1, q2⟩ := kb.1 h.2
      refine ⟨?_, Prod.ext p2 q2⟩
      rw [← List.take_append_drop a.sz vs, ← List.take_append_drop a.sz ws, p1, q1]
    · subst h
      simp only [eqT, Bool.and_eq_true]
      exact ⟨ka.2 rfl, kb.2 rfl⟩
  | .flt _, hk, _, _, _, _, _, _ => by simp [keyTy] at hk
  | .cpx _, hk, _, _, _, _, _, _ => by simp [keyTy] at hk
  | .sl _, hk, _, _, _, _, _, _ => by simp [keyTy] at hk
  | .arr _ _, hk, _, _, _, _, _, _ => by simp [keyTy] at hk
theorem key_bits {H : IH} (n : Nat) : ∀ {k : Ty}, keyTy k = true → ∀ {x : k.T} {vs : List Value}, Rd H k x vs → ∀ v ∈ vs, Instr.sameBits n v v = true
  | .int _, _, x, vs, h1, v, hv => by
    rw [show vs = _ from h1] at hv
    simp only [List.mem_singleton] at hv
    subst hv
    cases n <;> simp [Instr.sameBits]
  | .bool, _, x, vs, h1, v, hv => by
    rw [show vs = _ from h1] at hv
    simp only [List.mem_singleton] at hv
    subst hv
    cases n <;> simp [Instr.sameBits]
  | .str, _, x, vs, h1, v, hv => by
    rw [show vs = _ from h1] at hv
    simp only [List.mem_singleton] at hv
    subst hv
    have hb : ((⟨⟨x⟩⟩ : ByteArray) == ⟨⟨x⟩⟩) = true := by
      show ((⟨x⟩ : Array UInt8) == ⟨x⟩) = true
      simp
    cases n <;> simp [Instr.sameBits, hb]
  | .pair a b, hk, x, vs, h1, v, hv => by
    simp only [keyTy, Bool.and_eq_true] at hk
    rw [← List.take_append_drop a.sz vs] at hv
    rcases List.mem_append.1 hv with hv | hv
    · exact key_bits n hk.1 h1.1 v hv
    · exact key_bits n hk.2 h1.2 v hv
  | .flt _, hk, _, _, _, _, _ => by simp [keyTy] at hk
  | .cpx _, hk, _, _, _, _, _ => by simp [keyTy] at hk
  | .sl _, hk, _, _, _, _, _ => by simp [keyTy] at hk
  | .arr _ _, hk, _, _, _, _, _ => by simp [keyTy] at hk
theorem key_vals {H : IH} {g : Bool} {k : Ty} (hk : keyTy k = true) {x y : k.T} {v u : Value} (h1 : VR H g k x v) (h2 : VR H g k y u) (he : eqT k x y = true) : v = u := by
  rcases h1 with ⟨g1, cs, rfl, r1⟩ | ⟨g1, r1⟩ <;> rcases h2 with ⟨g2, ds, rfl, r2⟩ | ⟨g2, r2⟩
  · have := ((key_cells hk r1 r2).1 he).1
    rw [Array.toList_inj] at this
    rw [this]
  · rw [g1] at g2; cases g2
  · rw [g1] at g2; cases g2
  · have := ((key_cells hk r1 r2).1 he).1
    simpa using this
theorem key_stays {P : Program} {w : World} {H : IH} {g : Bool} {k : Ty} (hk : keyTy k = true) {x : k.T} {v : Value} (h1 : VR H g k x v) : (Instr.keyThatStays v v).run P w = .ok v w := by
  have : Instr.sameBits 10000 v v = true := by
    rcases h1 with ⟨_, cs, rfl, r1⟩ | ⟨_, r1⟩
    · have hb := key_bits (H := H) 9999 hk r1
      show (cs.size == cs.size && (cs.toList.zip cs.toList).all fun (x, y) => Instr.sameBits 9999 x y) = true
      simp only [beq_self_eq_true, Bool.true_and, List.all_eq_true]
      intro p hp
      obtain ⟨a, b⟩ := p
      have zz : ∀ l : List Value, (a, b) ∈ l.zip l → a = b ∧ a ∈ l := by
        intro l
        induction l with
        | nil => intro h; cases h
        | cons c r ih =>
          intro h
          rw [List.zip_cons_cons] at h
          rcases List.mem_cons.1 h with h | h
          · cases h; exact ⟨rfl, List.mem_cons_self ..⟩
          · exact ⟨(ih h).1, List.mem_cons_of_mem _ (ih h).2⟩
      have h3 := zz _ hp
      obtain ⟨rfl, h3⟩ := h3
      exact hb a h3
    · exact key_bits (H := H) 10000 hk r1 v (by simp)
  simp [Instr.keyThatStays, this]
section
variable {P : Program} {tt : TypeId → Option TD} {H : IH} {w : World}
theorem run_forIn_unit {α : Type} (f : α → Unit → Sem (ForInStep Unit)) : ∀ (l : List α), (∀ a ∈ l, (f a ()).run P w = .ok (.yield ()) w) → (forIn l () f).run P w = .ok () w
  | [], _ => by simp
  | a :: l, h => by
    rw [List.forIn_cons, Sem.run_bind, h a (by simp)]
    simp only [Result.andThen_ok]
    exact run_forIn_unit f l (fun b hb => h b (by simp [hb]))
theorem check_ok (em : Bool) (hok : ∀ t d, tt t = some d → TDok P t d) : ∀ n, (∀ t u, eqChk P tt n t u = true → keyTy u = true → ∀ d (x : u.T) v k, tt t = some d → VRd H d u x v → (Instr.checkKey em (n + k) t v).run P w = .ok () w) ∧
    (∀ off fs u, eqFs P tt n off fs u = true → keyTy u = true → ∀ (xs : Array Value) (x : u.T) k, Rd H u x (xs.toList.drop off) →
      ∀ f ∈ fs, (do let p ← part f.type xs f.offset; Instr.checkKey em (n + k) f.type p : Sem Unit).run P w = .ok () w)
  | 0 => ⟨fun t u h => by simp [eqChk] at h, fun off fs u h => by simp [eqFs] at h⟩
  | n + 1 => by
    obtain ⟨ih1, ih2⟩ := check_ok em hok n
    constructor
    · intro t u h hk d x v k hd hx
      have hT := hok t d hd
      simp only [eqChk, hd, Bool.and_eq_true, decide_eq_true_eq] at h
      obtain ⟨hty, h⟩ := h
      have hagg := hT.agg
      unfold aggOf at hagg
      rw [show n + 1 + k = (n + k) + 1 by omega]
      have sc : ∀ {u : Ty} {x : u.T} {v : Value}, d.agg = false → VRd H d u x v → Rd H u x [v] := by
        rintro u x v hf (⟨h1, _⟩ | ⟨_, h2⟩)
        · rw [hf] at h1; cases h1
        · exact h2
      split at h
      · rename_i k' hu
        rw [hu] at hagg
        simp only [decide_eq_true_eq] at h
        subst h
        have e1 := sc hagg.symm hx
        simp only [Rd, List.cons.injEq, and_true] at e1
        subst e1
        simp [Instr.checkKey, run_underlying hu]
      · rename_i hu
        rw [hu] at hagg
        simp only [decide_eq_true_eq] at h
        subst h
        have e1 := sc hagg.symm hx
        simp only [Rd, List.cons.injEq, and_true] at e1
        subst e1
        simp [Instr.checkKey, run_underlying hu]
      · rename_i hu
        rw [hu] at hagg
        simp only [decide_eq_true_eq] at h
        subst h
        have e1 := sc hagg.symm hx
        simp only [Rd, List.cons.injEq, and_true] at e1
        subst e1
        simp [Instr.checkKey, run_underlying hu]
      · simp only [decide_eq_true_eq] at h; subst h; simp [keyTy] at hk
      · simp only [decide_eq_true_eq] at h; subst h; simp [keyTy] at hk
      · rename_i fs hu
        simp only [Bool.and_eq_true, Bool.not_eq_true'] at h
        rw [hu] at hagg
        rcases hx with ⟨_, cx, rfl, hx'⟩ | ⟨h1, _⟩
        · have := ih2 0 fs.toList u h.2 hk cx x k (by simpa using hx')
          simp only [Instr.checkKey, Sem.run_bind, run_underlying hu, Result.andThen_ok]
          rw [← Array.forIn_toList]
          rw [run_forIn_unit]
          · simp
          · intro f hf
            have hf' := this f hf
            split
            · rw [Sem.run_bind] at hf' ⊢
              cases hp : (part f.type cx f.offset).run P w with
              | ok p w1 =>
                rw [hp] at hf'
                simp only [Result.andThen_ok] at hf' ⊢
                rw [Sem.run_bind, hf']
                simp
              | _ => rw [hp] at hf'; simp [Result.andThen] at hf'
            · simp
        · rw [h1] at hagg; cases hagg
      · split at h
        · simp [keyTy] at hk
        · cases h
      · cases h
    · intro off fs u h hk xs x k hx
      have onef : ∀ (f : Field) (a : Ty) (p : a.T), keyTy a = true → f.offset = off → eqChk P tt n f.type a = true → Rd H a p (seg xs off a.sz) →
          (do let p ← part f.type xs f.offset; Instr.checkKey em (n + 1 + k) f.type p : Sem Unit).run P w = .ok () w := by
        intro f a p hka h2 h3 h4
        obtain ⟨df, hdf⟩ : ∃ de, tt f.type = some de := by
          cases n with
          | zero => simp [eqChk] at h3
          | succ n =>
            cases hh : tt f.type with
            | none => simp [eqChk, hh] at h3
            | some de => exact ⟨de, rfl⟩
        obtain ⟨s1, s2, _⟩ := eqChk_sz hok h3 hdf
        obtain ⟨ux, a1, a2⟩ := part_vrd (w := w) (hok _ _ hdf) s1 s2 h4
        have := ih1 f.type a h3 hka df p ux (k + 1) hdf a2
        rw [show n + (k + 1) = n + 1 + k by omega] at this
        rw [h2]
        simp only [Sem.run_bind, a1, Result.andThen_ok, this]
      have whole : ∀ (vs : Array Value) (a : Ty) (p : a.T), Rd H a p (vs.toList.drop off) → Rd H a p (seg vs off a.sz) := by
        intro vs a p h
        unfold seg
        rw [List.take_of_length_le (by rw [Rd.len _ _ _ h]; exact Nat.le_refl _)]
        exact h
      match fs, u, x, h, hx, hk with
      | [], u, x, h, hx, hk => simp [eqFs] at h
      | [f], u, x, h, hx, hk =>
        simp only [eqFs, Bool.and_eq_true, decide_eq_true_eq] at h
        intro f' hf'
        simp only [List.mem_singleton] at hf'
        subst hf'
        exact onef _ u x hk h.1.2 h.2 (whole _ _ _ hx)
      | f :: f2 :: r, .pair a b, x, h, hx, hk =>
        simp only [eqFs, Bool.and_eq_true, decide_eq_true_eq] at h
        simp only [keyTy, Bool.and_eq_true] at hk
        have hx2 := hx.2
        rw [List.drop_drop] at hx2
        have tl := ih2 (off + a.sz) (f2 :: r) b h.2 hk.2 xs x.2 (k + 1) hx2
        rw [show n + (k + 1) = n + 1 + k by omega] at tl
        intro f' hf'
        rcases List.mem_cons.1 hf' with rfl | hf'
        · exact onef _ a x.1 hk.1 h.1.1.2 h.1.2 hx.1
        · exact tl f' hf'
      | f :: f2 :: r, .int _, x, h, hx, hk => simp [eqFs] at h
      | f :: f2 :: r, .bool, x, h, hx, hk => simp [eqFs] at h
      | f :: f2 :: r, .str, x, h, hx, hk => simp [eqFs] at h
      | f :: f2 :: r, .flt _, x, h, hx, hk => simp [eqFs] at h
      | f :: f2 :: r, .cpx _, x, h, hx, hk => simp [eqFs] at h
      | f :: f2 :: r, .sl _, x, h, hx, hk => simp [eqFs] at h
      | f :: f2 :: r, .arr _ _, x, h, hx, hk => simp [eqFs] at h
def idxOf (k : Ty) (x : k.T) {t : Ty} : List (k.T × t.T) → Nat → Option Nat
  | [], _ => none
  | p :: r, i => if eqT k x p.1 = true then some i else idxOf k x r (i + 1)
theorem find_ok (hok : ∀ t d, tt t = some d → TDok P t d) {kT : TypeId} {k t : Ty} {d : TD} {gt : Bool} (hc : eqChk P tt 16 kT k = true) (hk : keyTy k = true) (hd : tt kT = some d) {x : k.T} {v : Value} (hv : VRd H d k x v) {l : List (k.T × t.T)} {es : List MapEntry} (he : MEnt H d.agg gt k t l es) :
    ∃ r, (Instr.findKey kT v es).run P w = .ok r w ∧ ((r = none ∧ U.mapGet k t l x = none) ∨ ∃ i u y, r = some (i, u) ∧ idxOf k x l 0 = some i ∧ U.mapGet k t l x = some y ∧ VR H gt t y u) := by
  have key : ∀ (ask : List MapEntry → Nat → Sem (Option (Nat × Value))), (∀ i, (ask [] i).run P w = .ok none w) →
      (∀ (e : MapEntry) (es : List MapEntry) (i : Nat) (y : k.T), VR H d.agg k y e.key → (eqT k x y = true → (ask (e :: es) i).run P w = .ok (some (i, e.val)) w) ∧ (eqT k x y = false → (ask (e :: es) i).run P w = (ask es (i + 1)).run P w)) →
      ∀ (l : List (k.T × t.T)) (es : List MapEntry) (i : Nat), MEnt H d.agg gt k t l es →
      ∃ r, (ask es i).run P w = .ok r w ∧ ((r = none ∧ U.mapGet k t l x = none) ∨ ∃ j u y, r = some (j, u) ∧ idxOf k x l i = some j ∧ U.mapGet k t l x = some y ∧ VR H gt t y u) := by
    intro ask h0 h1 l
    induction l with
    | nil =>
      intro es i he
      rw [show es = [] from he]
      exact ⟨none, h0 i, .inl ⟨rfl, rfl⟩⟩
    | cons p r ih =>
      intro es i he
      obtain ⟨e, es', rfl, e1, e2, e3⟩ := he
      obtain ⟨a1, a2⟩ := h1 e es' i p.1 e1
      cases hq : eqT k x p.1 with
      | true => exact ⟨_, a1 hq, .inr ⟨i, e.val, p.2, rfl, by simp [idxOf, hq], by simp [U.mapGet, hq], e2⟩⟩
      | false =>
        rw [a2 hq]
        obtain ⟨r', b1, b2⟩ := ih es' (i + 1) e3
        refine ⟨r', b1, ?_⟩
        simpa only [idxOf, U.mapGet, hq, Bool.false_eq_true, if_false] using b2
  have asking := key (fun es i => Instr.findAsking kT v es i) (fun i => by simp [Instr.findAsking]) (fun e es i y hy => by
    have := (eq_ok (H := H) (w := w) hok 16).1 kT k hc d x y v e.key 9984 hd hv hy
    have heq : (Op.equal kT v e.key).run P w = .ok (eqT k x y) w := this
    refine ⟨fun h => ?_, fun h => ?_⟩ <;> simp [Instr.findAsking, heq, h]) l es 0 he
  have hT := hok kT d hd
  have hagg := hT.agg
  unfold aggOf at hagg
  simp only [eqChk, hd, Bool.and_eq_true, decide_eq_true_eq] at hc
  obtain ⟨hty, hc⟩ := hc
  have sc : ∀ {u : Ty} {x : u.T} {v : Value}, d.agg = false → VR H d.agg u x v → Rd H u x [v] := by
    rintro u x v hf (⟨h1, _⟩ | ⟨_, h2⟩)
    · rw [hf] at h1; cases h1
    · exact h2
  have scal : ∀ (kd : TypeDesc), P.underlying kT = some kd → (∀ (e : MapEntry) (y : k.T), VR H d.agg k y e.key → Instr.sameNow kd v e.key = some (eqT k x y)) →
      ∃ r, (Instr.findKey kT v es).run P w = .ok r w ∧ ((r = none ∧ U.mapGet k t l x = none) ∨ ∃ i u y, r = some (i, u) ∧ idxOf k x l 0 = some i ∧ U.mapGet k t l x = some y ∧ VR H gt t y u) := by
    intro kd hu hs
    have now : ∀ (l : List (k.T × t.T)) (es : List MapEntry) (i : Nat), MEnt H d.agg gt k t l es → ∃ r, Instr.findNow kd v es i = some r ∧ ((r = none ∧ U.mapGet k t l x = none) ∨ ∃ j u y, r = some (j, u) ∧ idxOf k x l i = some j ∧ U.mapGet k t l x = some y ∧ VR H gt t y u) := by
      intro l
      induction l with
      | nil =>
        intro es i he
        rw [show es = [] from he]
        exact ⟨none, rfl, .inl ⟨rfl, rfl⟩⟩
      | cons p r ih =>
        intro es i he
        obtain ⟨e, es', rfl, e1, e2, e3⟩ := he
        have h1 := hs e p.1 e1
        cases hq : eqT k x p.1 with
        | true => exact ⟨_, by simp only [Instr.findNow, h1, hq], .inr ⟨i, e.val, p.2, rfl, by simp [idxOf, hq], by simp [U.mapGet, hq], e2⟩⟩
        | false =>
          obtain ⟨r', b1, b2⟩ := ih es' (i + 1) e3
          refine ⟨r', by simp only [Instr.findNow, h1, hq]; exact b1, ?_⟩
          simpa only [idxOf, U.mapGet, hq, Bool.false_eq_true, if_false] using b2
    obtain ⟨r, h1, h2⟩ := now l es 0 he
    exact ⟨r, by simp [Instr.findKey, run_underlying hu, h1], h2⟩
  have wide : (match P.underlying kT with | some (.array _ _) | some (.struct _) => true | _ => false) = true → ∃ r, (Instr.findKey kT v es).run P w = .ok r w ∧ ((r = none ∧ U.mapGet k t l x = none) ∨ ∃ i u y, r = some (i, u) ∧ idxOf k x l 0 = some i ∧ U.mapGet k t l x = some y ∧ VR H gt t y u) := by
    intro hw
    have : (Instr.findKey kT v es).run P w = (Instr.findAsking kT v es 0).run P w := by
      cases hu : P.underlying kT with
      | none => simp [hu] at hw
      | some kd =>
        have sn : ∀ e : MapEntry, (match kd with | .array _ _ | .struct _ => true | _ => false) = true → Instr.sameNow kd v e.key = none := by
          intro e hkd
          cases kd <;> simp at hkd <;> cases v <;> simp [Instr.sameNow]
        rw [hu] at hw
        cases es with
        | nil => simp [Instr.findKey, run_underlying hu, Instr.findNow, Instr.findAsking]
        | cons e es => simp [Instr.findKey, run_underlying hu, Instr.findNow, sn e (by cases kd <;> simp_all)]
    rw [this]
    exact asking
  split at hc
  · rename_i k' hu
    simp only [decide_eq_true_eq] at hc
    subst hc
    rw [hu] at hagg
    refine scal _ hu fun e y hy => ?_
    have e1 := sc hagg.symm hv
    have e2 := sc hagg.symm hy
    simp only [Rd, List.cons.injEq, and_true] at e1 e2
    rw [e1, e2]
    simp [Instr.sameNow, eqT]
  · rename_i hu
    simp only [decide_eq_true_eq] at hc
    subst hc
    rw [hu] at hagg
    refine scal _ hu fun e y hy => ?_
    have e1 := sc hagg.symm hv
    have e2 := sc hagg.symm hy
    simp only [Rd, List.cons.injEq, and_true] at e1 e2
    rw [e1, e2]
    simp [Instr.sameNow, eqT]
  · rename_i hu
    simp only [decide_eq_true_eq] at hc
    subst hc
    rw [hu] at hagg
    refine scal _ hu fun e y hy => ?_
    have e1 := sc hagg.symm hv
    have e2 := sc hagg.symm hy
    simp only [Rd, List.cons.injEq, and_true] at e1 e2
    rw [e1, e2]
    have hb : ((⟨⟨x⟩⟩ : ByteArray) == ⟨⟨y⟩⟩) = ((show List UInt8 from x) == y) := by
      show ((⟨x⟩ : Array UInt8) == ⟨y⟩) = _
      simp
    simp [Instr.sameNow, eqT, hb]
  · simp only [decide_eq_true_eq] at hc; subst hc; simp [keyTy] at hk
  · simp only [decide_eq_true_eq] at hc; subst hc; simp [keyTy] at hk
  · rename_i fs hu
    exact wide (by rw [hu])
  · rename_i m e hu
    exact wide (by rw [hu])
  · cases hc
theorem mapPut_ent {k t : Ty} {gk gt : Bool} {x : k.T} {y : t.T} {v u : Value} (hx : VR H gk k x v) (hy : VR H gt t y u) (born : Nat) : ∀ {l : List (k.T × t.T)} {es : List MapEntry}, MEnt H gk gt k t l es → U.mapGet k t l x = none → MEnt H gk gt k t (U.mapPut k t l x y) (es ++ [{ key := v, val := u, born := born }])
  | [], es, he, _ => by
    rw [show es = [] from he]
    exact ⟨_, [], rfl, hx, hy, rfl⟩
  | p :: r, es, he, hn => by
    obtain ⟨e, es', rfl, e1, e2, e3⟩ := he
    unfold U.mapGet at hn
    split at hn
    · cases hn
    · rename_i hq
      unfold U.mapPut
      rw [if_neg hq]
      exact ⟨e, _, rfl, e1, e2, mapPut_ent hx hy born e3 hn⟩
theorem mapPut_set {k t : Ty} {gk gt : Bool} {x : k.T} {y : t.T} {u : Value} (hy : VR H gt t y u) : ∀ {l : List (k.T × t.T)} {es : List MapEntry} (i j : Nat), MEnt H gk gt k t l es → idxOf k x l j = some (j + i) → MEnt H gk gt k t (U.mapPut k t l x y) (es.modify i fun e => { e with val := u })
  | [], es, i, j, he, hn => by simp [idxOf] at hn
  | p :: r, es, i, j, he, hn => by
    obtain ⟨e, es', rfl, e1, e2, e3⟩ := he
    unfold idxOf at hn
    unfold U.mapPut
    split at hn
    · rename_i hq
      rw [if_pos hq]
      have : i = 0 := by have := Option.some.inj hn; omega
      subst this
      exact ⟨_, es', rfl, e1, hy, e3⟩
    · rename_i hq
      rw [if_neg hq]
      cases i with
      | zero =>
        exfalso
        have lb : ∀ (l : List (k.T × t.T)) (j m : Nat), idxOf k x l j = some m → j ≤ m := by
          intro l
          induction l with
          | nil => intro j m h; simp [idxOf] at h
          | cons p r ih =>
            intro j m h
            unfold idxOf at h
            split at h
            · cases h; exact Nat.le_refl _
            · have := ih _ _ h; omega
        have := lb _ _ _ hn
        omega
      | succ i =>
        refine ⟨e, _, rfl, e1, e2, mapPut_set hy i (j + 1) e3 ?_⟩
        rw [hn]; congr 1; omega
theorem idx_key {k t : Ty} {gk gt : Bool} {x : k.T} : ∀ {l : List (k.T × t.T)} {es : List MapEntry} (i j : Nat), MEnt H gk gt k t l es → idxOf k x l j = some (j + i) → ∃ e y, es[i]? = some e ∧ VR H gk k y e.key ∧ eqT k x y = true
  | [], es, i, j, he, hn => by simp [idxOf] at hn
  | p :: r, es, i, j, he, hn => by
    obtain ⟨e, es', rfl, e1, e2, e3⟩ := he
    unfold idxOf at hn
    split at hn
    · rename_i hq
      have : i = 0 := by have := Option.some.inj hn; omega
      subst this
      exact ⟨e, p.1, rfl, e1, hq⟩
    · cases i with
      | zero =>
        exfalso
        have lb : ∀ (l : List (k.T × t.T)) (j m : Nat), idxOf k x l j = some m → j ≤ m := by
          intro l
          induction l with
          | nil => intro j m h; simp [idxOf] at h
          | cons p r ih =>
            intro j m h
            unfold idxOf at h
            split at h
            · cases h; exact Nat.le_refl _
            · have := ih _ _ h; omega
        have := lb _ _ _ hn
        omega
      | succ i =>
        obtain ⟨e', y, h1, h2, h3⟩ := idx_key i (j + 1) e3 (by rw [hn]; congr 1; omega)
        exact ⟨e', y, h1, h2, h3⟩
end
section
variable {E : Env} {w0 : Base} {B : Nat} {ρ : Nat → Value} {H : IH} {ob : List (Nat × Option AObj)} {nx : Nat} {w : World} {ev : Operand → Option SV} {a : Act} {o : Oper} {r : Res}
theorem ofVg_den {g : Bool} {t : Ty} {v : V} {x : t.T} {u : Value} (hρ : ∀ id, (ρ id).oneCell' = true) (h : ofVg g t v = some x) (hd : DenV ρ H v u) : VR H g t x u := by
  unfold ofVg at h
  split at h
  · rename_i c
    cases g with
    | true => simp at h
    | false =>
      simp only [cond_false] at h
      have := ofV_den hρ h hd
      have h1 : u.oneCell' = true := DenC.one hρ hd
      refine .inr ⟨rfl, ?_⟩
      have hc : u.cells.toList = [u] := by cases u <;> simp_all [Value.cells, Value.oneCell']
      rw [hc] at this
      exact this
  · rename_i cs
    cases g with
    | false => simp at h
    | true =>
      simp only [cond_true] at h
      have := ofV_den hρ h hd
      obtain ⟨vs, rfl, _⟩ := hd
      exact .inl ⟨rfl, ⟨vs⟩, rfl, this⟩
theorem keyAs_den (hE : EnvOk E) (I : Inv w0 B ρ H ob nx w) {kT : TypeId} {g : Bool} {k : Ty} {v : V} {x : k.T} {u : Value} (h : keyAs E kT g k v = some x) (hd : DenV ρ H v u) :
    ∃ d, E.tt kT = some d ∧ d.agg = g ∧ keyTy k = true ∧ eqChk E.P E.tt 16 kT k = true ∧ VR H g k x u := by
  unfold keyAs at h
  split at h
  · rename_i d hT
    split at h
    · rename_i hh
      obtain ⟨h1, h2, h3, h4⟩ := hh
      exact ⟨d, hT, h1, h4, (hE.eq kT d k h3 hT h2).1, ofVg_den I.one h hd⟩
    · cases h
  · cases h
theorem sound_makeMap (I : Inv w0 B ρ H ob nx w) {T : TypeId} {gk gt : Bool} {k t : Ty} (ho : o.op = .makeMap T none)
    (hr : r = ⟨[], some (.val (.one (.own nx))), [(nx, some (.map gk gt k t []))]⟩) : StepOk E.P o a w (Post w0 B ob nx ρ H r) := by
  subst hr
  have hb : Below w.heap.size w (w.alloc (.map #[] 0)) := (Below.refl _ _).alloc (Nat.le_refl _) _
  have hB : B ≤ w.heap.size := Nat.le_trans I.bsz I.below.size
  have hr : REq nx ρ (upd ρ nx (.map (some w.heap.size))) := REq.upd _ _ _ (Nat.le_refl _)
  refine .inl ⟨.map (some w.heap.size), w.alloc (.map #[] 0), ?_, upd ρ nx (.map (some w.heap.size)), H, ?_, HLe.refl _, hr, ?_⟩
  · simp [execOp, ho, Instr.makeMap]
  · refine (I.grow hb).add (Nat.le_refl _) (by simp [W]) rfl trivial ?_ ?_ ?_
    · exact ⟨w.heap.size, #[], 0, upd_same _ _ _, hB, I.hnew, heap_alloc_new _ _, rfl⟩
    · intro b hb' id p hp
      rcases hb' with hb' | ⟨_, _, hb'⟩ | hb' <;> cases hb'
      exact DenO.fresh I id p hp _ (Nat.le_refl _)
    · intro b hb' hk
      rcases hb' with hb' | ⟨_, _, hb'⟩ | hb' <;> cases hb'
      exact absurd (I.kLt hk) (by omega)
  · intro sv e; cases e
    exact ⟨(upd_same _ _ _).symm, by simp [SV.lt, V.lt, C.lt, W]⟩
theorem sound_mapUpdate (hE : EnvOk E) (I : Inv w0 B ρ H ob nx w) (hv : EvOk ρ H nx ev a) {T kT eT : TypeId} {m x y : Operand} {d : TD} {id : Nat} {gk gt : Bool} {k t : Ty} {l : List (k.T × t.T)} {kv xv : V} {p : k.T} {q : t.T} (ho : o.op = .mapUpdate T m x y ∨ o.op = .insert T m x y) (hT : E.tt T = some d) (hk : d.kind = .map kT eT)
    (hm : (ev m).bind one? = some (.own id)) (hx : (ev x).bind val? = some kv) (hy : (ev y).bind val? = some xv) (hob : lookO ob id = some (.map gk gt k t l)) (hp : keyAs E kT gk k kv = some p) (hq : ofVg gt t xv = some q)
    (hr : r = ⟨[], none, [(id, some (.map gk gt k t (U.mapPut k t l p q)))]⟩) : StepOk E.P o a w (Post w0 B ob nx ρ H r) := by
  subst hr
  obtain ⟨_, _, g, es, cl, d1, d2, d3, d4, d5⟩ := I.objs _ _ hob
  have hu := (hE.tt T d hT).map _ _ hk
  have m1 : a.eval m = .map (some g) := by rw [show a.eval m = ρ id from (hv.one hm).1]; exact d1
  obtain ⟨dk, k1, k2, k3, k4, k5⟩ := keyAs_den hE I hp (hv.val hx).1
  have x1 := ofVg_den I.one hq (hv.val hy).1
  subst k2
  have hchk : (Instr.checkKey false 10000 kT (a.eval x)).run E.P w = .ok () w := (check_ok (H := H) (w := w) false hE.tt 16).1 kT k k4 k3 dk p (a.eval x) 9984 k1 k5
  obtain ⟨rr, f1, f2⟩ := find_ok (w := w) hE.tt k4 k3 k1 k5 d5
  have fin : ∀ (es' : Array MapEntry) (cl' : Nat), MEnt H dk.agg gt k t (U.mapPut k t l p q) es'.toList → (execOp a.eval o).run E.P w = .ok .skip { w with heap := w.heap.setIfInBounds g (.map es' cl') } →
      StepOk E.P o a w (Post w0 B ob nx ρ H ⟨[], none, [(id, some (.map dk.agg gt k t (U.mapPut k t l p q)))]⟩) := by
    intro es' cl' he hrun
    have hlt : g < w.heap.size := lt_of_some d4
    refine .inr (.inl ⟨{ w with heap := w.heap.setIfInBounds g (.map es' cl') }, hrun, ρ, H, ?_, HLe.refl _, REq.refl _ _, by simp⟩)
    refine (I.putW (w' := { w with heap := w.heap.setIfInBounds g (.map es' cl') }) (p := .map dk.agg gt k t (U.mapPut k t l p q)) hob (g := g) (.inr (.inr d1)) ⟨rfl, rfl, rfl, by simp, fun i hi => ?_⟩ (fun i hi => by simp [Ne.symm hi]) trivial ⟨g, es', cl', d1, d2, d3, by simp [hlt], he⟩).more (by omega)
    have : i ≠ g := by omega
    simp [Ne.symm this]
  rcases f2 with ⟨rfl, g2⟩ | ⟨i, u, y', rfl, g2, g3, g4⟩
  · refine fin (es.push { key := a.eval x, val := a.eval y, born := cl }) (cl + 1) ?_ ?_
    · rw [Array.toList_push]
      exact mapPut_ent k5 x1 cl d5 g2
    · rcases ho with ho | ho <;> simp [execOp, ho, Instr.mapUpdate, m1, run_underlying hu, MapKept.run_getObj_map d4, hchk, f1, MapKept.run_setObj_map _ d4]
  · obtain ⟨e, z, h1, h2, h3⟩ := idx_key i 0 d5 (by rw [g2]; congr 1; omega)
    have hkey : a.eval x = e.key := key_vals k3 k5 h2 h3
    have hes : es[i]? = some e := by rw [← Array.getElem?_toList]; exact h1
    refine fin (es.modify i fun e => { e with key := a.eval x, val := a.eval y }) cl ?_ ?_
    · have hmod : (es.modify i fun e => { e with key := a.eval x, val := a.eval y }).toList = es.toList.modify i fun e => { e with val := a.eval y } := by
        rw [Array.toList_modify]
        apply List.ext_getElem?
        intro j
        rw [List.getElem?_modify, List.getElem?_modify]
        split
        · rename_i hij
          subst hij
          rw [h1]
          simp [hkey]
        · rfl
      rw [hmod]
      exact mapPut_set x1 i 0 d5 (by rw [g2]; congr 1; omega)
    · have hst : (Instr.keyThatStays e.key (a.eval x)).run E.P w = .ok (a.eval x) w := by
        rw [← hkey]
        exact key_stays k3 k5
      rcases ho with ho | ho <;> simp [execOp, ho, Instr.mapUpdate, m1, run_underlying hu, MapKept.run_getObj_map d4, hchk, f1, hes, hst, MapKept.run_setObj_map _ d4]
theorem sound_lookup (hE : EnvOk E) (I : Inv w0 B ρ H ob nx w) (hv : EvOk ρ H nx ev a) {T kT eT : TypeId} {m x : Operand} {ok : Bool} {d de : TD} {c : C} {M : MapD} {kv v : V} {p : M.k.T} (ho : o.op = .lookup T m x ok) (hT : E.tt T = some d) (hk : d.kind = .map kT eT)
    (hm : (ev m).bind one? = some c) (hx : (ev x).bind val? = some kv) (hob : mapOf (lookO ob) c = some M) (he : E.tt eT = some de) (hg : de.agg = M.gt) (ht : de.ty = some M.t) (hp : keyAs E kT M.gk M.k kv = some p)
    (hmk : mkV de (toChs M.t ((U.mapGet M.k M.t M.l p).getD M.t.d)) = some v) (hr : rv (bif ok then .tup [v, .one (.bool (U.mapGet M.k M.t M.l p).isSome)] else .val v) = some r) : StepOk E.P o a w (Post w0 B ob nx ρ H r) := by
  obtain ⟨g, es, cl, d1, d4, d5⟩ := map_den I hob (hv.one hm).1
  have hu := (hE.tt T d hT).map _ _ hk
  obtain ⟨dk, k1, k2, k3, k4, k5⟩ := keyAs_den hE I hp (hv.val hx).1
  rw [← k2] at k5 d5
  have hchk : (Instr.checkKey es.isEmpty 10000 kT (a.eval x)).run E.P w = .ok () w := (check_ok (H := H) (w := w) es.isEmpty hE.tt 16).1 kT M.k k4 k3 dk p (a.eval x) 9984 k1 k5
  obtain ⟨rr, f1, f2⟩ := find_ok (w := w) hE.tt k4 k3 k1 k5 d5
  have hTe := hE.tt eT de he
  have denV : ∀ {y : M.t.T} {u : Value}, VR H M.gt M.t y u → mkV de (toChs M.t y) = some v → DenV ρ H v u := by
    intro y u hy hmk
    unfold mkV at hmk
    rw [hg] at hmk
    rcases hy with ⟨h1, cs, rfl, h3⟩ | ⟨h1, h3⟩
    · rw [h1] at hmk
      simp only [cond_true] at hmk
      cases hmk
      exact ⟨cs.toList, rfl, toChs_den _ _ _ h3⟩
    · rw [h1] at hmk
      simp only [cond_false] at hmk
      split at hmk
      · rename_i c' hc'
        cases hmk
        have := toChs_den (ρ := ρ) _ _ _ h3
        rw [hc'] at this
        obtain ⟨v', vs', e1, e2, e3⟩ := this
        cases e1
        exact e2
      · cases hmk
  have hlt : v.lt nx := by
    have := toChs_lt nx M.t ((U.mapGet M.k M.t M.l p).getD M.t.d)
    unfold mkV at hmk
    cases hag : de.agg with
    | true => rw [hag] at hmk; simp only [cond_true] at hmk; cases hmk; exact this
    | false =>
      rw [hag] at hmk
      simp only [cond_false] at hmk
      split at hmk
      · rename_i c' hc'
        cases hmk
        exact this (.one c') (by rw [hc']; simp)
      · cases hmk
  have zero : ∃ z, (zeroValue eT).run E.P w = .ok z w ∧ VR H M.gt M.t M.t.d z := by
    obtain ⟨i, z, i1, i2, i3, i4, i5, i6⟩ := hTe.info
    have hrd := i6 M.t ht H
    refine ⟨z, by simp [zeroValue, run_typeInfo w i1, i4], ?_⟩
    rw [← hg]
    have hz := hTe.zag i z i1 i4
    cases hag : de.agg with
    | true =>
      rw [hag] at hz
      cases z <;> simp only [isAggV, Bool.false_eq_true] at hz
      exact .inl ⟨rfl, _, rfl, hrd⟩
    | false =>
      rw [hag] at hz
      refine .inr ⟨rfl, ?_⟩
      have hc : z.cells.toList = [z] := by cases z <;> simp_all [Value.cells, isAggV]
      rw [hc] at hrd
      exact hrd
  have main : ∀ (u : Value) (y : M.t.T) (b : Bool), (U.mapGet M.k M.t M.l p).getD M.t.d = y → (U.mapGet M.k M.t M.l p).isSome = b → VR H M.gt M.t y u → (execOp a.eval o).run E.P w = .ok (.value (if ok then .tuple #[u, .bool b] else u)) w → StepOk E.P o a w (Post w0 B ob nx ρ H r) := by
    intro u y b e1 e2 hy hrun
    rw [e1] at hmk
    have hd := denV hy hmk
    rw [e2] at hr
    cases ok with
    | true => exact ok_same I (sv := .tup [v, .one (.bool b)]) hrun ⟨[u, .bool b], rfl, u, _, rfl, hd, _, _, rfl, rfl, rfl⟩ (by intro z hz; simp only [List.mem_cons, List.not_mem_nil, or_false] at hz; rcases hz with rfl | rfl; exact hlt; exact trivial) (rv_eq hr)
    | false => exact ok_same I (sv := .val v) hrun hd hlt (rv_eq hr)
  rcases f2 with ⟨rfl, g2⟩ | ⟨i, u, y', rfl, g2, g3, g4⟩
  · obtain ⟨z, z1, z2⟩ := zero
    refine main z M.t.d false (by rw [g2]; rfl) (by rw [g2]; rfl) z2 ?_
    simp [execOp, ho, Instr.lookup, d1, run_underlying hu, MapKept.run_getObj_map d4, hchk, f1, z1]
  · refine main u y' true (by rw [g3]; rfl) (by rw [g3]; rfl) g4 ?_
    simp [execOp, ho, Instr.lookup, d1, run_underlying hu, MapKept.run_getObj_map d4, hchk, f1]
theorem sound_len_map (hE : EnvOk E) (I : Inv w0 B ρ H ob nx w) (hv : EvOk ρ H nx ev a) {T kT eT : TypeId} {x : Operand} {d : TD} {c : C} {M : MapD} (ho : o.op = .call ⟨.builtin .len, ⟨[x]⟩, ⟨[T]⟩⟩) (hT : E.tt T = some d) (hk : d.kind = .map kT eT)
    (hx : (ev x).bind one? = some c) (hob : mapOf (lookO ob) c = some M) (hr : rc (.int .i64 M.l.length) = some r) : StepOk E.P o a w (Post w0 B ob nx ρ H r) := by
  obtain ⟨g, es, cl, d1, d4, d5⟩ := map_den I hob (hv.one hx).1
  have hu := (hE.tt T d hT).map _ _ hk
  have hlen : es.size = M.l.length := by
    have : ∀ {k t : Ty} {gk gt : Bool} (l : List (k.T × t.T)) (es : List MapEntry), MEnt H gk gt k t l es → es.length = l.length := by
      intro k t gk gt l
      induction l with
      | nil => intro es h; rw [show es = [] from h]; rfl
      | cons p r ih =>
        intro es h
        obtain ⟨e, es', rfl, _, _, h3⟩ := h
        simp [ih es' h3]
    rw [← Array.length_toList]
    exact this _ _ d5
  refine ok_rc I hr (v := .int .i64 M.l.length) ?_ rfl trivial
  simp [execOp, ho, resolve, invoke, builtin, Builtin.len_, d1, run_underlying hu, MapKept.run_getObj_map d4, goInt, hlen]
end
end Go.Sx

/- The engine's steps are right: all operations. -/
namespace Go.Sx
open Go.RowKit
section
variable {E : Env} {w0 : Base} {B : Nat} {ρ : Nat → Value} {H : IH} {ob : List (Nat × Option AObj)} {nx : Nat} {w : World} {ev : Operand → Option SV} {a : Act} {o : Oper} {r : Res}
theorem sc_bool {P : Program} {t : TypeId} {d : TD} (h : TDok P t d) (h1 : d.kind = .sc) (h2 : d.ty = some .bool) : P.underlying t = some .bool := by
  have := h.sc _ h1 h2
  unfold scOk at this
  split at this <;> simp_all
theorem sound_bin (hE : EnvOk E) (I : Inv w0 B ρ H ob nx w) (hv : EvOk ρ H nx ev a) {op : BinOp} {T T' : TypeId} {x y : Operand} (ho : o.op = .binOp op T x y T') (h : stepOp E ev (lookO ob) nx (.binOp op T x y T') = some r) (hc : ∀ q ∈ r.cs, q) :
    StepOk E.P o a w (Post w0 B ob nx ρ H r) := by
  simp only [stepOp] at h
  split at h
  · rename_i k m k' n hx hy
    have k1 : a.eval x = .int k m := (hv.val hx).1
    have k2 : a.eval y = .int k' n := (hv.val hy).1
    have sh : ∀ op, o.op = .binOp op T x y T' → shInt op k m n = some r → StepOk E.P o a w (Post w0 B ob nx ρ H r) := by
      intro op ho h
      obtain ⟨v, c, cs, e1, e2, e3, e4⟩ := shInt_run (P := E.P) (T := T) (k' := k') h hc
      exact ok_same I (sv := .val (.one c)) (run_bin ho k1 k2 guard_int (e2 w)) (e3 ρ H) (e4 nx) e1
    split at h
    · exact sh _ ho h
    · exact sh _ ho h
    · split at h
      · rename_i e
        subst e
        obtain ⟨v, c, cs, e1, e2, e3, e4⟩ := binInt_run (P := E.P) (T := T) h hc
        exact ok_same I (sv := .val (.one c)) (run_bin ho k1 k2 guard_int (e2 w)) (e3 ρ H) (e4 nx) e1
      · cases h
  · rename_i k m k' n hx hy
    have k1 : a.eval x = .float k m := (hv.val hx).1
    have k2 : a.eval y = .float k' n := (hv.val hy).1
    split at h
    · rename_i e
      subst e
      obtain ⟨v, c, cs, e1, e2, e3, e4⟩ := binFlt_run (P := E.P) (T := T) h hc
      exact ok_same I (sv := .val (.one c)) (run_bin ho k1 k2 guard_flt (e2 w)) (e3 ρ H) (e4 nx) e1
    · cases h
  · rename_i k m k' n hx hy
    split at h
    · rename_i e
      subst e
      exact sound_odd I hv ho hx hy h
    · cases h
  · rename_i k k' n hx hy
    split at h
    · split at h
      · rename_i e
        subst e
        exact sound_odd_ne I hv ho hx hy h
      · cases h
    · cases h
  · rename_i k p q k' m n hx hy
    split at h
    · rename_i e
      subst e
      split at h
      · exact sound_eq_cpx I hv ho hx hy (.inl ⟨rfl, h⟩)
      · exact sound_eq_cpx I hv ho hx hy (.inr ⟨rfl, h⟩)
      · cases h
    · cases h
  · rename_i p q hx hy
    have k1 : a.eval x = .bool p := (hv.val hx).1
    have k2 : a.eval y = .bool q := (hv.val hy).1
    split at h
    · rename_i hT
      have hu := sc_bool (hE.tt T _ hT) rfl rfl
      exact ok_rc I h (v := .bool (p == q)) (run_bin ho k1 k2 guard_bool (by simp [binOp, Op.equal, Op.maxDepth, run_equalIn_bool w 9999 T p q hu])) rfl trivial
    · rename_i hT
      have hu := sc_bool (hE.tt T _ hT) rfl rfl
      exact ok_rc I h (v := .bool (p != q)) (run_bin ho k1 k2 guard_bool (by simp [binOp, Op.equal, Op.maxDepth, run_equalIn_bool w 9999 T p q hu, bne])) rfl trivial
    · cases h
  · rename_i p q hx hy
    have k1 : a.eval x = .string ⟨⟨p⟩⟩ := (hv.val hx).1
    have k2 : a.eval y = .string ⟨⟨q⟩⟩ := (hv.val hy).1
    split at h
    · exact ok_rc I h (v := .bool (p == q)) (run_bin ho k1 k2 guard_str (by simp [binOp, Op.stringOp])) rfl trivial
    · exact ok_rc I h (v := .bool (p != q)) (run_bin ho k1 k2 guard_str (by simp [binOp, Op.stringOp, bne])) rfl trivial
    · have hle := rcc_holds h hc
      refine ok_rcc I h (v := .string ⟨⟨p ++ q⟩⟩) (run_bin ho k1 k2 guard_str ?_) rfl trivial
      have hs : (⟨⟨p⟩⟩ : ByteArray) ++ ⟨⟨q⟩⟩ = ⟨⟨p ++ q⟩⟩ := by
        apply ByteArray.ext
        rw [ByteArray.data_append]
        apply Array.ext'
        simp
      have h1 : (⟨⟨p⟩⟩ : ByteArray).size = p.length := rfl
      have h2 : (⟨⟨q⟩⟩ : ByteArray).size = q.length := rfl
      have hm : IntKind.i64.max = 9223372036854775807 := by decide
      have hno : ¬ (((p.length + q.length : Nat) : Int) > 9223372036854775807) := by omega
      simp only [binOp, Op.stringOp, hs, h1, h2, hm]
      rw [if_neg hno]
      rfl
    · cases h
  · rename_i hx hy
    have k1 : a.eval x = .slice none 0 0 := (hv.val hx).1
    have k2 : a.eval y = .slice none 0 0 := (hv.val hy).1
    have hg : ∀ op, (eqGuard op T x y (.slice none 0 0) (.slice none 0 0)).run E.P w = .ok () w := by
      intro op
      cases op <;> simp [eqGuard]
    split at h
    · rename_i e _ _ hT
      have hu := (hE.tt T _ hT).slc e rfl
      exact ok_rc I h (v := .bool true) (run_bin ho k1 k2 (hg _) (by rw [Lib.run_eql_slice_nil w T e none 0 0 0 0 hu]; rfl)) rfl trivial
    · rename_i e _ _ hT
      have hu := (hE.tt T _ hT).slc e rfl
      exact ok_rc I h (v := .bool false) (run_bin ho k1 k2 (hg _) (by rw [run_neq_slice_nil_any w T e none 0 0 0 0 hu]; rfl)) rfl trivial
    · cases h
  · rename_i xs ys hx hy
    split at h
    · rename_i u _ hT
      split at h
      · rename_i heq
        split at h
        · rename_i p q hp hq
          split at h
          · exact sound_eq_agg hE I hv ho hx hy hT rfl rfl heq hp hq (.inl ⟨rfl, h⟩)
          · exact sound_eq_agg hE I hv ho hx hy hT rfl rfl heq hp hq (.inr ⟨rfl, h⟩)
          · cases h
        · cases h
      · cases h
    · cases h
  · cases h
theorem sound_range (hE : EnvOk E) (I : Inv w0 B ρ H ob nx w) (hv : EvOk ρ H nx ev a) {T : TypeId} {x : Operand} {d : TD} {l : List UInt8} (ho : o.op = .range T x) (hT : E.tt T = some d) (hk : d.kind = .sc) (ht : d.ty = some .str)
    (hx : (ev x).bind one? = some (.str l)) (hr : r = ⟨[], some (.val (.one (.ptr nx 0))), [(nx, some (.sit l 0))]⟩) : StepOk E.P o a w (Post w0 B ob nx ρ H r) := by
  subst hr
  have k1 : a.eval x = .string ⟨⟨l⟩⟩ := (hv.one hx).1
  have hu := sc_str (hE.tt T d hT) hk ht
  have hb : Below w.heap.size w (w.alloc (.stringIter ⟨⟨l⟩⟩ 0)) := (Below.refl _ _).alloc (Nat.le_refl _) _
  have hB : B ≤ w.heap.size := Nat.le_trans I.bsz I.below.size
  have hH : H w.heap.size = none := by
    cases hh : H w.heap.size with
    | none => rfl
    | some o => have := lt_of_some (I.agree _ _ hh); omega
  have hr : REq nx ρ (upd ρ nx (.pointer (some ⟨w.heap.size, 0, none⟩))) := REq.upd _ _ _ (Nat.le_refl _)
  refine .inl ⟨.pointer (some ⟨w.heap.size, 0, none⟩), w.alloc (.stringIter ⟨⟨l⟩⟩ 0), ?_, upd ρ nx (.pointer (some ⟨w.heap.size, 0, none⟩)), H, ?_, HLe.refl _, hr, ?_⟩
  · simp [execOp, ho, Instr.range, k1, run_underlying hu]
  · refine (I.grow hb).add (Nat.le_refl _) (by simp [W]) rfl trivial ?_ ?_ ?_
    · exact ⟨w.heap.size, upd_same _ _ _, hB, hH, heap_alloc_new _ _⟩
    · intro b hb' id p hp
      rcases hb' with hb' | ⟨_, _, hb'⟩ | hb' <;> cases hb'
      exact DenO.fresh I id p hp _ (Nat.le_refl _)
    · intro b hb' hk
      rcases hb' with hb' | ⟨_, _, hb'⟩ | hb' <;> cases hb'
      exact absurd (I.kLt hk) (by omega)
  · intro sv e; cases e
    exact ⟨⟨w.heap.size, upd_same _ _ _, rfl⟩, by simp [SV.lt, V.lt, C.lt, W]⟩
theorem sound_builtin (hE : EnvOk E) (I : Inv w0 B ρ H ob nx w) (hv : EvOk ρ H nx ev a) {b : Builtin} {args : Array Operand} {ts : Array TypeId} {vs : List V} (ho : o.op = .call ⟨.builtin b, args, ts⟩) (hvs : evs ev args.toList = some vs)
    (h : builtinR E (lookO ob) nx b ts.toList vs = some r) (hc : ∀ q ∈ r.cs, q) : StepOk E.P o a w (Post w0 B ob nx ρ H r) := by
  have one : ∀ {x : Operand} {l : List Operand} {v : V} {us : List V}, evs ev (x :: l) = some (v :: us) → (ev x).bind val? = some v ∧ evs ev l = some us := by
    intro x l v us h
    simp only [evs] at h
    split at h
    · rename_i v' hx
      obtain ⟨qs, h1, h2⟩ := Option.map_eq_some_iff.1 h
      cases h2
      exact ⟨hx, h1⟩
    · cases h
  have toOne : ∀ {x : Operand} {c : C}, (ev x).bind val? = some (.one c) → (ev x).bind one? = some c := by
    intro x c h
    cases hx : ev x with
    | none => rw [hx] at h; cases h
    | some sv => cases sv with
      | val v => rw [hx] at h; simp only [Option.bind_some, val?] at h ⊢; cases h; rfl
      | tup vs => rw [hx] at h; simp [val?] at h
  have two : ∀ {l : List Operand} {u v : V}, evs ev l = some [u, v] → ∃ x y, l = [x, y] ∧ (ev x).bind val? = some u ∧ (ev y).bind val? = some v := by
    intro l u v h
    cases l with
    | nil => simp [evs] at h
    | cons x l =>
      obtain ⟨h1, h2⟩ := one h
      cases l with
      | nil => simp [evs] at h2
      | cons y l =>
        obtain ⟨h3, h4⟩ := one h2
        cases l with
        | nil => exact ⟨x, y, rfl, h1, h3⟩
        | cons => simp only [evs] at h4; split at h4 <;> simp at h4
  obtain ⟨args⟩ := args
  obtain ⟨ts⟩ := ts
  simp only [] at hvs h
  unfold builtinR at h
  split at h
  · rename_i c
    split at h
    · rename_i T
      obtain ⟨x, rfl⟩ : ∃ x, args = [x] := by
        cases args with
        | nil => simp [evs] at hvs
        | cons x l => obtain ⟨_, h2⟩ := one hvs; cases l with
          | nil => exact ⟨x, rfl⟩
          | cons => simp only [evs] at h2; split at h2 <;> simp at h2
      have hx := toOne (one hvs).1
      split at h
      · rename_i e _ _ _ hT
        split at h
        · rename_i n hn
          exact sound_len_slice hE I hv ho hT rfl hx hn h
        · cases h
      · rename_i l hT
        exact sound_len_str hE I hv ho hT rfl rfl hx h
      · rename_i kT eT _ _ hT
        split at h
        · rename_i m hm
          exact sound_len_map hE I hv ho hT rfl hx hm h
        · cases h
      · cases h
    · cases h
  · rename_i k m k' n
    split at h
    · rename_i e
      subst e
      obtain ⟨x, y, rfl, hx, hy⟩ := two hvs
      exact sound_minmax I ho (hv.val hx).1 (hv.val hy).1 (.inl ⟨rfl, h⟩)
    · cases h
  · rename_i k m k' n
    split at h
    · rename_i e
      subst e
      obtain ⟨x, y, rfl, hx, hy⟩ := two hvs
      exact sound_minmax I ho (hv.val hx).1 (hv.val hy).1 (.inr ⟨rfl, h⟩)
    · cases h
  · split at h
    · rename_i l hl
      exact sound_maxl I hv ho hvs hl h
    · cases h
  · rename_i k m k' n
    split at h
    · rename_i e
      subst e
      obtain ⟨x, y, rfl, hx, hy⟩ := two hvs
      exact sound_cpx I hv ho (hv.val hx).1 (hv.val hy).1 h
    · cases h
  · rename_i k m n
    obtain ⟨x, rfl⟩ : ∃ x, args = [x] := by
      cases args with
      | nil => simp [evs] at hvs
      | cons x l => obtain ⟨_, h2⟩ := one hvs; cases l with
        | nil => exact ⟨x, rfl⟩
        | cons => simp only [evs] at h2; split at h2 <;> simp at h2
    exact sound_part I hv ho (hv.val (one hvs).1).1 (.inl ⟨rfl, h⟩)
  · rename_i k m n
    obtain ⟨x, rfl⟩ : ∃ x, args = [x] := by
      cases args with
      | nil => simp [evs] at hvs
      | cons x l => obtain ⟨_, h2⟩ := one hvs; cases l with
        | nil => exact ⟨x, rfl⟩
        | cons => simp only [evs] at h2; split at h2 <;> simp at h2
    exact sound_part I hv ho (hv.val (one hvs).1).1 (.inr ⟨rfl, h⟩)
  · rename_i s c
    split at h
    · rename_i T T'
      split at h
      · rename_i e
        subst e
        obtain ⟨x, y, rfl, hx, hy⟩ := two hvs
        exact sound_append hE I ho (hv.val hx).1 (hv.val hy).1 h hc
      · obtain ⟨x, y, rfl, hx, hy⟩ := two hvs
        exact sound_append_str hE I ho (hv.val hx).1 (hv.val hy).1 h hc
    · cases h
  · rename_i c
    split at h
    · rename_i T
      split at h
      · rename_i e _ _ hT
        split at h
        · rename_i t _ he
          split at h
          · rename_i id lo n xs hp
            obtain ⟨x, rfl⟩ : ∃ x, args = [x] := by
              cases args with
              | nil => simp [evs] at hvs
              | cons x l => obtain ⟨_, h2⟩ := one hvs; cases l with
                | nil => exact ⟨x, rfl⟩
                | cons => simp only [evs] at h2; split at h2 <;> simp at h2
            exact sound_clear hE I ho hT rfl he rfl (hv.val (one hvs).1).1 hp (Option.some.inj h).symm hc
          · cases h
        · cases h
      · cases h
    · cases h
  · rename_i c s
    split at h
    · rename_i T T'
      split at h
      · rename_i e _ _ hT
        split at h
        · rename_i t _ he
          split at h
          · rename_i id lo n xs ys hp hs
            split at h
            · rename_i e
              subst e
              obtain ⟨x, y, rfl, hx, hy⟩ := two hvs
              exact sound_copy hE I ho hT rfl he rfl (hv.val hx).1 (hv.val hy).1 hp hs (Option.some.inj h).symm hc
            · cases h
          · cases h
        · cases h
      · cases h
    · cases h
  · cases h
theorem stepOp_sound (hE : EnvOk E) (I : Inv w0 B ρ H ob nx w) (G : GlobOk E.gl H) (hv : EvOk ρ H nx ev a) (h : stepOp E ev (lookO ob) nx o.op = some r) (hc : ∀ q ∈ r.cs, q) : StepOk E.P o a w (Post w0 B ob nx ρ H r) := by
  cases ho : o.op with
  | move x => rw [ho] at h; exact sound_move I hv (.inl ho) h
  | assign x => rw [ho] at h; exact sound_move I hv (.inr ho) h
  | pick c x y =>
    rw [ho] at h
    simp only [stepOp] at h
    split at h
    · rename_i b p q h1 h2 h3
      exact sound_pick I ho (hv.one h1).1 (fun _ => (hv.one h2).1) (fun _ => (hv.one h3).1) h
    · cases h
  | alloc T =>
    rw [ho] at h
    simp only [stepOp] at h
    split at h
    · rename_i d hT
      exact sound_alloc hE I ho hT (Option.some.inj h).symm
    · cases h
  | box T x =>
    rw [ho] at h
    simp only [stepOp] at h
    split at h
    · rename_i v hx
      exact sound_box I hv ho hx (Option.some.inj h).symm
    · cases h
  | build T ps =>
    rw [ho] at h
    simp only [stepOp] at h
    split at h
    · rename_i d vs hT hp
      split at h
      · rename_i fs hk
        obtain ⟨cs, h1, h2⟩ := Option.bind_eq_some_iff.1 h
        exact sound_build hE I hv ho hT hp (.inl ⟨fs, hk, h1⟩) (rv_eq h2)
      · rename_i n e hk
        split at h
        · rename_i de m t xs he hz
          split at h
          · rename_i hm
            obtain ⟨ys, h1, h2⟩ := Option.bind_eq_some_iff.1 h
            obtain ⟨rfl, hm2⟩ := hm
            exact sound_build hE I hv ho hT hp (.inr (.inl ⟨m, e, de, t, xs, ys, hk, he, hz, hm2, h1, rfl⟩)) (rv_eq h2)
          · cases h
        · rename_i de he _
          obtain ⟨ys, h1, h2⟩ := Option.bind_eq_some_iff.1 h
          exact sound_build hE I hv ho hT hp (.inr (.inr ⟨n, e, de, hk, he, h1⟩)) (rv_eq h2)
        · cases h
      · cases h
    · cases h
  | buildSlice T n ps =>
    rw [ho] at h
    simp only [stepOp] at h
    split at h
    · rename_i e _ _ vs hT hp
      split at h
      · rename_i t _ he
        split at h
        · rename_i xs hf
          split at h
          · rename_i hn
            exact sound_buildSlice hE I hv ho hT rfl he rfl hp hf hn (Option.some.inj h).symm
          · cases h
        · split at h
          · rename_i xs hf
            split at h
            · rename_i hn
              exact sound_buildSlice_fz hE I hv ho hT rfl he rfl hp hf hn (Option.some.inj h).symm
            · cases h
          · cases h
      · cases h
    · cases h
  | load T x =>
    rw [ho] at h
    simp only [stepOp] at h
    split at h
    · rename_i d id off sz lo n hT hx
      split at h
      · rename_i t xs hrow
        split at h
        · rename_i hh
          obtain ⟨v, h1, h2⟩ := Option.map_eq_some_iff.1 h
          exact sound_load_vp hE I hv ho hT hx hrow hh.1 h1 h2.symm hc
        · cases h
      · cases h
    · rename_i d c _ hT hx
      split at h
      · rename_i ps cs hl
        exact sound_load hE I hv ho hT hx hl h hc
      · cases h
    · cases h
  | store T x y =>
    rw [ho] at h
    simp only [stepOp] at h
    split at h
    · rename_i d c v hT hx hy
      split at h
      · rename_i hs
        split at h
        · rename_i ps id p hl
          exact sound_store hE I hv ho hT hx hy hs hl (Option.some.inj h).symm hc
        · split at h
          · rename_i j hnone
            split at h
            · rename_i t xs hj
              split at h
              · rename_i ps id p hl
                exact sound_store_fz hE I hv ho hT hx hy hs hj hl (Option.some.inj h).symm hc
              · cases h
            · cases h
          · cases h
      · cases h
    · cases h
  | nilCheck x =>
    rw [ho] at h
    simp only [stepOp] at h
    split at h
    · rename_i hx; exact sound_nilCheck I hv ho hx (.inl ⟨_, _, rfl⟩) h
    · rename_i hx; exact sound_nilCheck I hv ho hx (.inr (.inl ⟨_, _, _, _, _, rfl⟩)) h
    · rename_i hx; exact sound_nilCheck I hv ho hx (.inr (.inr (.inl ⟨_, _, rfl⟩))) h
    · rename_i hx; exact sound_nilCheck I hv ho hx (.inr (.inr (.inr ⟨_, _, _, rfl⟩))) h
    · cases h
  | binOp op T x y T' => rw [ho] at h; exact sound_bin hE I hv ho h hc
  | unOp op T x =>
    rw [ho] at h
    simp only [stepOp] at h
    split at h
    · rename_i hx; exact sound_not I hv ho hx h
    · rename_i hx; exact sound_neg I hv ho hx h hc
    · rename_i hx; exact sound_negf I hv ho hx h
    · cases h
  | convert S T x =>
    rw [ho] at h
    simp only [stepOp] at h
    split at h
    · rename_i d' _ _ _ k _ k' n hS hT hx
      split at h
      · refine sound_convert_int hE I hv ho hS hT rfl rfl hx ?_ (rc_eq h)
        simp [IntKind.wrap, IntKind.bits, IntKind.signed]
      · exact sound_convert_int hE I hv ho hS hT rfl rfl hx (fits_wrap (rcc_holds h hc)) (rcc_eq h)
    · rename_i hS hT hx
      exact sound_convert_str hE I hv ho hS rfl rfl hT rfl rfl hx h
    · rename_i hS hT hx
      exact sound_int_flt hE I hv ho hS hT rfl rfl hx h
    · rename_i hS hT hx
      exact sound_flt_int hE I hv ho hS hT rfl rfl hx rfl h hc
    · rename_i hS hT hx
      exact sound_flt_flt hE I hv ho hS hT rfl rfl hx h hc
    · rename_i hS hT hx
      exact sound_odd_conv hE I hv ho hS hT rfl rfl hx h
    · rename_i hS hT hx
      split at h
      · rename_i he
        split at h
        · rename_i xs hrow
          exact sound_bytes_str hE I hv ho hS rfl hT rfl rfl he rfl rfl hx hrow (Option.some.inj h).symm hc
        · cases h
      · cases h
    · rename_i hS hT hx
      split at h
      · rename_i he
        exact sound_str_bytes hE I hv ho hS rfl rfl hT rfl he rfl rfl hx (Option.some.inj h).symm
      · cases h
    · rename_i hS hT hx
      split at h
      · rename_i hST
        subst hST
        split at h
        · rename_i he
          split at h
          · rename_i xs hrow
            exact sound_mark hE I hv ho hS rfl he rfl rfl hx (own_row hrow) (Option.some.inj h).symm hc
          · cases h
        · cases h
      · cases h
    · cases h
  | sliceToArrayPointer T x =>
    rw [ho] at h
    simp only [stepOp] at h
    split at h
    · rename_i n e _ _ c hT hx
      split at h
      · rename_i t _ he
        split at h
        · rename_i t' xs
          split at h
          · rename_i hh
            obtain ⟨rfl, hn⟩ := hh
            exact sound_toArr hE I hv ho hT rfl he rfl hx hn h hc
          · cases h
        · rename_i id
          split at h
          · rename_i t' xs hrow
            split at h
            · rename_i hh
              obtain ⟨rfl, hn⟩ := hh
              exact sound_toArr_own hE I hv ho hT rfl hx hrow hn h hc
            · cases h
          · cases h
        · split at h
          · rename_i hh
            obtain ⟨rfl, hn⟩ := hh
            exact sound_toArr_view hE I hv ho hT rfl hx hn h hc
          · cases h
        · cases h
      · cases h
    · cases h
  | makeFunc f x y =>
    rw [ho] at h
    cases f with
    | func f =>
      simp only [stepOp] at h
      split at h
      · rename_i p q hx hy
        exact sound_makeFunc I hv ho hx hy h
      · cases h
    | _ => simp [stepOp] at h
  | makeMap T rsv =>
    rw [ho] at h
    cases rsv with
    | some _ => simp [stepOp] at h
    | none =>
      simp only [stepOp] at h
      split at h
      · split at h
        · split at h
          · exact sound_makeMap I ho (Option.some.inj h).symm
          · cases h
        · cases h
      · cases h
  | mapUpdate T m x y =>
    rw [ho] at h
    simp only [stepOp] at h
    split at h
    · rename_i kT eT _ _ id kv xv hT hm hx hy
      split at h
      · rename_i gk gt kt t l hob
        split at h
        · rename_i p q hp hq
          exact sound_mapUpdate hE I hv (.inl ho) hT rfl hm hx hy hob hp hq (Option.some.inj h).symm
        · cases h
      · cases h
    · cases h
  | insert T m x y =>
    rw [ho] at h
    simp only [stepOp] at h
    split at h
    · rename_i kT eT _ _ id kv xv hT hm hx hy
      split at h
      · rename_i gk gt kt t l hob
        split at h
        · rename_i p q hp hq
          exact sound_mapUpdate hE I hv (.inr ho) hT rfl hm hx hy hob hp hq (Option.some.inj h).symm
        · cases h
      · cases h
    · cases h
  | lookup T m x ok =>
    rw [ho] at h
    simp only [stepOp] at h
    split at h
    · rename_i kT eT _ _ c kv hT hm hx
      split at h
      · rename_i M de hob he
        split at h
        · rename_i hh
          split at h
          · rename_i p hp
            obtain ⟨v, h1, h2⟩ := Option.bind_eq_some_iff.1 h
            exact sound_lookup hE I hv ho hT rfl hm hx hob he hh.1 hh.2 hp h1 h2
          · cases h
        · cases h
      · cases h
    · cases h
  | makeSlice T x y =>
    rw [ho] at h
    cases x <;> cases y <;> try (simp [stepOp] at h; done)
    simp only [stepOp] at h
    split at h
    · rename_i e _ _ n hT hx
      split at h
      · rename_i by_ _ _ t _ he
        split at h
        · rename_i hl
          subst hl
          exact sound_makeSlice hE I hv ho hT rfl he rfl hx (Option.some.inj h).symm hc
        · cases h
      · cases h
    · cases h
  | slice T x lo hi mx =>
    rw [ho] at h
    cases mx with
    | some _ => simp [stepOp] at h
    | none =>
      simp only [stepOp] at h
      split at h
      · rename_i n e _ _ c hT hx
        split at h
        · rename_i de l hh he hl hhi
          split at h
          · exact sound_slice_arr hE I hv ho hT rfl he hx hl hhi (.inl ⟨_, _, rfl, rfl⟩) (Option.some.inj h).symm (by have := (Option.some.inj h).symm; subst this; exact hc _ (by simp))
          · split at h
            · rename_i hm
              obtain ⟨hm1, rfl⟩ := hm
              exact sound_slice_arr hE I hv ho hT rfl he hx hl hhi (.inr ⟨_, _, rfl, hm1, rfl⟩) (Option.some.inj h).symm (by have := (Option.some.inj h).symm; subst this; exact hc _ (by simp))
            · cases h
          · cases h
        · cases h
      · rename_i e _ _ c hT hx
        split at h
        · rename_i de n he hn
          split at h
          · rename_i l hh hl hhi
            split at h
            · rename_i c' hsl
              rw [dropSl_eq hn hhi hsl] at h
              exact sound_slice_slc hE I hv ho hT rfl he hx hn hl hhi hsl h hc
            · cases h
          · cases h
        · cases h
      · rename_i s hT hx
        split at h
        · rename_i l hh hl hhi
          exact sound_slice_str hE I hv ho hT rfl rfl hx hl hhi h hc
        · cases h
      · cases h
  | fieldAddr T x i =>
    rw [ho] at h
    simp only [stepOp] at h
    split at h
    · rename_i fs _ _ c hT hx
      split at h
      · rename_i off n ag hi
        split at h
        · exact sound_fieldAddr hE I hv ho hT rfl hx hi (.inl ⟨_, _, rfl, rfl⟩) h
        · exact sound_fieldAddr hE I hv ho hT rfl hx hi (.inr (.inl ⟨_, _, _, _, _, rfl, rfl⟩)) h
        · obtain ⟨u, h1, h2⟩ := Option.bind_eq_some_iff.1 h
          exact sound_fieldAddr hE I hv ho hT rfl hx hi (.inr (.inr ⟨_, _, u, rfl, h1, rfl⟩)) h2
        · cases h
      · cases h
    · cases h
  | field T x i =>
    rw [ho] at h
    simp only [stepOp] at h
    split at h
    · rename_i fs _ _ cs hT hx
      split at h
      · rename_i off n hi
        split at h
        · rename_i c hcut
          exact sound_field hE I hv ho hT rfl hx hi hcut (.inl ⟨rfl, c, rfl, rfl⟩) (rc_eq h)
        · cases h
      · rename_i off n hi
        split at h
        · rename_i y hcut
          exact sound_field hE I hv ho hT rfl hx hi hcut (.inr ⟨rfl, rfl⟩) (rv_eq h)
        · cases h
      · cases h
    · cases h
  | indexAddr T x y =>
    rw [ho] at h
    simp only [stepOp] at h
    split at h
    · rename_i n e _ _ c k i hT hx hy
      split at h
      · rename_i de he
        split at h
        · exact sound_indexAddr_arr hE I hv ho hT rfl he hx hy (.inl ⟨_, _, rfl, rfl⟩) h hc
        · split at h
          · rename_i hm
            obtain ⟨hm1, rfl⟩ := hm
            exact sound_indexAddr_arr hE I hv ho hT rfl he hx hy (.inr ⟨_, _, rfl, hm1, rfl⟩) h hc
          · cases h
        · cases h
      · cases h
    · rename_i e _ _ c k i hT hx hy
      split at h
      · rename_i de he
        split at h
        · split at h
          · rename_i hm
            exact sound_indexAddr_slc hE I hv ho hT rfl he hx hy (.inl ⟨_, _, rfl, hm, rfl, rfl⟩) h hc
          · cases h
        · split at h
          · rename_i hrow
            split at h
            · rename_i hm
              exact sound_indexAddr_slc hE I hv ho hT rfl he hx hy (.inr (.inl ⟨_, _, _, rfl, hrow, hm, rfl, rfl⟩)) h hc
            · cases h
          · cases h
        · split at h
          · rename_i hm
            exact sound_indexAddr_slc hE I hv ho hT rfl he hx hy (.inr (.inr ⟨_, _, _, _, rfl, hm, rfl⟩)) h hc
          · cases h
        · cases h
      · cases h
    · cases h
  | index T x y =>
    rw [ho] at h
    simp only [stepOp] at h
    split at h
    · rename_i n e _ _ m t xs k i hT hx hy
      split at h
      · rename_i de he
        split at h
        · rename_i hm
          obtain ⟨hm1, rfl⟩ := hm
          obtain ⟨v, h1, h2⟩ := Option.map_eq_some_iff.1 h
          exact sound_index_arr hE I hv ho hT rfl he hx hy hm1 h1 h2.symm (by subst h2; exact hc _ (by simp))
        · cases h
      · cases h
    · rename_i n e _ _ cs k i hT hx hy
      split at h
      · rename_i de he
        obtain ⟨y', h0, h⟩ := Option.bind_eq_some_iff.1 h
        obtain ⟨v, h1, h2⟩ := Option.map_eq_some_iff.1 h
        exact sound_index_cut hE I hv ho hT rfl he hx hy h0 h1 h2.symm (by subst h2; exact hc _ (by simp))
      · cases h
    · rename_i hT hx hy
      exact sound_index_str hE I hv ho hT rfl rfl hx hy h hc
    · cases h
  | extract x i =>
    rw [ho] at h
    simp only [stepOp] at h
    split at h
    · rename_i vs hx
      obtain ⟨v, h1, h2⟩ := Option.bind_eq_some_iff.1 h
      exact sound_extract I hv ho hx h1 h2
    · cases h
  | call c =>
    rw [ho] at h
    obtain ⟨callee, args, ts⟩ := c
    cases callee with
    | builtin b =>
      simp only [stepOp] at h
      split at h
      · rename_i vs hvs
        exact sound_builtin hE I hv ho hvs h hc
      · cases h
    | value f =>
      simp only [stepOp] at h
      split at h
      · rename_i f vs hf hvs
        exact sound_call hE I G hv ho hf hvs h hc
      · rename_i f p q vs _ hf hvs
        exact sound_callF hE I G hv ho hf hvs h hc
      · cases h
    | _ => simp [stepOp] at h
  | range T x =>
    rw [ho] at h
    simp only [stepOp] at h
    split at h
    · rename_i hT hx
      exact sound_range hE I hv ho hT rfl rfl hx (Option.some.inj h).symm
    · cases h
  | _ => rw [ho] at h; simp [stepOp] at h
theorem stepOp_noDefer {ob : Nat → Option AObj} {op : Op} (h : stepOp E ev ob nx op = some r) : ∀ c, op ≠ .defer c := by
  intro c e
  subst e
  simp [stepOp] at h
end
end Go.Sx

/- The engine's runs are right: guards, operations one after the other. -/
namespace Go.Sx
open Go.RowKit
theorem conj_iff : ∀ (ps : List Prop) (q : Prop), conj ps q ↔ (∀ p ∈ ps, p) ∧ q
  | [], q => by simp [conj]
  | p :: r, q => by
    simp only [conj, conj_iff r q, List.mem_cons]
    constructor
    · rintro ⟨h1, h2, h3⟩
      exact ⟨fun x hx => by rcases hx with rfl | hx; exact h1; exact h2 x hx, h3⟩
    · rintro ⟨h1, h2⟩
      exact ⟨h1 p (.inl rfl), fun x hx => h1 x (.inr hx), h2⟩
def GvOk (ρ : Nat → Value) (H : IH) (nx : Nat) (tmps : Array Value) (x : GV) : Prop :=
  x.d < tmps.size ∧ ((tmps.getD x.g undef = .bool x.w ∧ x.v.lt nx ∧ DenSV ρ H x.v (tmps.getD x.d undef)) ∨ (tmps.getD x.g undef ≠ .bool x.w ∧ tmps.getD x.d undef = undef))
def jumpOf : Ex → Option Code
  | .nrm => none
  | .ret => some .ret
  | .ext id => some (.exit id)
  | .gto l => some (.goto l)
def recAt (r : Loop) : Option Ex → Loop
  | none => { r with state := .ready, pending := none }
  | some e => { r with state := if (jumpOf e).isNone then .ready else .done, pending := jumpOf e }
def markAt (r : Nat) : Deferred := { target := .collected r, args := #[] }
structure GlB (E : Env) (w0 b : Base) (B : Nat) (ρ : Nat → Value) (H : IH) (nx : Nat) (lr : LR) (ds : List Deferred) : Prop where
  gl : GlobOk E.gl H
  hle : HLe w0.H0 H
  fl : w0.fl ≤ nx
  re : REq w0.fl w0.ρ ρ
  bel : Below B w0.w b.w
  kp : ∀ k, w0.K k → b.K k ∧ k < w0.w.heap.size ∧ b.w.heap[k]? = w0.w.heap[k]?
  df : ∀ d ∈ ds, ∃ r, d = markAt r ∧ (B ≤ r ∧ ¬ w0.K r) ∧ b.K r ∧ b.w.heap[r]? = some (.deferred (some []))
  dn : ds.Nodup
  rd : ∀ l, w0.rd = some l → b.K l ∧ ∃ r, b.w.heap[l]? = some (.loop r)
  lrK : ∀ id st, lookL lr id = some st → ∃ g r, w0.lt id = some (g, r) ∧ B ≤ g ∧ b.K g ∧ b.w.heap[g]? = some (.loop (recAt r st)) ∧ ¬ w0.K g ∧ w0.rd ≠ some g
  lrI : ∀ i j s t g p q, lookL lr i = some s → lookL lr j = some t → w0.lt i = some (g, p) → w0.lt j = some (g, q) → i = j
  lo : ∀ i, w0.fl ≤ i → w0.lt i = none
theorem GlB.mono {E : Env} {w0 b : Base} {B : Nat} {ρ ρ' : Nat → Value} {H H' : IH} {nx nx' : Nat} {lr : LR} {ds : List Deferred} (h : GlB E w0 b B ρ H nx lr ds) (hh : HLe H H') (hr : REq nx ρ ρ') (hn : nx ≤ nx') : GlB E w0 b B ρ' H' nx' lr ds :=
  { h with gl := h.gl.mono hh, hle := h.hle.trans hh, fl := Nat.le_trans h.fl hn, re := fun i hi => by rw [hr i (Nat.lt_of_lt_of_le hi h.fl)]; exact h.re i hi }
def Sat (E : Env) (w0 : Base) (B n : Nat) (s : St) (gs : List GV) (a : Act) (w : World) : Prop :=
  ∃ ρ H b ds, Inv b B ρ H s.ob s.nx w ∧ GlB E w0 b B ρ H s.nx s.lr ds ∧ TmOk ρ H s.tm s.nx a.tmps ∧ (∀ x ∈ gs, GvOk ρ H s.nx a.tmps x) ∧ a.defers = ds ∧ a.tmps.size = n
section
variable {E : Env} {w0 : Base} {B : Nat} {ρ : Nat → Value} {H : IH} {ob : List (Nat × Option AObj)} {nx : Nat} {w : World} {tm : List (Nat × SV)} {gs : List GV} {a : Act} {o : Oper} {r : Res}
theorem gvOf_mem : ∀ {gs : List GV} {t : Nat} {x : GV}, gvOf gs t = some x → x ∈ gs ∧ x.d = t
  | [], _, _, h => by simp [gvOf] at h
  | y :: r, t, x, h => by
    simp only [gvOf] at h
    split at h
    · rename_i e; cases h; exact ⟨by simp, by simpa using e⟩
    · obtain ⟨h1, h2⟩ := gvOf_mem h; exact ⟨by simp [h1], h2⟩
theorem undef_bool {b : Bool} : undef ≠ .bool b := by simp [undef]
theorem brings_ok {tmps : Array Value} (hG : ∀ x ∈ gs, GvOk ρ H nx tmps x) : ∀ (n : Nat) (ctx : List (Nat × Bool)) (g : Nat) (v : Bool), (∀ p ∈ ctx, tmps.getD p.1 undef = .bool p.2) → brings gs n ctx g v = true → tmps.getD g undef = .bool v
  | 0, _, _, _, _, h => by simp [brings] at h
  | n + 1, ctx, g, v, hc, h => by
    simp only [brings, List.any_eq_true] at h
    obtain ⟨p, hp, h⟩ := h
    have hpc := hc p hp
    simp only [Bool.or_eq_true, Bool.and_eq_true, beq_iff_eq] at h
    rcases h with ⟨h1, h2⟩ | h
    · rw [← h1, ← h2]; exact hpc
    · split at h
      · rename_i x hx
        obtain ⟨k1, k2⟩ := gvOf_mem hx
        obtain ⟨_, k3⟩ := hG x k1
        rcases k3 with ⟨k3, _⟩ | ⟨_, k3⟩
        · exact brings_ok hG n _ g v (fun q hq => by simp only [List.mem_singleton] at hq; subst hq; exact k3) h
        · rw [k2, hpc] at k3; exact absurd k3.symm undef_bool
      · cases h
theorem ofVal_den {v : Value} {c : C} (h : ofVal v = some c) : DenC ρ H c v ∧ c.lt nx := by
  unfold ofVal at h
  split at h <;> first | (cases h; exact ⟨rfl, trivial⟩) | cases h
theorem evalO_ok (G : GlobOk E.gl H) {ev : Nat → Option SV} (ht : ∀ t sv, ev t = some sv → DenSV ρ H sv (a.tmps.getD t undef) ∧ sv.lt nx) : EvOk ρ H nx (evalO E ev) a := by
  intro x sv h
  cases x with
  | tmp t => exact ht t sv h
  | const v =>
    simp only [evalO] at h
    obtain ⟨c, h1, rfl⟩ := Option.map_eq_some_iff.1 h
    exact ofVal_den h1
  | global g =>
    simp only [evalO] at h
    obtain ⟨x, h1, rfl⟩ := Option.map_eq_some_iff.1 h
    obtain ⟨c, e, fr, k1, k2, _⟩ := G g x h1
    exact ⟨⟨g, 0, c, e, fr, rfl, k1, k2⟩, trivial⟩
  | func f => cases h; exact ⟨⟨[], [], rfl, rfl, rfl⟩, by simp [SV.lt, V.lt, C.lt]⟩
theorem evG_ok (G : GlobOk E.gl H) (hT : TmOk ρ H tm nx a.tmps) (hG : ∀ x ∈ gs, GvOk ρ H nx a.tmps x) {ctx : List (Nat × Bool)} (hc : ∀ p ∈ ctx, a.tmps.getD p.1 undef = .bool p.2) : EvOk ρ H nx (evG E tm gs ctx) a := by
  have he := evalO_ok (E := E) (a := a) (nx := nx) (ρ := ρ) G (ev := lookT tm) (fun t sv h => ⟨(hT t sv h).2.2, (hT t sv h).2.1⟩)
  intro x sv h
  cases x with
  | tmp t =>
    simp only [evG] at h
    split at h
    · rename_i x hx
      obtain ⟨k1, k2⟩ := gvOf_mem hx
      cases hb : brings gs 8 ctx x.g x.w with
      | false => rw [hb] at h; cases h
      | true =>
        rw [hb] at h
        have hg := brings_ok hG 8 ctx x.g x.w hc hb
        cases h
        obtain ⟨_, m2⟩ := hG x k1
        rcases m2 with ⟨_, m1, m2⟩ | ⟨m2, _⟩
        · rw [← k2]; exact ⟨m2, m1⟩
        · exact absurd hg m2
    · exact ⟨(hT t sv h).2.2, (hT t sv h).2.1⟩
  | const v => exact he (.const v) sv h
  | global g => exact he (.global g) sv h
  | func f => exact he (.func f) sv h
theorem hyps_ok {tmps : Array Value} (hT : TmOk ρ H tm nx tmps) (hG : ∀ x ∈ gs, GvOk ρ H nx tmps x) : ∀ (n g : Nat) (v : Bool) (p : Prop), tmps.getD g undef = .bool v → hyps tm gs n g v p → p
  | 0, _, _, _, _, h => h
  | n + 1, g, v, p, hg, h => by
    simp only [hyps] at h
    split at h
    · rename_i d g' v' e hx
      obtain ⟨k1, k2⟩ := gvOf_mem hx
      obtain ⟨_, k3⟩ := hG _ k1
      simp only [] at k2 k3
      rcases k3 with ⟨k3, _, k4⟩ | ⟨_, k3⟩
      · have k5 : tmps.getD d undef = .bool e := k4
        rw [k2, hg] at k5
        have he : e = v := by cases k5; rfl
        exact hyps_ok hT hG n g' v' _ k3 h he
      · rw [k2, hg] at k3; exact absurd k3.symm undef_bool
    · exact h
    · split at h
      · rename_i e hl
        have k5 : tmps.getD g undef = .bool e := (hT g _ hl).2.2
        rw [hg] at k5
        exact h (by cases k5; rfl)
      · exact h
theorem stepG_sound (hE : EnvOk E) (I : Inv w0 B ρ H ob nx w) (G : GlobOk E.gl H) (hT : TmOk ρ H tm nx a.tmps) (hG : ∀ x ∈ gs, GvOk ρ H nx a.tmps x) {ctx : List (Nat × Bool)} (hc : ∀ p ∈ ctx, a.tmps.getD p.1 undef = .bool p.2)
    (h : stepG E tm gs ob nx ctx o.op = some r) (hp : ∀ q ∈ r.cs, q) : StepOk E.P o a w (Post w0 B ob nx ρ H r) ∧ ∀ c, o.op ≠ .defer c := by
  unfold stepG at h
  split at h
  · rename_i c x y ho
    split at h
    · rename_i b p q h1 h2 h3
      have hcv : a.eval (.tmp c) = .bool b := ((evG_ok G hT hG hc).one h1).1
      refine ⟨sound_pick I ho hcv ?_ ?_ h, by rw [ho]; simp⟩
      · intro e
        subst e
        exact ((evG_ok (a := a) (ctx := (c, true) :: ctx) G hT hG (fun t ht => by rcases List.mem_cons.1 ht with rfl | ht; exact hcv; exact hc t ht)).one h2).1
      · intro e
        subst e
        exact ((evG_ok (a := a) (ctx := (c, false) :: ctx) G hT hG (fun t ht => by rcases List.mem_cons.1 ht with rfl | ht; exact hcv; exact hc t ht)).one h3).1
    · cases h
  · exact ⟨stepOp_sound hE I G (evG_ok G hT hG hc) h hp, stepOp_noDefer h⟩
end
section
variable {E : Env} {w0 b b' : Base} {B : Nat} {ρ : Nat → Value} {H : IH} {ob : List (Nat × Option AObj)} {nx : Nat} {w : World} {lr : LR} {ds : List Deferred}
theorem Inv.kAll (I : Inv b B ρ H ob nx w) {k : Nat} (h : b.K k) : k < w.heap.size ∧ H k = none ∧ ∀ id o, lookO ob id = some o → ¬ HB (ρ id) k :=
  ⟨I.kLt h, (I.kp k h).2.2.1, (I.kp k h).2.2.2⟩
theorem Inv.kSame (I : Inv b B ρ H ob nx w) {k : Nat} (h : b.K k) : w.heap[k]? = b.w.heap[k]? := (I.kp k h).2.1
theorem GlB.to (G : GlB E w0 b B ρ H nx lr ds) (hb : Below B b.w b'.w) (hK : ∀ k, b.K k → b'.K k ∧ b'.w.heap[k]? = b.w.heap[k]?) : GlB E w0 b' B ρ H nx lr ds :=
  { G with
    bel := G.bel.trans hb
    kp := fun k hk => let ⟨h1, h2, h3⟩ := G.kp k hk; ⟨(hK k h1).1, h2, (hK k h1).2.trans h3⟩
    df := fun d hd => let ⟨r, h1, h2, h3, h4⟩ := G.df d hd; ⟨r, h1, h2, (hK r h3).1, (hK r h3).2.trans h4⟩
    rd := fun l hl => let ⟨h1, r, h2⟩ := G.rd l hl; ⟨(hK l h1).1, r, (hK l h1).2.trans h2⟩
    lrK := fun id st h => let ⟨g, r, h1, h2, h3, h4, h5, h6⟩ := G.lrK id st h; ⟨g, r, h1, h2, (hK g h3).1, (hK g h3).2.trans h4, h5, h6⟩ }
end
section
variable {E : Env} {w0 : Base} {B : Nat} {ρ : Nat → Value} {H : IH} {ob : List (Nat × Option AObj)} {nx : Nat} {w : World} {tm : List (Nat × SV)} {gs : List GV} {a : Act} {o : Oper} {r : Res}
theorem stepH_sound (hE : EnvOk E) (I : Inv w0 B ρ H ob nx w) (G : GlobOk E.gl H) (hT : TmOk ρ H tm nx a.tmps) (hG : ∀ x ∈ gs, GvOk ρ H nx a.tmps x) {fl : Bool}
    (h : stepH fl E tm gs ob nx o.op = some r) (hp : ∀ q ∈ r.cs, q) : StepOk E.P o a w (Post w0 B ob nx ρ H r) ∧ ∀ c, o.op ≠ .defer c := by
  unfold stepH at h
  split at h
  · rename_i T ho
    split at h
    · rename_i e _ _ hT'
      split at h
      · rename_i t _ he
        cases h
        exact ⟨sound_empty hE I ho hT' rfl he rfl, by rw [ho]; simp⟩
      · cases h
    · cases h
  · exact stepG_sound hE I G hT hG (ctx := []) (by simp) h hp
end
end Go.Sx
