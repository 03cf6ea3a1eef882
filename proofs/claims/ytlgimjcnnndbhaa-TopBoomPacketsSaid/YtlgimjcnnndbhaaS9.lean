/- A verified symbolic run of functions, part 9: lemmas, no claim of their own. -/
import Derived.Test.YtlgimjcnnndbhaaS8
namespace Go.Sx
open Go.RowKit
section
variable {E : Env} {w0 : Base} {B n : Nat} {ρ ρ' : Nat → Value} {H H' : IH} {ob : List (Nat × Option AObj)} {nx : Nat} {w : World} {tm : List (Nat × SV)} {gs : List GV} {a : Act} {o : Oper} {r : Res}
variable {ops : Array Oper} {Q : Exit → Act → World → Prop} {rd : Option Nat} {m : Nat}
theorem C.lt_of_ids {c : C} {k : Nat} (h : ∀ id ∈ c.ids, id < k) : c.lt k := by
  cases c <;> simp only [C.ids, List.mem_singleton, forall_eq, List.mem_append, List.mem_map] at h <;> simp only [C.lt] <;> first | exact h | trivial | skip
  exact ⟨fun p hp => h _ (.inl ⟨p, hp, rfl⟩), fun p hp => h _ (.inr ⟨p, hp, rfl⟩)⟩
theorem Ch.lt_of_ids {c : Ch} {k : Nat} (h : ∀ id ∈ c.ids, id < k) : c.lt k := by
  cases c with
  | one c => exact C.lt_of_ids h
  | arr => trivial
theorem V.lt_of_ids {v : V} {k : Nat} (h : ∀ id ∈ v.ids, id < k) : v.lt k := by
  cases v with
  | one c => exact C.lt_of_ids h
  | agg cs => exact fun c hc => Ch.lt_of_ids fun id hid => h id (List.mem_flatMap.2 ⟨c, hc, hid⟩)
theorem SV.lt_of_ids {v : SV} {k : Nat} (h : ∀ id ∈ v.ids, id < k) : v.lt k := by
  cases v with
  | val v => exact V.lt_of_ids h
  | tup vs => exact fun c hc => V.lt_of_ids fun id hid => h id (List.mem_flatMap.2 ⟨c, hc, hid⟩)
theorem AObj.lt_of_ids {o : AObj} {k : Nat} (h : ∀ id ∈ objIds (some o), id < k) : o.lt k := by
  cases o with
  | row => trivial
  | sit => trivial
  | map => trivial
  | sbox cs => exact fun c hc => Ch.lt_of_ids fun id hid => h id (List.mem_flatMap.2 ⟨c, hc, hid⟩)
  | box cs => exact fun c hc => Ch.lt_of_ids fun id hid => h id (List.mem_flatMap.2 ⟨c, hc, hid⟩)
theorem C.ids_of_lt {c : C} {k : Nat} (h : c.lt k) : ∀ id ∈ c.ids, id < k := by
  cases c <;> simp only [C.ids, List.mem_singleton, forall_eq, List.mem_append, List.mem_map] <;> simp only [C.lt] at h <;> first | exact h | (intro id hid; simp at hid; done) | skip
  rintro id (⟨p, hp, rfl⟩ | ⟨p, hp, rfl⟩)
  · exact h.1 p hp
  · exact h.2 p hp
theorem AObj.ids_of_lt {o : AObj} {k : Nat} (h : o.lt k) : ∀ id ∈ objIds (some o), id < k := by
  cases o with
  | row => simp [objIds]
  | sit => simp [objIds]
  | map => simp [objIds]
  | sbox cs =>
    intro id hid
    obtain ⟨c, hc, hid⟩ := List.mem_flatMap.1 hid
    have := h c hc
    cases c with
    | one c => exact C.ids_of_lt this id hid
    | arr => simp [Ch.ids] at hid
  | box cs =>
    intro id hid
    obtain ⟨c, hc, hid⟩ := List.mem_flatMap.1 hid
    have := h c hc
    cases c with
    | one c => exact C.ids_of_lt this id hid
    | arr => simp [Ch.ids] at hid
theorem ptrsOf.agree : ∀ {ps : List (Nat × Nat)} {vs : List Value}, (∀ p ∈ ps, ρ' p.1 = ρ p.1) → ptrsOf ρ ps vs → ptrsOf ρ' ps vs
  | [], _, _, h => h
  | p :: ps, vs, ha, h => by
    obtain ⟨v, r, rfl, ⟨b, h1, h2⟩, h3⟩ := h
    exact ⟨v, r, rfl, ⟨b, (ha p (by simp)).trans h1, h2⟩, ptrsOf.agree (fun q hq => ha q (by simp [hq])) h3⟩
theorem DenC.agree (hh : HLe H H') {c : C} {v : Value} (ha : ∀ id ∈ c.ids, ρ' id = ρ id) (h : DenC ρ H c v) : DenC ρ' H' c v := by
  cases c with
  | sl t xs => exact Rd.mono hh _ _ _ h
  | ref t x => obtain ⟨b, off, c, e, fr, h1, h2, h3⟩ := h; exact ⟨b, off, c, e, fr, h1, hh _ _ h2, Rd.mono hh _ _ _ h3⟩
  | ptr id off => obtain ⟨b, h1, h2⟩ := h; exact ⟨b, (ha id (by simp [C.ids])).trans h1, h2⟩
  | el id off sz i sub => obtain ⟨b, h1, h2⟩ := h; exact ⟨b, by rw [ha id (by simp [C.ids])]; exact h1, h2⟩
  | view id off sz lo m =>
    rcases h with ⟨b, cap, h1, h2⟩ | h
    · exact .inl ⟨b, cap, by rw [ha id (by simp [C.ids])]; exact h1, h2⟩
    · exact .inr h
  | own id => exact (show v = ρ' id from by rw [ha id (by simp [C.ids])]; exact h)
  | yl id => exact (show v = ρ' id from by rw [ha id (by simp [C.ids])]; exact h)
  | vp id off sz lo n => obtain ⟨h0, b, h1, h2⟩ := h; exact ⟨h0, b, by rw [ha id (by simp [C.ids])]; exact h1, h2⟩
  | fn f a b =>
    obtain ⟨x, y, h1, h2, h3⟩ := h
    exact ⟨x, y, h1, h2.agree (fun p hp => ha p.1 (by simp only [C.ids, List.mem_append, List.mem_map]; exact .inl ⟨p, hp, rfl⟩)), h3.agree (fun p hp => ha p.1 (by simp only [C.ids, List.mem_append, List.mem_map]; exact .inr ⟨p, hp, rfl⟩))⟩
  | mp gk gt k t l => obtain ⟨g, es, cl, h1, h2, h3⟩ := h; exact ⟨g, es, cl, h1, hh _ _ h2, h3.mono hh⟩
  | odd k s => cases s <;> exact h
  | err b => cases b <;> exact h
  | fnd f c t x => cases c with
    | false => obtain ⟨u, e, k⟩ := h; exact ⟨u, e, Rd.mono hh _ _ _ k⟩
    | true => obtain ⟨b, off, cc, e, fr, e1, e2, k⟩ := h; exact ⟨b, off, cc, e, fr, e1, hh _ _ e2, Rd.mono hh _ _ _ k⟩
  | _ => exact h
theorem DenChs.agree (hh : HLe H H') : ∀ {cs : List Ch} {vs : List Value}, (∀ id ∈ cs.flatMap Ch.ids, ρ' id = ρ id) → DenChs ρ H cs vs → DenChs ρ' H' cs vs
  | [], _, _, h => h
  | .one c :: r, vs, ha, h => by
    obtain ⟨v, vs', rfl, h1, h2⟩ := h
    exact ⟨v, vs', rfl, h1.agree hh (fun id hid => ha id (by simp only [List.flatMap_cons, List.mem_append]; exact .inl hid)), DenChs.agree hh (fun id hid => ha id (by simp only [List.flatMap_cons, List.mem_append]; exact .inr hid)) h2⟩
  | .arr n t xs :: r, vs, ha, h => ⟨Rd.mono hh _ _ _ h.1, DenChs.agree hh (fun id hid => ha id (by simp only [List.flatMap_cons, List.mem_append]; exact .inr hid)) h.2⟩
theorem DenV.agree (hh : HLe H H') {v : V} {u : Value} (ha : ∀ id ∈ v.ids, ρ' id = ρ id) (h : DenV ρ H v u) : DenV ρ' H' v u := by
  cases v with
  | one c => exact DenC.agree hh ha h
  | agg cs => obtain ⟨vs, h1, h2⟩ := h; exact ⟨vs, h1, h2.agree hh ha⟩
theorem DenVs.agree (hh : HLe H H') : ∀ {vs : List V} {us : List Value}, (∀ id ∈ vs.flatMap V.ids, ρ' id = ρ id) → DenVs ρ H vs us → DenVs ρ' H' vs us
  | [], _, _, h => h
  | v :: r, us, ha, h => by
    obtain ⟨u, us', rfl, h1, h2⟩ := h
    exact ⟨u, us', rfl, h1.agree hh (fun id hid => ha id (by simp only [List.flatMap_cons, List.mem_append]; exact .inl hid)), DenVs.agree hh (fun id hid => ha id (by simp only [List.flatMap_cons, List.mem_append]; exact .inr hid)) h2⟩
theorem DenSV.agree (hh : HLe H H') {v : SV} {u : Value} (ha : ∀ id ∈ v.ids, ρ' id = ρ id) (h : DenSV ρ H v u) : DenSV ρ' H' v u := by
  cases v with
  | val v => exact DenV.agree hh ha h
  | tup vs => obtain ⟨us, h1, h2⟩ := h; exact ⟨us, h1, h2.agree hh ha⟩
theorem DenO.agree {w' : World} {id : Nat} {o : AObj} (h : DenO w B ρ H id o) (hid : ρ' id = ρ id) (ha : ∀ i ∈ objIds (some o), ρ' i = ρ i) (hh : HLe H H')
    (hk : ∀ b, HB (ρ id) b → w'.heap[b]? = w.heap[b]? ∧ H' b = none) : DenO w' B ρ' H' id o := by
  cases o with
  | box cs =>
    obtain ⟨g, cur, e, h1, h2, h3, h4, h5⟩ := h
    obtain ⟨k1, k2⟩ := hk g (.inl h1)
    exact ⟨g, cur, e, hid.trans h1, h2, k2, k1.trans h4, h5.agree hh ha⟩
  | sbox cs =>
    obtain ⟨g, cap, cur, e, h1, hc, h2, h3, ⟨fz, f1, h4⟩, h5⟩ := h
    obtain ⟨k1, k2⟩ := hk g (.inr (.inl ⟨_, _, h1⟩))
    exact ⟨g, cap, cur, e, hid.trans h1, hc, h2, k2, ⟨fz, f1, k1.trans h4⟩, h5.agree hh ha⟩
  | sit l pos =>
    obtain ⟨g, h1, h2, h3, h4⟩ := h
    obtain ⟨k1, k2⟩ := hk g (.inl h1)
    exact ⟨g, hid.trans h1, h2, k2, k1.trans h4⟩
  | map gk gt k t l =>
    obtain ⟨g, es, cl, h1, h2, h3, h4, h5⟩ := h
    obtain ⟨k1, k2⟩ := hk g (.inr (.inr h1))
    exact ⟨g, es, cl, hid.trans h1, h2, k2, k1.trans h4, h5.mono hh⟩
  | row t xs =>
    show OwnRow w' B H' (ρ' id) t xs
    rw [hid]
    rcases h with h | ⟨g, cap, cur, e, h1, h2, h3, ⟨fz, f1, h4⟩, h5, h6, h7, h8⟩
    · exact .inl h
    · obtain ⟨k1, k2⟩ := hk g (.inr (.inl ⟨_, _, h1⟩))
      exact .inr ⟨g, cap, cur, e, h1, h2, k2, ⟨fz, f1, k1.trans h4⟩, h5, h6, h7, fun i hi => Rd.mono hh _ _ _ (h8 i hi)⟩
theorem lookO_app : ∀ (a b : List (Nat × Option AObj)) (id : Nat), (∀ x ∈ a, x.2.isSome = true) → lookO (a ++ b) id = (match lookO a id with | some o => some o | none => lookO b id)
  | [], b, id, _ => by simp [lookO]
  | (k, v) :: r, b, id, h => by
    rw [List.cons_append, lookO_cons, lookO_cons, lookO_app r b id (fun x hx => h x (by simp [hx]))]
    by_cases e : k = id
    · rw [if_pos e, if_pos e]
      have := h (k, v) (by simp)
      simp only [] at this
      obtain ⟨o, rfl⟩ := Option.isSome_iff_exists.1 this
      rfl
    · rw [if_neg e, if_neg e]
theorem lookO_key : ∀ {a : List (Nat × Option AObj)} {id : Nat} {o : AObj}, lookO a id = some o → ∃ x ∈ a, x.1 = id ∧ x.2 = some o
  | [], _, _, h => by simp [lookO] at h
  | (k, v) :: r, id, o, h => by
    rw [lookO_cons] at h
    split at h
    · rename_i e; exact ⟨(k, v), by simp, e, h⟩
    · obtain ⟨x, h1, h2⟩ := lookO_key h; exact ⟨x, by simp [h1], h2⟩
theorem eat_mono {α β : Nat → Bool} : ∀ {hd : List (Nat × Nat)} {ob : List (Nat × Option AObj)} {id : Nat} {p : AObj}, (∀ i, β i = true → α i = true) → lookO (eatOb α hd ob) id = some p → lookO (eatOb β hd ob) id = some p
  | [], _, _, _, _, h => h
  | (i, k) :: r, ob, id, p, hab, h => by
    simp only [eatOb] at h ⊢
    cases ha : α i with
    | true =>
      rw [ha, cond_true, lookO_cons] at h
      split at h
      · cases h
      · rename_i e
        have ih := eat_mono hab h
        cases β i with
        | true => rw [cond_true, lookO_cons, if_neg e]; exact ih
        | false => exact ih
    | false =>
      have hb : β i = false := by
        cases hb : β i with
        | false => rfl
        | true => rw [hab i hb] at ha; cases ha
      rw [ha, cond_false] at h
      rw [hb, cond_false]
      exact eat_mono hab h
theorem eat_none : ∀ {hd : List (Nat × Nat)} {ob : List (Nat × Option AObj)}, eatOb (fun _ => false) hd ob = ob
  | [], _ => rfl
  | (i, k) :: r, ob => by simp only [eatOb, cond_false]; exact eat_none
theorem eat_le {α : Nat → Bool} {hd : List (Nat × Nat)} {ob : List (Nat × Option AObj)} {id : Nat} {p : AObj} (h : lookO (eatOb α hd ob) id = some p) : lookO ob id = some p := by
  have := eat_mono (β := fun _ => false) (fun i h => by cases h) h
  rwa [eat_none] at this
theorem eat_gone {α : Nat → Bool} : ∀ {hd : List (Nat × Nat)} {ob : List (Nat × Option AObj)} {i id : Nat}, (i, id) ∈ hd → α i = true → lookO (eatOb α hd ob) id = none
  | [], _, _, _, h, _ => by simp at h
  | (j, k) :: r, ob, i, id, h, ha => by
    simp only [eatOb]
    rcases List.mem_cons.1 h with h | h
    · cases h
      rw [ha, cond_true, lookO_cons, if_pos rfl]
    · have ih := eat_gone (ob := ob) h ha
      cases α j with
      | true =>
        rw [cond_true, lookO_cons]
        split
        · rfl
        · exact ih
      | false => exact ih
theorem mem_keepU {up : List (Nat × Option AObj)} {x : Nat × Option AObj} : x ∈ keepU up ↔ x ∈ up ∧ x.2.isSome = true := by simp [keepU]
theorem eat_iff {α : Nat → Bool} : ∀ {hn : List (Nat × Nat)} {ob : List (Nat × Option AObj)} {id : Nat} {p : AObj}, lookO (eatOb α hn ob) id = some p ↔ (∀ j, (j, id) ∈ hn → α j = false) ∧ lookO ob id = some p
  | [], _, _, _ => by simp [eatOb]
  | (i, k) :: r, ob, id, p => by
    simp only [eatOb]
    have ih := eat_iff (α := α) (hn := r) (ob := ob) (id := id) (p := p)
    cases ha : α i with
    | false =>
      rw [cond_false, ih]
      constructor
      · rintro ⟨h1, h2⟩
        refine ⟨fun j hj => ?_, h2⟩
        rcases List.mem_cons.1 hj with h | h
        · cases h; exact ha
        · exact h1 j h
      · rintro ⟨h1, h2⟩
        exact ⟨fun j hj => h1 j (List.mem_cons_of_mem _ hj), h2⟩
    | true =>
      rw [cond_true, lookO_cons]
      by_cases e : k = id
      · rw [if_pos e]
        constructor
        · intro h; cases h
        · rintro ⟨h1, _⟩
          have := h1 i (by rw [e]; exact List.mem_cons_self)
          rw [ha] at this; cases this
      · rw [if_neg e, ih]
        constructor
        · rintro ⟨h1, h2⟩
          refine ⟨fun j hj => ?_, h2⟩
          rcases List.mem_cons.1 hj with h | h
          · cases h; exact absurd rfl e
          · exact h1 j h
        · rintro ⟨h1, h2⟩
          exact ⟨fun j hj => h1 j (List.mem_cons_of_mem _ hj), h2⟩
theorem mem_newHd {nx0 j id : Nat} {hd : List (Nat × Nat)} : (j, id) ∈ newHd nx0 hd ↔ (j, id) ∈ hd ∧ nx0 ≤ id := by
  unfold newHd
  rw [List.mem_filter, Nat.ble_eq]
theorem eatOk_at {nx0 i : Nat} {hd : List (Nat × Nat)} {up : List (Nat × Option AObj)} (h : eatOk nx0 i hd up = true) {x : Nat × Option AObj} (hx : x ∈ up) (hn : x.2 = none) : (i, x.1) ∈ hd := by
  simp only [eatOk, List.all_eq_true, Bool.or_eq_true, Bool.and_eq_true, List.any_eq_true, beq_iff_eq] at h
  rcases h x hx with h | ⟨⟨y, h2, h3, h4⟩, _⟩
  · rw [hn] at h; cases h
  · rw [← h3, ← h4]; exact h2
theorem eatOk_no {nx0 i : Nat} {hd : List (Nat × Nat)} {up : List (Nat × Option AObj)} (h : eatOk nx0 i hd up = true) {x y : Nat × Option AObj} (hx : x ∈ up) (hn : x.2 = none) (hy : y ∈ up) (hs : y.2.isSome = true) : y.1 ≠ x.1 := by
  simp only [eatOk, List.all_eq_true, Bool.or_eq_true, Bool.and_eq_true] at h
  rcases h x hx with h | ⟨_, h2⟩
  · rw [hn] at h; cases h
  · rcases h2 y hy with h3 | h3
    · rw [hs] at h3; cases h3
    · exact bne_iff_ne.1 h3
theorem look_keep : ∀ {up ob : List (Nat × Option AObj)} {id : Nat} {p : AObj}, (∀ x ∈ up, x.2 = none → x.1 ≠ id) → lookO (keepU up) id = some p → lookO (up ++ ob) id = some p
  | [], _, _, _, _, h => by simp [keepU, lookO] at h
  | (k, none) :: r, ob, id, p, hn, h => by
    have he := hn (k, none) (by simp) rfl
    have h' : lookO (keepU r) id = some p := by simpa [keepU] using h
    rw [List.cons_append, lookO_cons, if_neg he]
    exact look_keep (fun x hx => hn x (by simp [hx])) h'
  | (k, some o) :: r, ob, id, p, hn, h => by
    have h' : lookO ((k, some o) :: keepU r) id = some p := by simpa [keepU] using h
    rw [lookO_cons] at h'
    rw [List.cons_append, lookO_cons]
    split at h'
    · rename_i e; rw [if_pos e]; exact h'
    · rename_i e; rw [if_neg e]; exact look_keep (fun x hx => hn x (by simp [hx])) h'
theorem look_past : ∀ {up ob : List (Nat × Option AObj)} {id : Nat}, (∀ x ∈ up, x.1 ≠ id) → lookO (up ++ ob) id = lookO ob id
  | [], _, _, _ => rfl
  | (k, v) :: r, ob, id, h => by
    rw [List.cons_append, lookO_cons, if_neg (h (k, v) (by simp))]
    exact look_past fun x hx => h x (by simp [hx])
theorem look_none : ∀ {a : List (Nat × Option AObj)} {id : Nat}, (∀ x ∈ a, x.2.isSome = true) → lookO a id = none → ∀ x ∈ a, x.1 ≠ id
  | [], _, _, _, x, hx => by simp at hx
  | (k, v) :: r, id, hs, h, x, hx => by
    rw [lookO_cons] at h
    by_cases e : k = id
    · rw [if_pos e] at h
      have := hs (k, v) (by simp)
      rw [show ((k, v) : Nat × Option AObj).2 = v from rfl, h] at this
      cases this
    · rw [if_neg e] at h
      rcases List.mem_cons.1 hx with rfl | hx
      · exact e
      · exact look_none (fun x hx => hs x (by simp [hx])) h x hx
structure RecWf (nx0 : Nat) (hd : List (Nat × Nat)) (rs : List Rec) : Prop where
  uniq : ∀ x ∈ rs, ∀ y ∈ rs, x.i = y.i → x = y
  up : ∀ x ∈ rs, ∀ y ∈ x.up, ((nx0 + W * x.sl nx0 ≤ y.1 ∧ y.1 < nx0 + W * x.sl nx0 + W) ∨ (y.1 < nx0 ∧ (x.i, y.1) ∈ hd)) ∧ y.2.isSome = true
  hdu : (hd.map (·.2)).Nodup
  ids : ∀ x ∈ rs, ∀ id ∈ x.v.ids ++ x.up.flatMap (fun y => objIds y.2), id < nx0 + W * x.i + W
  ord : rs.Pairwise fun x y => y.i < x.i
  sl : ∀ x ∈ rs, x.sl nx0 ≤ x.i
  one : ∀ x ∈ rs, x.sl nx0 ≠ x.i → ∀ y ∈ rs, y.sl nx0 = x.sl nx0 → y.i = y.sl nx0 ∨ y = x
theorem RecWf.tail {nx0 : Nat} {hd : List (Nat × Nat)} {x : Rec} {rs : List Rec} (h : RecWf nx0 hd (x :: rs)) : RecWf nx0 hd rs :=
  ⟨fun a ha b hb => h.uniq a (by simp [ha]) b (by simp [hb]), fun a ha => h.up a (by simp [ha]), h.hdu, fun a ha => h.ids a (by simp [ha]), (List.pairwise_cons.1 h.ord).2, fun a ha => h.sl a (by simp [ha]), fun a ha hs b hb => h.one a (by simp [ha]) hs b (by simp [hb])⟩
theorem mulW {i j nx0 id : Nat} (h1 : nx0 + W * i ≤ id) (h2 : id < nx0 + W * i + W) (h3 : nx0 + W * j ≤ id) (h4 : id < nx0 + W * j + W) : i = j := by
  simp only [W] at *
  omega
theorem hd_one : ∀ {hd : List (Nat × Nat)} {i j id : Nat}, (hd.map (·.2)).Nodup → (i, id) ∈ hd → (j, id) ∈ hd → i = j
  | [], _, _, _, _, h, _ => by cases h
  | x :: r, i, j, id, hn, h1, h2 => by
    rw [List.map_cons, List.nodup_cons] at hn
    have no : ∀ k, (k, id) ∈ r → id ∈ r.map (·.2) := fun k hk => List.mem_map.2 ⟨_, hk, rfl⟩
    rcases List.mem_cons.1 h1 with e1 | m1
    · rcases List.mem_cons.1 h2 with e2 | m2
      · rw [← e1] at e2; cases e2; rfl
      · rw [← e1] at hn; exact absurd (no j m2) hn.1
    · rcases List.mem_cons.1 h2 with e2 | m2
      · rw [← e2] at hn; exact absurd (no i m1) hn.1
      · exact hd_one hn.2 m1 m2
theorem RecWf.same {nx0 : Nat} {hd : List (Nat × Nat)} {rs : List Rec} (hw : RecWf nx0 hd rs) {x y : Rec} (hx : x ∈ rs) (hy : y ∈ rs) {id : Nat} {o o' : AObj} (h : lookO x.up id = some o) (h' : lookO y.up id = some o') : x.sl nx0 = y.sl nx0 := by
  obtain ⟨z, z1, z2, _⟩ := lookO_key h
  obtain ⟨u, u1, u2, _⟩ := lookO_key h'
  obtain ⟨p, _⟩ := hw.up x hx z z1
  obtain ⟨q, _⟩ := hw.up y hy u u1
  rw [z2] at p
  rw [u2] at q
  rcases p with ⟨p1, p2⟩ | ⟨p1, p2⟩
  · rcases q with ⟨q1, q2⟩ | ⟨q1, _⟩
    · exact mulW p1 p2 q1 q2
    · omega
  · rcases q with ⟨q1, _⟩ | ⟨_, q2⟩
    · omega
    · rw [hw.uniq x hx y hy (hd_one hw.hdu p2 q2)]
theorem recOb_look1 {α : Nat → Bool} {nx0 : Nat} {hd : List (Nat × Nat)} : ∀ {rs : List Rec} {id : Nat} {o : AObj}, RecWf nx0 hd rs → lookO (recOb α rs ++ ob) id = some o →
    (∃ x ∈ rs, α x.i = true ∧ lookO x.up id = some o ∧ ∀ y ∈ rs, α y.i = true → x.i < y.i → lookO y.up id = none) ∨ (lookO ob id = some o ∧ ∀ y ∈ rs, α y.i = true → lookO y.up id = none)
  | [], id, o, _, h => .inr ⟨h, by simp⟩
  | x :: rs, id, o, hw, h => by
    simp only [recOb] at h
    have hlt := (List.pairwise_cons.1 hw.ord).1
    cases ha : α x.i with
    | false =>
      rw [ha] at h
      rcases recOb_look1 hw.tail h with ⟨y, h1, h2, h3, h4⟩ | ⟨h1, h4⟩
      · refine .inl ⟨y, by simp [h1], h2, h3, fun z hz hza hlz => ?_⟩
        rcases List.mem_cons.1 hz with rfl | hz
        · rw [ha] at hza; cases hza
        · exact h4 z hz hza hlz
      · refine .inr ⟨h1, fun z hz hza => ?_⟩
        rcases List.mem_cons.1 hz with rfl | hz
        · rw [ha] at hza; cases hza
        · exact h4 z hz hza
    | true =>
      rw [ha] at h
      simp only [cond_true, List.append_assoc] at h
      rw [lookO_app _ _ _ (fun y hy => (hw.up x (by simp) y hy).2)] at h
      split at h
      · rename_i o' ho'
        cases h
        refine .inl ⟨x, by simp, ha, ho', fun z hz hza hlz => ?_⟩
        rcases List.mem_cons.1 hz with rfl | hz
        · omega
        · have := hlt z hz; omega
      · rename_i hno
        rcases recOb_look1 hw.tail h with ⟨y, h1, h2, h3, h4⟩ | ⟨h1, h4⟩
        · refine .inl ⟨y, by simp [h1], h2, h3, fun z hz hza hlz => ?_⟩
          rcases List.mem_cons.1 hz with rfl | hz
          · exact hno
          · exact h4 z hz hza hlz
        · refine .inr ⟨h1, fun z hz hza => ?_⟩
          rcases List.mem_cons.1 hz with rfl | hz
          · exact hno
          · exact h4 z hz hza
theorem recOb_look2 {α : Nat → Bool} {nx0 : Nat} {hd : List (Nat × Nat)} : ∀ {rs : List Rec} {id : Nat} {o : AObj} {x : Rec}, RecWf nx0 hd rs → x ∈ rs → α x.i = true → lookO x.up id = some o → (∀ y ∈ rs, α y.i = true → x.i < y.i → lookO y.up id = none) → lookO (recOb α rs ++ ob) id = some o
  | [], _, _, _, _, hx, _, _, _ => by simp at hx
  | y :: rs, id, o, x, hw, hx, ha, ho, hno => by
    simp only [recOb]
    have hlt := (List.pairwise_cons.1 hw.ord).1
    have hy : y = x ∨ (y ≠ x ∧ x ∈ rs) := by
      by_cases e : y = x
      · exact .inl e
      · exact .inr ⟨e, (List.mem_cons.1 hx).resolve_left (fun h => e h.symm)⟩
    rcases hy with rfl | ⟨hne, hx'⟩
    · rw [ha]
      simp only [cond_true, List.append_assoc]
      rw [lookO_app _ _ _ (fun z hz => (hw.up y (by simp) z hz).2), ho]
    · have ih := recOb_look2 hw.tail hx' ha ho fun z hz => hno z (by simp [hz])
      cases hb : α y.i with
      | false => exact ih
      | true =>
        simp only [cond_true, List.append_assoc]
        rw [lookO_app _ _ _ (fun z hz => (hw.up y (by simp) z hz).2), hno y (by simp) hb (hlt x hx')]
        exact ih
theorem recOb_look3 {α : Nat → Bool} {nx0 : Nat} {hd : List (Nat × Nat)} : ∀ {rs : List Rec} {id : Nat}, RecWf nx0 hd rs → id < nx0 → (∀ y ∈ rs, α y.i = true → (y.i, id) ∈ hd → lookO y.up id = none) → lookO (recOb α rs ++ ob) id = lookO ob id
  | [], _, _, _, _ => rfl
  | y :: rs, id, hw, hid, hno => by
    simp only [recOb]
    have ih := recOb_look3 (α := α) hw.tail hid fun z hz => hno z (by simp [hz])
    cases hb : α y.i with
    | false => exact ih
    | true =>
      simp only [cond_true, List.append_assoc]
      rw [lookO_app _ _ _ (fun z hz => (hw.up y (by simp) z hz).2)]
      have : lookO y.up id = none := by
        cases hl : lookO y.up id with
        | none => rfl
        | some o' =>
          obtain ⟨z, z1, z2, _⟩ := lookO_key hl
          obtain ⟨p, _⟩ := hw.up y (by simp) z z1
          rw [z2] at p
          rcases p with ⟨p1, _⟩ | ⟨_, p2⟩
          · omega
          · rw [hno y (by simp) hb p2] at hl; cases hl
      rw [this]
      exact ih
theorem recTm_src {α : Nat → Bool} {t : Nat} {sv : SV} : ∀ {rs : List Rec}, lookT (recTm α rs tm) t = some sv → lookT tm t = some sv ∨ ∃ x ∈ rs, α x.i = true ∧ x.v = sv
  | [], h => .inl h
  | ⟨i, none, g, v, u⟩ :: r, h => by
    simp only [recTm] at h
    rcases recTm_src h with h | ⟨x, h1, h2⟩
    · exact .inl h
    · exact .inr ⟨x, by simp [h1], h2⟩
  | ⟨i, some d, none, v, u⟩ :: r, h => by
    simp only [recTm] at h
    cases hi : α i with
    | false =>
      rw [hi] at h
      rcases recTm_src h with h | ⟨x, h1, h2⟩
      · exact .inl h
      · exact .inr ⟨x, by simp [h1], h2⟩
    | true =>
      rw [hi] at h
      simp only [cond_true, lookT_cons] at h
      split at h
      · cases h; exact .inr ⟨_, List.mem_cons_self, hi, rfl⟩
      · rcases recTm_src h with h | ⟨x, h1, h2⟩
        · exact .inl h
        · exact .inr ⟨x, by simp [h1], h2⟩
  | ⟨i, some d, some g, v, u⟩ :: r, h => by
    simp only [recTm] at h
    cases hi : α i with
    | false =>
      rw [hi] at h
      rcases recTm_src h with h | ⟨x, h1, h2⟩
      · exact .inl h
      · exact .inr ⟨x, by simp [h1], h2⟩
    | true =>
      rw [hi] at h
      simp only [cond_true, lookT_delT] at h
      split at h
      · cases h
      · rcases recTm_src h with h | ⟨x, h1, h2⟩
        · exact .inl h
        · exact .inr ⟨x, by simp [h1], h2⟩
end
end Go.Sx

namespace Go.Sx
open Go.RowKit
section
variable {E : Env} {w0 : Base} {B n : Nat} {ρ : Nat → Value} {H : IH} {w : World} {a : Act} {o : Oper}
variable {ops : Array Oper} {Q : Exit → Act → World → Prop} {rd : Option Nat} {m : Nat}
def opBase (b : Base) (w : World) (ρ : Nat → Value) (obD obi : List (Nat × Option AObj)) : Base :=
  { b with w := w, K := fun k => b.K k ∨ ∃ id p, lookO obD id = some p ∧ lookO obi id = none ∧ HB (ρ id) k }
theorem op_base {b : Base} {obD obi : List (Nat × Option AObj)} {nxD nxi : Nat} (I : Inv b B ρ H obD nxD w) (hsub : ∀ id p, lookO obi id = some p → lookO obD id = some p ∧ id < nxi ∧ p.lt nxi) : Inv (opBase b w ρ obD obi) B ρ H obi nxi w := by
  refine ⟨Below.refl _ _, Nat.le_trans I.bsz I.below.size, I.one, I.agree, fun id p hp => ?_, fun i j p q hij hp hq => I.sep i j p q hij (hsub i p hp).1 (hsub j q hq).1, fun k hk => ?_⟩
  · obtain ⟨h1, h2, h3⟩ := hsub id p hp
    exact ⟨h2, h3, (I.objs id p h1).2.2⟩
  · rcases hk with hk | ⟨id, p, h1, h2, h3⟩
    · obtain ⟨k1, k2, k3, k4⟩ := I.kp k hk
      exact ⟨I.kLt hk, rfl, k3, fun id p hp => k4 id p (hsub id p hp).1⟩
    · obtain ⟨_, k2, k3⟩ := I.hb h1 h3
      refine ⟨k3, rfl, k2, fun id' p' hp' => ?_⟩
      refine I.sep id id' p p' (fun e => ?_) h1 (hsub id' p' hp').1 k h3
      rw [e, hp'] at h2; cases h2
theorem head_post {b : Base} {s : St} {hd : List (Nat × Nat)} {rs : List Rec} {D : Nat → Bool} {N i : Nat} {obi : List (Nat × Option AObj)} {res : Res} {v : Value} {w' : World} {xi : Rec} (hwf : RecWf s.nx hd rs) (hxi : xi ∈ rs) (hi : xi.i = i) (hup : xi.up = keepU res.up) (heat : eatOk s.nx i hd res.up = true) (hiN : i < N) (hDi : D i = false) (hDs : ∀ x ∈ rs, D x.i = true → D (x.sl s.nx) = true) (hxs : xi.sl s.nx = i ∨ D (xi.sl s.nx) = true)
    (hob0 : ∀ id p, lookO s.ob id = some p → id < s.nx ∧ p.lt s.nx) (hcl : ∀ x ∈ rs, D x.i = true → ∀ id ∈ x.v.ids ++ x.up.flatMap (fun y => objIds y.2), id < s.nx ∨ ∃ y ∈ rs, D y.i = true ∧ ∃ z ∈ y.up, z.1 = id)
    (I : Inv b B ρ H (obAt D s.nx hd (recOb D rs) s.ob) (s.nx + W * N) w) (hsub : ∀ id p, lookO obi id = some p → lookO (obAt D s.nx hd (recOb D rs) s.ob) id = some p ∧ id < s.nx + W * i ∧ p.lt (s.nx + W * i))
    (hp : Post (opBase b w ρ (obAt D s.nx hd (recOb D rs) s.ob) obi) B obi (s.nx + W * i) ρ H res v w') :
    ∃ ρ' H', Inv { b with w := w } B ρ' H' (obAt (fun j => D j || j == i) s.nx hd (recOb (fun j => D j || j == i) rs) s.ob) (s.nx + W * N) w' ∧ HLe H H' ∧ (∀ id, ¬ (s.nx + W * i ≤ id ∧ id < s.nx + W * i + W) → ρ' id = ρ id) ∧ (∀ sv, res.v = some sv → DenSV ρ' H' sv v) := by
  obtain ⟨ρ', H', I', hle, hre, hden⟩ := hp
  have hWi : s.nx + W * i + W ≤ s.nx + W * N := by simp only [W]; omega
  let ρ2 : Nat → Value := fun id => if s.nx + W * i ≤ id ∧ id < s.nx + W * i + W then ρ' id else ρ id
  have hag1 : REq (s.nx + W * i + W) ρ' ρ2 := by
    intro id hid
    simp only [ρ2]
    split
    · rfl
    · exact (hre id (by omega)).symm
  have hag2 : ∀ id, ¬ (s.nx + W * i ≤ id ∧ id < s.nx + W * i + W) → ρ2 id = ρ id := fun id h => by simp only [ρ2, if_neg h]
  have hupS : ∀ x ∈ xi.up, x.2.isSome = true := fun x hx => (hwf.up xi hxi x hx).2
  have hsl : xi.sl s.nx ≤ i := by rw [← hi]; exact hwf.sl xi hxi
  have hupR : ∀ id p, lookO xi.up id = some p → (s.nx + W * xi.sl s.nx ≤ id ∧ id < s.nx + W * xi.sl s.nx + W) ∨ (id < s.nx ∧ (i, id) ∈ hd) := fun id p h => by
    obtain ⟨x, h1, h2, _⟩ := lookO_key h
    obtain ⟨k, _⟩ := hwf.up xi hxi x h1
    rw [h2] at k
    rw [hi] at k
    exact k
  have notOwn : ∀ (y : Rec) (id : Nat), y ∈ rs → D y.i = true → s.nx + W * y.sl s.nx ≤ id → id < s.nx + W * y.sl s.nx + W → ¬ (s.nx + W * i ≤ id ∧ id < s.nx + W * i + W) := by
    intro y id hy hD h1 h2 hh
    have := mulW h1 h2 hh.1 hh.2
    have h3 := hDs y hy hD
    rw [this, hDi] at h3; cases h3
  have split : ∀ id p, lookO (obAt (fun j => D j || j == i) s.nx hd (recOb (fun j => D j || j == i) rs) s.ob) id = some p → (lookO xi.up id = some p) ∨
      (lookO (obAt D s.nx hd (recOb D rs) s.ob) id = some p ∧ ¬ (s.nx + W * i ≤ id ∧ id < s.nx + W * i + W) ∧ (∀ j ∈ objIds (some p), ¬ (s.nx + W * i ≤ j ∧ j < s.nx + W * i + W)) ∧ ∀ x ∈ res.up, x.1 ≠ id) := by
    intro id p h
    obtain ⟨hng, h⟩ := eat_iff.1 h
    have up' : lookO (recOb D rs ++ eatOb D hd s.ob) id = some p → lookO (obAt D s.nx hd (recOb D rs) s.ob) id = some p := fun h2 => eat_iff.2 ⟨fun j hj => by
      have := hng j hj
      simp only [Bool.or_eq_false_iff] at this
      exact this.1, h2⟩
    have past : lookO xi.up id = none → ∀ x ∈ res.up, x.1 ≠ id := by
      intro hl x hx e
      cases hxo : x.2 with
      | some o' =>
        exact look_none hupS hl x (by rw [hup, mem_keepU]; exact ⟨hx, by rw [hxo]; rfl⟩) e
      | none =>
        have k2 := eatOk_at heat hx hxo
        rw [e] at k2
        have k1 : id < s.nx := by
          rcases Nat.lt_or_ge id s.nx with h5 | h5
          · exact h5
          · have := hng i (mem_newHd.2 ⟨k2, h5⟩)
            simp at this
        rw [recOb_look3 hwf k1 (fun y hy _ hyd => by rw [hwf.uniq y hy xi hxi ((hd_one hwf.hdu hyd k2).trans hi.symm)]; exact hl), eat_gone k2 (by simp)] at h
        cases h
    rcases recOb_look1 hwf h with ⟨x, x1, x2, x3, x4⟩ | ⟨h1, h4⟩
    · by_cases e : x.i = i
      · have := hwf.uniq x x1 xi hxi (e.trans hi.symm)
        subst this
        exact .inl x3
      · have hD : D x.i = true := by simpa [e] using x2
        obtain ⟨z, z1, z2, z3⟩ := lookO_key x3
        refine .inr ⟨up' (recOb_look2 hwf x1 hD x3 (fun y hy hyD hlt => x4 y hy (by simp [hyD]) hlt)), ?_, fun j hj => ?_, ?_⟩
        · obtain ⟨k, _⟩ := hwf.up x x1 z z1
          rw [z2] at k
          rcases k with ⟨k1, k2⟩ | ⟨k1, _⟩
          · exact notOwn x id x1 hD k1 k2
          · omega
        · have hj' : j ∈ x.v.ids ++ x.up.flatMap (fun y => objIds y.2) := List.mem_append.2 (.inr (List.mem_flatMap.2 ⟨z, z1, by rw [z3]; exact hj⟩))
          rcases hcl x x1 hD j hj' with h | ⟨y, y1, y2, u, u1, u2⟩
          · omega
          · obtain ⟨k, _⟩ := hwf.up y y1 u u1
            rw [u2] at k
            rcases k with ⟨k1, k2⟩ | ⟨k1, _⟩
            · exact notOwn y j y1 y2 k1 k2
            · omega
        · refine past ?_
          rcases Nat.lt_or_ge x.i xi.i with hlt | hge
          · exact x4 xi hxi (by simp [hi]) hlt
          · cases hl : lookO xi.up id with
            | none => rfl
            | some o' =>
              exfalso
              have hss := hwf.same x1 hxi x3 hl
              have hne : x ≠ xi := fun e' => e (by rw [e', hi])
              have hsx := hwf.sl xi hxi
              by_cases hown : xi.sl s.nx = xi.i
              · have := hDs x x1 hD
                rw [hss, hown, hi, hDi] at this; cases this
              · rcases hwf.one xi hxi hown x x1 hss with h5 | h5
                · omega
                · exact hne h5
    · obtain ⟨k1, k2⟩ := hob0 id p (eat_le h1)
      refine .inr ⟨up' (by rw [recOb_look3 hwf k1 (fun y hy hyD _ => h4 y hy (by simp [hyD]))]; exact eat_mono (fun j hj => by simp [hj]) h1), by omega, fun j hj => ?_, past (h4 xi hxi (by simp [hi]))⟩
      have := AObj.ids_of_lt k2 j hj
      omega
  have inI : ∀ id p, lookO obi id = some p → (∀ x ∈ res.up, x.1 ≠ id) → lookO (res.up ++ obi) id = some p := fun id p h hn => by
    rw [look_past hn]
    exact h
  have inU : ∀ id p, lookO xi.up id = some p → lookO (res.up ++ obi) id = some p := fun id p h => by
    rw [hup] at h
    refine look_keep (fun x hx hn e => ?_) h
    obtain ⟨z, z1, z2, z3⟩ := lookO_key h
    have hz := mem_keepU.1 z1
    exact eatOk_no heat hx hn hz.1 hz.2 (z2.trans e.symm)
  have ρU : ∀ id p, lookO xi.up id = some p → ρ2 id = ρ' id := fun id p h => by
    rcases hupR id p h with ⟨k1, k2⟩ | ⟨k1, _⟩
    · by_cases hown : xi.sl s.nx = i
      · rw [hown] at k1 k2
        simp only [ρ2, if_pos (And.intro k1 k2)]
      · have hlt : id < s.nx + W * i := by simp only [W] at *; omega
        have : ¬ (s.nx + W * i ≤ id ∧ id < s.nx + W * i + W) := by omega
        simp only [ρ2, if_neg this]
        exact (hre id hlt).symm
    · have hlt : id < s.nx + W * i := by omega
      have : ¬ (s.nx + W * i ≤ id ∧ id < s.nx + W * i + W) := by omega
      simp only [ρ2, if_neg this]
      exact (hre id hlt).symm
  have ρI : ∀ id p, lookO obi id = some p → ρ' id = ρ id := fun id p h => hre id (hsub id p h).2.1
  refine ⟨ρ2, H', ⟨I'.below, Nat.le_trans I.bsz I.below.size, fun id => ?_, I'.agree, fun id p h => ?_, fun i1 j1 p q hij h1 h2 => ?_, fun k hk => ?_⟩, hle, hag2, fun sv hsv => ?_⟩
  · simp only [ρ2]; split
    · exact I'.one id
    · exact I.one id
  · rcases split id p h with h1 | ⟨h1, h2, h3, h4⟩
    · obtain ⟨k1, k2, k3⟩ := I'.objs id p (inU id p h1)
      exact ⟨by omega, k2.mono hWi, k3.kept k1 k2 hag1 (HLe.refl _) fun k hk => ⟨rfl, (I'.hb (inU id p h1) hk).2.1⟩⟩
    · obtain ⟨k1, k2, k3⟩ := I.objs id p h1
      refine ⟨k1, k2, ?_⟩
      cases hl : lookO obi id with
      | some q =>
        have : q = p := by have := (hsub id q hl).1; rw [h1] at this; cases this; rfl
        subst this
        obtain ⟨m1, m2, m3⟩ := I'.objs id q (inI id q hl h4)
        exact m3.kept m1 m2 hag1 (HLe.refl _) fun k hk => ⟨rfl, (I'.hb (inI id q hl h4) hk).2.1⟩
      | none =>
        refine k3.agree (hag2 id h2) (fun j hj => hag2 j (h3 j hj)) hle fun k hk => ?_
        obtain ⟨_, m2, m3, _⟩ := I'.kp k (.inr ⟨id, p, h1, hl, hk⟩)
        exact ⟨m2, m3⟩
  · intro k hk1 hk2
    rcases split i1 p h1 with a1 | ⟨a1, a2, _, a4⟩
    · rw [ρU i1 p a1] at hk1
      rcases split j1 q h2 with c1 | ⟨c1, c2, _, c4⟩
      · rw [ρU j1 q c1] at hk2
        exact I'.sep i1 j1 p q hij (inU _ _ a1) (inU _ _ c1) k hk1 hk2
      · rw [hag2 j1 c2] at hk2
        cases hl : lookO obi j1 with
        | some q' =>
          exact I'.sep i1 j1 p q' hij (inU _ _ a1) (inI _ _ hl c4) k hk1 (by rw [ρI _ _ hl]; exact hk2)
        | none => exact (I'.kp k (.inr ⟨j1, q, c1, hl, hk2⟩)).2.2.2 i1 p (inU _ _ a1) hk1
    · rw [hag2 i1 a2] at hk1
      rcases split j1 q h2 with c1 | ⟨c1, c2, _, c4⟩
      · rw [ρU j1 q c1] at hk2
        cases hl : lookO obi i1 with
        | some p' => exact I'.sep i1 j1 p' q hij (inI _ _ hl a4) (inU _ _ c1) k (by rw [ρI _ _ hl]; exact hk1) hk2
        | none => exact (I'.kp k (.inr ⟨i1, p, a1, hl, hk1⟩)).2.2.2 j1 q (inU _ _ c1) hk2
      · rw [hag2 j1 c2] at hk2
        exact I.sep i1 j1 p q hij a1 c1 k hk1 hk2
  · obtain ⟨m1, m2, m3, m4⟩ := I'.kp k (.inl hk)
    refine ⟨m1, m2, m3, fun id p h hb => ?_⟩
    rcases split id p h with a1 | ⟨a1, a2, _, _⟩
    · rw [ρU id p a1] at hb
      exact m4 id p (inU _ _ a1) hb
    · rw [hag2 id a2] at hb
      exact (I.kp k hk).2.2.2 id p a1 hb
  · obtain ⟨d1, d2⟩ := hden sv hsv
    exact d1.mono hag1 (HLe.refl _) d2
theorem Inv.congr {b : Base} {ob ob' : List (Nat × Option AObj)} {nx : Nat} (I : Inv b B ρ H ob nx w) (h : ∀ id p, lookO ob' id = some p → lookO ob id = some p) : Inv b B ρ H ob' nx w :=
  ⟨I.below, I.bsz, I.one, I.agree, fun id p hp => I.objs id p (h id p hp), fun i j p q hij hp hq => I.sep i j p q hij (h i p hp) (h j q hq), fun k hk => let ⟨k1, k2, k3, k4⟩ := I.kp k hk; ⟨k1, k2, k3, fun id p hp => k4 id p (h id p hp)⟩⟩
theorem head_step (hE : EnvOk E) {s : St} {hd0 : List (Nat × Nat)} {rs : List Rec} {D : Nat → Bool} {i mk N : Nat} {K : Act → World → Prop} {r : List (Oper × Nat)} (hH : HeadOk E ops s hd0 rs r o i mk) (hse : ∀ j, D j = true → hidAt r i j = true) (hi : ops[i]? = some o) (hd : ∀ d, o.dst = some d → d < n) (hDi : D i = false) (hiN : i < N) (hrsN : ∀ x ∈ rs, x.i < N)
    (hwf : RecWf s.nx hd0 rs) (hob0 : ∀ id p, lookO s.ob id = some p → id < s.nx ∧ p.lt s.nx) (htm0 : ∀ t sv, lookT s.tm t = some sv → sv.lt s.nx) (hfl0 : w0.fl ≤ s.nx)
    (hcl : ∀ x ∈ rs, D x.i = true → ∀ id ∈ x.v.ids ++ x.up.flatMap (fun y => objIds y.2), id < s.nx ∨ ∃ y ∈ rs, D y.i = true ∧ ∃ z ∈ y.up, z.1 = id)
    (hanc : ∀ b, Nat.testBit mk b = true → D b = true) (hDs : ∀ x ∈ rs, D x.i = true → D (x.sl s.nx) = true)
    (hcmp : ∀ x ∈ rs, x.sl s.nx ≠ x.i → D x.i = true → Nat.testBit mk (x.sl s.nx) = true → Nat.testBit mk x.i = true) (hrd : ∀ x ∈ rs, x.d = (ops[x.i]?).bind (·.dst))
    (hrg : ∀ x ∈ rs, ∀ g b, x.g = some (g, b) → ∃ j, (ops[j]?).bind (·.dst) = some g ∧ (D x.i = true → D j = true))
    (hap : ∀ x ∈ rs, D x.i = true → Nat.testBit mk x.i = false → ∀ t, x.d = some t → t ∉ looks ops o)
    (hnd : ∀ (i j d : Nat), (ops[i]?).bind (·.dst) = some d → (ops[j]?).bind (·.dst) = some d → i = j)
    (hs : Sat E w0 B n ⟨recTm D rs s.tm, obAt D s.nx hd0 (recOb D rs) s.ob, s.nx + W * N, s.lr⟩ (recGs D rs) a w)
    (hK : ∀ a' w', Sat E w0 B n ⟨recTm (fun j => D j || j == i) rs s.tm, obAt (fun j => D j || j == i) s.nx hd0 (recOb (fun j => D j || j == i) rs) s.ob, s.nx + W * N, s.lr⟩ (recGs (fun j => D j || j == i) rs) a' w' → K a' w') : wpOpIn (Fw rd) m E.P ops Q i K a w := by
  have hrs := hwf.uniq
  obtain ⟨ρ, H, b, ds, I, G, hT, hG, hdf, hsz⟩ := hs
  simp only [] at I hT hG G
  have hmk : ∀ j, Nat.testBit mk j = true → j < i := fun j hj => by
    rcases Nat.lt_or_ge j i with h | h
    · exact h
    · rw [Nat.testBit_lt_two_pow (Nat.lt_of_lt_of_le hH.1 (Nat.pow_le_pow_right (by omega) h))] at hj; cases hj
  have hle1 : ∀ j, j < i → s.nx + W * j + W ≤ s.nx + W * i := fun j hj => by simp only [W]; omega
  have hleN : ∀ j, j < N → s.nx + W * j + W ≤ s.nx + W * N := fun j hj => by simp only [W]; omega
  have hsub : ∀ id p, lookO (obAt (hidAt r i) s.nx hd0 (recOb (Nat.testBit mk) rs) s.ob) id = some p → lookO (obAt D s.nx hd0 (recOb D rs) s.ob) id = some p ∧ id < s.nx + W * i ∧ p.lt (s.nx + W * i) := by
    intro id p h
    obtain ⟨hng, h⟩ := eat_iff.1 h
    have up' : lookO (recOb D rs ++ eatOb D hd0 s.ob) id = some p → lookO (obAt D s.nx hd0 (recOb D rs) s.ob) id = some p := fun h2 => eat_iff.2 ⟨fun j hj => (by
      cases hDj : D j with
      | false => rfl
      | true => have := hng j hj; rw [hse j hDj] at this; cases this), h2⟩
    rcases recOb_look1 hwf h with ⟨x, x1, x2, x3, x4⟩ | ⟨h1, _⟩
    · refine ⟨up' (recOb_look2 hwf x1 (hanc _ x2) x3 (fun y hy hyD hlt => ?_)), ?_, ?_⟩
      · cases hl : lookO y.up id with
        | none => rfl
        | some o' =>
          exfalso
          have hss := hwf.same hy x1 hl x3
          have hsx := hwf.sl x x1
          have hyn : y.sl s.nx ≠ y.i := by omega
          have hxb : x.i = x.sl s.nx := by
            rcases hwf.one y hy hyn x x1 hss.symm with h5 | h5
            · exact h5
            · subst h5; omega
          have hbit : Nat.testBit mk (y.sl s.nx) = true := by rw [hss, ← hxb]; exact x2
          have := x4 y hy (hcmp y hy hyn hyD hbit) hlt
          rw [hl] at this; cases this
      · obtain ⟨z, z1, z2, _⟩ := lookO_key x3
        have h5 : id < s.nx + W * x.sl s.nx + W := by
          obtain ⟨k, _⟩ := hwf.up x x1 z z1
          rw [z2] at k
          rcases k with ⟨_, k2⟩ | ⟨k1, _⟩
          · exact k2
          · omega
        have h6 := hle1 x.i (hmk _ x2)
        have h7 := hwf.sl x x1
        simp only [W] at *
        omega
      · refine AObj.lt_of_ids fun j hj => ?_
        obtain ⟨z, z1, _, z3⟩ := lookO_key x3
        have := hwf.ids x x1 j (List.mem_append.2 (.inr (List.mem_flatMap.2 ⟨z, z1, by rw [z3]; exact hj⟩)))
        have := hle1 x.i (hmk _ x2)
        omega
    · obtain ⟨k1, k2⟩ := hob0 id p (eat_le h1)
      exact ⟨up' (by
        rw [recOb_look3 hwf k1 (fun y hy hyD hyd => by
          have hg := eat_gone (ob := s.ob) (α := hidAt r i) hyd (hse _ hyD)
          rw [hg] at h1; cases h1)]
        exact eat_mono hse h1), by omega, k2.mono (by omega)⟩
  have hT' : TmOk ρ H (keepT (looks ops o) (recTm (Nat.testBit mk) rs s.tm)) (s.nx + W * i) a.tmps := by
    intro t sv ht
    rw [lookT_keepT] at ht
    split at ht
    · rename_i hl
      have hlt : sv.lt (s.nx + W * i) := by
        rcases recTm_src ht with h | ⟨x, x1, x2, x3⟩
        · exact (htm0 t sv h).mono (by omega)
        · subst x3
          refine SV.lt_of_ids fun id hid => ?_
          have := hwf.ids x x1 id (List.mem_append.2 (.inl hid))
          have := hle1 x.i (hmk _ x2)
          omega
      rw [recTm_same (β := D)] at ht
      · obtain ⟨k1, _, k3⟩ := hT t sv ht
        exact ⟨k1, hlt, k3⟩
      · intro x hx hxd
        cases hb : Nat.testBit mk x.i with
        | true => exact (hanc _ hb).symm
        | false =>
          cases hD : D x.i with
          | false => rfl
          | true => exact absurd hl (hap x hx hD hb t hxd)
    · cases ht
  have hG' : ∀ x ∈ recGs (Nat.testBit mk) rs, GvOk ρ H (s.nx + W * i) a.tmps x := by
    intro x hx
    obtain ⟨j, u, h1, h2⟩ := recGs_mem.1 hx
    obtain ⟨k1, k2⟩ := hG x (recGs_mem.2 ⟨j, u, h1, hanc j h2⟩)
    refine ⟨k1, ?_⟩
    rcases k2 with ⟨k3, _, k4⟩ | k2
    · refine .inl ⟨k3, SV.lt_of_ids fun id hid => ?_, k4⟩
      have hx1 : id < s.nx + W * j + W := hwf.ids _ h1 id (List.mem_append.2 (.inl hid))
      have := hle1 j (hmk _ h2)
      omega
    · exact .inr k2
  have hoth : ∀ y ∈ rs, y.i = i → ∀ t, y.d ≠ some t → lookT (recTm (fun j => D j || j == i) rs s.tm) t = lookT (recTm D rs s.tm) t := by
    intro y hy hyi t hyt
    refine recTm_same fun x hx hxd => ?_
    have : x.i ≠ i := fun e => hyt (by rw [← hrs x hx y hy (e.trans hyi.symm)]; exact hxd)
    simp [this]
  have hgs : ∀ d, o.dst = some d → ∀ (x : GV) (j : Nat) (u : List (Nat × Option AObj)), (⟨j, some x.d, some (x.g, x.w), x.v, u⟩ : Rec) ∈ rs → D j = true → x.d ≠ d ∧ x.g ≠ d := by
    intro d hdo x j u h1 h2
    have hid : (ops[i]?).bind (·.dst) = some d := by rw [hi]; exact hdo
    constructor
    · intro e
      have := hrd _ h1
      simp only [] at this
      rw [e] at this
      have := hnd j i d this.symm hid
      rw [this, hDi] at h2; cases h2
    · intro e
      obtain ⟨j', k1, k2⟩ := hrg _ h1 x.g x.w rfl
      have := hnd j' i d (by rw [k1, e]) hid
      rw [this, hDi] at k2
      have := k2 h2
      cases this
  have honly : ∀ d, o.dst = some d → ∀ y ∈ rs, y.i = i → ∀ x ∈ rs, x.d = some d → x = y := by
    intro d hdo y hy hyi x hx hxd
    have hid : (ops[i]?).bind (·.dst) = some d := by rw [hi]; exact hdo
    have := hrd x hx
    rw [hxd] at this
    exact hrs x hx y hy ((hnd _ _ _ this.symm hid).trans hyi.symm)
  have hfar : ∀ x ∈ rs, D x.i = true → ∀ id ∈ x.v.ids, ¬ (s.nx + W * i ≤ id ∧ id < s.nx + W * i + W) := by
    intro x hx hD id hid
    rcases hcl x hx hD id (List.mem_append.2 (.inl hid)) with h | ⟨y, y1, y2, z, z1, z2⟩
    · omega
    · obtain ⟨k, _⟩ := hwf.up y y1 z z1
      rw [z2] at k
      rcases k with ⟨k1, k2⟩ | ⟨k1, _⟩
      · exact fun hh => by
          have := mulW k1 k2 hh.1 hh.2
          have h3 := hDs y y1 y2
          rw [this, hDi] at h3; cases h3
      · omega
  have after : ∀ (ρ' : Nat → Value) (H' : IH) (b' : Base) (v : Value) (w' : World) (xi : Rec), xi ∈ rs → xi.i = i → Inv b' B ρ' H' (obAt (fun j => D j || j == i) s.nx hd0 (recOb (fun j => D j || j == i) rs) s.ob) (s.nx + W * N) w' → b'.K = b.K → b'.w = w → HLe H H' →
      (∀ id, ¬ (s.nx + W * i ≤ id ∧ id < s.nx + W * i + W) → ρ' id = ρ id) → xi.d = o.dst →
      ((xi.g = none ∧ (DenSV ρ' H' xi.v v ∨ xi.d = none)) ∨ (∃ g want, xi.g = some (g, want) ∧ (∀ d, xi.d = some d → g ≠ d) ∧ ∃ d, xi.d = some d ∧ ((a.tmps.getD g undef = .bool want ∧ DenSV ρ' H' xi.v v) ∨ (a.tmps.getD g undef ≠ .bool want ∧ v = undef)))) → K (a.put o.dst v) w' := by
    intro ρ' H' b' v w' xi hxi hxii I' hbK hbw hle hag hxd hval
    have d2 : xi.v.lt (s.nx + W * N) := SV.lt_of_ids fun id hid => by
      have := hwf.ids xi hxi id (List.mem_append.2 (.inl hid))
      have := hleN xi.i (hrsN xi hxi)
      omega
    have G' : GlB E w0 b' B ρ' H' (s.nx + W * N) s.lr ds := by
      have G0 : GlB E w0 b' B ρ H (s.nx + W * N) s.lr ds := G.to (by rw [hbw]; exact I.below) (fun k hk => ⟨by rw [hbK]; exact hk, by rw [hbw]; exact I.kSame hk⟩)
      exact { G0 with gl := G0.gl.mono hle, hle := G0.hle.trans hle, re := fun id hid => by rw [hag id (by omega)]; exact G0.re id hid }
    have old : ∀ t x, lookT (recTm D rs s.tm) t = some x → t < a.tmps.size ∧ x.lt (s.nx + W * N) ∧ DenSV ρ' H' x (a.tmps.getD t undef) := by
      intro t x hx
      obtain ⟨k1, k2, k3⟩ := hT t x hx
      refine ⟨k1, k2, ?_⟩
      rcases recTm_src hx with h | ⟨y, y1, y2, y3⟩
      · exact k3.mono (n := s.nx) (fun id hid => hag id (by omega)) hle (htm0 t x h)
      · subst y3
        exact k3.agree hle fun id hid => hag id (hfar y y1 y2 id hid)
    have oldG : ∀ (x : GV) (j : Nat) (u : List (Nat × Option AObj)), (⟨j, some x.d, some (x.g, x.w), x.v, u⟩ : Rec) ∈ rs → D j = true → GvOk ρ' H' (s.nx + W * N) a.tmps x := by
      intro x j u h1 h2
      obtain ⟨k1, k2⟩ := hG x (recGs_mem.2 ⟨j, u, h1, h2⟩)
      refine ⟨k1, ?_⟩
      rcases k2 with ⟨k3, k4, k5⟩ | k2
      · exact .inl ⟨k3, k4, k5.agree hle fun id hid => hag id (hfar _ h1 h2 id hid)⟩
      · exact .inr k2
    have notI : ∀ (j : Nat) (x : GV) (u : List (Nat × Option AObj)), (⟨j, some x.d, some (x.g, x.w), x.v, u⟩ : Rec) ∈ rs → xi.g = none → j ≠ i := by
      intro j x u h1 hg e
      have := hrs _ h1 xi hxi (by simpa [hxii] using e)
      rw [← this] at hg
      cases hg
    cases hdst : o.dst with
    | none =>
      have hxdn : xi.d = none := by rw [hxd, hdst]
      rcases hval with ⟨hg, _⟩ | ⟨g, want, _, _, d, hd', _⟩
      · refine hK _ _ ⟨ρ', H', b', ds, I', G', ?_, ?_, hdf, hsz⟩
        · intro t x hx
          simp only [] at hx
          rw [hoth xi hxi hxii t (by rw [hxdn]; simp)] at hx
          exact old t x hx
        · intro x hx
          obtain ⟨j, u, h1, h2⟩ := recGs_mem.1 hx
          have hne := notI j x u h1 hg
          exact oldG x j u h1 (by simpa [hne] using h2)
      · rw [hxdn] at hd'; cases hd'
    | some d =>
      have hxds : xi.d = some d := by rw [hxd, hdst]
      have hdlt : d < a.tmps.size := by rw [hsz]; exact hd d hdst
      refine hK _ _ ⟨ρ', H', b', ds, I', G', ?_, ?_, by rw [put_defers]; exact hdf, by rw [put_size]; exact hsz⟩
      · intro t x hx
        simp only [] at hx
        by_cases e : t = d
        · subst e
          rw [recTm_only (y := xi) (by simp [hxii]) hxds hxi (honly t hdst xi hxi hxii)] at hx
          rcases hval with ⟨hg, hv⟩ | ⟨g, want, hg, _⟩
          · rw [hg] at hx
            cases hx
            rw [put_size, put_getD hdlt, if_pos rfl]
            exact ⟨hdlt, d2, hv.resolve_right (by rw [hxds]; simp)⟩
          · rw [hg] at hx; cases hx
        · rw [hoth xi hxi hxii t (by rw [hxds]; simpa using Ne.symm e)] at hx
          rw [put_size, put_getD hdlt, if_neg e]
          exact old t x hx
      · intro x hx
        obtain ⟨j, u, h1, h2⟩ := recGs_mem.1 hx
        by_cases e : j = i
        · have hxx := hrs _ h1 xi hxi (by simpa [hxii] using e)
          rcases hval with ⟨hg, _⟩ | ⟨g, want, hg, hgne, d', hd', hv⟩
          · exact absurd e (notI j x u h1 hg)
          · rw [hxds] at hd'; cases hd'
            rw [← hxx] at hg hxds hv d2
            simp only [Option.some.injEq, Prod.mk.injEq] at hg hxds
            obtain ⟨e2, e3⟩ := hg
            refine ⟨by rw [put_size, hxds]; exact hdlt, ?_⟩
            rw [hxds, e2, e3, put_getD hdlt, put_getD hdlt, if_neg (hgne d (by rw [hxd, hdst])), if_pos rfl]
            rcases hv with ⟨v1, v2⟩ | v1
            · exact .inl ⟨v1, d2, v2⟩
            · exact .inr v1
        · have hDj : D j = true := by simpa [e] using h2
          obtain ⟨f1, f2⟩ := hgs d hdst x j u h1 hDj
          exact (oldG x j u h1 hDj).put f1 f2 hdlt
  have Iop := op_base I hsub
  unfold wpOpIn
  simp only [hi]
  obtain ⟨_, hH⟩ := hH
  rcases hH with ⟨hg, res, sv, fl, hres, hv, hc, hids, hslot, heat, hmem⟩ | ⟨j, want, g, d, res, sv, hg, hgd, hdst, hbit, hres, hv, hc, hids, hmem⟩
  · have hw : Region.wanted o (yielded ops a.tmps) = true := by simp [Region.wanted, hg]
    rw [if_pos hw]
    obtain ⟨hok, hdef⟩ := stepH_sound hE Iop G.gl hT' hG' hres hc
    refine hok.wpIn hdef ?_
    intro v w' hp
    obtain ⟨ρ', H', I', hle, hag, hden⟩ := head_post hwf hmem rfl rfl heat hiN hDi hDs (hslot.imp id (hanc _)) hob0 hcl I hsub hp
    refine after ρ' H' _ v w' _ hmem rfl I' rfl rfl hle hag rfl (.inl ⟨rfl, ?_⟩)
    simp only []
    unfold valOr at hv
    split at hv
    · rename_i e1; cases hv; exact .inl (hden _ e1)
    · rename_i e1 e2; exact .inr e1
    · cases hv
  · obtain ⟨res0, hres0, hstill⟩ := Option.bind_eq_some_iff.1 hres
    have hiff := wanted_iff (a := a) (ops := ops) hg hgd
    have hgne : g ≠ d := by
      intro e
      have : j = i := hnd j i d (by rw [hgd, e]) (by rw [hi]; exact hdst)
      rw [this] at hbit
      have := hanc i hbit
      rw [hDi] at this; cases this
    by_cases hw : Region.wanted o (yielded ops a.tmps) = true
    · rw [if_pos hw]
      have hgv := hiff.1 hw
      have hc0 : ∀ q ∈ res0.cs, q := by
        intro q hq
        rw [← (still_cs hstill).1] at hq
        exact hyps_ok hT' hG' 8 g want q hgv (hc q hq)
      obtain ⟨hok, hdef⟩ := stepG_sound hE Iop G.gl hT' hG' (ctx := [(g, want)]) (by simpa using hgv) hres0 hc0
      refine hok.wpIn hdef ?_
      intro v w' hp
      obtain ⟨hp', _, hup⟩ := still_ok (fun id p h => (Iop.objs id p h).1) hstill hp
      obtain ⟨ρ', H', I', hle, hag, hden⟩ := head_post (hd := hd0) hwf hmem rfl (by rw [hup]; rfl) (by rw [hup]; rfl) hiN hDi hDs (.inl rfl) hob0 hcl I hsub hp'
      exact after ρ' H' _ v w' _ hmem rfl I' rfl rfl hle hag hdst.symm (.inr ⟨g, want, rfl, fun d' hd' => by cases hd'; exact hgne, d, rfl, .inl ⟨hgv, hden sv hv⟩⟩)
    · rw [if_neg hw]
      refine ⟨fun _ _ => trivial, ?_⟩
      have I' : Inv { b with w := w } B ρ H (obAt (fun j => D j || j == i) s.nx hd0 (recOb (fun j => D j || j == i) rs) s.ob) (s.nx + W * N) w := by
        have I0 : Inv { b with w := w } B ρ H (obAt D s.nx hd0 (recOb D rs) s.ob) (s.nx + W * N) w := ⟨Below.refl _ _, Nat.le_trans I.bsz I.below.size, I.one, I.agree, I.objs, I.sep, fun k hk => let ⟨_, k2, k3, k4⟩ := I.kp k hk; ⟨I.kLt hk, rfl, k3, k4⟩⟩
        refine I0.congr fun id p h => ?_
        obtain ⟨hng, h⟩ := eat_iff.1 h
        refine eat_iff.2 ⟨fun j hj => by
          have := hng j hj
          simp only [Bool.or_eq_false_iff] at this
          exact this.1, ?_⟩
        rcases recOb_look1 hwf h with ⟨x, x1, x2, x3, x4⟩ | ⟨h1, h4⟩
        · by_cases e : x.i = i
          · have := hrs x x1 _ hmem e
            rw [this] at x3
            simp [lookO] at x3
          · exact recOb_look2 hwf x1 (by simpa [e] using x2) x3 (fun y hy hyD hlt => x4 y hy (by simp [hyD]) hlt)
        · rw [recOb_look3 hwf (hob0 id p (eat_le h1)).1 (fun y hy hyD _ => h4 y hy (by simp [hyD]))]; exact eat_mono (fun j hj => by simp [hj]) h1
      exact after ρ H _ undef w _ hmem rfl I' rfl rfl (HLe.refl _) (fun _ _ => rfl) hdst.symm (.inr ⟨g, want, rfl, fun d' hd' => by cases hd'; exact hgne, d, rfl, .inr ⟨fun e => hw (hiff.2 e), rfl⟩⟩)
end
end Go.Sx

namespace Go.Sx
open Go.RowKit
def maskOf (acc : List Nat) (o : Oper) : Nat := o.after.toList.foldl (fun m e => if Region.binds .any e then m ||| 2 ^ e.on ||| acc.getD e.on 0 else m) 0
theorem fold_bit (acc : List Nat) (j : Nat) : ∀ (es : List Edge) (m0 : Nat), Nat.testBit (es.foldl (fun m e => if Region.binds .any e then m ||| 2 ^ e.on ||| acc.getD e.on 0 else m) m0) j = true ↔
    Nat.testBit m0 j = true ∨ ∃ e ∈ es, Region.binds .any e = true ∧ (e.on = j ∨ Nat.testBit (acc.getD e.on 0) j = true)
  | [], m0 => by simp
  | e :: es, m0 => by
    rw [List.foldl_cons, fold_bit acc j es]
    cases hb : Region.binds .any e with
    | false => simp [hb]
    | true =>
      simp only [if_true, Nat.testBit_or, Bool.or_eq_true, Nat.testBit_two_pow, decide_eq_true_eq, List.mem_cons, exists_eq_or_imp, hb, true_and]
      constructor
      · rintro (((h | h) | h) | h)
        · exact .inl h
        · exact .inr (.inl (.inl h))
        · exact .inr (.inl (.inr h))
        · exact .inr (.inr h)
      · rintro (h | (h | h) | h)
        · exact .inl (.inl (.inl h))
        · exact .inl (.inl (.inr h))
        · exact .inl (.inr h)
        · exact .inr h
theorem ancs_pre : ∀ (l : List Oper) (acc : List Nat), ∃ t, ancs l acc = acc ++ t ∧ t.length = l.length
  | [], acc => ⟨[], by simp [ancs], rfl⟩
  | o :: r, acc => by
    obtain ⟨t, h1, h2⟩ := ancs_pre r (acc ++ [maskOf acc o])
    exact ⟨maskOf acc o :: t, by show ancs r (acc ++ [maskOf acc o]) = _; rw [h1]; simp, by simp [h2]⟩
theorem ancs_at : ∀ (l : List Oper) (acc : List Nat) (i : Nat) (o : Oper), l[i]? = some o → ∃ pre, pre.length = acc.length + i ∧ (∃ t, ancs l acc = pre ++ t) ∧ (ancs l acc)[acc.length + i]? = some (maskOf pre o)
  | [], acc, i, o, h => by simp at h
  | x :: r, acc, 0, o, h => by
    simp only [List.getElem?_cons_zero, Option.some.injEq] at h
    subst h
    obtain ⟨t, h1, _⟩ := ancs_pre r (acc ++ [maskOf acc x])
    have h1' : ancs (x :: r) acc = acc ++ (maskOf acc x :: t) := by show ancs r (acc ++ [maskOf acc x]) = _; rw [h1]; simp
    exact ⟨acc, rfl, ⟨_, h1'⟩, by rw [h1']; simp⟩
  | x :: r, acc, i + 1, o, h => by
    obtain ⟨pre, h1, h2, h3⟩ := ancs_at r (acc ++ [maskOf acc x]) i o (by simpa using h)
    rw [List.length_append] at h1 h3
    simp only [List.length_singleton] at h1 h3
    refine ⟨pre, by omega, h2, ?_⟩
    show (ancs r (acc ++ [maskOf acc x]))[acc.length + (i + 1)]? = _
    rw [show acc.length + (i + 1) = acc.length + 1 + i by omega]
    exact h3
theorem zip_at : ∀ (l : List Oper) (q : List Nat) (i j : Nat) (x : Oper × Nat × Nat), (zipAnc i l q)[j]? = some x ↔ l[j]? = some x.1 ∧ x.2.1 = i + j ∧ q[j]? = some x.2.2
  | [], q, i, j, x => by simp [zipAnc]
  | o :: l, [], i, j, x => by simp [zipAnc]
  | o :: l, m :: q, i, 0, x => by
    obtain ⟨a, b, c⟩ := x
    simp only [zipAnc, List.getElem?_cons_zero, Option.some.injEq, Prod.mk.injEq, Nat.add_zero]
    constructor
    · rintro ⟨h1, h2, h3⟩; exact ⟨h1, h2.symm, h3⟩
    · rintro ⟨h1, h2, h3⟩; exact ⟨h1, h2.symm, h3⟩
  | o :: l, m :: q, i, j + 1, x => by
    simp only [zipAnc, List.getElem?_cons_succ, zip_at l q (i + 1) j x]
    rw [show i + 1 + j = i + (j + 1) by omega]
theorem head_at (fm : Nat) : ∀ (l : List Oper) (q : List Nat) (i : Nat), (headLen fm (zipAnc i l q) = 0 ∨ (i < headLen fm (zipAnc i l q) ∧ headLen fm (zipAnc i l q) ≤ i + (zipAnc i l q).length)) ∧
    ∀ j x, (zipAnc i l q)[j]? = some x → headLen fm (zipAnc i l q) ≤ i + j → Nat.lor x.2.2 (fm % 2 ^ x.2.1) + 1 = 2 ^ x.2.1
  | [], q, i => by simp [zipAnc, headLen]
  | o :: l, [], i => by simp [zipAnc, headLen]
  | o :: l, m :: q, i => by
    obtain ⟨h1, h2⟩ := head_at fm l q (i + 1)
    simp only [zipAnc, headLen]
    split
    · rename_i h0
      rw [h0] at h2
      split
      · rename_i he
        refine ⟨.inl rfl, fun j x hx _ => ?_⟩
        cases j with
        | zero => simp only [List.getElem?_cons_zero, Option.some.injEq] at hx; subst hx; exact he
        | succ j => exact h2 j x (by simpa using hx) (by omega)
      · refine ⟨.inr ⟨by omega, by simp⟩, fun j x hx hle => ?_⟩
        cases j with
        | zero => omega
        | succ j => exact h2 j x (by simpa using hx) (by omega)
    · rename_i n' h0
      rw [h0] at h1 h2
      refine ⟨.inr ⟨?_, ?_⟩, fun j x hx hle => ?_⟩
      · rcases h1 with h1 | h1 <;> omega
      · rcases h1 with h1 | h1
        · omega
        · simp only [List.length_cons]; omega
      · cases j with
        | zero =>
          rcases h1 with h1 | h1
          · omega
          · omega
        | succ j => exact h2 j x (by simpa using hx) (by omega)
theorem fmask_bit {ops : Array Oper} {l : List (Oper × Nat × Nat)} {b : Nat} : ∀ (r : List (Oper × Nat × Nat)), Nat.testBit (fmask ops l r) b = true → ∃ x ∈ r, x.2.1 = b ∧ isFloat ops l x = true
  | [], h => by simp [fmask] at h
  | x :: r, h => by
    unfold fmask at h
    cases hf : isFloat ops l x with
    | false =>
      rw [hf] at h
      obtain ⟨y, h1, h2⟩ := fmask_bit r h
      exact ⟨y, by simp [h1], h2⟩
    | true =>
      rw [hf, cond_true, show Nat.lor (2 ^ x.2.1) (fmask ops l r) = 2 ^ x.2.1 ||| fmask ops l r from rfl, Nat.testBit_or, Bool.or_eq_true] at h
      rcases h with h | h
      · rw [Nat.testBit_two_pow, decide_eq_true_eq] at h
        exact ⟨x, by simp, h, hf⟩
      · obtain ⟨y, h1, h2⟩ := fmask_bit r h
        exact ⟨y, by simp [h1], h2⟩
theorem fmOf_bit {ops : Array Oper} {l : List (Oper × Nat × Nat)} {b : Nat} (h : Nat.testBit (fmOf ops l) b = true) : b < headLen (fmOf ops l) l ∧ ∃ x ∈ l, x.2.1 = b ∧ isFloat ops l x = true := by
  have key : fmOf ops l = 0 ∨ (fmOf ops l = fmask ops l (l.take (headLen 0 l)) ∧ fmOf ops l < 2 ^ headLen (fmOf ops l) l) := by
    unfold fmOf
    split
    · exact .inl rfl
    · rename_i f hf
      cases hb : Nat.blt (f + 1) (2 ^ headLen (f + 1) l) with
      | false => exact .inl rfl
      | true =>
        rw [cond_true]
        refine .inr ⟨hf.symm, ?_⟩
        exact Nat.le_of_ble_eq_true hb
  rcases key with k | ⟨k1, k2⟩
  · rw [k] at h; simp at h
  · refine ⟨?_, ?_⟩
    · rcases Nat.lt_or_ge b (headLen (fmOf ops l) l) with hh | hh
      · exact hh
      · have := Nat.testBit_lt_two_pow (Nat.lt_of_lt_of_le k2 (Nat.pow_le_pow_right (by omega) hh))
        rw [this] at h; cases h
    · rw [k1] at h
      obtain ⟨x, h1, h2⟩ := fmask_bit _ h
      exact ⟨x, List.mem_of_mem_take h1, h2⟩
theorem apartAll_at {ops : Array Oper} : ∀ (l : List (Oper × Nat × Nat)) (p q : Nat) (x y : Oper × Nat × Nat), apartAll ops l = true → p < q → l[p]? = some x → l[q]? = some y → apart ops x y = true
  | [], p, q, x, y, _, _, h, _ => by simp at h
  | z :: l, p, 0, x, y, _, h, _, _ => by omega
  | z :: l, 0, q + 1, x, y, h, _, h1, h2 => by
    simp only [List.getElem?_cons_zero, Option.some.injEq] at h1
    subst h1
    simp only [apartAll, Bool.and_eq_true, List.all_eq_true] at h
    exact h.1 y (List.mem_of_getElem? (by simpa using h2))
  | z :: l, p + 1, q + 1, x, y, h, hpq, h1, h2 => by
    simp only [apartAll, Bool.and_eq_true] at h
    exact apartAll_at l p q x y h.2 (by omega) (by simpa using h1) (by simpa using h2)
theorem nodup_at {α β : Type} {f : α → Option β} : ∀ {l : List α}, (l.filterMap f).Nodup → ∀ {i j : Nat} {x y : α} {d : β}, l[i]? = some x → l[j]? = some y → f x = some d → f y = some d → i = j
  | [], _, i, j, x, y, d, h, _, _, _ => by simp at h
  | z :: l, hn, i, j, x, y, d, h1, h2, h3, h4 => by
    have hl : (l.filterMap f).Nodup := by
      rw [List.filterMap_cons] at hn
      split at hn
      · exact hn
      · exact (List.nodup_cons.1 hn).2
    have hz : ∀ d, f z = some d → ∀ y, y ∈ l → f y ≠ some d := by
      intro d hd y hy hyd
      rw [List.filterMap_cons, hd] at hn
      exact (List.nodup_cons.1 hn).1 (List.mem_filterMap.2 ⟨y, hy, hyd⟩)
    cases i with
    | zero =>
      cases j with
      | zero => rfl
      | succ j =>
        simp only [List.getElem?_cons_zero, Option.some.injEq] at h1
        subst h1
        exact absurd h4 (hz d h3 y (List.mem_of_getElem? (by simpa using h2)))
    | succ i =>
      cases j with
      | zero =>
        simp only [List.getElem?_cons_zero, Option.some.injEq] at h2
        subst h2
        exact absurd h3 (hz d h4 x (List.mem_of_getElem? (by simpa using h1)))
      | succ j => exact congrArg (· + 1) (nodup_at hl (i := i) (j := j) (by simpa using h1) (by simpa using h2) h3 h4)
theorem recTm_congr {tm : List (Nat × SV)} {α β : Nat → Bool} : ∀ {rs : List Rec}, (∀ x ∈ rs, α x.i = β x.i) → recTm α rs tm = recTm β rs tm
  | [], _ => rfl
  | ⟨i, d, g, v, u⟩ :: r, h => by
    have ih := recTm_congr (α := α) (β := β) (tm := tm) (rs := r) fun x hx => h x (by simp [hx])
    have hi : α i = β i := h ⟨i, d, g, v, u⟩ (by simp)
    cases d <;> cases g <;> simp [recTm, hi, ih]
theorem recGs_congr {α β : Nat → Bool} : ∀ {rs : List Rec}, (∀ x ∈ rs, α x.i = β x.i) → recGs α rs = recGs β rs
  | [], _ => rfl
  | ⟨i, d, g, v, u⟩ :: r, h => by
    have ih := recGs_congr (α := α) (β := β) (rs := r) fun x hx => h x (by simp [hx])
    have hi : α i = β i := h ⟨i, d, g, v, u⟩ (by simp)
    cases d with
    | none => simp [recGs, ih]
    | some d => cases g with
      | none => simp [recGs, ih]
      | some g => obtain ⟨g, b⟩ := g; simp [recGs, hi, ih]
theorem recOb_congr {α β : Nat → Bool} : ∀ {rs : List Rec}, (∀ x ∈ rs, α x.i = β x.i) → recOb α rs = recOb β rs
  | [], _ => rfl
  | x :: r, h => by
    have ih := recOb_congr (α := α) (β := β) (rs := r) fun x hx => h x (by simp [hx])
    simp [recOb, h x (by simp), ih]
end Go.Sx

namespace Go.Sx
open Go.RowKit
section
variable {P : Program} {rd : Option Nat} {m : Nat} {ops : Array Oper} {Q : Exit → Act → World → Prop}
theorem yf_op {i : Nat} {o : Oper} {v : Value} {a : Act} (hi : ops[i]? = some o) (hd : ∀ c, o.op ≠ .defer c) (hy : YieldsFenced P ops o v a) {K : Act → World → Prop} {w : World} (h : K (a.put o.dst v) w) : wpOpIn (Fw rd) m P ops Q i K a w := by
  unfold Go.wpOpIn
  simp only [hi]
  have hab : ∀ f, o.about P w a.eval = some f → (Fw rd).fn f := fun f hf => by rw [hy.2 w] at hf; cases hf
  rcases hy.1 with ⟨hw, hv⟩ | ⟨hw, rfl⟩
  · simp only [hw, if_true, Oper.wpIn, Oper.semAt_eq _ _ _ hd, hv w, Oper.uponIn]; exact ⟨hab, h⟩
  · simp only [hw, Bool.false_eq_true, if_false]; exact ⟨hab, h⟩
theorem yf_past {j : Nat} {oi oj : Oper} {v : Value} (hj : ops[j]? = some oj) (hap : oi.apart ops oj = true)
    (hsi : ∀ cs b, oi.op ≠ .select cs b) (hsj : ∀ cs b, oj.op ≠ .select cs b) (hdj : ∀ c, oj.op ≠ .defer c)
    (hQ : ∀ c a w, ¬ Q (.panic c) a w) {K : Act → World → Prop} {a : Act} {w : World} (hy : YieldsFenced P ops oi v a) (h : wpOpIn (Fw rd) m P ops Q j K (a.put oi.dst v) w) :
    wpOpIn (Fw rd) m P ops Q j (fun a' w' => YieldsFenced P ops oi v a' ∧ K (a'.put oi.dst v) w') a w := by
  obtain ⟨h1, h2, h3⟩ := Oper.apart_spec hap
  have keep : ∀ (a : Act), YieldsFenced P ops oi v a → ∀ u, YieldsFenced P ops oi v (a.put oj.dst u) := fun a hy u =>
    hy.of_same (execOp_put oi hsi a oj.dst u h3) (wanted_put oi a oj.dst u h3) (fun w => about_put oi w a oj.dst u h3)
  have keepD : ∀ d, YieldsFenced P ops oi v { a with defers := d :: a.defers } := fun d => hy.of_same rfl rfl (fun _ => rfl)
  unfold wpOpIn at *
  simp only [hj] at *
  rw [wanted_put oj a oi.dst v h1, about_put oj w a oi.dst v h1] at h
  split
  · rename_i hw
    simp only [hw, if_true] at h
    unfold Oper.wpIn at *
    rw [about_put oj w a oi.dst v h1] at h
    refine ⟨h.1, ?_⟩
    have h := h.2
    rw [Oper.semAt_eq _ _ _ hdj, execOp_put oj hsj a oi.dst v h1] at h
    rw [Oper.semAt_eq _ _ _ hdj]
    generalize (execOp a.eval oj).run P w = r at *
    cases r with
    | ok x w' =>
      cases x <;> simp only [Oper.uponIn] at h ⊢
      case value u => exact ⟨keep a hy u, by rw [← Act.put_comm a v u h2]; exact h⟩
      case skip => exact ⟨keep a hy _, by rw [← Act.put_comm a v undef h2]; exact h⟩
      case defer d =>
        refine ⟨keep _ (keepD d) _, ?_⟩
        rw [← Act.put_comm _ v undef h2, ← Act.put_defers]
        exact h
      case enter f args =>
        refine ⟨h.1, CallsIn.mono h.2 fun e w'' he => ?_⟩
        cases e with
        | returned u => exact ⟨keep a hy u, by rw [← Act.put_comm a v u h2]; exact he⟩
        | panicked c => exact (hQ _ _ _ he).elim
        | outgrown => exact he
      case row row args => exact ⟨h.1, RowsIn.mono h.2 fun u w'' he => ⟨keep a hy u, by rw [← Act.put_comm a v u h2]; exact he⟩⟩
      case round l f tmps assign body =>
        refine ⟨h.1, RoundIn.mono h.2 fun e w'' he => ?_⟩
        cases e with
        | returned u => exact ⟨keep a hy u, by rw [← Act.put_comm a v u h2]; exact he⟩
        | panicked c => exact (hQ _ _ _ he).elim
        | outgrown => exact he
    | halt x w' =>
      cases x <;> simp only [Oper.uponIn] at h ⊢
      case panic u => exact (hQ _ _ _ h).elim
  · rename_i hw
    simp only [hw] at h
    exact ⟨h.1, keep a hy _, by rw [← Act.put_comm a v undef h2]; exact h.2⟩
theorem yf_first {i : Nat} {oi : Oper} {v : Value} (hi : ops[i]? = some oi) (hsel : ∀ (j : Nat) (o : Oper) cs b, ops[j]? = some o → o.op ≠ .select cs b) (hdef : ∀ (j : Nat) (o : Oper) c, ops[j]? = some o → o.op ≠ .defer c)
    (hQ : ∀ c a w, ¬ Q (.panic c) a w) :
    ∀ (fuel : Nat) (listed : Array Bool) (a : Act) (w : World),
      (∀ j oj, ops[j]? = some oj → j ≠ i → listed.getD j true = false → (∀ e ∈ oj.after, Region.binds .any e = true → e.on ≠ i) → oi.apart ops oj = true) →
      i ∈ Region.ready .any ops listed → YieldsFenced P ops oi v a →
      wpAnyIn (Fw rd) m P .any ops Q fuel (listed.setIfInBounds i true) (a.put oi.dst v) w → wpAnyIn (Fw rd) m P .any ops Q (fuel + 1) listed a w := by
  intro fuel
  induction fuel with
  | zero =>
    intro listed a w _ hr hy H
    refine ⟨fun h => (by rw [h] at hr; cases hr), fun j hj => ?_⟩
    by_cases hji : j = i
    · subst hji; exact yf_op hi (fun c => hdef _ _ c hi) hy H
    · have := ready_mono hj hji
      rw [H.1] at this
      cases this
  | succ fuel ih =>
    intro listed a w hfree hr hy H
    refine ⟨fun h => (by rw [h] at hr; cases hr), fun j hj => ?_⟩
    by_cases hji : j = i
    · subst hji; exact yf_op hi (fun c => hdef _ _ c hi) hy H
    · have h1 := H.2 j (ready_mono hj hji)
      obtain ⟨hjun, oj, hoj, hall⟩ := mem_ready.1 hj
      have hnot : ∀ e ∈ oj.after, Region.binds .any e = true → e.on ≠ i := fun e he hb heq => by
        have h1 := hall e he hb
        have h0 := (mem_ready.1 hr).1
        rw [heq] at h1
        rcases Nat.lt_or_ge i listed.size with h' | h'
        · simp [h'] at h0 h1; rw [h0] at h1; cases h1
        · simp [Array.getElem?_eq_none h'] at h1
      have h2 := yf_past hoj (hfree j oj hoj hji hjun hnot) (fun cs b => hsel i oi cs b hi) (fun cs b => hsel j oj cs b hoj) (fun c => hdef j oj c hoj) hQ hy h1
      have hfree' : ∀ k ok, ops[k]? = some ok → k ≠ i → (listed.setIfInBounds j true).getD k true = false →
          (∀ e ∈ ok.after, Region.binds .any e = true → e.on ≠ i) → oi.apart ops ok = true := fun k ok hk hki hun hno => by
        refine hfree k ok hk hki ?_ hno
        by_cases hjk : j = k
        · subst hjk; exact hjun
        · rw [getD_set_ne true hjk] at hun; exact hun
      refine wpOpIn_mono (fun a' w' h3 => ih (listed.setIfInBounds j true) a' w' hfree' (ready_mono hr (Ne.symm hji)) h3.1 ?_) h2
      rw [Array.setIfInBounds_comm _ _ hji]
      exact h3.2
theorem yf_extract {i : Nat} {o : Oper} {x : Operand} {k : Nat} (hi : ops[i]? = some o) (ho : o.op = .extract x k) (hg : o.guard = none) {K : Act → World → Prop} {a : Act} {w : World} (h : wpOpIn (Fw rd) m P ops Q i K a w) :
    ∃ v, YieldsFenced P ops o v a ∧ K (a.put o.dst v) w := by
  have hw : Region.wanted o (yielded ops a.tmps) = true := by simp [Region.wanted, hg]
  unfold wpOpIn at h
  simp only [hi, hw, if_true, Oper.wpIn] at h
  have h := h.2
  rw [Oper.semAt_eq _ _ _ (by simp [ho])] at h
  have hab : ∀ w, o.about P w a.eval = none := fun w => by simp [Oper.about, ho]
  cases hv : a.eval x with
  | tuple vs =>
    cases hk : vs[k]? with
    | some u =>
      have hrun : ∀ w, (execOp a.eval o).run P w = .ok (.value u) w := fun w => by simp [execOp, ho, hv, Instr.extract, hk]
      rw [hrun] at h
      exact ⟨u, ⟨.inl ⟨hw, hrun⟩, hab⟩, h⟩
    | none =>
      exfalso
      revert h
      simp [execOp, ho, hv, Instr.extract, hk, Oper.uponIn]
  | _ =>
    exfalso
    revert h
    simp [execOp, ho, hv, Instr.extract, Oper.uponIn]
end
end Go.Sx

namespace Go.Sx
open Go.RowKit
section
variable {P : Program} {rd : Option Nat} {m : Nat} {Q : Exit → Act → World → Prop}
theorem yf_move {ops : Array Oper} {i : Nat} {o : Oper} {x : Operand} (hi : ops[i]? = some o) (ho : o.op = .move x) (hg : o.guard = none) {K : Act → World → Prop} {a : Act} {w : World} (h : wpOpIn (Fw rd) m P ops Q i K a w) :
    ∃ v, YieldsFenced P ops o v a ∧ K (a.put o.dst v) w := by
  have hw : Region.wanted o (yielded ops a.tmps) = true := by simp [Region.wanted, hg]
  unfold wpOpIn at h
  simp only [hi, hw, if_true, Oper.wpIn] at h
  have h := h.2
  rw [Oper.semAt_eq _ _ _ (by simp [ho])] at h
  have hab : ∀ w, o.about P w a.eval = none := fun w => by simp [Oper.about, ho]
  have hrun : ∀ w, (execOp a.eval o).run P w = .ok (.value (a.eval x)) w := fun w => by simp [execOp, ho]
  rw [hrun] at h
  exact ⟨_, ⟨.inl ⟨hw, hrun⟩, hab⟩, h⟩
theorem push_get {ops : Array Oper} {o : Oper} {j : Nat} (h : j < ops.size) : (ops.push o)[j]? = ops[j]? := by
  rw [Array.getElem?_push, if_neg (by omega)]
theorem wanted_push {ops : Array Oper} {o oj : Oper} {tmps : Array Value} (h : ∀ g b, oj.guard = some (g, b) → g < ops.size) :
    Region.wanted oj (yielded (ops.push o) tmps) = Region.wanted oj (yielded ops tmps) := by
  unfold Region.wanted
  cases hg : oj.guard with
  | none => rfl
  | some x =>
    obtain ⟨g, b⟩ := x
    have := h g b hg
    simp only [yielded, push_get this]
theorem any_push {ops : Array Oper} {o : Oper} (hgd : ∀ (j : Nat) (oj : Oper), ops[j]? = some oj → ∀ g b, oj.guard = some (g, b) → g < ops.size) (hed : ∀ (j : Nat) (oj : Oper), ops[j]? = some oj → ∀ e ∈ oj.after, Region.binds .any e = true → e.on < ops.size) :
    ∀ (fuel : Nat) (listed : Array Bool) (a : Act) (w : World), listed.size = ops.size → wpAnyIn (Fw rd) m P .any ops Q fuel listed a w → wpAnyIn (Fw rd) m P .any (ops.push o) Q fuel (listed.push true) a w := by
  have hready : ∀ (listed : Array Bool), listed.size = ops.size → ∀ j, j ∈ Region.ready .any (ops.push o) (listed.push true) ↔ j ∈ Region.ready .any ops listed := by
    intro listed hsz j
    rw [mem_ready, mem_ready]
    have get : ∀ (k : Nat) (d : Bool), k < ops.size → (listed.push true).getD k d = listed.getD k d := by
      intro k d hk
      simp only [Array.getD_eq_getD_getElem?]
      rw [Array.getElem?_push, if_neg (by omega)]
    constructor
    · rintro ⟨h1, oj, h2, h3⟩
      have hj : j < ops.size := by
        rcases Nat.lt_or_ge j ops.size with h | h
        · exact h
        · exfalso
          simp only [Array.getD_eq_getD_getElem?] at h1
          rw [Array.getElem?_push] at h1
          split at h1
          · simp at h1
          · rw [Array.getElem?_eq_none (by omega)] at h1
            simp at h1
      rw [push_get hj] at h2
      rw [get _ _ hj] at h1
      exact ⟨h1, oj, h2, fun e he hb => by rw [← get _ _ (hed j oj h2 e he hb)]; exact h3 e he hb⟩
    · rintro ⟨h1, oj, h2, h3⟩
      have hj : j < ops.size := (Array.getElem?_eq_some_iff.1 h2).1
      refine ⟨by rw [get _ _ hj]; exact h1, oj, by rw [push_get hj]; exact h2, fun e he hb => by rw [get _ _ (hed j oj h2 e he hb)]; exact h3 e he hb⟩
  have hnil : ∀ (listed : Array Bool), listed.size = ops.size → Region.ready .any (ops.push o) (listed.push true) = [] → Region.ready .any ops listed = [] := by
    intro listed hsz h
    cases hr : Region.ready .any ops listed with
    | nil => rfl
    | cons x xs =>
      have := (hready listed hsz x).2 (by rw [hr]; exact List.mem_cons_self)
      rw [h] at this
      cases this
  have hnil' : ∀ (listed : Array Bool), listed.size = ops.size → Region.ready .any ops listed = [] → Region.ready .any (ops.push o) (listed.push true) = [] := by
    intro listed hsz h
    cases hr : Region.ready .any (ops.push o) (listed.push true) with
    | nil => rfl
    | cons x xs =>
      have := (hready listed hsz x).1 (by rw [hr]; exact List.mem_cons_self)
      rw [h] at this
      cases this
  intro fuel
  induction fuel with
  | zero =>
    intro listed a w hsz h
    exact ⟨hnil' listed hsz h.1, h.2⟩
  | succ fuel ih =>
    intro listed a w hsz h
    refine ⟨fun hr => h.1 (hnil listed hsz hr), fun j hj => ?_⟩
    have hj' := (hready listed hsz j).1 hj
    obtain ⟨_, oj, h2, _⟩ := mem_ready.1 hj'
    have hjs : j < ops.size := (Array.getElem?_eq_some_iff.1 h2).1
    have hstep := h.2 j hj'
    have hset : (listed.push true).setIfInBounds j true = (listed.setIfInBounds j true).push true := by
      apply Array.ext_getElem?
      intro k
      simp only [Array.getElem?_setIfInBounds, Array.getElem?_push, Array.size_push, Array.size_setIfInBounds]
      by_cases e : j = k
      · subst e
        have e1 : ¬ j = listed.size := by omega
        have e2 : j < listed.size := by omega
        have e3 : j < listed.size + 1 := by omega
        simp [e1, e2, e3]
      · simp [e]
    have hmono := wpOpIn_mono (K' := wpAnyIn (Fw rd) m P .any (ops.push o) Q fuel ((listed.push true).setIfInBounds j true)) (fun a' w' h' => by rw [hset]; exact ih _ a' w' (by simpa using hsz) h') hstep
    unfold wpOpIn at hmono ⊢
    rw [push_get hjs]
    simp only [h2] at hmono ⊢
    rw [wanted_push (hgd j oj h2)]
    exact hmono
theorem late_first {ops : Array Oper} {o : Oper} {x : Operand} (ho : o.op = .move x) (hg : o.guard = none) (haf : ∀ e ∈ o.after, Region.binds .any e = false)
    (hgd : ∀ (j : Nat) (oj : Oper), ops[j]? = some oj → ∀ g b, oj.guard = some (g, b) → g < ops.size) (hed : ∀ (j : Nat) (oj : Oper), ops[j]? = some oj → ∀ e ∈ oj.after, Region.binds .any e = true → e.on < ops.size)
    (hap : ∀ (j : Nat) (oj : Oper), ops[j]? = some oj → o.apart (ops.push o) oj = true) (hsel : ∀ (j : Nat) (oj : Oper) cs b, ops[j]? = some oj → oj.op ≠ .select cs b) (hdef : ∀ (j : Nat) (oj : Oper) c, ops[j]? = some oj → oj.op ≠ .defer c)
    (hQ : ∀ c a w, ¬ Q (.panic c) a w) {a : Act} {w : World}
    (h : wpOpIn (Fw rd) m P (ops.push o) Q ops.size (fun a' w' => wpAnyIn (Fw rd) m P .any ops Q ops.size (Array.replicate ops.size false) a' w') a w) :
    wpAnyIn (Fw rd) m P .any (ops.push o) Q (ops.push o).size (Array.replicate (ops.push o).size false) a w := by
  have hi : (ops.push o)[ops.size]? = some o := by rw [Array.getElem?_push, if_pos rfl]
  obtain ⟨v, hy, hK⟩ := yf_move hi ho hg h
  have hat : ∀ j oj, (ops.push o)[j]? = some oj → j ≠ ops.size → ops[j]? = some oj := by
    intro j oj hj hne
    rwa [Array.getElem?_push, if_neg hne] at hj
  have hsel' : ∀ (j : Nat) (oj : Oper) cs b, (ops.push o)[j]? = some oj → oj.op ≠ .select cs b := by
    intro j oj cs b hj
    by_cases e : j = ops.size
    · subst e; rw [hi] at hj; cases hj; rw [ho]; exact fun h => by cases h
    · exact hsel j oj cs b (hat j oj hj e)
  have hdef' : ∀ (j : Nat) (oj : Oper) c, (ops.push o)[j]? = some oj → oj.op ≠ .defer c := by
    intro j oj c hj
    by_cases e : j = ops.size
    · subst e; rw [hi] at hj; cases hj; rw [ho]; exact fun h => by cases h
    · exact hdef j oj c (hat j oj hj e)
  have hrep : Array.replicate (ops.push o).size false = (Array.replicate ops.size false).push false := by
    rw [Array.size_push, Array.replicate_succ]
  have hset : (Array.replicate (ops.push o).size false).setIfInBounds ops.size true = (Array.replicate ops.size false).push true := by
    rw [hrep]
    apply Array.ext_getElem?
    intro k
    simp only [Array.getElem?_setIfInBounds, Array.getElem?_push, Array.size_push, Array.size_replicate]
    by_cases e : ops.size = k
    · subst e; simp
    · have e2 : ¬ k = ops.size := fun h => e h.symm
      simp [e, e2]
  rw [show (ops.push o).size = ops.size + 1 by simp] at *
  refine yf_first hi hsel' hdef' hQ ops.size _ a w ?_ ?_ hy ?_
  · intro j oj hj hne _ _
    exact hap j oj (hat j oj hj hne)
  · refine mem_ready.2 ⟨?_, o, hi, fun e he hb => ?_⟩
    · simp [Array.getD_eq_getD_getElem?]
    · rw [haf e he] at hb; cases hb
  · rw [hset]
    exact any_push hgd hed ops.size _ _ w (by simp) hK
end
end Go.Sx
