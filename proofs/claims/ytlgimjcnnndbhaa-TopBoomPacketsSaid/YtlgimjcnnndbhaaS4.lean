/- A verified symbolic run of functions, part 4: lemmas, no claim of their own. -/
import Derived.Test.YtlgimjcnnndbhaaS3
namespace Go.Sx
open Go.RowKit
section
variable {E : Env} {w0 : Base} {B : Nat} {ρ : Nat → Value} {H : IH} {ob : List (Nat × Option AObj)} {nx : Nat} {w : World} {ev : Operand → Option SV} {a : Act} {o : Oper} {r : Res}
theorem Cells.set {w : World} {g : Nat} {cur new : Array Value} {e : TypeId} (h : Cells w g cur e) (hn : new.size = cur.size) : Cells (w.setRow g new) g new e := by
  obtain ⟨fz, h1, h2⟩ := h
  exact ⟨fz, by rw [hn]; exact h1, setRow_heap w g cur new e fz h2⟩
theorem storeCells_own {P : Program} {w : World} {g o : Nat} {e : TypeId} {cur : Array Value} {vs : List Value} (h : Cells w g cur e) (hl : o + vs.length ≤ cur.size) (h1 : ∀ v ∈ vs, v.oneCell' = true) :
    (storeCells ⟨g, o, none⟩ vs 0).run P w = .ok () (w.setRow g (cur.toList.take o ++ vs ++ cur.toList.drop (o + vs.length)).toArray) := by
  obtain ⟨fz, h2, h3⟩ := h
  have key : ∀ (vs : List Value) (i : Nat) (cur : Array Value) (w : World), (fz = (0, 0) ∨ cur.size ≤ fz.1) → w.heap[g]? = some (.cells cur e fz) → o + i + vs.length ≤ cur.size → (∀ v ∈ vs, v.oneCell' = true) →
      (storeCells ⟨g, o, none⟩ vs i).run P w = .ok () (w.setRow g (cur.toList.take (o + i) ++ vs ++ cur.toList.drop (o + i + vs.length)).toArray) := by
    intro vs
    induction vs with
    | nil =>
      intro i cur w _ hg _ _
      simp only [storeCells, List.append_nil, List.length_nil, Nat.add_zero, List.take_append_drop, Array.toArray_toList]
      rw [setRow_self w g cur e fz hg]
      rfl
    | cons v rest ih =>
      intro i cur w hfz hg hl h1
      have hi : o + i < cur.size := by simp at hl; omega
      have hadd : (⟨g, o, none⟩ : Addr).add i = ⟨g, o + i, none⟩ := by unfold Addr.add; split <;> simp_all
      have hcell : w.cell? ⟨g, o + i, none⟩ = some cur[o + i] := by simp [World.cell?, hg, hi]
      have hfro : w.frozen? ⟨g, o + i, none⟩ = false := by
        obtain ⟨lo, hi'⟩ := fz
        simp only [World.frozen?, hg, Bool.and_eq_false_iff, decide_eq_false_iff_not]
        rcases hfz with h | h
        · cases h; right; omega
        · simp only at h; left; omega
      have hst : (store ((⟨g, o, none⟩ : Addr).add i) v).run P w = .ok () (w.setRow g (cur.setIfInBounds (o + i) v)) := by
        rw [hadd, run_store P w _ v _ (h1 v (by simp)), hcell]
        simp [hfro, setCell_eq_setRow w g (o + i) cur e fz v hg]
      have ih := ih (i + 1) (cur.setIfInBounds (o + i) v) (w.setRow g (cur.setIfInBounds (o + i) v)) (by simpa using hfz) (setRow_heap w g cur _ e _ hg) (by simp at hl ⊢; omega) (fun x hx => h1 x (by simp [hx]))
      simp only [storeCells, Sem.run_bind, hst, Result.andThen_ok, ih, setRow_setRow]
      congr 3
      have e := list_seg_step cur.toList (o + i) v rest (by simp at hl ⊢; omega)
      simpa [Array.toList_setIfInBounds, Nat.add_assoc] using e
  have := key vs 0 cur w h2 h3 (by simpa using hl) h1
  simpa using this
theorem heap_setRow_at {w : World} {g : Nat} {cur new : Array Value} {e : TypeId} {fr : Nat × Nat} (hg : w.heap[g]? = some (.cells cur e fr)) : (w.setRow g new).heap[g]? = some (.cells new e fr) := setRow_heap w g cur new e fr hg
theorem splice_seg (cur : Array Value) (off n : Nat) (us : List Value) (hu : us.length = n) (hle : off + n ≤ cur.size) :
    ∀ p m, p + m ≤ off ∨ off + n ≤ p → seg (cur.toList.take off ++ us ++ cur.toList.drop (off + n)).toArray p m = seg cur p m := by
  intro p m h
  have hl : (cur.toList.take off).length = off := by simp; omega
  unfold seg
  simp only []
  apply List.ext_getElem?
  intro j
  simp only [List.getElem?_take, List.getElem?_drop]
  split
  · rename_i hj
    rcases h with h | h
    · rw [List.append_assoc, List.getElem?_append_left (by omega), List.getElem?_take_of_lt (by omega)]
    · rw [List.getElem?_append_right (by simp; omega)]
      simp only [List.length_append, hl, hu, List.getElem?_drop]
      congr 1; omega
  · rfl
theorem splice_same (cur : Array Value) (off n : Nat) (us : List Value) (hu : us.length = n) (hle : off + n ≤ cur.size) :
    seg (cur.toList.take off ++ us ++ cur.toList.drop (off + n)).toArray off n = us := by
  have hl : (cur.toList.take off).length = off := by simp; omega
  unfold seg
  simp only []
  rw [List.append_assoc, List.drop_append_of_le_length (by omega), List.drop_of_length_le (by omega), List.nil_append, List.take_append_of_le_length (by omega), List.take_of_length_le (by omega)]
theorem splice_size (cur : Array Value) (off n : Nat) (us : List Value) (hu : us.length = n) (hle : off + n ≤ cur.size) :
    (cur.toList.take off ++ us ++ cur.toList.drop (off + n)).toArray.size = cur.size := by
  simp; omega
theorem splice_part (cur : Array Value) (base sz sub n : Nat) (us : List Value) (hu : us.length = n) (hsub : sub + n ≤ sz) (hle : base + sz ≤ cur.size) :
    seg (cur.toList.take (base + sub) ++ us ++ cur.toList.drop (base + sub + n)).toArray base sz = (seg cur base sz).take sub ++ (us ++ (seg cur base sz).drop (sub + n)) := by
  have hl : (cur.toList.take (base + sub)).length = base + sub := by simp; omega
  unfold seg
  simp only []
  apply List.ext_getElem?
  intro j
  simp only [List.getElem?_take, List.getElem?_drop]
  split
  · rename_i hj
    by_cases h1 : j < sub
    · rw [List.append_assoc, List.getElem?_append_left (by omega), List.getElem?_take_of_lt (by omega), List.getElem?_append_left (by simp; omega), List.getElem?_take_of_lt h1, List.getElem?_take_of_lt hj, List.getElem?_drop]
    · by_cases h2 : j < sub + n
      · rw [List.append_assoc, List.getElem?_append_right (by omega), List.getElem?_append_left (by omega), List.getElem?_append_right (by simp; omega), List.getElem?_append_left (by simp; omega)]
        congr 1; simp; omega
      · rw [List.append_assoc, List.getElem?_append_right (by omega), List.getElem?_append_right (by omega), List.getElem?_append_right (by simp; omega), List.getElem?_append_right (by simp; omega)]
        simp only [List.getElem?_drop, List.getElem?_take, hl, hu, List.length_take, List.length_drop, Array.length_toList]
        rw [if_pos (by omega)]
        congr 1; omega
  · rename_i hj
    symm
    rw [List.getElem?_eq_none]
    simp; omega
theorem box_lt {cs new : List Ch} {off n : Nat} {y : List Ch} (h : putCh cs off n new = some y) (h1 : ∀ c ∈ cs, c.lt nx) (h2 : ∀ c ∈ new, c.lt nx) : ∀ c ∈ y, c.lt nx := by
  intro c hc
  rcases putCh_mem h c hc with h | h
  · exact h1 c h
  · exact h2 c h
theorem DenChs.one (hρ : ∀ id, (ρ id).oneCell' = true) : ∀ {cs : List Ch} {vs : List Value}, DenChs ρ H cs vs → ∀ v ∈ vs, v.oneCell' = true
  | [], vs, h => by rw [show vs = [] from h]; simp
  | .one c :: r, vs, h => by
    obtain ⟨v, vs', rfl, h1, h2⟩ := h
    intro u hu
    rcases List.mem_cons.1 hu with rfl | hu
    · exact DenC.one hρ h1
    · exact DenChs.one hρ h2 u hu
  | .arr n t xs :: r, vs, h => by
    intro u hu
    have : u ∈ vs.take (n * t.sz) ++ vs.drop (n * t.sz) := by rw [List.take_append_drop]; exact hu
    rcases List.mem_append.1 this with h' | h'
    · exact Rd.one _ _ _ h.1 u h'
    · exact DenChs.one hρ h.2 u h'
theorem partPut_ok {t : Ty} {x x' : t.T} {sub n : Nat} {new : List Ch} {vs us : List Value} (h : partPut t x sub n new = some x') (hr : Rd H t x vs) (hn : DenChs ρ H new us) :
    Rd H t x' (vs.take sub ++ (us ++ vs.drop (sub + n))) ∧ sub + n ≤ vs.length := by
  unfold partPut at h
  obtain ⟨y, hy, h⟩ := Option.bind_eq_some_iff.1 h
  split at h
  · rename_i z hz
    cases h
    obtain ⟨m1, m2⟩ := putCh_den hy (toChs_den (ρ := ρ) t _ _ hr) hn
    exact ⟨(ofChs_all hz m1).1, m2⟩
  · cases h
theorem elPut_ok {t : Ty} {x x' : t.T} {sub n : Nat} {new : List Ch} {ps : List Prop} {vs us : List Value} (h : elPut t x sub n new = some (ps, x')) (hp : ∀ q ∈ ps, q) (hr : Rd H t x vs) (hn : DenChs ρ H new us) (hlen : us.length = n) :
    Rd H t x' (vs.take sub ++ (us ++ vs.drop (sub + n))) ∧ sub + n ≤ vs.length := by
  unfold elPut at h
  split at h
  · rename_i x1 h1
    cases h
    exact partPut_ok h1 hr hn
  · split at h
    · rename_i m u ys _ _
      split at h
      · rename_i hk
        subst hk
        split at h
        · rename_i z hz
          cases h
          have h1 : sub % u.sz = 0 := hp _ (by simp)
          have h2 : sub / u.sz < List.length ys := hp _ (by simp)
          obtain ⟨r1, r2, r3⟩ := hr
          have hsub : sub = sub / u.sz * u.sz := by
            have := Nat.div_add_mod sub u.sz
            rw [h1, Nat.add_zero, Nat.mul_comm] at this
            exact this.symm
          have hm : (sub / u.sz + 1) * u.sz ≤ m * u.sz := Nat.mul_le_mul_right _ (by omega)
          rw [Nat.succ_mul, ← hsub] at hm
          have hz' := (ofChs_all hz hn).1
          have hle : sub + u.sz ≤ vs.toArray.size := by simp; omega
          have e0 : vs.take sub ++ (us ++ vs.drop (sub + u.sz)) = ((vs.toArray.toList.take sub ++ us ++ vs.toArray.toList.drop (sub + u.sz)).toArray).toList := by simp
          have hsz := splice_size vs.toArray sub u.sz us hlen hle
          refine ⟨?_, by omega⟩
          refine ⟨by simpa using r1, ?_, ?_⟩
          · rw [e0, Array.length_toList, hsz]; simpa using r2
          · intro j hj
            have hj' : j < List.length ys := by simpa using hj
            have hjm : (j + 1) * u.sz ≤ m * u.sz := Nat.mul_le_mul_right _ (by omega)
            rw [Nat.succ_mul] at hjm
            have e1 : ((vs.take sub ++ (us ++ vs.drop (sub + u.sz))).drop (j * u.sz)).take u.sz = seg (vs.toArray.toList.take sub ++ us ++ vs.toArray.toList.drop (sub + u.sz)).toArray (j * u.sz) u.sz := by
              rw [e0]; rfl
            rw [e1]
            by_cases hij : sub / u.sz = j
            · subst hij
              have hg : (List.set ys (sub / u.sz) z)[sub / u.sz]'hj = z := List.getElem_set_self ..
              rw [hg, ← hsub]
              have := splice_part vs.toArray sub u.sz 0 u.sz us hlen (by omega) hle
              rw [Nat.add_zero, Nat.zero_add] at this
              rw [this, List.take_zero, List.nil_append]
              have hd : (seg vs.toArray sub u.sz).drop u.sz = [] := List.drop_of_length_le (by unfold seg; simp; omega)
              rw [hd, List.append_nil]
              exact hz'
            · have hg : (List.set ys (sub / u.sz) z)[j]'hj = ys[j] := List.getElem_set_ne hij _
              rw [hg]
              rw [splice_seg vs.toArray sub u.sz us hlen hle (j * u.sz) u.sz ?_]
              · exact r3 j hj'
              · rcases Nat.lt_or_gt_of_ne hij with h | h
                · have : (sub / u.sz + 1) * u.sz ≤ j * u.sz := Nat.mul_le_mul_right _ (by omega)
                  rw [Nat.succ_mul, ← hsub] at this; omega
                · have : (j + 1) * u.sz ≤ sub / u.sz * u.sz := Nat.mul_le_mul_right _ (by omega)
                  rw [Nat.succ_mul, ← hsub] at this; omega
        · cases h
      · cases h
    · cases h
theorem storeC_ok (I : Inv w0 B ρ H ob nx w) {c : C} {n : Nat} {new : List Ch} {ps : List Prop} {id : Nat} {p : AObj} {v : Value} {us : List Value} (h : storeC (lookO ob) c n new = some (ps, id, p)) (hp : ∀ q ∈ ps, q)
    (hd : DenC ρ H c v) (hn : DenChs ρ H new us) (hlen : us.length = n) (hlt : ∀ c ∈ new, c.lt nx) :
    ∃ g off cur e, v = .pointer (some ⟨g, off, none⟩) ∧ Cells w g cur e ∧ off + n ≤ cur.size ∧
      Inv w0 B ρ H ((id, some p) :: ob) nx (w.setRow g (cur.toList.take off ++ us ++ cur.toList.drop (off + n)).toArray) := by
  unfold storeC at h
  split at h
  · -- ptr
    rename_i id' off
    split at h
    · rename_i bs hb
      obtain ⟨x, hx, h1⟩ := Option.map_eq_some_iff.1 h
      cases h1
      obtain ⟨g, cur, e, k1, k2, k3, k4⟩ := box_den I hb
      obtain ⟨b, hb1, hb2⟩ := hd
      rw [show ρ (id, off).1 = _ from k1] at hb1
      cases hb1
      obtain ⟨m1, m2⟩ := putCh_den hx k3 hn
      refine ⟨g, off, cur, e, hb2, ⟨_, .inl rfl, k2⟩, by simpa using m2, ?_⟩
      refine I.put hb (.inl k1) k2 (box_lt hx k4 hlt) ⟨g, _, e, k1, (I.hb hb (.inl k1)).1, (I.hb hb (.inl k1)).2.1, heap_setRow_at k2, ?_⟩
      simpa using m1
    · cases h
  · -- el
    rename_i id' off sz i sub
    obtain ⟨b, hb1, hb2⟩ := hd
    split at h
    · rename_i t xs hrow
      split at h
      · rename_i hk
        obtain ⟨rfl, rfl⟩ := hk
        obtain ⟨y, hy, h⟩ := Option.bind_eq_some_iff.1 h
        split at h
        · rename_i x' hx'
          cases h
          have hi : i < xs.length := hp _ (by simp)
          obtain ⟨_, _, hrow'⟩ := I.objs _ _ hrow
          rcases hrow' with ⟨k1, k2⟩ | ⟨g, cap, cur, e, k1, k2, k3, k4', k5, k6, k7, k8⟩
          · subst k2; simp at hi
          · have hgb : b = g := by rw [k1] at hb1; rcases hb1 with h | ⟨_, _, h⟩ | h <;> cases h; rfl
            subst hgb
            have hrd := k8 i hi
            rw [getD_get hi] at hy
            have hdn := toChs_den (ρ := ρ) t _ _ hrd
            obtain ⟨m1, m2⟩ := putCh_den hy hdn hn
            have hl := Rd.len _ _ _ hrd
            rw [hl] at m2
            have hcap : (i + 1) * t.sz ≤ cap * t.sz := Nat.mul_le_mul_right _ (by omega)
            rw [Nat.succ_mul] at hcap
            have hle : i * t.sz + t.sz ≤ cur.size := by omega
            obtain ⟨q1, _⟩ := ofChs_all hx' m1
            have hv : v = .pointer (some ⟨b, i * t.sz + sub, none⟩) := by rw [hb2]; simp
            refine ⟨b, i * t.sz + sub, cur, e, hv, k4', by omega, ?_⟩
            obtain ⟨fz, _, k4⟩ := k4'
            refine I.put hrow (.inr (.inl ⟨_, _, k1⟩)) k4 trivial (.inr ⟨b, cap, _, e, by rw [k1]; simp, k2, k3, Cells.set ⟨fz, ‹_›, k4⟩ (splice_size cur _ n us hlen (by omega)), by simpa using k5, k6, ?_, ?_⟩)
            · rw [splice_size cur _ n us hlen (by omega), k7]
            · intro j hj
              have hj' : j < xs.length := by simpa using hj
              by_cases hij : i = j
              · subst hij
                simp only [List.getElem_set_self]
                rw [splice_part cur (i * t.sz) t.sz sub n us hlen m2 hle]
                exact q1
              · simp only [List.getElem_set_ne hij]
                rw [splice_seg cur _ n us hlen (by omega) (j * t.sz) t.sz ?_]
                · exact k8 j hj'
                · rcases Nat.lt_or_gt_of_ne hij with h | h
                  · have : (i + 1) * t.sz ≤ j * t.sz := Nat.mul_le_mul_right _ (by omega)
                    rw [Nat.succ_mul] at this; omega
                  · have : (j + 1) * t.sz ≤ i * t.sz := Nat.mul_le_mul_right _ (by omega)
                    rw [Nat.succ_mul] at this; omega
        · cases h
      · cases h
    · rename_i bs hbox
      obtain ⟨g, cur, e, k1, k2, k3, k4⟩ := box_den I hbox
      have hgb : b = g := by rw [k1] at hb1; rcases hb1 with h | ⟨_, _, h⟩ | h <;> cases h; rfl
      subst hgb
      split at h
      · rename_i m t xs rest hdr
        split at h
        · rename_i hk
          subst hk
          obtain ⟨⟨ps', x'⟩, hy, h⟩ := Option.bind_eq_some_iff.1 h
          obtain ⟨z, hz, h⟩ := Option.map_eq_some_iff.1 h
          cases h
          have hi : i < xs.length := hp _ (by simp)
          obtain ⟨hrd, hle, hxm⟩ := arr_elem k3 hdr hi
          rw [Nat.succ_mul] at hle
          rw [getD_get hi] at hy
          obtain ⟨q1, m2⟩ := elPut_ok hy (fun q hq => hp q (List.mem_cons_of_mem _ hq)) hrd hn hlen
          have hl := Rd.len _ _ _ hrd
          rw [hl] at m2
          refine ⟨b, off + i * t.sz + sub, cur, e, hb2, ⟨_, .inl rfl, k2⟩, by omega, ?_⟩
          refine I.put hbox (.inl k1) k2 (box_lt hz k4 (fun c hc => by simp at hc; subst hc; trivial)) ⟨b, _, e, k1, (I.hb hbox (.inl k1)).1, (I.hb hbox (.inl k1)).2.1, heap_setRow_at k2, ?_⟩
          obtain ⟨A, X, R, hcs, hA, hX, hzz⟩ := putCh_spec hz
          obtain ⟨A', hcs', hA'⟩ := dropCh_spec hdr
          have hsplit := k3
          rw [hcs] at hsplit
          have hlen0 := hsplit.len
          rw [chsSz_append, chsSz_append, hA, hX] at hlen0
          simp only [Array.length_toList] at hlen0
          obtain ⟨s1, s2⟩ := hsplit.split
          obtain ⟨_, s3⟩ := s2.split
          rw [hA] at s1 s3
          rw [hX, List.drop_drop] at s3
          have harr : Rd H (.arr m t) (xs.set i x') (seg (cur.toList.take (off + i * t.sz + sub) ++ us ++ cur.toList.drop (off + i * t.sz + sub + n)).toArray off (m * t.sz)) := by
            have hsz := splice_size cur (off + i * t.sz + sub) n us hlen (by omega)
            refine ⟨by simpa using hxm, seg_len (by rw [hsz]; omega), ?_⟩
            intro j hj
            have hj' : j < xs.length := by simpa using hj
            have hjm : (j + 1) * t.sz ≤ m * t.sz := Nat.mul_le_mul_right _ (by omega)
            rw [Nat.succ_mul] at hjm
            rw [seg_seg (by omega)]
            by_cases hij : i = j
            · subst hij
              simp only [List.getElem_set_self]
              rw [splice_part cur (off + i * t.sz) t.sz sub n us hlen m2 (by omega)]
              exact q1
            · simp only [List.getElem_set_ne hij]
              rw [splice_seg cur _ n us hlen (by omega) (off + j * t.sz) t.sz ?_]
              · exact (arr_elem k3 hdr hj').1
              · rcases Nat.lt_or_gt_of_ne hij with h | h
                · have : (i + 1) * t.sz ≤ j * t.sz := Nat.mul_le_mul_right _ (by omega)
                  rw [Nat.succ_mul] at this; omega
                · have : (j + 1) * t.sz ≤ i * t.sz := Nat.mul_le_mul_right _ (by omega)
                  rw [Nat.succ_mul] at this; omega
          have him : (i + 1) * t.sz ≤ m * t.sz := Nat.mul_le_mul_right _ (by omega)
          rw [Nat.succ_mul] at him
          have hsz := splice_size cur (off + i * t.sz + sub) n us hlen (by omega)
          have e1 : (cur.toList.take (off + i * t.sz + sub) ++ us ++ cur.toList.drop (off + i * t.sz + sub + n)) =
              cur.toList.take off ++ (seg (cur.toList.take (off + i * t.sz + sub) ++ us ++ cur.toList.drop (off + i * t.sz + sub + n)).toArray off (m * t.sz) ++ cur.toList.drop (off + m * t.sz)) := by
            have a1 := splice_seg cur (off + i * t.sz + sub) n us hlen (by omega) 0 off (.inl (by omega))
            have a2 := splice_seg cur (off + i * t.sz + sub) n us hlen (by omega) (off + m * t.sz) (cur.size - (off + m * t.sz)) (.inr (by omega))
            generalize hL : (cur.toList.take (off + i * t.sz + sub) ++ us ++ cur.toList.drop (off + i * t.sz + sub + n)) = L at *
            have hLl : L.length = cur.size := by have := hsz; simpa using this
            unfold seg at a1 a2 ⊢
            simp only [List.drop_zero] at a1 a2 ⊢
            rw [List.take_of_length_le (by simp; omega)] at a2
            rw [List.take_of_length_le (l := cur.toList.drop _) (by simp)] at a2
            rw [← a1, ← a2]
            rw [← List.drop_drop, List.take_append_drop, List.take_append_drop]
          rw [hzz]
          show DenChs ρ H _ (_ : List Value)
          rw [e1]
          refine s1.append (DenChs.append ?_ s3)
          refine ⟨?_, ?_⟩
          · rw [List.take_of_length_le (by rw [Rd.len _ _ _ harr]; exact Nat.le_refl _)]; exact harr
          · show _ = _
            rw [List.drop_of_length_le (by rw [Rd.len _ _ _ harr]; exact Nat.le_refl _)]
        · cases h
      · cases h
    · rename_i bs hbox
      split at h
      · rename_i hk
        obtain ⟨rfl, rfl, rfl, hnew⟩ := hk
        obtain ⟨x, hx, h1⟩ := Option.map_eq_some_iff.1 h
        cases h1
        obtain ⟨g, cap, cur, e, k1, hcap, ⟨fz, hfz, k2⟩, k3, k4⟩ := sbox_den I hbox
        have hgb : b = g := by rw [k1] at hb1; rcases hb1 with h | ⟨_, _, h⟩ | h <;> cases h; rfl
        subst hgb
        obtain ⟨m1, m2⟩ := putCh_den hx k3 hn
        have hl := k3.len
        have hle : chsSz bs ≤ cur.size := by rw [← hl]; unfold seg; simp; omega
        rw [hl] at m2
        have hv : v = .pointer (some ⟨b, i, none⟩) := by rw [hb2]; simp
        have hsame : chsSz x = chsSz bs := by
          obtain ⟨A, X, R, e1, e2, e3, e4⟩ := putCh_spec hx
          rw [e1, e4, chsSz_append, chsSz_append, chsSz_append, chsSz_append, hnew, e3]
        refine ⟨b, i, cur, e, hv, ⟨fz, hfz, k2⟩, by omega, ?_⟩
        refine I.put hbox (.inr (.inl ⟨_, _, k1⟩)) k2 (box_lt hx k4 hlt) ⟨b, cap, _, e, by rw [hsame]; exact k1, by rw [hsame]; exact hcap, (I.hb hbox (.inr (.inl ⟨_, _, k1⟩))).1, (I.hb hbox (.inr (.inl ⟨_, _, k1⟩))).2.1, Cells.set ⟨fz, hfz, k2⟩ (splice_size cur i n us hlen (by omega)), ?_⟩
        rw [hsame]
        have e1 : seg (cur.toList.take i ++ us ++ cur.toList.drop (i + n)).toArray 0 (chsSz bs) = (seg cur 0 (chsSz bs)).take i ++ (us ++ (seg cur 0 (chsSz bs)).drop (i + n)) := by
          unfold seg
          simp only [List.drop_zero]
          rw [List.take_append, List.take_append, List.take_take, List.length_take, List.length_append, List.length_take, hlen, List.take_take, List.drop_take]
          rw [show min (chsSz bs) i = i by omega, show min i (chsSz bs) = i by omega, show min i cur.toList.length = i by simp; omega]
          rw [List.take_of_length_le (l := us) (by omega), show chsSz bs - (i + n) = chsSz bs - (i + n) from rfl, List.append_assoc]
        rw [e1]
        exact m1
      · cases h
    · cases h
  · cases h
theorem chs_lt {v : V} {n : Nat} (h : v.lt n) : ∀ c ∈ Ch.chs v, c.lt n := by
  cases v with
  | one c => intro x hx; simp [Ch.chs] at hx; subst hx; exact h
  | agg cs => exact h
theorem sound_store0 (hE : EnvOk E) (I : Inv w0 B ρ H ob nx w) {T : TypeId} {x y : Operand} {d : TD} {c : C} {v : V} {ps : List Prop} {id : Nat} {p : AObj} (ho : o.op = .store T x y) (hT : E.tt T = some d)
    (k1 : DenC ρ H c (a.eval x)) (n1 : DenV ρ H v (a.eval y)) (n2 : v.lt nx) (hsz : chsSz (Ch.chs v) = d.sz) (hl : storeC (lookO ob) c d.sz (Ch.chs v) = some (ps, id, p)) (hr : r = ⟨ps, none, [(id, some p)]⟩) (hc : ∀ q ∈ r.cs, q) :
    StepOk E.P o a w (Post w0 B ob nx ρ H r) := by
  subst hr
  have hcl := n1.cells I.one
  have hlen : (a.eval y).cells.toList.length = d.sz := by rw [← hsz]; exact hcl.len
  obtain ⟨g, off, cur, e, m1, m2, m3, m4⟩ := storeC_ok I hl hc k1 hcl hlen (chs_lt n2)
  have hone := hcl.one I.one
  have hst := storeCells_own (P := E.P) m2 (by rw [hlen]; omega) hone
  rw [hlen] at hst
  refine .inr (.inl ⟨_, ?_, ρ, H, m4.more (by omega), HLe.refl _, REq.refl _ _, fun _ e => by cases e⟩)
  have hne : ¬ (a.eval y).cells.size ≠ d.sz := by simp only [Array.length_toList] at hlen; simp [hlen]
  simp [execOp, ho, Instr.storeAt, m1, Instr.sureAddr, storeVar, run_sizeOf (hE.tt T d hT), hne, hst]
theorem sound_store (hE : EnvOk E) (I : Inv w0 B ρ H ob nx w) (hv : EvOk ρ H nx ev a) {T : TypeId} {x y : Operand} {d : TD} {c : C} {v : V} {ps : List Prop} {id : Nat} {p : AObj} (ho : o.op = .store T x y) (hT : E.tt T = some d)
    (hx : (ev x).bind one? = some c) (hy : (ev y).bind val? = some v) (hsz : chsSz (Ch.chs v) = d.sz) (hl : storeC (lookO ob) c d.sz (Ch.chs v) = some (ps, id, p)) (hr : r = ⟨ps, none, [(id, some p)]⟩) (hc : ∀ q ∈ r.cs, q) :
    StepOk E.P o a w (Post w0 B ob nx ρ H r) :=
  sound_store0 hE I ho hT (hv.one hx).1 (hv.val hy).1 (hv.val hy).2 hsz hl hr hc
theorem freeze_row (I : Inv w0 B ρ H ob nx w) {k : Nat} {t : Ty} {xs : List t.T} (hk : lookO ob k = some (.row t xs)) : ∃ H1, HLe H H1 ∧ Inv w0 B ρ H1 ((k, none) :: ob) nx w ∧ Rd H1 (.sl t) xs [ρ k] := by
  have I1 := I.del k
  have hsep : ∀ g, HB (ρ k) g → (∀ id p, lookO ((k, none) :: ob) id = some p → ¬ HB (ρ id) g) ∧ ¬ w0.K g := by
    intro g hg
    refine ⟨fun id p hp hb => ?_, fun h => (I.kp g h).2.2.2 k _ hk hg⟩
    rw [lookO_cons] at hp
    split at hp
    · cases hp
    · rename_i hne
      exact I.sep k id _ _ hne hk hp g hg hb
  rcases (I.objs k _ hk).2.2 with ⟨d1, d2⟩ | ⟨g, cap, cur, e, d1, d2, d3, ⟨_, _, d4⟩, d5, d6, d7, d8⟩
  · refine ⟨H, HLe.refl _, I1, ?_⟩
    rw [d1, d2]
    exact ⟨none, 0, rfl, Nat.le_refl _, .inl rfl⟩
  · obtain ⟨hf, hK⟩ := hsep g (.inr (.inl ⟨_, _, d1⟩))
    obtain ⟨I2, hle⟩ := I1.imm d4 d3 hf hK
    refine ⟨_, hle, I2, ?_⟩
    rw [d1]
    refine ⟨_, cap, rfl, d5, .inr ⟨g, 0, cur, _, _, rfl, upd_same _ _ _, fun i hi => ?_⟩⟩
    rw [Nat.zero_add]
    exact Rd.mono hle _ _ _ (d8 i hi)
theorem freeze_rows (I : Inv w0 B ρ H ob nx w) : ∀ js : List Nat, ∃ H1, HLe H H1 ∧ Inv w0 B ρ H1 (js.map (fun j => (j, (none : Option AObj))) ++ ob) nx w ∧ ∀ j ∈ js, ∀ (t : Ty) (xs : List t.T), lookO ob j = some (.row t xs) → Rd H1 (.sl t) xs [ρ j]
  | [] => ⟨H, HLe.refl _, I, fun j hj => by cases hj⟩
  | k :: js => by
    obtain ⟨H1, h1, I1, h2⟩ := freeze_rows I js
    by_cases hk : k ∈ js
    · exact ⟨H1, h1, I1.del k, fun j hj t xs hr => by
        rcases List.mem_cons.1 hj with rfl | hj
        · exact h2 _ hk t xs hr
        · exact h2 _ hj t xs hr⟩
    · have hl : lookO (js.map (fun j => (j, (none : Option AObj))) ++ ob) k = lookO ob k := by
        clear h2 I1 h1
        induction js with
        | nil => rfl
        | cons j js ih =>
          simp only [List.mem_cons, not_or] at hk
          rw [List.map_cons, List.cons_append, lookO_cons, if_neg (fun e => hk.1 e.symm)]
          exact ih hk.2
      cases ho : lookO ob k with
      | none => exact ⟨H1, h1, I1.del k, fun j hj t xs hr => by
          rcases List.mem_cons.1 hj with rfl | hj
          · rw [ho] at hr; cases hr
          · exact h2 _ hj t xs hr⟩
      | some p =>
        cases p with
        | row t xs =>
          obtain ⟨H2, g1, g2, g3⟩ := freeze_row I1 (k := k) (t := t) (xs := xs) (by rw [hl, ho])
          refine ⟨H2, h1.trans g1, g2, fun j hj u ys hr => ?_⟩
          rcases List.mem_cons.1 hj with rfl | hj
          · rw [ho] at hr
            cases hr
            exact g3
          · exact Rd.mono g1 _ _ _ (h2 _ hj u ys hr)
        | _ => exact ⟨H1, h1, I1.del k, fun j hj u ys hr => by
            rcases List.mem_cons.1 hj with rfl | hj
            · rw [ho] at hr; cases hr
            · exact h2 _ hj u ys hr⟩
theorem frzC_den {H1 : IH} {c : C} {v : Value} (hle : HLe H H1) (hlt : c.lt nx) (hr : ∀ j ∈ ownCh (.one c), ∀ (t : Ty) (xs : List t.T), lookO ob j = some (.row t xs) → Rd H1 (.sl t) xs [ρ j]) (h : DenC ρ H c v) : DenC ρ H1 (frzC (lookO ob) c) v ∧ (frzC (lookO ob) c).lt nx := by
  have keep : DenC ρ H1 c v := h.mono (REq.refl _ _) hle hlt
  cases c with
  | own j =>
    simp only [frzC]
    cases ho : lookO ob j with
    | none => exact ⟨keep, hlt⟩
    | some p =>
      cases p with
      | row t xs =>
        have e : v = ρ j := h
        refine ⟨?_, trivial⟩
        rw [e]
        exact hr j (by simp [ownCh]) t xs ho
      | _ => exact ⟨keep, hlt⟩
  | _ => exact ⟨keep, hlt⟩
theorem frzChs_den {H1 : IH} (hle : HLe H H1) : ∀ {cs : List Ch} {vs : List Value}, (∀ c ∈ cs, c.lt nx) → (∀ j ∈ cs.flatMap ownCh, ∀ (t : Ty) (xs : List t.T), lookO ob j = some (.row t xs) → Rd H1 (.sl t) xs [ρ j]) → DenChs ρ H cs vs → DenChs ρ H1 (cs.map (frzCh (lookO ob))) vs ∧ ∀ c ∈ cs.map (frzCh (lookO ob)), c.lt nx
  | [], _, _, _, h => ⟨h, by simp⟩
  | .one c :: r, vs, hlt, hr, h => by
    obtain ⟨v, vs', rfl, h1, h2⟩ := h
    have k1 := frzC_den (nx := nx) hle (hlt _ List.mem_cons_self) (fun j hj => hr j (by simp only [List.flatMap_cons, List.mem_append]; exact .inl hj)) h1
    have k2 := frzChs_den hle (fun c hc => hlt c (List.mem_cons_of_mem _ hc)) (fun j hj => hr j (by simp only [List.flatMap_cons, List.mem_append]; exact .inr hj)) h2
    refine ⟨⟨v, vs', rfl, k1.1, k2.1⟩, fun c' hc' => ?_⟩
    rcases List.mem_cons.1 hc' with rfl | hc'
    · exact k1.2
    · exact k2.2 _ hc'
  | .arr n t xs :: r, vs, hlt, hr, h => by
    have k2 := frzChs_den hle (fun c hc => hlt c (List.mem_cons_of_mem _ hc)) (fun j hj => hr j (by simp only [List.flatMap_cons, List.mem_append]; exact .inr hj)) h.2
    refine ⟨⟨Rd.mono hle _ _ _ h.1, k2.1⟩, fun c' hc' => ?_⟩
    rcases List.mem_cons.1 hc' with rfl | hc'
    · trivial
    · exact k2.2 _ hc'
theorem frzV_den {H1 : IH} {v : V} {u : Value} (hle : HLe H H1) (hlt : v.lt nx) (hr : ∀ j ∈ ownV v, ∀ (t : Ty) (xs : List t.T), lookO ob j = some (.row t xs) → Rd H1 (.sl t) xs [ρ j]) (h : DenV ρ H v u) : DenV ρ H1 (frzV (lookO ob) v) u ∧ (frzV (lookO ob) v).lt nx := by
  cases v with
  | one c => exact frzC_den (nx := nx) hle hlt hr h
  | agg cs =>
    obtain ⟨vs, rfl, h1⟩ := h
    obtain ⟨k1, k2⟩ := frzChs_den (nx := nx) hle hlt hr h1
    exact ⟨⟨vs, rfl, k1⟩, k2⟩
theorem StepOk.mono {P : Program} {K K' : Value → World → Prop} (h : StepOk P o a w K) (hk : ∀ v w', K v w' → K' v w') : StepOk P o a w K' := by
  rcases h with ⟨v, w', h1, h2⟩ | ⟨w', h1, h2⟩ | ⟨f, args, h1, h2⟩
  · exact .inl ⟨v, w', h1, hk _ _ h2⟩
  · exact .inr (.inl ⟨w', h1, hk _ _ h2⟩)
  · exact .inr (.inr ⟨f, args, h1, h2.mono fun e w' ⟨v, hv, hK⟩ => ⟨v, hv, hk _ _ hK⟩⟩)
theorem sound_store_fz (hE : EnvOk E) (I : Inv w0 B ρ H ob nx w) (hv : EvOk ρ H nx ev a) {T : TypeId} {x y : Operand} {d : TD} {c : C} {t : Ty} {xs : List t.T} {ps : List Prop} {id j : Nat} {p : AObj} (ho : o.op = .store T x y) (hT : E.tt T = some d)
    (hx : (ev x).bind one? = some c) (hy : (ev y).bind val? = some (.one (.own j))) (hsz : chsSz (Ch.chs (.one (.own j))) = d.sz) (hj : lookO ob j = some (.row t xs))
    (hl : storeC (delO j (lookO ob)) c d.sz [.one (.sl t xs)] = some (ps, id, p)) (hr : r = ⟨ps, none, [(id, some p), (j, none)]⟩) (hc : ∀ q ∈ r.cs, q) : StepOk E.P o a w (Post w0 B ob nx ρ H r) := by
  subst hr
  obtain ⟨H1, hle, I1, hrd⟩ := freeze_row I hj
  obtain ⟨k1, k2⟩ := hv.one hx
  have e : a.eval y = ρ j := (hv.val hy).1
  have := sound_store0 (o := o) (a := a) (r := ⟨ps, none, [(id, some p)]⟩) (v := .one (.sl t xs)) hE I1 ho hT (k1.mono (REq.refl _ _) hle k2) (by rw [e]; exact hrd) trivial hsz hl rfl hc
  refine this.mono fun v w' hp => ?_
  obtain ⟨ρ', H', h1, h2, h3, h4⟩ := hp
  exact ⟨ρ', H', h1, hle.trans h2, h3, h4⟩
theorem sound_alloc (hE : EnvOk E) (I : Inv w0 B ρ H ob nx w) {T : TypeId} {d : TD} (ho : o.op = .alloc T) (hT : E.tt T = some d)
    (hr : r = ⟨[], some (.val (.one (.ptr nx 0))), [(nx, some (.box d.zero))]⟩) : StepOk E.P o a w (Post w0 B ob nx ρ H r) := by
  subst hr
  obtain ⟨i, z, hi, h1, h2, h3, h4, _⟩ := (hE.tt T d hT).info
  refine .inl ⟨_, _, ?_, post_box (e := T) I (h4 ρ H) (fun c hc => ((hE.tt T d hT).lt c hc).mono (by omega))⟩
  simp [execOp, ho, Instr.alloc, zeroValue, typeInfo, hi, h3, newVar, newRow]
theorem sound_box (I : Inv w0 B ρ H ob nx w) (hv : EvOk ρ H nx ev a) {T : TypeId} {x : Operand} {v : V} (ho : o.op = .box T x) (hx : (ev x).bind val? = some v)
    (hr : r = ⟨[], some (.val (.one (.ptr nx 0))), [(nx, some (.box (Ch.chs v)))]⟩) : StepOk E.P o a w (Post w0 B ob nx ρ H r) := by
  subst hr
  obtain ⟨n1, n2⟩ := hv.val hx
  refine .inl ⟨_, _, ?_, post_box (e := T) I (n1.cells I.one) (chs_lt n2)⟩
  simp [execOp, ho, Instr.box, newVar, newRow]
theorem sound_nilCheck (I : Inv w0 B ρ H ob nx w) (hv : EvOk ρ H nx ev a) {x : Operand} {c : C} (ho : o.op = .nilCheck x) (hx : (ev x).bind one? = some c)
    (hk : (∃ i j, c = .ptr i j) ∨ (∃ i j k l m, c = .el i j k l m) ∨ (∃ t y, c = .ref t y) ∨ ∃ f p q, c = .fn f p q) (hr : rc c = some r) : StepOk E.P o a w (Post w0 B ob nx ρ H r) := by
  obtain ⟨k1, k2⟩ := hv.one hx
  refine ok_rc I hr (v := a.eval x) ?_ k1 k2
  rcases hk with ⟨i, j, rfl⟩ | ⟨i, j, k, l, m, rfl⟩ | ⟨t, y, rfl⟩ | ⟨f, p, q, rfl⟩
  · obtain ⟨b, _, h⟩ := k1; simp [execOp, ho, h]
  · obtain ⟨b, _, h⟩ := k1; simp [execOp, ho, h]
  · obtain ⟨b, _, _, _, _, h, _⟩ := k1; simp [execOp, ho, h]
  · obtain ⟨b, _, h, _⟩ := k1; simp [execOp, ho, h]
theorem field_get {P : Program} {T : TypeId} {d : TD} {fs : List (Nat × Nat × Bool)} (hT : TDok P T d) (hk : d.kind = .strct fs) {i off n : Nat} {ag : Bool} (hi : fs[i]? = some (off, n, ag)) :
    ∃ fields f, P.underlying T = some (.struct fields) ∧ fields[i]? = some f ∧ f.offset = off ∧ P.cellsOf f.type = n ∧ n ≠ 0 ∧ aggOf P f.type = ag ∧ (∃ u, P.underlying f.type = some u) ∧ ∃ fi, P.info? f.type = some fi ∧ fi.size = n := by
  obtain ⟨fields, h1, h2, h3⟩ := hT.strct fs hk
  rw [← h2, List.getElem?_map] at hi
  obtain ⟨f, hf, he⟩ := Option.map_eq_some_iff.1 hi
  cases he
  obtain ⟨g1, g2, g3⟩ := h3 f (List.mem_of_getElem? hf)
  obtain ⟨fi, hfi⟩ := Option.isSome_iff_exists.1 g2
  refine ⟨fields, f, h1, by simpa using hf, rfl, rfl, g1, rfl, Option.isSome_iff_exists.1 g3, fi, hfi, ?_⟩
  simp [Program.cellsOf, hfi]
theorem run_fieldAt {P : Program} {T : TypeId} {d : TD} {fs : List (Nat × Nat × Bool)} (hT : TDok P T d) (hk : d.kind = .strct fs) {i off n : Nat} {ag : Bool} (hi : fs[i]? = some (off, n, ag)) (g p : Nat) :
    (Instr.fieldAt T (.pointer (some ⟨g, p, none⟩)) i).run P w = .ok (.pointer (some ⟨g, p + off, none⟩)) w := by
  obtain ⟨fields, f, h1, h2, h3, h4, h5, _, _, fi, h6, h7⟩ := field_get hT hk hi
  have h8 : fi.size ≠ 0 := by omega
  subst h3
  simp [Instr.fieldAt, run_underlying h1, h2, Instr.sureAddr, fieldPlace, sizeOf, typeInfo, h6, h8, addr_add]
theorem sound_fieldAddr (hE : EnvOk E) (I : Inv w0 B ρ H ob nx w) (hv : EvOk ρ H nx ev a) {T : TypeId} {x : Operand} {i : Nat} {d : TD} {fs : List (Nat × Nat × Bool)} {c c' : C} {off n : Nat} {ag : Bool} (ho : o.op = .fieldAddr T x i) (hT : E.tt T = some d)
    (hk : d.kind = .strct fs) (hx : (ev x).bind one? = some c) (hi : fs[i]? = some (off, n, ag))
    (hc : (∃ id p, c = .ptr id p ∧ c' = .ptr id (p + off)) ∨ (∃ id p z j s, c = .el id p z j s ∧ c' = .el id p z j (s + off)) ∨ ∃ t y u, c = .ref t y ∧ subT t y off n = some u ∧ c' = .ref u.1 u.2)
    (hr : rc c' = some r) : StepOk E.P o a w (Post w0 B ob nx ρ H r) := by
  obtain ⟨k1, k2⟩ := hv.one hx
  have run : ∀ g p, a.eval x = .pointer (some ⟨g, p, none⟩) → (execOp a.eval o).run E.P w = .ok (.value (.pointer (some ⟨g, p + off, none⟩))) w := by
    intro g p h
    simp [execOp, ho, h, run_fieldAt (hE.tt T d hT) hk hi g p]
  rcases hc with ⟨id, p, rfl, rfl⟩ | ⟨id, p, z, j, s, rfl, rfl⟩ | ⟨t, y, u, rfl, hs, rfl⟩
  · obtain ⟨b, h1, h2⟩ := k1
    exact ok_rc I hr (run _ _ h2) ⟨b, h1, rfl⟩ k2
  · obtain ⟨b, h1, h2⟩ := k1
    exact ok_rc I hr (run _ _ h2) ⟨b, h1, by simp [Nat.add_assoc]⟩ k2
  · obtain ⟨b, p, cc, e, fr, h1, h2, h3⟩ := k1
    obtain ⟨q1, q2⟩ := subT_den t y off n hs h3
    have hl := Rd.len _ _ _ q2
    have hl3 := Rd.len _ _ _ h3
    obtain ⟨_, _, _, _, _, _, hn0, _⟩ := field_get (hE.tt T d hT) hk hi
    have hle : off + n ≤ t.sz := by
      simp only [List.length_take, List.length_drop, hl3] at hl
      rw [q1] at hl; omega
    rw [seg_seg hle] at q2
    exact ok_rc I hr (run _ _ h1) ⟨b, p + off, cc, e, fr, rfl, h2, by rw [q1]; exact q2⟩ trivial
end
end Go.Sx

namespace Go.Sx
open Go.RowKit
section
variable {E : Env} {w0 : Base} {B : Nat} {ρ : Nat → Value} {H : IH} {ob : List (Nat × Option AObj)} {nx : Nat} {w : World} {ev : Operand → Option SV} {a : Act} {o : Oper} {r : Res}
def Shows (w : World) (H : IH) (t : Ty) (xs : List t.T) (v : Value) : Prop :=
  ∃ a cap, v = .slice a xs.length cap ∧ xs.length ≤ cap ∧ (xs.length = 0 ∨ ∃ b off c e fr, a = some ⟨b, off, none⟩ ∧ w.heap[b]? = some (.cells c e fr) ∧
    off + xs.length * t.sz ≤ c.size ∧ ∀ i (h : i < xs.length), Rd H t xs[i] (seg c (off + i * t.sz) t.sz))
theorem rd_shows (hag : Agree H w) {t : Ty} {xs : List t.T} {v : Value} (hz : t.sz ≠ 0) (h : Rd H (.sl t) xs [v]) : Shows w H t xs v := by
  obtain ⟨a, cap, h1, h2, h3⟩ := h
  cases h1
  refine ⟨a, cap, rfl, h2, ?_⟩
  rcases h3 with h3 | ⟨b, off, c, e, fr, k1, k2, k3⟩
  · exact .inl h3
  · by_cases hl : xs.length = 0
    · exact .inl hl
    · refine .inr ⟨b, off, c, e, fr, k1, hag _ _ k2, ?_, k3⟩
      have hlast := Rd.len _ _ _ (k3 (xs.length - 1) (by omega))
      unfold seg at hlast
      simp only [List.length_take, List.length_drop, Array.length_toList] at hlast
      have e1 : xs.length * t.sz = (xs.length - 1) * t.sz + t.sz := by
        rw [← Nat.succ_mul]; congr 1; omega
      omega
theorem own_shows {t : Ty} {xs : List t.T} {v : Value} (h : OwnRow w B H v t xs) : Shows w H t xs v := by
  rcases h with ⟨rfl, rfl⟩ | ⟨g, cap, cur, e, k1, k2, k3, ⟨_, _, k4⟩, k5, k6, k7, k8⟩
  · exact ⟨none, 0, rfl, Nat.le_refl _, .inl rfl⟩
  · refine ⟨_, cap, k1, k5, .inr ⟨g, 0, cur, e, _, rfl, k4, ?_, fun i hi => by rw [Nat.zero_add]; exact k8 i hi⟩⟩
    have := Nat.mul_le_mul_right t.sz k5
    omega
theorem Shows.sub {t : Ty} {xs : List t.T} {b off : Nat} {c : Array Value} {e : TypeId} {fr : Nat × Nat} {lo n cap : Nat} (hg : w.heap[b]? = some (.cells c e fr)) (hle : off + xs.length * t.sz ≤ c.size)
    (hr : ∀ i (h : i < xs.length), Rd H t xs[i] (seg c (off + i * t.sz) t.sz)) (hn : lo + n ≤ xs.length) (hcap : n ≤ cap) : Shows w H t ((xs.drop lo).take n) (.slice (some ⟨b, off + lo * t.sz, none⟩) n cap) := by
  have hl : ((xs.drop lo).take n).length = n := by simp; omega
  have hm : (lo + n) * t.sz ≤ xs.length * t.sz := Nat.mul_le_mul_right _ hn
  rw [Nat.add_mul] at hm
  refine ⟨_, cap, by rw [hl], by rw [hl]; exact hcap, .inr ⟨b, off + lo * t.sz, c, e, fr, rfl, hg, by rw [hl]; omega, fun i hi => ?_⟩⟩
  have hi' : i < n := by rw [hl] at hi; exact hi
  have := hr (lo + i) (by omega)
  simp only [List.getElem_take, List.getElem_drop]
  rw [show off + lo * t.sz + i * t.sz = off + (lo + i) * t.sz by rw [Nat.add_mul]; omega]
  exact this
theorem rowOf_ok (I : Inv w0 B ρ H ob nx w) {c : C} {t : Ty} {xs : List t.T} {v : Value} (h : rowOf (lookO ob) c = some ⟨t, xs⟩) (hz : (∃ u ys, c = .sl u ys) → t.sz ≠ 0) (hd : DenC ρ H c v) (hn : ∀ id off sz lo n, c = .view id off sz lo n → n = xs.length) : Shows w H t xs v := by
  unfold rowOf at h
  split at h
  · cases h; exact rd_shows I.agree (hz ⟨_, _, rfl⟩) hd
  · rename_i id
    split at h
    · rename_i t' xs' hrow
      cases h
      rw [show v = ρ id from hd]
      exact own_shows (I.objs _ _ hrow).2.2
    · cases h
  · rename_i id off sz lo n
    have hnx := hn _ _ _ _ _ rfl
    split at h
    · rename_i t' xs' hrow
      split at h
      · rename_i hk
        obtain ⟨rfl, rfl⟩ := hk
        cases h
        rcases hd with ⟨b, cap, h1, rfl, h3⟩ | ⟨h1, a, cap, rfl⟩
        · have hlen : n ≤ xs'.length - lo := by rw [hnx]; simp; omega
          rcases (I.objs _ _ hrow).2.2 with ⟨k1, k2⟩ | ⟨g, cap', cur, e, k1, k2, k3, ⟨_, _, k4⟩, k5, k6, k7, k8⟩
          · rw [k1] at h1; rcases h1 with h | ⟨_, _, h⟩ | h <;> cases h
          · have hgb : b = g := by rw [k1] at h1; rcases h1 with h | ⟨_, _, h⟩ | h <;> cases h; rfl
            subst hgb
            by_cases hn0 : n = 0
            · subst hn0
              exact ⟨some ⟨b, 0 + lo * t.sz, none⟩, cap, by simp, by simp, .inl (by simp)⟩
            · have := Nat.mul_le_mul_right t.sz k5
              exact Shows.sub (xs := xs') k4 (by omega) (fun i hi => by rw [Nat.zero_add]; exact k8 i hi) (by omega) h3
        · subst h1
          exact ⟨a, cap, by simp, by simp, .inl (by simp)⟩
      · cases h
    · rename_i bs hbox
      split at h
      · rename_i m t' xs' rest hdr
        split at h
        · rename_i hk
          subst hk
          cases h
          rcases hd with ⟨b, cap, h1, rfl, h3⟩ | ⟨h1, a, cap, rfl⟩
          · have hlen : n ≤ xs'.length - lo := by rw [hnx]; simp; omega
            obtain ⟨g, cur, e, k1, k2, k3, k4⟩ := box_den I hbox
            have hgb : b = g := by rw [k1] at h1; rcases h1 with h | ⟨_, _, h⟩ | h <;> cases h; rfl
            subst hgb
            by_cases hn0 : n = 0
            · subst hn0
              exact ⟨some ⟨b, off + lo * t.sz, none⟩, cap, by simp, by simp, .inl (by simp)⟩
            · refine Shows.sub (xs := xs') k2 ?_ (fun i hi => (arr_elem k3 hdr hi).1) (by omega) h3
              have := (arr_elem k3 hdr (i := xs'.length - 1) (by omega)).2.1
              rwa [show xs'.length - 1 + 1 = xs'.length by omega] at this
          · subst h1
            exact ⟨a, cap, by simp, by simp, .inl (by simp)⟩
        · cases h
      · cases h
    · cases h
  · cases h
end
end Go.Sx

namespace Go.Sx
open Go.RowKit
theorem sc_int {P : Program} {t : TypeId} {d : TD} {k : IntKind} (h : TDok P t d) (h1 : d.kind = .sc) (h2 : d.ty = some (.int k)) : P.underlying t = some (.int k) := by
  have := h.sc _ h1 h2
  unfold scOk at this
  split at this <;> simp_all
theorem sc_flt {P : Program} {t : TypeId} {d : TD} {k : FloatKind} (h : TDok P t d) (h1 : d.kind = .sc) (h2 : d.ty = some (.flt k)) : P.underlying t = some (.float k) := by
  have := h.sc _ h1 h2
  unfold scOk at this
  split at this <;> simp_all
theorem sc_str {P : Program} {t : TypeId} {d : TD} (h : TDok P t d) (h1 : d.kind = .sc) (h2 : d.ty = some .str) : P.underlying t = some .string := by
  have := h.sc _ h1 h2
  unfold scOk at this
  split at this <;> simp_all
section
variable {E : Env} {w0 : Base} {B : Nat} {ρ : Nat → Value} {H : IH} {ob : List (Nat × Option AObj)} {nx : Nat} {w : World} {ev : Operand → Option SV} {a : Act} {o : Oper} {r : Res}
theorem lenOf_ok (I : Inv w0 B ρ H ob nx w) {c : C} {n : Nat} {v : Value} (h : lenOf (lookO ob) c = some n) (hd : DenC ρ H c v) : ∃ a cap, v = .slice a n cap ∧ n ≤ cap := by
  cases c <;> simp only [lenOf, rowOf, Option.map_none, Option.map_some, reduceCtorEq, Option.some.injEq] at h
  case nils => subst h; exact ⟨none, 0, hd, Nat.le_refl _⟩
  case view id off sz lo m =>
    subst h
    rcases hd with ⟨b, cap, _, h2, h3⟩ | ⟨h1, a, cap, h2⟩
    · exact ⟨_, cap, h2, h3⟩
    · exact ⟨a, cap, by rw [h1]; exact h2, by omega⟩
  case sl t xs =>
    subst h
    obtain ⟨a, cap, h1, h2, _⟩ := hd
    cases h1
    exact ⟨a, cap, rfl, h2⟩
  case own id =>
    split at h
    · rename_i t xs hrow
      simp only [Option.map_some, Option.some.injEq] at h
      subst h
      rw [show v = ρ id from hd]
      obtain ⟨a, cap, h1, h2, _⟩ := own_shows (I.objs _ _ hrow).2.2
      exact ⟨a, cap, h1, h2⟩
    · simp at h
theorem lenOf_nil (I : Inv w0 B ρ H ob nx w) {c : C} {n : Nat} {v : Value} (h : lenOf (lookO ob) c = some n) (hd : DenC ρ H c v) : ∃ a cap, v = .slice a n cap ∧ (a = none → n = 0) := by
  cases c <;> simp only [lenOf, rowOf, Option.map_none, Option.map_some, reduceCtorEq, Option.some.injEq] at h
  case nils => subst h; exact ⟨none, 0, hd, fun _ => rfl⟩
  case view id off sz lo m =>
    subst h
    rcases hd with ⟨b, cap, _, h2, h3⟩ | ⟨h1, a, cap, h2⟩
    · exact ⟨_, cap, h2, fun h => by cases h⟩
    · exact ⟨a, cap, by rw [h1]; exact h2, fun _ => h1⟩
  case sl t xs =>
    subst h
    obtain ⟨a, cap, h1, h2, h3⟩ := hd
    cases h1
    refine ⟨a, cap, rfl, fun ha => ?_⟩
    rcases h3 with h3 | ⟨_, _, _, _, _, h3, _⟩
    · exact h3
    · rw [ha] at h3; cases h3
  case own id =>
    split at h
    · rename_i t xs hrow
      simp only [Option.map_some, Option.some.injEq] at h
      subst h
      rw [show v = ρ id from hd]
      obtain ⟨a, cap, h1, h2, h3⟩ := own_shows (I.objs _ _ hrow).2.2
      refine ⟨a, cap, h1, fun ha => ?_⟩
      rcases h3 with h3 | ⟨_, _, _, _, _, h3, _⟩
      · exact h3
      · rw [ha] at h3; cases h3
    · simp at h
theorem sound_len_slice {T e : TypeId} {d : TD} {x : Operand} {c : C} {n : Nat} (hE : EnvOk E) (I : Inv w0 B ρ H ob nx w) (hv : EvOk ρ H nx ev a) (ho : o.op = .call ⟨.builtin .len, #[x], #[T]⟩) (hT : E.tt T = some d) (hk : d.kind = .slc e)
    (hx : (ev x).bind one? = some c) (hl : lenOf (lookO ob) c = some n) (hr : rc (.int .i64 n) = some r) : StepOk E.P o a w (Post w0 B ob nx ρ H r) := by
  obtain ⟨k1, k2⟩ := hv.one hx
  obtain ⟨b, cap, h1, _⟩ := lenOf_ok I hl k1
  refine ok_rc I hr (v := .int .i64 n) ?_ rfl trivial
  simp [execOp, ho, resolve, invoke, builtin, Builtin.len_, run_underlying ((hE.tt T d hT).slc e hk), h1, goInt]
theorem sound_len_str {T : TypeId} {d : TD} {x : Operand} {l : List UInt8} (hE : EnvOk E) (I : Inv w0 B ρ H ob nx w) (hv : EvOk ρ H nx ev a) (ho : o.op = .call ⟨.builtin .len, #[x], #[T]⟩) (hT : E.tt T = some d) (hk : d.kind = .sc) (ht : d.ty = some .str)
    (hx : (ev x).bind one? = some (.str l)) (hr : rc (.int .i64 l.length) = some r) : StepOk E.P o a w (Post w0 B ob nx ρ H r) := by
  obtain ⟨k1, k2⟩ := hv.one hx
  have k1' : a.eval x = .string ⟨⟨l⟩⟩ := k1
  refine ok_rc I hr (v := .int .i64 l.length) ?_ rfl trivial
  have hs : (⟨⟨l⟩⟩ : ByteArray).size = l.length := rfl
  simp [execOp, ho, resolve, invoke, builtin, Builtin.len_, run_underlying (sc_str (hE.tt T d hT) hk ht), k1', goInt, hs]
theorem run_indexAt_slice {P : Program} {T e : TypeId} {k : IntKind} {i : Int} {g off n cap sz : Nat} (hu : P.underlying T = some (.slice e)) (hs : ∀ w, (sizeOf e).run P w = .ok sz w) (h0 : 0 ≤ i) (h1 : i < n) :
    (Instr.indexAt T (.slice (some ⟨g, off, none⟩) n cap) (.int k i)).run P w = .ok (.pointer (some ⟨g, off + i.toNat * sz, none⟩)) w := by
  simp [Instr.indexAt, asIntOf, run_underlying hu, h0, h1, hs, addr_add]
theorem run_indexAt_arr {P : Program} {T e : TypeId} {k : IntKind} {i : Int} {g off n sz : Nat} (hu : P.underlying T = some (.array n e)) (hs : ∀ w, (sizeOf e).run P w = .ok sz w) (h0 : 0 ≤ i) (h1 : i < n) :
    (Instr.indexAt T (.pointer (some ⟨g, off, none⟩)) (.int k i)).run P w = .ok (.pointer (some ⟨g, off + i.toNat * sz, none⟩)) w := by
  simp [Instr.indexAt, asIntOf, run_underlying hu, Instr.sureAddr, h0, h1, hs, addr_add]
theorem run_idx {P : Program} {T : TypeId} {x y : Operand} {res : Value} (ho : o.op = .indexAddr T x y) (h : (Instr.indexAt T (a.eval x) (a.eval y)).run P w = .ok res w) : (execOp a.eval o).run P w = .ok (.value res) w := by
  simp [execOp, ho, h]
theorem sound_indexAddr_arr (hE : EnvOk E) (I : Inv w0 B ρ H ob nx w) (hv : EvOk ρ H nx ev a) {T e : TypeId} {x y : Operand} {d de : TD} {c c' : C} {n : Nat} {k : IntKind} {i : Int} (ho : o.op = .indexAddr T x y) (hT : E.tt T = some d) (hk : d.kind = .arr n e)
    (he : E.tt e = some de) (hx : (ev x).bind one? = some c) (hy : (ev y).bind one? = some (.int k i))
    (hcase : (∃ id off, c = .ptr id off ∧ c' = .el id off de.sz i.toNat 0) ∨ ∃ t xs, c = .ref (.arr n t) xs ∧ de.sz = t.sz ∧ c' = .ref t (List.getD xs i.toNat t.d))
    (hr : rcc (0 ≤ i ∧ i < n) c' = some r) (hc : ∀ q ∈ r.cs, q) : StepOk E.P o a w (Post w0 B ob nx ρ H r) := by
  obtain ⟨k1, k2⟩ := hv.one hx
  obtain ⟨m1, _⟩ := hv.one hy
  have m1' : a.eval y = .int k i := m1
  obtain ⟨h0, h1⟩ := rcc_holds hr hc
  have hu := (hE.tt T d hT).arr n e hk
  have hs : ∀ w, (sizeOf e).run E.P w = .ok de.sz w := fun w => run_sizeOf (hE.tt e de he)
  rcases hcase with ⟨id, off, rfl, rfl⟩ | ⟨t, xs, rfl, hz, rfl⟩
  · obtain ⟨b, q1, q2⟩ := k1
    refine ok_rcc I hr (run_idx ho (by rw [q2, m1']; exact run_indexAt_arr hu hs h0 h1)) ⟨b, .inl q1, by simp⟩ k2
  · obtain ⟨b, off, cc, ee, fr, q1, q2, q3⟩ := k1
    refine ok_rcc I hr (run_idx ho (by rw [q1, m1']; exact run_indexAt_arr hu hs h0 h1)) ?_ trivial
    obtain ⟨z1, z2, z3⟩ := q3
    have hi : i.toNat < List.length xs := by rw [z1]; omega
    have hrd := z3 i.toNat hi
    have hm : (i.toNat + 1) * t.sz ≤ n * t.sz := Nat.mul_le_mul_right _ (by omega)
    rw [Nat.succ_mul] at hm
    simp only [Ty.sz] at hrd
    rw [seg_seg (by omega)] at hrd
    refine ⟨b, off + i.toNat * de.sz, cc, ee, fr, rfl, q2, ?_⟩
    rw [getD_get hi, hz]
    exact hrd
theorem sound_indexAddr_slc (hE : EnvOk E) (I : Inv w0 B ρ H ob nx w) (hv : EvOk ρ H nx ev a) {T e : TypeId} {x y : Operand} {d de : TD} {c c' : C} {n : Nat} {k : IntKind} {i : Int} (ho : o.op = .indexAddr T x y) (hT : E.tt T = some d) (hk : d.kind = .slc e)
    (he : E.tt e = some de) (hx : (ev x).bind one? = some c) (hy : (ev y).bind one? = some (.int k i))
    (hcase : (∃ t xs, c = .sl t xs ∧ de.sz = t.sz ∧ n = xs.length ∧ c' = .ref t (xs.getD i.toNat t.d)) ∨ (∃ id t xs, c = .own id ∧ lookO ob id = some (.row t xs) ∧ de.sz = t.sz ∧ n = xs.length ∧ c' = .el id 0 t.sz i.toNat 0) ∨
      ∃ id off sz lo, c = .view id off sz lo n ∧ de.sz = sz ∧ c' = .el id off sz (lo + i.toNat) 0)
    (hr : rcc (0 ≤ i ∧ i < n) c' = some r) (hc : ∀ q ∈ r.cs, q) : StepOk E.P o a w (Post w0 B ob nx ρ H r) := by
  obtain ⟨k1, k2⟩ := hv.one hx
  obtain ⟨m1, _⟩ := hv.one hy
  have m1' : a.eval y = .int k i := m1
  obtain ⟨h0, h1⟩ := rcc_holds hr hc
  have hu := (hE.tt T d hT).slc e hk
  have hs : ∀ w, (sizeOf e).run E.P w = .ok de.sz w := fun w => run_sizeOf (hE.tt e de he)
  have hpos := (hE.tt e de he).pos
  rcases hcase with ⟨t, xs, rfl, hz, rfl, rfl⟩ | ⟨id, t, xs, rfl, hrow, hz, rfl, rfl⟩ | ⟨id, off, sz, lo, rfl, hz, rfl⟩
  · have hi : i.toNat < xs.length := by omega
    obtain ⟨aa, cap, q1, q2, q3⟩ := k1
    simp only [List.cons.injEq, and_true] at q1
    rcases q3 with q3 | ⟨b, off, cc, ee, fr, rfl, g2, g3⟩
    · omega
    · refine ok_rcc I hr (run_idx ho (by rw [q1, m1']; exact run_indexAt_slice hu hs h0 h1)) ?_ trivial
      refine ⟨b, off + i.toNat * de.sz, cc, ee, fr, rfl, g2, ?_⟩
      rw [getD_get hi, hz]
      exact g3 i.toNat hi
  · have hi : i.toNat < xs.length := by omega
    rcases (I.objs _ _ hrow).2.2 with ⟨g1, g2⟩ | ⟨g, cap, cur, ee, g1, g2, g3, g4, g5, g6, g7, g8⟩
    · subst g2; simp at hi
    · have hval : a.eval x = .slice (some ⟨g, 0, none⟩) xs.length cap := by rw [show a.eval x = ρ id from k1]; exact g1
      refine ok_rcc I hr (run_idx ho (by rw [hval, m1']; exact run_indexAt_slice hu hs h0 h1)) ⟨g, .inr (.inl ⟨_, _, g1⟩), by rw [hz]; simp⟩ k2
  · rcases k1 with ⟨b, cap, q1, q2, q3⟩ | ⟨q1, _⟩
    · refine ok_rcc I hr (run_idx ho (by rw [q2, m1']; exact run_indexAt_slice hu hs h0 h1)) ⟨b, q1, ?_⟩ k2
      rw [hz, Nat.add_mul]; simp; omega
    · omega
theorem sound_indexAddr_el (hE : EnvOk E) (I : Inv w0 B ρ H ob nx w) (hv : EvOk ρ H nx ev a) {T e : TypeId} {x y : Operand} {d de : TD} {n : Nat} {id off sz j sub : Nat} {k : IntKind} {i : Int} (ho : o.op = .indexAddr T x y) (hT : E.tt T = some d) (hk : d.kind = .arr n e)
    (he : E.tt e = some de) (hx : (ev x).bind one? = some (.el id off sz j sub)) (hy : (ev y).bind one? = some (.int k i))
    (hr : rcc (0 ≤ i ∧ i < n) (.el id off sz j (sub + i.toNat * de.sz)) = some r) (hc : ∀ q ∈ r.cs, q) : StepOk E.P o a w (Post w0 B ob nx ρ H r) := by
  obtain ⟨k1, k2⟩ := hv.one hx
  obtain ⟨m1, _⟩ := hv.one hy
  have m1' : a.eval y = .int k i := m1
  obtain ⟨h0, h1⟩ := rcc_holds hr hc
  have hu := (hE.tt T d hT).arr n e hk
  have hs : ∀ w, (sizeOf e).run E.P w = .ok de.sz w := fun w => run_sizeOf (hE.tt e de he)
  obtain ⟨b, q1, q2⟩ := k1
  exact ok_rcc I hr (run_idx ho (by rw [q2, m1']; exact run_indexAt_arr hu hs h0 h1)) ⟨b, q1, by rw [Nat.add_assoc]⟩ k2
theorem sound_indexAddr_sbox (hE : EnvOk E) (I : Inv w0 B ρ H ob nx w) (hv : EvOk ρ H nx ev a) {T e : TypeId} {x y : Operand} {d de : TD} {id : Nat} {cs : List Ch} {k : IntKind} {i : Int} (ho : o.op = .indexAddr T x y) (hT : E.tt T = some d) (hk : d.kind = .slc e)
    (he : E.tt e = some de) (hx : (ev x).bind one? = some (.own id)) (hy : (ev y).bind one? = some (.int k i)) (hbox : lookO ob id = some (.sbox cs)) (hz : de.sz = 1)
    (hr : rcc (0 ≤ i ∧ i < chsSz cs) (.el id 0 1 i.toNat 0) = some r) (hc : ∀ q ∈ r.cs, q) : StepOk E.P o a w (Post w0 B ob nx ρ H r) := by
  obtain ⟨k1, k2⟩ := hv.one hx
  obtain ⟨m1, _⟩ := hv.one hy
  have m1' : a.eval y = .int k i := m1
  obtain ⟨h0, h1⟩ := rcc_holds hr hc
  have hu := (hE.tt T d hT).slc e hk
  have hs : ∀ w, (sizeOf e).run E.P w = .ok de.sz w := fun w => run_sizeOf (hE.tt e de he)
  obtain ⟨g, cap, cur, ee, g1, _⟩ := sbox_den I hbox
  have hval : a.eval x = .slice (some ⟨g, 0, none⟩) (chsSz cs) cap := by rw [show a.eval x = ρ id from k1]; exact g1
  exact ok_rcc I hr (run_idx ho (by rw [hval, m1']; exact run_indexAt_slice hu hs h0 h1)) ⟨g, .inr (.inl ⟨_, _, g1⟩), by rw [hz]; simp⟩ k2
theorem run_bounds {P : Program} {isSlice : Bool} {len cap : Nat} {lo hi : Option Value} {l h : Int} (hlo : (lo = none ∧ l = 0) ∨ ∃ k, lo = some (.int k l)) (hhi : (hi = none ∧ h = len) ∨ ∃ k, hi = some (.int k h)) (h0 : 0 ≤ l) (h1 : l ≤ h) (h2 : h ≤ cap) :
    (Instr.sliceBounds isSlice len cap lo hi none).run P w = .ok (l.toNat, h.toNat, cap) w := by
  have eh : (h.toNat : Int) = h := Int.toNat_of_nonneg (by omega)
  rcases hlo with ⟨rfl, rfl⟩ | ⟨k, rfl⟩ <;> rcases hhi with ⟨rfl, rfl⟩ | ⟨k', rfl⟩
  · simp [Instr.sliceBounds]
  · simp [Instr.sliceBounds, run_sliceBound, (by omega : 0 ≤ h), h2]
  · simp [Instr.sliceBounds, run_sliceBound, h0, h1]
  · simp [Instr.sliceBounds, run_sliceBound, (by omega : 0 ≤ h), h2, h0, eh, h1]
theorem bound_ok (hv : EvOk ρ H nx ev a) {x : Option Operand} {d l : Int} (h : bound ev d x = some l) : ((x.map a.eval) = none ∧ l = d) ∨ ∃ k, (x.map a.eval) = some (.int k l) := by
  cases x with
  | none => cases h; exact .inl ⟨rfl, rfl⟩
  | some x =>
    simp only [bound] at h
    split at h
    · rename_i k n hx
      cases h
      exact .inr ⟨k, by rw [Option.map_some, show a.eval x = _ from (hv.one hx).1]⟩
    · cases h
theorem sound_slice_arr (hE : EnvOk E) (I : Inv w0 B ρ H ob nx w) (hv : EvOk ρ H nx ev a) {T e : TypeId} {x : Operand} {lo hi : Option Operand} {d de : TD} {c c' : C} {n : Nat} {l h : Int} {cs : List Prop} (ho : o.op = .slice T x lo hi none) (hT : E.tt T = some d) (hk : d.kind = .arr n e)
    (he : E.tt e = some de) (hx : (ev x).bind one? = some c) (hl : bound ev 0 lo = some l) (hh : bound ev n hi = some h)
    (hcase : (∃ id off, c = .ptr id off ∧ c' = .view id off de.sz l.toNat (h.toNat - l.toNat)) ∨ ∃ t xs, c = .ref (.arr n t) xs ∧ de.sz = t.sz ∧ c' = .sl t ((List.drop l.toNat xs).take (h.toNat - l.toNat)))
    (hr : r = ⟨cs, some (.val (.one c')), []⟩) (hp : 0 ≤ l ∧ l ≤ h ∧ h ≤ n) : StepOk E.P o a w (Post w0 B ob nx ρ H r) := by
  obtain ⟨k1, k2⟩ := hv.one hx
  obtain ⟨h0, h1, h2⟩ := hp
  have hu := (hE.tt T d hT).arr n e hk
  have hs : ∀ w, (sizeOf e).run E.P w = .ok de.sz w := fun w => run_sizeOf (hE.tt e de he)
  have hb := fun w => run_bounds (P := E.P) (w := w) (isSlice := false) (len := n) (cap := n) (bound_ok hv hl) (bound_ok hv hh) h0 h1 h2
  have run : ∀ g off, a.eval x = .pointer (some ⟨g, off, none⟩) → (execOp a.eval o).run E.P w = .ok (.value (.slice (some (if n = l.toNat then ⟨g, off, none⟩ else ⟨g, off + l.toNat * de.sz, none⟩)) (h.toNat - l.toNat) (n - l.toNat))) w := by
    intro g off hg
    have := hb w
    simp [execOp, ho, Instr.sliceAt, run_underlying hu, Instr.sureAddr, hg, this, hs, addr_add]
  rcases hcase with ⟨id, off, rfl, rfl⟩ | ⟨t, xs, rfl, hz, rfl⟩
  · obtain ⟨b, q1, q2⟩ := k1
    refine ok_same I (run _ _ q2) (sv := .val (.one (.view id off de.sz l.toNat (h.toNat - l.toNat)))) ?_ k2 hr
    by_cases hn : n = l.toNat
    · exact .inr ⟨by omega, some ⟨b, off, none⟩, n - l.toNat, by simp [hn]; omega⟩
    · exact .inl ⟨b, n - l.toNat, .inl q1, by simp [hn], by omega⟩
  · obtain ⟨b, off, cc, ee, fr, q1, q2, q3⟩ := k1
    refine ok_same I (run _ _ q1) (sv := .val (.one (.sl t ((List.drop l.toNat xs).take (h.toNat - l.toNat))))) ?_ trivial hr
    obtain ⟨z1, z2, z3⟩ := q3
    have hln : ((List.drop l.toNat xs).take (h.toNat - l.toNat)).length = h.toNat - l.toNat := by simp; omega
    by_cases hn : n = l.toNat
    · have e0 : h.toNat - l.toNat = 0 := by omega
      rw [e0]
      exact ⟨some ⟨b, off, none⟩, n - l.toNat, by simp [hn], by simp, .inl (by simp)⟩
    · refine ⟨some ⟨b, off + l.toNat * de.sz, none⟩, n - l.toNat, by rw [hln]; simp [hn], by rw [hln]; omega, .inr ⟨b, off + l.toNat * de.sz, cc, ee, fr, rfl, q2, fun i hi => ?_⟩⟩
      rw [hln] at hi
      have hrd := z3 (l.toNat + i) (by omega)
      have hm : (l.toNat + i + 1) * t.sz ≤ n * t.sz := Nat.mul_le_mul_right _ (by omega)
      rw [Nat.succ_mul] at hm
      simp only [Ty.sz] at hrd
      rw [seg_seg (by omega)] at hrd
      simp only [List.getElem_take, List.getElem_drop]
      rw [hz, Nat.add_assoc, ← Nat.add_mul]
      exact hrd
theorem sound_slice_slc (hE : EnvOk E) (I : Inv w0 B ρ H ob nx w) (hv : EvOk ρ H nx ev a) {T e : TypeId} {x : Operand} {lo hi : Option Operand} {d de : TD} {c c' : C} {n : Nat} {l h : Int} (ho : o.op = .slice T x lo hi none) (hT : E.tt T = some d) (hk : d.kind = .slc e)
    (he : E.tt e = some de) (hx : (ev x).bind one? = some c) (hn : lenOf (lookO ob) c = some n) (hl : bound ev 0 lo = some l) (hh : bound ev n hi = some h) (hsl : sliceC (lookO ob) de.sz c l h = some c')
    (hr : rcc (0 ≤ l ∧ l ≤ h ∧ h ≤ n) c' = some r) (hc : ∀ q ∈ r.cs, q) : StepOk E.P o a w (Post w0 B ob nx ρ H r) := by
  obtain ⟨k1, k2⟩ := hv.one hx
  obtain ⟨h0, h1, h2⟩ := rcc_holds hr hc
  have hu := (hE.tt T d hT).slc e hk
  have hs : ∀ w, (sizeOf e).run E.P w = .ok de.sz w := fun w => run_sizeOf (hE.tt e de he)
  obtain ⟨aa, cap, hval, hcap⟩ := lenOf_ok I hn k1
  have hb := run_bounds (P := E.P) (w := w) (isSlice := true) (len := n) (cap := cap) (bound_ok hv hl) (bound_ok hv hh) h0 h1 (by omega)
  have run : (execOp a.eval o).run E.P w = .ok (.value (.slice (if cap = l.toNat then aa else aa.map (·.add (l.toNat * de.sz))) (h.toNat - l.toNat) (cap - l.toNat))) w := by
    simp [execOp, ho, Instr.sliceAt, Instr.slice, run_underlying hu, hval, hb, hs]
  refine ok_rcc I hr run ?_ ?_
  · unfold sliceC at hsl
    split at hsl
    · rename_i t xs
      split at hsl
      · rename_i hz
        cases hsl
        simp only [lenOf, rowOf, Option.map_some, Option.some.injEq] at hn
        subst hn
        obtain ⟨a2, cap2, q1, q2, q3⟩ := k1
        rw [hval] at q1
        simp only [List.cons.injEq, Value.slice.injEq, and_true] at q1
        obtain ⟨rfl, _, rfl⟩ := q1
        have hln : ((List.drop l.toNat xs).take (h.toNat - l.toNat)).length = h.toNat - l.toNat := by simp; omega
        refine ⟨_, cap - l.toNat, by rw [hln], by rw [hln]; omega, ?_⟩
        by_cases e0 : h.toNat - l.toNat = 0
        · exact .inl (by rw [hln]; exact e0)
        · rcases q3 with q3 | ⟨b, off, cc, ee, fr, rfl, g2, g3⟩
          · omega
          · refine .inr ⟨b, off + l.toNat * de.sz, cc, ee, fr, ?_, g2, fun i hi => ?_⟩
            · rw [if_neg (by omega)]; simp [addr_add]
            · rw [hln] at hi
              have hrd := g3 (l.toNat + i) (by omega)
              simp only [List.getElem_take, List.getElem_drop]
              rw [← hz, Nat.add_assoc, ← Nat.add_mul]
              exact hrd
      · cases hsl
    · cases hsl
      simp only [lenOf, Option.some.injEq] at hn
      subst hn
      have hv0 : a.eval x = .slice none 0 0 := k1
      rw [hval] at hv0
      cases hv0
      show _ = _
      have e1 : l.toNat = 0 := by omega
      have e2 : h.toNat = 0 := by omega
      simp [e1, e2]
    · rename_i id
      split at hsl
      · rename_i t xs hrow
        split at hsl
        · rename_i hz
          cases hsl
          simp only [lenOf, rowOf, hrow, Option.map_some, Option.some.injEq] at hn
          subst hn
          have hv0 : a.eval x = ρ id := k1
          by_cases hcl : cap = l.toNat
          · exact .inr ⟨by omega, _, _, by rw [show h.toNat - l.toNat = 0 by omega]⟩
          · rcases (I.objs _ _ hrow).2.2 with ⟨g1, g2⟩ | ⟨g, cap', cur, ee, g1, g2, g3, g4, g5, g6, g7, g8⟩
            · rw [hval, g1] at hv0
              simp only [Value.slice.injEq] at hv0
              omega
            · rw [hval, g1] at hv0
              cases hv0
              refine .inl ⟨g, cap - l.toNat, .inr (.inl ⟨_, _, g1⟩), ?_, by omega⟩
              rw [if_neg hcl]; simp [addr_add]
        · cases hsl
      · cases hsl
    · rename_i id off z lo' n'
      split at hsl
      · rename_i hz
        subst hz
        cases hsl
        simp only [lenOf, Option.some.injEq] at hn
        subst hn
        by_cases hcl : cap = l.toNat
        · exact .inr ⟨by omega, _, _, by rw [show h.toNat - l.toNat = 0 by omega]⟩
        · rcases k1 with ⟨b, cap', q1, q2, q3⟩ | ⟨q1, a3, cap3, q2⟩
          · rw [hval] at q2
            cases q2
            refine .inl ⟨b, cap - l.toNat, q1, ?_, by omega⟩
            rw [if_neg hcl]
            simp [addr_add, Nat.add_mul, Nat.add_assoc]
          · exact .inr ⟨by omega, _, _, by rw [show h.toNat - l.toNat = 0 by omega]⟩
      · cases hsl
    · cases hsl
  · unfold sliceC at hsl
    split at hsl
    · split at hsl <;> cases hsl; trivial
    · cases hsl; trivial
    · split at hsl
      · split at hsl <;> cases hsl; exact k2
      · cases hsl
    · split at hsl <;> cases hsl; exact k2
    · cases hsl
theorem sound_slice3 (hE : EnvOk E) (I : Inv w0 B ρ H ob nx w) (hv : EvOk ρ H nx ev a) {T e : TypeId} {x lo hi mx : Operand} {d de : TD} {t : Ty} {xs : List t.T} {l h m : Int} (ho : o.op = .slice T x (some lo) (some hi) (some mx)) (hT : E.tt T = some d) (hk : d.kind = .slc e)
    (he : E.tt e = some de) (hx : (ev x).bind one? = some (.sl t xs)) (hl : bound ev 0 (some lo) = some l) (hh : bound ev 0 (some hi) = some h) (hm : bound ev 0 (some mx) = some m) (hz : de.sz = t.sz)
    (hr : rcc (0 ≤ l ∧ l ≤ h ∧ h ≤ m ∧ m ≤ xs.length) (.sl t ((List.drop l.toNat xs).take (h.toNat - l.toNat))) = some r) (hc : ∀ q ∈ r.cs, q) : StepOk E.P o a w (Post w0 B ob nx ρ H r) := by
  obtain ⟨k1, _⟩ := hv.one hx
  obtain ⟨h0, h1, h2, h3⟩ := rcc_holds hr hc
  have hu := (hE.tt T d hT).slc e hk
  have hs : ∀ w, (sizeOf e).run E.P w = .ok de.sz w := fun w => run_sizeOf (hE.tt e de he)
  obtain ⟨aa, cap, q1, q2, q3⟩ := k1
  have q1 : a.eval x = .slice aa xs.length cap := by simpa using q1
  have b : ∀ {y : Operand} {n : Int}, bound ev 0 (some y) = some n → ∃ k, a.eval y = .int k n := by
    intro y n hy
    rcases bound_ok hv hy with ⟨e, _⟩ | ⟨k, e⟩
    · simp at e
    · exact ⟨k, by simpa using e⟩
  obtain ⟨kl, el⟩ := b hl
  obtain ⟨kh, eh⟩ := b hh
  obtain ⟨km, em⟩ := b hm
  have em' : (m.toNat : Int) = m := Int.toNat_of_nonneg (by omega)
  have eh' : (h.toNat : Int) = h := Int.toNat_of_nonneg (by omega)
  have hb : (Instr.sliceBounds true xs.length cap (some (.int kl l)) (some (.int kh h)) (some (.int km m))).run E.P w = .ok (l.toNat, h.toNat, m.toNat) w := by
    simp [Instr.sliceBounds, run_sliceBound, (by omega : 0 ≤ m), (by omega : m ≤ (cap : Int)), (by omega : 0 ≤ h), em', h2, h0, eh', h1]
  have run : (execOp a.eval o).run E.P w = .ok (.value (.slice (if m.toNat = l.toNat then aa else aa.map (·.add (l.toNat * de.sz))) (h.toNat - l.toNat) (m.toNat - l.toNat))) w := by
    simp [execOp, ho, Instr.sliceAt, Instr.slice, run_underlying hu, q1, el, eh, em, hb, hs]
  refine ok_rcc I hr run ?_ trivial
  have hln : ((List.drop l.toNat xs).take (h.toNat - l.toNat)).length = h.toNat - l.toNat := by simp; omega
  refine ⟨_, m.toNat - l.toNat, by rw [hln], by rw [hln]; omega, ?_⟩
  by_cases e0 : h.toNat - l.toNat = 0
  · exact .inl (by rw [hln]; exact e0)
  · rcases q3 with q3 | ⟨b, off, cc, ee, fr, rfl, g2, g3⟩
    · omega
    · refine .inr ⟨b, off + l.toNat * de.sz, cc, ee, fr, ?_, g2, fun i hi => ?_⟩
      · rw [if_neg (by omega)]; simp [addr_add]
      · rw [hln] at hi
        have hrd := g3 (l.toNat + i) (by omega)
        simp only [List.getElem_take, List.getElem_drop]
        rw [hz, Nat.add_assoc, ← Nat.add_mul]
        exact hrd
end
end Go.Sx

namespace Go.Sx.U
open Ieee
def valD : Datum → Int
  | .number s m e => signed s m (e + 149).toNat
  | _ => 0
def isNum : Datum → Bool
  | .number .. => true
  | _ => false
def vW (b : Nat) : Int := valD (single.read b)
def numW (b : Nat) : Bool := isNum (single.read b)
theorem signed_eq (s : Bool) (m up : Nat) : signed s m up = (if s then -1 else 1) * ((m * 2 ^ up : Nat) : Int) := by
  unfold signed
  rw [Nat.shiftLeft_eq]
  cases s <;> simp
theorem single_binade : single.binade = 8388608 := by decide
theorem single_inf : single.infRung = 2139095040 := by decide
theorem single_sign : single.signWeight = 2147483648 := by decide
theorem single_least : single.leastPlace = -149 := by decide
theorem single_frac : single.fractionBits = 23 := rfl
theorem read_num {b : Nat} {s : Bool} {m : Nat} {e : Int} (h : single.read b = .number s m e) : -149 ≤ e ∧ m < 16777216 := by
  unfold Format.read at h
  simp only [single_binade, single_inf, single_sign, single_least] at h
  split at h
  · cases h; omega
  · split at h
    · cases h; omega
    · split at h <;> cases h
theorem read_top {b : Nat} {s : Bool} {m : Nat} {e : Int} (h : single.read b = .number s m e) : e ≤ 104 := by
  unfold Format.read at h
  simp only [single_binade, single_inf, single_sign, single_least] at h
  split at h
  · cases h; omega
  · split at h
    · cases h; omega
    · split at h <;> cases h
theorem log2_shift {c k : Nat} (h : c ≠ 0) : (c * 2 ^ k).log2 = c.log2 + k := by
  have h1 := Nat.log2_self_le h
  have h2 := Nat.lt_log2_self (n := c)
  have hp : 0 < 2 ^ k := Nat.two_pow_pos k
  rw [Nat.log2_eq_iff (Nat.mul_ne_zero h (by omega))]
  constructor
  · rw [Nat.pow_add]; exact Nat.mul_le_mul_right _ h1
  · have : 2 ^ (c.log2 + k + 1) = 2 ^ (c.log2 + 1) * 2 ^ k := by rw [← Nat.pow_add]; congr 1; omega
    rw [this]
    exact Nat.mul_lt_mul_of_pos_right h2 hp
theorem cut_exact {neg : Bool} {n q d : Nat} (h : n = q * 2 ^ d) (hq : q ≠ 0) : Toward.even.cut neg n d = q := by
  have hl : n.log2 = q.log2 + d := by rw [h, log2_shift hq]
  have hm : min d (n.log2 + 2) = d := by omega
  have hp : 0 < 2 ^ d := Nat.two_pow_pos d
  unfold Toward.cut
  simp only [hm, Nat.shiftLeft_eq, Nat.one_mul]
  have h1 : n / 2 ^ d = q := by rw [h, Nat.mul_div_cancel _ hp]
  have h2 : n % 2 ^ d = 0 := by rw [h, Nat.mul_mod_left]
  rw [h1, h2]
  have h3 : ¬ 2 ^ d < 2 * 0 := by omega
  have h4 : (2 ^ d == 2 * 0) = false := by simp
  simp [h4]
theorem word_read {neg : Bool} {m : Nat} {last : Int} (h1 : -149 ≤ last) (h2 : last ≤ 104) (h3 : m < 16777216) (h4 : -149 < last → 8388608 ≤ m) :
    single.read (single.word neg (min ((last - -149).toNat * 8388608 + m) 2139095040)) = .number neg m last := by
  have hr : min ((last - -149).toNat * 8388608 + m) 2139095040 = (last - -149).toNat * 8388608 + m := by omega
  rw [hr]
  have hlt : (last - -149).toNat * 8388608 + m < 2139095040 := by omega
  unfold Format.read Format.word
  simp only [single_binade, single_inf, single_sign, single_least]
  have e1 : (if neg then 2147483648 + ((last - -149).toNat * 8388608 + m) else ((last - -149).toNat * 8388608 + m)) % 2147483648 = (last - -149).toNat * 8388608 + m := by split <;> omega
  have e2 : ((if neg then 2147483648 + ((last - -149).toNat * 8388608 + m) else ((last - -149).toNat * 8388608 + m)) / 2147483648 % 2 == 1) = neg := by
    cases neg
    · have : ((last - -149).toNat * 8388608 + m) / 2147483648 = 0 := by omega
      simp only [Bool.false_eq_true, if_false, this]; rfl
    · have : (2147483648 + ((last - -149).toNat * 8388608 + m)) / 2147483648 = 1 := by omega
      simp only [if_true, this]; rfl
  rw [e1, e2]
  by_cases hl : (last - -149).toNat * 8388608 + m < 8388608
  · rw [if_pos hl]
    have : last = -149 := by omega
    subst this
    have e3 : ((-149 : Int) - -149).toNat * 8388608 + m = m := by omega
    rw [e3]
  · rw [if_neg hl, if_pos hlt]
    have hm : 8388608 ≤ m := by
      by_cases h : -149 < last
      · exact h4 h
      · omega
    have q1 : ((last - -149).toNat * 8388608 + m) % 8388608 = m - 8388608 := by omega
    have q2 : ((last - -149).toNat * 8388608 + m) / 8388608 = (last - -149).toNat + 1 := by omega
    have q3 : 8388608 + (m - 8388608) = m := by omega
    have q4 : (-149 : Int) + (((last - -149).toNat + 1 - 1 : Nat) : Int) = last := by omega
    rw [q1, q2, q3, q4]
theorem nearest_exact {neg : Bool} {mag c k : Nat} {place : Int} (hm : mag = c * 2 ^ k) (hc : c ≠ 0) (h24 : c < 16777216) (hp : -149 ≤ place + k) (ht : place + mag.log2 ≤ 127) :
    ∃ m last, single.read (single.nearest neg mag place) = .number neg m last ∧ m * 2 ^ (last + 149).toNat = c * 2 ^ (place + k + 149).toNat := by
  have hk : 0 < 2 ^ k := Nat.two_pow_pos k
  have hne : mag ≠ 0 := by rw [hm]; exact Nat.mul_ne_zero hc (by omega)
  have hL : mag.log2 = c.log2 + k := by rw [hm, log2_shift hc]
  have hc2 : c.log2 ≤ 23 := by
    have := (Nat.log2_lt hc (k := 24)).2 (by omega)
    omega
  unfold Format.nearest
  rw [if_neg hne]
  simp only [single_frac, single_least, single_binade, single_inf]
  generalize hlast : max (place + mag.log2 - (23 : Nat)) (-149 : Int) = last
  have hl1 : -149 ≤ last := by omega
  have hl2 : last ≤ place + k := by omega
  have hl3 : place + mag.log2 - 23 ≤ last := by omega
  have hl4 : last ≤ 104 := by omega
  obtain ⟨q, hq⟩ : ∃ q, q = c * 2 ^ (place + k - last).toNat := ⟨_, rfl⟩
  have hq0 : q ≠ 0 := by rw [hq]; exact Nat.mul_ne_zero hc (by have := Nat.two_pow_pos (place + k - last).toNat; omega)
  have hcut : Toward.even.cut neg (mag <<< (place - last).toNat) (last - place).toNat = q := by
    apply cut_exact _ hq0
    rw [Nat.shiftLeft_eq, hm, hq, Nat.mul_assoc, Nat.mul_assoc, ← Nat.pow_add, ← Nat.pow_add]
    congr 2
    omega
  rw [hcut]
  have hqL : q.log2 = c.log2 + (place + k - last).toNat := by rw [hq, log2_shift hc]
  have hq24 : q < 16777216 := by
    have : q.log2 < 24 := by omega
    have := (Nat.log2_lt hq0 (k := 24)).1 this
    omega
  have hqge : -149 < last → 8388608 ≤ q := by
    intro h
    have h1 : q.log2 = 23 := by omega
    have := Nat.log2_self_le hq0
    rw [h1] at this
    exact this
  refine ⟨q, last, word_read hl1 hl4 hq24 hqge, ?_⟩
  rw [hq, Nat.mul_assoc, ← Nat.pow_add]
  congr 2
  omega
theorem vW_num {b : Nat} {s : Bool} {m : Nat} {e : Int} (h : single.read b = .number s m e) : vW b = signed s m (e + 149).toNat := by
  unfold vW; rw [h]; rfl
theorem num_of {b : Nat} (h : numW b = true) : ∃ s m e, single.read b = .number s m e := by
  unfold numW isNum at h
  split at h
  · exact ⟨_, _, _, by assumption⟩
  · cases h
theorem numW_of {b : Nat} {s : Bool} {m : Nat} {e : Int} (h : single.read b = .number s m e) : numW b = true := by
  unfold numW; rw [h]; rfl
theorem compare_scale {a b p : Int} (hp : 0 < p) : compare (a * p) (b * p) = compare a b := by
  rcases Int.lt_trichotomy a b with h | h | h
  · rw [Int.compare_eq_lt.2 h, Int.compare_eq_lt.2 (Int.mul_lt_mul_of_pos_right h hp)]
  · subst h; simp
  · rw [Int.compare_eq_gt.2 h, Int.compare_eq_gt.2 (Int.mul_lt_mul_of_pos_right h hp)]
theorem signed_add (s : Bool) (m u v : Nat) : signed s m (u + v) = signed s m u * ((2 ^ v : Nat) : Int) := by
  rw [signed_eq, signed_eq, Nat.pow_add, ← Nat.mul_assoc, Int.natCast_mul, Int.mul_assoc]
theorem order_val {a b : Nat} (ha : numW a = true) (hb : numW b = true) : single.order a b = some (compare (vW a) (vW b)) := by
  obtain ⟨s, m, i, e1⟩ := num_of ha
  obtain ⟨t, n, j, e2⟩ := num_of hb
  have h1 := (read_num e1).1
  have h2 := (read_num e2).1
  rw [vW_num e1, vW_num e2]
  unfold Format.order
  rw [e1, e2]
  simp only [Datum.order]
  congr 1
  have q1 : (i + 149).toNat = (i - min i j).toNat + (min i j + 149).toNat := by omega
  have q2 : (j + 149).toNat = (j - min i j).toNat + (min i j + 149).toNat := by omega
  rw [q1, q2, signed_add, signed_add, compare_scale]
  exact Int.natCast_pos.2 (Nat.two_pow_pos _)
theorem sub_self {b : Nat} (h : numW b = true) : single.sub b b = some 0 := by
  obtain ⟨s, m, i, e1⟩ := num_of h
  unfold Format.sub
  rw [e1]
  simp only [Datum.opposite, Datum.sum, signed_eq]
  have h0 : (if s = true then -1 else 1) * ((m * 2 ^ (i - min i i).toNat : Nat) : Int) + (if (!s) = true then -1 else 1) * ((m * 2 ^ (i - min i i).toNat : Nat) : Int) = 0 := by
    cases s <;> simp <;> omega
  rw [h0]
  simp [Format.write, Format.nearest, Format.word]
theorem read_16 : single.read 1098907648 = .number false 8388608 (-19) := by decide
theorem read_0 : single.read 0 = .number false 0 (-149) := by decide
theorem nearest_0 (s : Bool) (e : Int) : single.read (single.nearest s 0 e) = .number s 0 (-149) := by
  unfold Format.nearest
  rw [if_pos rfl]
  cases s <;> decide
theorem natAbs_signed (s : Bool) (m u : Nat) : (signed s m u).natAbs = m * 2 ^ u := by
  rw [signed_eq]
  generalize m * 2 ^ u = q
  cases s <;> simp
theorem log_le {m : Nat} {e : Int} (hm : m ≠ 0) (he : -149 ≤ e) (L T : Nat) (hT : T ≤ L + 1 + 149) (h : m * 2 ^ (e + 149).toNat < 2 ^ T) : m.log2 + e ≤ L := by
  have h1 := Nat.log2_self_le hm
  have h2 : 2 ^ (m.log2 + (e + 149).toNat) < 2 ^ T := by
    rw [Nat.pow_add]
    exact Nat.lt_of_le_of_lt (Nat.mul_le_mul_right _ h1) h
  have := (Nat.pow_lt_pow_iff_right (a := 2) (by omega)).1 h2
  omega
theorem mul_16 {b T : Nat} (h : numW b = true) (hT : T ≤ 160) (hv : (vW b).natAbs < 2 ^ T) : ∃ y, single.mul 1098907648 b = some y ∧ numW y = true ∧ vW y = 16 * vW b := by
  obtain ⟨s, m, e, e1⟩ := num_of h
  obtain ⟨h1, h2⟩ := read_num e1
  rw [vW_num e1, natAbs_signed] at hv
  unfold Format.mul
  rw [read_16, e1]
  simp only [Datum.product, Option.map_some, Format.write, Bool.false_xor]
  refine ⟨_, rfl, ?_⟩
  by_cases hm : m = 0
  · subst hm
    rw [Nat.mul_zero]
    have := nearest_0 s (-19 + e)
    refine ⟨numW_of this, ?_⟩
    rw [vW_num this, vW_num e1, signed_eq, signed_eq]
    simp
  · obtain ⟨q, last, r1, r2⟩ := nearest_exact (neg := s) (mag := 8388608 * m) (c := m) (k := 23) (place := -19 + e) (by rw [Nat.mul_comm]) hm h2 (by omega) (by
      have : (8388608 * m).log2 = m.log2 + 23 := by rw [Nat.mul_comm]; exact log2_shift (k := 23) hm
      have := log_le hm h1 10 T hT hv
      omega)
    refine ⟨numW_of r1, ?_⟩
    rw [vW_num r1, vW_num e1, signed_eq, signed_eq, r2]
    have : (-19 + e + ((23 : Nat) : Int) + 149).toNat = (e + 149).toNat + 4 := by omega
    have e2 : m * (2 ^ (e + 149).toNat * 2 ^ 4) = 16 * (m * 2 ^ (e + 149).toNat) := by rw [← Nat.mul_assoc, Nat.mul_comm]
    rw [this, Nat.pow_add, e2]
    generalize m * 2 ^ (e + 149).toNat = q
    cases s <;> simp <;> omega
theorem toInt_val {y : Nat} (h : numW y = true) : (single.read y).toInt .zero = some ((vW y).tdiv ((2 ^ 149 : Nat) : Int)) := by
  obtain ⟨s, m, e, e1⟩ := num_of h
  obtain ⟨h1, h2⟩ := read_num e1
  rw [vW_num e1, e1]
  simp only [Datum.toInt, Datum.integral]
  congr 1
  have key : Toward.zero.cut s (m <<< e.toNat) (-e).toNat = m * 2 ^ (e + 149).toNat / 2 ^ 149 := by
    unfold Toward.cut
    simp only [Nat.shiftLeft_eq, Nat.one_mul, Bool.toNat_false, Nat.add_zero]
    by_cases he : 0 ≤ e
    · have z : (-e).toNat = 0 := by omega
      have z2 : (e + 149).toNat = e.toNat + 149 := by omega
      rw [z, z2, Nat.zero_min, Nat.pow_zero, Nat.div_one, Nat.pow_add, ← Nat.mul_assoc, Nat.mul_div_cancel _ (Nat.two_pow_pos _)]
    · have z : e.toNat = 0 := by omega
      have z2 : 149 = (e + 149).toNat + (-e).toNat := by omega
      rw [z, Nat.pow_zero, Nat.mul_one]
      have z3 : (2 : Nat) ^ 149 = 2 ^ (e + 149).toNat * 2 ^ (-e).toNat := by rw [← Nat.pow_add, ← z2]
      rw [z3, Nat.mul_comm m, Nat.mul_div_mul_left _ _ (Nat.two_pow_pos _)]
      by_cases hd : (-e).toNat ≤ m.log2 + 2
      · rw [Nat.min_eq_left hd]
      · rw [Nat.min_eq_right (by omega)]
        have l1 : m < 2 ^ (m.log2 + 2) := Nat.lt_of_lt_of_le (Nat.lt_log2_self (n := m)) (Nat.pow_le_pow_right (by omega) (by omega))
        have l2 : m < 2 ^ (-e).toNat := Nat.lt_of_lt_of_le l1 (Nat.pow_le_pow_right (by omega) (by omega))
        rw [Nat.div_eq_of_lt l1, Nat.div_eq_of_lt l2]
  rw [key, signed_eq, signed_eq, Nat.pow_zero, Nat.mul_one]
  cases s
  · simp only [Bool.false_eq_true, if_false, Int.one_mul]
    rw [← Int.ofNat_tdiv]
  · simp only [if_true, Int.neg_mul, Int.one_mul]
    rw [Int.neg_tdiv, ← Int.ofNat_tdiv]
theorem nearest_int {n : Int} (h : n.natAbs < 16777216) : numW (single.nearest (n < 0) n.natAbs 0) = true ∧ vW (single.nearest (n < 0) n.natAbs 0) = n * ((2 ^ 149 : Nat) : Int) := by
  by_cases h0 : n = 0
  · subst h0
    have : single.read (single.nearest (decide ((0 : Int) < 0)) (Int.natAbs 0) 0) = _ := nearest_0 (decide ((0 : Int) < 0)) 0
    refine ⟨numW_of this, ?_⟩
    rw [vW_num this, signed_eq]
    simp
  · obtain ⟨m, last, r1, r2⟩ := nearest_exact (neg := decide (n < 0)) (mag := n.natAbs) (c := n.natAbs) (k := 0) (place := 0) (by simp) (by omega) h (by omega) (by
      have := (Nat.log2_lt (n := n.natAbs) (by omega) (k := 24)).2 h
      omega)
    refine ⟨numW_of r1, ?_⟩
    rw [vW_num r1, signed_eq, r2]
    have e : ((0 : Int) + ((0 : Nat) : Int) + 149).toNat = 149 := by decide
    rw [e]
    generalize 2 ^ 149 = q
    rw [Int.natCast_mul, ← Int.mul_assoc]
    congr 1
    by_cases hn : n < 0
    · simp [hn]; omega
    · simp [hn]; omega
theorem vW_small {x : Nat} (L : Nat) {n : Int} (hv : (vW x) = n * ((2 ^ 149 : Nat) : Int)) (hn : n.natAbs < 2 ^ L) {s : Bool} {m : Nat} {e : Int} (hx : single.read x = .number s m e) (hm : m ≠ 0) : m.log2 + e < L ∧ 0 ≤ m.log2 + e := by
  obtain ⟨h1, h2⟩ := read_num hx
  have ha : m * 2 ^ (e + 149).toNat = n.natAbs * 2 ^ 149 := by
    rw [← natAbs_signed s, ← vW_num hx, hv, Int.natAbs_mul, Int.natAbs_natCast]
  have hn0 : n.natAbs ≠ 0 := by
    intro h
    rw [h, Nat.zero_mul] at ha
    have := Nat.two_pow_pos (e + 149).toNat
    rcases Nat.mul_eq_zero.1 ha with h | h <;> omega
  have hl : (m * 2 ^ (e + 149).toNat).log2 = (n.natAbs * 2 ^ 149).log2 := by rw [ha]
  rw [log2_shift hm, log2_shift hn0] at hl
  have := (Nat.log2_lt hn0 (k := L)).2 hn
  omega
theorem div_16 {x : Nat} {n : Int} (h : numW x = true) (hv : vW x = n * ((2 ^ 149 : Nat) : Int)) (hn : n.natAbs < 16777216) :
    ∃ y, single.div x 1098907648 = some y ∧ numW y = true ∧ 16 * vW y = n * ((2 ^ 149 : Nat) : Int) := by
  obtain ⟨s, m, e, e1⟩ := num_of h
  obtain ⟨h1, h2⟩ := read_num e1
  unfold Format.div
  rw [read_16, e1]
  simp only [Datum.quotient, single_frac]
  rw [if_neg (by omega)]
  simp only [Option.map_some, Format.write, Bool.xor_false]
  refine ⟨_, rfl, ?_⟩
  by_cases hm : m = 0
  · subst hm
    have hz : (0 : Nat) <<< (23 + 2 + Nat.log2 8388608 - Nat.log2 0) = 0 := by simp
    rw [hz]
    have := nearest_0 s (e - -19 - ((23 + 2 + Nat.log2 8388608 - Nat.log2 0 : Nat) : Int) - 1)
    rw [show 2 * (0 / 8388608) + (0 % 8388608 != 0).toNat = 0 from rfl]
    refine ⟨numW_of this, ?_⟩
    rw [← hv, vW_num this, vW_num e1, signed_eq, signed_eq]
    simp
  · have hl2 : Nat.log2 8388608 = 23 := by decide
    have hlm : m.log2 < 24 := (Nat.log2_lt hm (k := 24)).2 h2
    obtain ⟨s1, s2⟩ := vW_small 24 hv hn e1 hm
    rw [hl2]
    obtain ⟨d, hd⟩ : ∃ d, 23 + 2 + 23 - m.log2 = 23 + d := ⟨25 - m.log2, by omega⟩
    rw [hd, Nat.shiftLeft_eq]
    have q1 : m * 2 ^ (23 + d) = m * 2 ^ d * 8388608 := by rw [Nat.add_comm, Nat.pow_add, ← Nat.mul_assoc]
    have q2 : m * 2 ^ (23 + d) / 8388608 = m * 2 ^ d := by rw [q1, Nat.mul_div_cancel _ (by omega)]
    have q3 : m * 2 ^ (23 + d) % 8388608 = 0 := by rw [q1, Nat.mul_mod_left]
    rw [q2, q3]
    have q4 : 2 * (m * 2 ^ d) + ((0 : Nat) != 0).toNat = m * 2 ^ (d + 1) := by
      rw [Nat.pow_succ, ← Nat.mul_assoc m]
      show 2 * (m * 2 ^ d) + 0 = _
      omega
    rw [q4]
    obtain ⟨q, last, r1, r2⟩ := nearest_exact (neg := s) (mag := m * 2 ^ (d + 1)) (c := m) (k := d + 1) (place := e - -19 - ((23 + d : Nat) : Int) - 1) rfl hm h2 (by omega) (by
      rw [log2_shift hm]
      omega)
    refine ⟨numW_of r1, ?_⟩
    rw [← hv, vW_num r1, vW_num e1, signed_eq, signed_eq, r2]
    have e4 : (e + 149).toNat = (e - -19 - ((23 + d : Nat) : Int) - 1 + ((d + 1 : Nat) : Int) + 149).toNat + 4 := by omega
    rw [e4, Nat.pow_add]
    generalize (e - -19 - ((23 + d : Nat) : Int) - 1 + ((d + 1 : Nat) : Int) + 149).toNat = u
    have e2 : m * (2 ^ u * 2 ^ 4) = 16 * (m * 2 ^ u) := by rw [← Nat.mul_assoc, Nat.mul_comm]
    rw [e2]
    generalize m * 2 ^ u = q
    cases s <;> simp <;> omega
def six (b : Nat) : Int := (16 * vW b).tdiv ((2 ^ 149 : Nat) : Int)
def chkS (b : Nat) : Int := if numW b = true then (if 1024 * ((2 ^ 149 : Nat) : Int) < vW b ∨ vW b < -1024 * ((2 ^ 149 : Nat) : Int) then 3 else if 16 * vW b = six b * ((2 ^ 149 : Nat) : Int) then 0 else 3) else 1
def smp (n : Int) : Nat := (single.div (single.nearest (n < 0) n.natAbs 0) 1098907648).getD 0
theorem chkS_zero {b : Nat} : chkS b = 0 ↔ numW b = true ∧ 16 * vW b = six b * ((2 ^ 149 : Nat) : Int) ∧ -16384 ≤ six b ∧ six b ≤ 16384 := by
  have hq : (0 : Int) < ((2 ^ 149 : Nat) : Int) := Int.natCast_pos.2 (Nat.two_pow_pos _)
  unfold chkS
  generalize six b = t
  generalize ((2 ^ 149 : Nat) : Int) = q at *
  generalize vW b = v
  constructor
  · intro h
    split at h
    · rename_i hn
      split at h
      · cases h
      · rename_i hr
        split at h
        · rename_i he
          refine ⟨hn, he, ?_, ?_⟩
          · exact Int.le_of_mul_le_mul_right (b := -16384) (c := t) (a := q) (by omega) hq
          · exact Int.le_of_mul_le_mul_right (b := t) (c := 16384) (a := q) (by omega) hq
        · cases h
    · cases h
  · rintro ⟨h1, h2, h3, h4⟩
    have g1 : -16384 * q ≤ t * q := Int.mul_le_mul_of_nonneg_right h3 (Int.le_of_lt hq)
    have g2 : t * q ≤ 16384 * q := Int.mul_le_mul_of_nonneg_right h4 (Int.le_of_lt hq)
    rw [if_pos h1, if_neg (by omega), if_pos h2]
theorem smp_num {n : Int} (h : n.natAbs < 16777216) : single.div (single.nearest (n < 0) n.natAbs 0) 1098907648 = some (smp n) ∧ numW (smp n) = true ∧ 16 * vW (smp n) = n * ((2 ^ 149 : Nat) : Int) := by
  obtain ⟨h1, h2⟩ := nearest_int h
  obtain ⟨y, e1, e2, e3⟩ := div_16 h1 h2 h
  have : smp n = y := by unfold smp; rw [e1]; rfl
  rw [this]
  exact ⟨e1, e2, e3⟩
theorem ord_six {a b : Nat} {m n : Int} (ha : numW a = true) (hb : numW b = true) (h1 : 16 * vW a = m * ((2 ^ 149 : Nat) : Int)) (h2 : 16 * vW b = n * ((2 ^ 149 : Nat) : Int)) : single.order a b = some (compare m n) := by
  have hq : (0 : Int) < ((2 ^ 149 : Nat) : Int) := Int.natCast_pos.2 (Nat.two_pow_pos _)
  rw [order_val ha hb, ← compare_scale (p := 16) (by decide), Int.mul_comm (vW a), Int.mul_comm (vW b), h1, h2, compare_scale hq]
theorem eq_six {a b : Nat} (ha : chkS a = 0) (hb : chkS b = 0) : Op.floatEq .f32 a b = decide (six a = six b) := by
  obtain ⟨a1, a2, _⟩ := chkS_zero.1 ha
  obtain ⟨b1, b2, _⟩ := chkS_zero.1 hb
  unfold Op.floatEq
  rw [show FloatKind.format .f32 = single from rfl, ord_six a1 b1 a2 b2]
  by_cases h : six a = six b
  · rw [h]; simp
  · have : compare (six a) (six b) ≠ .eq := fun e => h (Int.compare_eq_eq.1 e)
    simp [h, this]
end Go.Sx.U
