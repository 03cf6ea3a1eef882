/- A verified symbolic run of functions, part 3: lemmas, no claim of their own. -/
import Derived.Test.YtpbipfdpoijgoaaGreatDoorS2
/- The engine's steps are right: stores, new variables, addresses, small operations. -/
namespace Go.Sx
open Go.RowKit
section
variable {E : Env} {w0 : Base} {B : Nat} {ρ : Nat → Value} {H : IH} {ob : List (Nat × Option AObj)} {nx : Nat} {w : World} {ev : Operand → Option SV} {a : Act} {o : Oper} {r : Res}
theorem Cells.set {w : World} {g : Nat} {cur new : Array Value} {e : TypeId} (h : Cells w g cur e) (hn : new.size = cur.size) : Cells (w.setRow g new) g new e := by
  obtain ⟨fz, h1, h2⟩ := h
  exact ⟨fz, by rw [hn]; exact h1, setRow_heap w g cur new e fz h2⟩
theorem storeCells_own {P : Program} {w : World} {g o : Nat} {e : TypeId} {cur : Array Value} {vs : List Value} (h : Cells w g cur e) (hl : o + vs.length ≤ cur.size) (h1 : ∀ v ∈ vs, v.oneCell' = true) :
    (storeCells ⟨g, o, none⟩ vs 0).run P w = .ok () (w.setRow g (cur.toList.take o ++ vs ++ cur.toList.drop (o + vs.length)).toArray) := by
  obtain ⟨fz, h2, h3⟩ := h
  have key : ∀ (vs : List Value) (i : Nat) (cur : Array Value) (w : World), (fz = (0, 0) ∨ cur.size ≤ fz.1) → w.heap[g]? = some (.cells cur e fz) → o + i + vs.length ≤ cur.size → (∀ v ∈ vs, v.oneCell' = true) →
      (storeCells ⟨g, o, none⟩ vs i).run P w = .ok () (w.setRow g (cur.toList.take (o + i) ++ vs ++ cur.toList.drop (o + i + vs.length)).toArray) := by
    intro vs
    induction vs with
    | nil =>
      intro i cur w _ hg _ _
      simp only [storeCells, List.append_nil, List.length_nil, Nat.add_zero, List.take_append_drop, Array.toArray_toList]
      rw [setRow_self w g cur e fz hg]
      rfl
    | cons v rest ih =>
      intro i cur w hfz hg hl h1
      have hi : o + i < cur.size := by simp at hl; omega
      have hadd : (⟨g, o, none⟩ : Addr).add i = ⟨g, o + i, none⟩ := by unfold Addr.add; split <;> simp_all
      have hcell : w.cell? ⟨g, o + i, none⟩ = some cur[o + i] := by simp [World.cell?, hg, hi]
      have hfro : w.frozen? ⟨g, o + i, none⟩ = false := by
        obtain ⟨lo, hi'⟩ := fz
        simp only [World.frozen?, hg, Bool.and_eq_false_iff, decide_eq_false_iff_not]
        rcases hfz with h | h
        · cases h; right; omega
        · simp only at h; left; omega
      have hst : (store ((⟨g, o, none⟩ : Addr).add i) v).run P w = .ok () (w.setRow g (cur.setIfInBounds (o + i) v)) := by
        rw [hadd, run_store P w _ v _ (h1 v (by simp)), hcell]
        simp [hfro, setCell_eq_setRow w g (o + i) cur e fz v hg]
      have ih := ih (i + 1) (cur.setIfInBounds (o + i) v) (w.setRow g (cur.setIfInBounds (o + i) v)) (by simpa using hfz) (setRow_heap w g cur _ e _ hg) (by simp at hl ⊢; omega) (fun x hx => h1 x (by simp [hx]))
      simp only [storeCells, Sem.run_bind, hst, Result.andThen_ok, ih, setRow_setRow]
      congr 3
      have e := list_seg_step cur.toList (o + i) v rest (by simp at hl ⊢; omega)
      simpa [Array.toList_setIfInBounds, Nat.add_assoc] using e
  have := key vs 0 cur w h2 h3 (by simpa using hl) h1
  simpa using this
theorem heap_setRow_at {w : World} {g : Nat} {cur new : Array Value} {e : TypeId} {fr : Nat × Nat} (hg : w.heap[g]? = some (.cells cur e fr)) : (w.setRow g new).heap[g]? = some (.cells new e fr) := setRow_heap w g cur new e fr hg
theorem splice_seg (cur : Array Value) (off n : Nat) (us : List Value) (hu : us.length = n) (hle : off + n ≤ cur.size) :
    ∀ p m, p + m ≤ off ∨ off + n ≤ p → seg (cur.toList.take off ++ us ++ cur.toList.drop (off + n)).toArray p m = seg cur p m := by
  intro p m h
  have hl : (cur.toList.take off).length = off := by simp; omega
  unfold seg
  simp only []
  apply List.ext_getElem?
  intro j
  simp only [List.getElem?_take, List.getElem?_drop]
  split
  · rename_i hj
    rcases h with h | h
    · rw [List.append_assoc, List.getElem?_append_left (by omega), List.getElem?_take_of_lt (by omega)]
    · rw [List.getElem?_append_right (by simp; omega)]
      simp only [List.length_append, hl, hu, List.getElem?_drop]
      congr 1; omega
  · rfl
theorem splice_same (cur : Array Value) (off n : Nat) (us : List Value) (hu : us.length = n) (hle : off + n ≤ cur.size) :
    seg (cur.toList.take off ++ us ++ cur.toList.drop (off + n)).toArray off n = us := by
  have hl : (cur.toList.take off).length = off := by simp; omega
  unfold seg
  simp only []
  rw [List.append_assoc, List.drop_append_of_le_length (by omega), List.drop_of_length_le (by omega), List.nil_append, List.take_append_of_le_length (by omega), List.take_of_length_le (by omega)]
theorem splice_size (cur : Array Value) (off n : Nat) (us : List Value) (hu : us.length = n) (hle : off + n ≤ cur.size) :
    (cur.toList.take off ++ us ++ cur.toList.drop (off + n)).toArray.size = cur.size := by
  simp; omega
theorem splice_part (cur : Array Value) (base sz sub n : Nat) (us : List Value) (hu : us.length = n) (hsub : sub + n ≤ sz) (hle : base + sz ≤ cur.size) :
    seg (cur.toList.take (base + sub) ++ us ++ cur.toList.drop (base + sub + n)).toArray base sz = (seg cur base sz).take sub ++ (us ++ (seg cur base sz).drop (sub + n)) := by
  have hl : (cur.toList.take (base + sub)).length = base + sub := by simp; omega
  unfold seg
  simp only []
  apply List.ext_getElem?
  intro j
  simp only [List.getElem?_take, List.getElem?_drop]
  split
  · rename_i hj
    by_cases h1 : j < sub
    · rw [List.append_assoc, List.getElem?_append_left (by omega), List.getElem?_take_of_lt (by omega), List.getElem?_append_left (by simp; omega), List.getElem?_take_of_lt h1, List.getElem?_take_of_lt hj, List.getElem?_drop]
    · by_cases h2 : j < sub + n
      · rw [List.append_assoc, List.getElem?_append_right (by omega), List.getElem?_append_left (by omega), List.getElem?_append_right (by simp; omega), List.getElem?_append_left (by simp; omega)]
        congr 1; simp; omega
      · rw [List.append_assoc, List.getElem?_append_right (by omega), List.getElem?_append_right (by omega), List.getElem?_append_right (by simp; omega), List.getElem?_append_right (by simp; omega)]
        simp only [List.getElem?_drop, List.getElem?_take, hl, hu, List.length_take, List.length_drop, Array.length_toList]
        rw [if_pos (by omega)]
        congr 1; omega
  · rename_i hj
    symm
    rw [List.getElem?_eq_none]
    simp; omega
theorem box_lt {cs new : List Ch} {off n : Nat} {y : List Ch} (h : putCh cs off n new = some y) (h1 : ∀ c ∈ cs, c.lt nx) (h2 : ∀ c ∈ new, c.lt nx) : ∀ c ∈ y, c.lt nx := by
  intro c hc
  rcases putCh_mem h c hc with h | h
  · exact h1 c h
  · exact h2 c h
theorem DenChs.one (hρ : ∀ id, (ρ id).oneCell' = true) : ∀ {cs : List Ch} {vs : List Value}, DenChs ρ H cs vs → ∀ v ∈ vs, v.oneCell' = true
  | [], vs, h => by rw [show vs = [] from h]; simp
  | .one c :: r, vs, h => by
    obtain ⟨v, vs', rfl, h1, h2⟩ := h
    intro u hu
    rcases List.mem_cons.1 hu with rfl | hu
    · exact DenC.one hρ h1
    · exact DenChs.one hρ h2 u hu
  | .arr n t xs :: r, vs, h => by
    intro u hu
    have : u ∈ vs.take (n * t.sz) ++ vs.drop (n * t.sz) := by rw [List.take_append_drop]; exact hu
    rcases List.mem_append.1 this with h' | h'
    · exact Rd.one _ _ _ h.1 u h'
    · exact DenChs.one hρ h.2 u h'
theorem storeC_ok (I : Inv w0 B ρ H ob nx w) {c : C} {n : Nat} {new : List Ch} {ps : List Prop} {id : Nat} {p : AObj} {v : Value} {us : List Value} (h : storeC (lookO ob) c n new = some (ps, id, p)) (hp : ∀ q ∈ ps, q)
    (hd : DenC ρ H c v) (hn : DenChs ρ H new us) (hlen : us.length = n) (hlt : ∀ c ∈ new, c.lt nx) :
    ∃ g off cur e, v = .pointer (some ⟨g, off, none⟩) ∧ Cells w g cur e ∧ off + n ≤ cur.size ∧
      Inv w0 B ρ H ((id, some p) :: ob) nx (w.setRow g (cur.toList.take off ++ us ++ cur.toList.drop (off + n)).toArray) := by
  unfold storeC at h
  split at h
  · -- ptr
    rename_i id' off
    split at h
    · rename_i bs hb
      obtain ⟨x, hx, h1⟩ := Option.map_eq_some_iff.1 h
      cases h1
      obtain ⟨g, cur, e, k1, k2, k3, k4⟩ := box_den I hb
      obtain ⟨b, hb1, hb2⟩ := hd
      rw [show ρ (id, off).1 = _ from k1] at hb1
      cases hb1
      obtain ⟨m1, m2⟩ := putCh_den hx k3 hn
      refine ⟨g, off, cur, e, hb2, ⟨_, .inl rfl, k2⟩, by simpa using m2, ?_⟩
      refine I.put hb (.inl k1) k2 (box_lt hx k4 hlt) ⟨g, _, e, k1, (I.hb hb (.inl k1)).1, (I.hb hb (.inl k1)).2.1, heap_setRow_at k2, ?_⟩
      simpa using m1
    · cases h
  · -- el
    rename_i id' off sz i sub
    obtain ⟨b, hb1, hb2⟩ := hd
    split at h
    · rename_i t xs hrow
      split at h
      · rename_i hk
        obtain ⟨rfl, rfl⟩ := hk
        obtain ⟨y, hy, h⟩ := Option.bind_eq_some_iff.1 h
        split at h
        · rename_i x' hx'
          cases h
          have hi : i < xs.length := hp _ (by simp)
          obtain ⟨_, _, hrow'⟩ := I.objs _ _ hrow
          rcases hrow' with ⟨k1, k2⟩ | ⟨g, cap, cur, e, k1, k2, k3, k4', k5, k6, k7, k8⟩
          · subst k2; simp at hi
          · have hgb : b = g := by rw [k1] at hb1; rcases hb1 with h | ⟨_, _, h⟩ | h <;> cases h; rfl
            subst hgb
            have hrd := k8 i hi
            rw [getD_get hi] at hy
            have hdn := toChs_den (ρ := ρ) t _ _ hrd
            obtain ⟨m1, m2⟩ := putCh_den hy hdn hn
            have hl := Rd.len _ _ _ hrd
            rw [hl] at m2
            have hcap : (i + 1) * t.sz ≤ cap * t.sz := Nat.mul_le_mul_right _ (by omega)
            rw [Nat.succ_mul] at hcap
            have hle : i * t.sz + t.sz ≤ cur.size := by omega
            obtain ⟨q1, _⟩ := ofChs_all hx' m1
            have hv : v = .pointer (some ⟨b, i * t.sz + sub, none⟩) := by rw [hb2]; simp
            refine ⟨b, i * t.sz + sub, cur, e, hv, k4', by omega, ?_⟩
            obtain ⟨fz, _, k4⟩ := k4'
            refine I.put hrow (.inr (.inl ⟨_, _, k1⟩)) k4 trivial (.inr ⟨b, cap, _, e, by rw [k1]; simp, k2, k3, Cells.set ⟨fz, ‹_›, k4⟩ (splice_size cur _ n us hlen (by omega)), by simpa using k5, k6, ?_, ?_⟩)
            · rw [splice_size cur _ n us hlen (by omega), k7]
            · intro j hj
              have hj' : j < xs.length := by simpa using hj
              by_cases hij : i = j
              · subst hij
                simp only [List.getElem_set_self]
                rw [splice_part cur (i * t.sz) t.sz sub n us hlen m2 hle]
                exact q1
              · simp only [List.getElem_set_ne hij]
                rw [splice_seg cur _ n us hlen (by omega) (j * t.sz) t.sz ?_]
                · exact k8 j hj'
                · rcases Nat.lt_or_gt_of_ne hij with h | h
                  · have : (i + 1) * t.sz ≤ j * t.sz := Nat.mul_le_mul_right _ (by omega)
                    rw [Nat.succ_mul] at this; omega
                  · have : (j + 1) * t.sz ≤ i * t.sz := Nat.mul_le_mul_right _ (by omega)
                    rw [Nat.succ_mul] at this; omega
        · cases h
      · cases h
    · rename_i bs hbox
      obtain ⟨g, cur, e, k1, k2, k3, k4⟩ := box_den I hbox
      have hgb : b = g := by rw [k1] at hb1; rcases hb1 with h | ⟨_, _, h⟩ | h <;> cases h; rfl
      subst hgb
      split at h
      · rename_i m t xs rest hdr
        split at h
        · rename_i hk
          subst hk
          obtain ⟨y, hy, h⟩ := Option.bind_eq_some_iff.1 h
          split at h
          · rename_i x' hx'
            obtain ⟨z, hz, h⟩ := Option.map_eq_some_iff.1 h
            cases h
            have hi : i < xs.length := hp _ (by simp)
            obtain ⟨hrd, hle, hxm⟩ := arr_elem k3 hdr hi
            rw [Nat.succ_mul] at hle
            rw [getD_get hi] at hy
            have hdn := toChs_den (ρ := ρ) t _ _ hrd
            obtain ⟨m1, m2⟩ := putCh_den hy hdn hn
            have hl := Rd.len _ _ _ hrd
            rw [hl] at m2
            obtain ⟨q1, _⟩ := ofChs_all hx' m1
            refine ⟨b, off + i * t.sz + sub, cur, e, hb2, ⟨_, .inl rfl, k2⟩, by omega, ?_⟩
            refine I.put hbox (.inl k1) k2 (box_lt hz k4 (fun c hc => by simp at hc; subst hc; trivial)) ⟨b, _, e, k1, (I.hb hbox (.inl k1)).1, (I.hb hbox (.inl k1)).2.1, heap_setRow_at k2, ?_⟩
            obtain ⟨A, X, R, hcs, hA, hX, hzz⟩ := putCh_spec hz
            obtain ⟨A', hcs', hA'⟩ := dropCh_spec hdr
            have hsplit := k3
            rw [hcs] at hsplit
            have hlen0 := hsplit.len
            rw [chsSz_append, chsSz_append, hA, hX] at hlen0
            simp only [Array.length_toList] at hlen0
            obtain ⟨s1, s2⟩ := hsplit.split
            obtain ⟨_, s3⟩ := s2.split
            rw [hA] at s1 s3
            rw [hX, List.drop_drop] at s3
            have harr : Rd H (.arr m t) (xs.set i x') (seg (cur.toList.take (off + i * t.sz + sub) ++ us ++ cur.toList.drop (off + i * t.sz + sub + n)).toArray off (m * t.sz)) := by
              have hsz := splice_size cur (off + i * t.sz + sub) n us hlen (by omega)
              refine ⟨by simpa using hxm, seg_len (by rw [hsz]; omega), ?_⟩
              intro j hj
              have hj' : j < xs.length := by simpa using hj
              have hjm : (j + 1) * t.sz ≤ m * t.sz := Nat.mul_le_mul_right _ (by omega)
              rw [Nat.succ_mul] at hjm
              rw [seg_seg (by omega)]
              by_cases hij : i = j
              · subst hij
                simp only [List.getElem_set_self]
                rw [splice_part cur (off + i * t.sz) t.sz sub n us hlen m2 (by omega)]
                exact q1
              · simp only [List.getElem_set_ne hij]
                rw [splice_seg cur _ n us hlen (by omega) (off + j * t.sz) t.sz ?_]
                · exact (arr_elem k3 hdr hj').1
                · rcases Nat.lt_or_gt_of_ne hij with h | h
                  · have : (i + 1) * t.sz ≤ j * t.sz := Nat.mul_le_mul_right _ (by omega)
                    rw [Nat.succ_mul] at this; omega
                  · have : (j + 1) * t.sz ≤ i * t.sz := Nat.mul_le_mul_right _ (by omega)
                    rw [Nat.succ_mul] at this; omega
            have him : (i + 1) * t.sz ≤ m * t.sz := Nat.mul_le_mul_right _ (by omega)
            rw [Nat.succ_mul] at him
            have hsz := splice_size cur (off + i * t.sz + sub) n us hlen (by omega)
            have e1 : (cur.toList.take (off + i * t.sz + sub) ++ us ++ cur.toList.drop (off + i * t.sz + sub + n)) =
                cur.toList.take off ++ (seg (cur.toList.take (off + i * t.sz + sub) ++ us ++ cur.toList.drop (off + i * t.sz + sub + n)).toArray off (m * t.sz) ++ cur.toList.drop (off + m * t.sz)) := by
              have a1 := splice_seg cur (off + i * t.sz + sub) n us hlen (by omega) 0 off (.inl (by omega))
              have a2 := splice_seg cur (off + i * t.sz + sub) n us hlen (by omega) (off + m * t.sz) (cur.size - (off + m * t.sz)) (.inr (by omega))
              generalize hL : (cur.toList.take (off + i * t.sz + sub) ++ us ++ cur.toList.drop (off + i * t.sz + sub + n)) = L at *
              have hLl : L.length = cur.size := by have := hsz; simpa using this
              unfold seg at a1 a2 ⊢
              simp only [List.drop_zero] at a1 a2 ⊢
              rw [List.take_of_length_le (by simp; omega)] at a2
              rw [List.take_of_length_le (l := cur.toList.drop _) (by simp)] at a2
              rw [← a1, ← a2]
              rw [← List.drop_drop, List.take_append_drop, List.take_append_drop]
            rw [hzz]
            show DenChs ρ H _ (_ : List Value)
            rw [e1]
            refine s1.append (DenChs.append ?_ s3)
            refine ⟨?_, ?_⟩
            · rw [List.take_of_length_le (by rw [Rd.len _ _ _ harr]; exact Nat.le_refl _)]; exact harr
            · show _ = _
              rw [List.drop_of_length_le (by rw [Rd.len _ _ _ harr]; exact Nat.le_refl _)]
          · cases h
        · cases h
      · cases h
    · cases h
  · cases h
theorem cells_len {u : Value} {v : V} (hρ : ∀ id, (ρ id).oneCell' = true) (h : DenV ρ H v u) : u.cells.toList.length = chsSz (Ch.chs v) := (h.cells hρ).len
theorem chs_lt {v : V} {n : Nat} (h : v.lt n) : ∀ c ∈ Ch.chs v, c.lt n := by
  cases v with
  | one c => intro x hx; simp [Ch.chs] at hx; subst hx; exact h
  | agg cs => exact h
theorem sound_store0 (hE : EnvOk E) (I : Inv w0 B ρ H ob nx w) {T : TypeId} {x y : Operand} {d : TD} {c : C} {v : V} {ps : List Prop} {id : Nat} {p : AObj} (ho : o.op = .store T x y) (hT : E.tt T = some d)
    (k1 : DenC ρ H c (a.eval x)) (n1 : DenV ρ H v (a.eval y)) (n2 : v.lt nx) (hsz : chsSz (Ch.chs v) = d.sz) (hl : storeC (lookO ob) c d.sz (Ch.chs v) = some (ps, id, p)) (hr : r = ⟨ps, none, [(id, some p)]⟩) (hc : ∀ q ∈ r.cs, q) :
    StepOk E.P o a w (Post w0 B ob nx ρ H r) := by
  subst hr
  have hcl := n1.cells I.one
  have hlen : (a.eval y).cells.toList.length = d.sz := by rw [← hsz]; exact hcl.len
  obtain ⟨g, off, cur, e, m1, m2, m3, m4⟩ := storeC_ok I hl hc k1 hcl hlen (chs_lt n2)
  have hone := hcl.one I.one
  have hst := storeCells_own (P := E.P) m2 (by rw [hlen]; omega) hone
  rw [hlen] at hst
  refine .inr (.inl ⟨_, ?_, ρ, H, m4.more (by omega), HLe.refl _, REq.refl _ _, fun _ e => by cases e⟩)
  have hne : ¬ (a.eval y).cells.size ≠ d.sz := by simp only [Array.length_toList] at hlen; simp [hlen]
  simp [execOp, ho, Instr.storeAt, m1, Instr.sureAddr, storeVar, run_sizeOf (hE.tt T d hT), hne, hst]
theorem sound_store (hE : EnvOk E) (I : Inv w0 B ρ H ob nx w) (hv : EvOk ρ H nx ev a) {T : TypeId} {x y : Operand} {d : TD} {c : C} {v : V} {ps : List Prop} {id : Nat} {p : AObj} (ho : o.op = .store T x y) (hT : E.tt T = some d)
    (hx : (ev x).bind one? = some c) (hy : (ev y).bind val? = some v) (hsz : chsSz (Ch.chs v) = d.sz) (hl : storeC (lookO ob) c d.sz (Ch.chs v) = some (ps, id, p)) (hr : r = ⟨ps, none, [(id, some p)]⟩) (hc : ∀ q ∈ r.cs, q) :
    StepOk E.P o a w (Post w0 B ob nx ρ H r) :=
  sound_store0 hE I ho hT (hv.one hx).1 (hv.val hy).1 (hv.val hy).2 hsz hl hr hc
theorem freeze_row (I : Inv w0 B ρ H ob nx w) {k : Nat} {t : Ty} {xs : List t.T} (hk : lookO ob k = some (.row t xs)) : ∃ H1, HLe H H1 ∧ Inv w0 B ρ H1 ((k, none) :: ob) nx w ∧ Rd H1 (.sl t) xs [ρ k] := by
  have I1 := I.del k
  have hsep : ∀ g, HB (ρ k) g → (∀ id p, lookO ((k, none) :: ob) id = some p → ¬ HB (ρ id) g) ∧ ¬ w0.K g := by
    intro g hg
    refine ⟨fun id p hp hb => ?_, fun h => (I.kp g h).2.2.2 k _ hk hg⟩
    rw [lookO_cons] at hp
    split at hp
    · cases hp
    · rename_i hne
      exact I.sep k id _ _ hne hk hp g hg hb
  rcases (I.objs k _ hk).2.2 with ⟨d1, d2⟩ | ⟨g, cap, cur, e, d1, d2, d3, ⟨_, _, d4⟩, d5, d6, d7, d8⟩
  · refine ⟨H, HLe.refl _, I1, ?_⟩
    rw [d1, d2]
    exact ⟨none, 0, rfl, Nat.le_refl _, .inl rfl⟩
  · obtain ⟨hf, hK⟩ := hsep g (.inr (.inl ⟨_, _, d1⟩))
    obtain ⟨I2, hle⟩ := I1.imm d4 d3 hf hK
    refine ⟨_, hle, I2, ?_⟩
    rw [d1]
    refine ⟨_, cap, rfl, d5, .inr ⟨g, 0, cur, _, _, rfl, upd_same _ _ _, fun i hi => ?_⟩⟩
    rw [Nat.zero_add]
    exact Rd.mono hle _ _ _ (d8 i hi)
theorem freeze_rows (I : Inv w0 B ρ H ob nx w) : ∀ js : List Nat, ∃ H1, HLe H H1 ∧ Inv w0 B ρ H1 (js.map (fun j => (j, (none : Option AObj))) ++ ob) nx w ∧ ∀ j ∈ js, ∀ (t : Ty) (xs : List t.T), lookO ob j = some (.row t xs) → Rd H1 (.sl t) xs [ρ j]
  | [] => ⟨H, HLe.refl _, I, fun j hj => by cases hj⟩
  | k :: js => by
    obtain ⟨H1, h1, I1, h2⟩ := freeze_rows I js
    by_cases hk : k ∈ js
    · exact ⟨H1, h1, I1.del k, fun j hj t xs hr => by
        rcases List.mem_cons.1 hj with rfl | hj
        · exact h2 _ hk t xs hr
        · exact h2 _ hj t xs hr⟩
    · have hl : lookO (js.map (fun j => (j, (none : Option AObj))) ++ ob) k = lookO ob k := by
        clear h2 I1 h1
        induction js with
        | nil => rfl
        | cons j js ih =>
          simp only [List.mem_cons, not_or] at hk
          rw [List.map_cons, List.cons_append, lookO_cons, if_neg (fun e => hk.1 e.symm)]
          exact ih hk.2
      cases ho : lookO ob k with
      | none => exact ⟨H1, h1, I1.del k, fun j hj t xs hr => by
          rcases List.mem_cons.1 hj with rfl | hj
          · rw [ho] at hr; cases hr
          · exact h2 _ hj t xs hr⟩
      | some p =>
        cases p with
        | row t xs =>
          obtain ⟨H2, g1, g2, g3⟩ := freeze_row I1 (k := k) (t := t) (xs := xs) (by rw [hl, ho])
          refine ⟨H2, h1.trans g1, g2, fun j hj u ys hr => ?_⟩
          rcases List.mem_cons.1 hj with rfl | hj
          · rw [ho] at hr
            cases hr
            exact g3
          · exact Rd.mono g1 _ _ _ (h2 _ hj u ys hr)
        | _ => exact ⟨H1, h1, I1.del k, fun j hj u ys hr => by
            rcases List.mem_cons.1 hj with rfl | hj
            · rw [ho] at hr; cases hr
            · exact h2 _ hj u ys hr⟩
theorem frzC_den {H1 : IH} {c : C} {v : Value} (hle : HLe H H1) (hlt : c.lt nx) (hr : ∀ j ∈ ownCh (.one c), ∀ (t : Ty) (xs : List t.T), lookO ob j = some (.row t xs) → Rd H1 (.sl t) xs [ρ j]) (h : DenC ρ H c v) : DenC ρ H1 (frzC (lookO ob) c) v ∧ (frzC (lookO ob) c).lt nx := by
  have keep : DenC ρ H1 c v := h.mono (REq.refl _ _) hle hlt
  cases c with
  | own j =>
    simp only [frzC]
    cases ho : lookO ob j with
    | none => exact ⟨keep, hlt⟩
    | some p =>
      cases p with
      | row t xs =>
        have e : v = ρ j := h
        refine ⟨?_, trivial⟩
        rw [e]
        exact hr j (by simp [ownCh]) t xs ho
      | _ => exact ⟨keep, hlt⟩
  | _ => exact ⟨keep, hlt⟩
theorem frzChs_den {H1 : IH} (hle : HLe H H1) : ∀ {cs : List Ch} {vs : List Value}, (∀ c ∈ cs, c.lt nx) → (∀ j ∈ cs.flatMap ownCh, ∀ (t : Ty) (xs : List t.T), lookO ob j = some (.row t xs) → Rd H1 (.sl t) xs [ρ j]) → DenChs ρ H cs vs → DenChs ρ H1 (cs.map (frzCh (lookO ob))) vs ∧ ∀ c ∈ cs.map (frzCh (lookO ob)), c.lt nx
  | [], _, _, _, h => ⟨h, by simp⟩
  | .one c :: r, vs, hlt, hr, h => by
    obtain ⟨v, vs', rfl, h1, h2⟩ := h
    have k1 := frzC_den (nx := nx) hle (hlt _ List.mem_cons_self) (fun j hj => hr j (by simp only [List.flatMap_cons, List.mem_append]; exact .inl hj)) h1
    have k2 := frzChs_den hle (fun c hc => hlt c (List.mem_cons_of_mem _ hc)) (fun j hj => hr j (by simp only [List.flatMap_cons, List.mem_append]; exact .inr hj)) h2
    refine ⟨⟨v, vs', rfl, k1.1, k2.1⟩, fun c' hc' => ?_⟩
    rcases List.mem_cons.1 hc' with rfl | hc'
    · exact k1.2
    · exact k2.2 _ hc'
  | .arr n t xs :: r, vs, hlt, hr, h => by
    have k2 := frzChs_den hle (fun c hc => hlt c (List.mem_cons_of_mem _ hc)) (fun j hj => hr j (by simp only [List.flatMap_cons, List.mem_append]; exact .inr hj)) h.2
    refine ⟨⟨Rd.mono hle _ _ _ h.1, k2.1⟩, fun c' hc' => ?_⟩
    rcases List.mem_cons.1 hc' with rfl | hc'
    · trivial
    · exact k2.2 _ hc'
theorem frzV_den {H1 : IH} {v : V} {u : Value} (hle : HLe H H1) (hlt : v.lt nx) (hr : ∀ j ∈ ownV v, ∀ (t : Ty) (xs : List t.T), lookO ob j = some (.row t xs) → Rd H1 (.sl t) xs [ρ j]) (h : DenV ρ H v u) : DenV ρ H1 (frzV (lookO ob) v) u ∧ (frzV (lookO ob) v).lt nx := by
  cases v with
  | one c => exact frzC_den (nx := nx) hle hlt hr h
  | agg cs =>
    obtain ⟨vs, rfl, h1⟩ := h
    obtain ⟨k1, k2⟩ := frzChs_den (nx := nx) hle hlt hr h1
    exact ⟨⟨vs, rfl, k1⟩, k2⟩
theorem StepOk.mono {P : Program} {K K' : Value → World → Prop} (h : StepOk P o a w K) (hk : ∀ v w', K v w' → K' v w') : StepOk P o a w K' := by
  rcases h with ⟨v, w', h1, h2⟩ | ⟨w', h1, h2⟩ | ⟨f, args, h1, h2⟩
  · exact .inl ⟨v, w', h1, hk _ _ h2⟩
  · exact .inr (.inl ⟨w', h1, hk _ _ h2⟩)
  · exact .inr (.inr ⟨f, args, h1, h2.mono fun e w' ⟨v, hv, hK⟩ => ⟨v, hv, hk _ _ hK⟩⟩)
theorem sound_store_fz (hE : EnvOk E) (I : Inv w0 B ρ H ob nx w) (hv : EvOk ρ H nx ev a) {T : TypeId} {x y : Operand} {d : TD} {c : C} {t : Ty} {xs : List t.T} {ps : List Prop} {id j : Nat} {p : AObj} (ho : o.op = .store T x y) (hT : E.tt T = some d)
    (hx : (ev x).bind one? = some c) (hy : (ev y).bind val? = some (.one (.own j))) (hsz : chsSz (Ch.chs (.one (.own j))) = d.sz) (hj : lookO ob j = some (.row t xs))
    (hl : storeC (delO j (lookO ob)) c d.sz [.one (.sl t xs)] = some (ps, id, p)) (hr : r = ⟨ps, none, [(id, some p), (j, none)]⟩) (hc : ∀ q ∈ r.cs, q) : StepOk E.P o a w (Post w0 B ob nx ρ H r) := by
  subst hr
  obtain ⟨H1, hle, I1, hrd⟩ := freeze_row I hj
  obtain ⟨k1, k2⟩ := hv.one hx
  have e : a.eval y = ρ j := (hv.val hy).1
  have := sound_store0 (o := o) (a := a) (r := ⟨ps, none, [(id, some p)]⟩) (v := .one (.sl t xs)) hE I1 ho hT (k1.mono (REq.refl _ _) hle k2) (by rw [e]; exact hrd) trivial hsz hl rfl hc
  refine this.mono fun v w' hp => ?_
  obtain ⟨ρ', H', h1, h2, h3, h4⟩ := hp
  exact ⟨ρ', H', h1, hle.trans h2, h3, h4⟩
theorem sound_alloc (hE : EnvOk E) (I : Inv w0 B ρ H ob nx w) {T : TypeId} {d : TD} (ho : o.op = .alloc T) (hT : E.tt T = some d)
    (hr : r = ⟨[], some (.val (.one (.ptr nx 0))), [(nx, some (.box d.zero))]⟩) : StepOk E.P o a w (Post w0 B ob nx ρ H r) := by
  subst hr
  obtain ⟨i, z, hi, h1, h2, h3, h4, _⟩ := (hE.tt T d hT).info
  refine .inl ⟨_, _, ?_, post_box (e := T) I (h4 ρ H) (fun c hc => ((hE.tt T d hT).lt c hc).mono (by omega))⟩
  simp [execOp, ho, Instr.alloc, zeroValue, typeInfo, hi, h3, newVar, newRow]
theorem sound_box (I : Inv w0 B ρ H ob nx w) (hv : EvOk ρ H nx ev a) {T : TypeId} {x : Operand} {v : V} (ho : o.op = .box T x) (hx : (ev x).bind val? = some v)
    (hr : r = ⟨[], some (.val (.one (.ptr nx 0))), [(nx, some (.box (Ch.chs v)))]⟩) : StepOk E.P o a w (Post w0 B ob nx ρ H r) := by
  subst hr
  obtain ⟨n1, n2⟩ := hv.val hx
  refine .inl ⟨_, _, ?_, post_box (e := T) I (n1.cells I.one) (chs_lt n2)⟩
  simp [execOp, ho, Instr.box, newVar, newRow]
theorem sound_nilCheck (I : Inv w0 B ρ H ob nx w) (hv : EvOk ρ H nx ev a) {x : Operand} {c : C} (ho : o.op = .nilCheck x) (hx : (ev x).bind one? = some c)
    (hk : (∃ i j, c = .ptr i j) ∨ (∃ i j k l m, c = .el i j k l m) ∨ (∃ t y, c = .ref t y) ∨ ∃ f p q, c = .fn f p q) (hr : rc c = some r) : StepOk E.P o a w (Post w0 B ob nx ρ H r) := by
  obtain ⟨k1, k2⟩ := hv.one hx
  refine ok_rc I hr (v := a.eval x) ?_ k1 k2
  rcases hk with ⟨i, j, rfl⟩ | ⟨i, j, k, l, m, rfl⟩ | ⟨t, y, rfl⟩ | ⟨f, p, q, rfl⟩
  · obtain ⟨b, _, h⟩ := k1; simp [execOp, ho, h]
  · obtain ⟨b, _, h⟩ := k1; simp [execOp, ho, h]
  · obtain ⟨b, _, _, _, _, h, _⟩ := k1; simp [execOp, ho, h]
  · obtain ⟨b, _, h, _⟩ := k1; simp [execOp, ho, h]
theorem field_get {P : Program} {T : TypeId} {d : TD} {fs : List (Nat × Nat × Bool)} (hT : TDok P T d) (hk : d.kind = .strct fs) {i off n : Nat} {ag : Bool} (hi : fs[i]? = some (off, n, ag)) :
    ∃ fields f, P.underlying T = some (.struct fields) ∧ fields[i]? = some f ∧ f.offset = off ∧ P.cellsOf f.type = n ∧ n ≠ 0 ∧ aggOf P f.type = ag ∧ (∃ u, P.underlying f.type = some u) ∧ ∃ fi, P.info? f.type = some fi ∧ fi.size = n := by
  obtain ⟨fields, h1, h2, h3⟩ := hT.strct fs hk
  rw [← h2, List.getElem?_map] at hi
  obtain ⟨f, hf, he⟩ := Option.map_eq_some_iff.1 hi
  cases he
  obtain ⟨g1, g2, g3⟩ := h3 f (List.mem_of_getElem? hf)
  obtain ⟨fi, hfi⟩ := Option.isSome_iff_exists.1 g2
  refine ⟨fields, f, h1, by simpa using hf, rfl, rfl, g1, rfl, Option.isSome_iff_exists.1 g3, fi, hfi, ?_⟩
  simp [Program.cellsOf, hfi]
theorem run_fieldAt {P : Program} {T : TypeId} {d : TD} {fs : List (Nat × Nat × Bool)} (hT : TDok P T d) (hk : d.kind = .strct fs) {i off n : Nat} {ag : Bool} (hi : fs[i]? = some (off, n, ag)) (g p : Nat) :
    (Instr.fieldAt T (.pointer (some ⟨g, p, none⟩)) i).run P w = .ok (.pointer (some ⟨g, p + off, none⟩)) w := by
  obtain ⟨fields, f, h1, h2, h3, h4, h5, _, _, fi, h6, h7⟩ := field_get hT hk hi
  have h8 : fi.size ≠ 0 := by omega
  subst h3
  simp [Instr.fieldAt, run_underlying h1, h2, Instr.sureAddr, fieldPlace, sizeOf, typeInfo, h6, h8, addr_add]
theorem sound_fieldAddr (hE : EnvOk E) (I : Inv w0 B ρ H ob nx w) (hv : EvOk ρ H nx ev a) {T : TypeId} {x : Operand} {i : Nat} {d : TD} {fs : List (Nat × Nat × Bool)} {c c' : C} {off n : Nat} {ag : Bool} (ho : o.op = .fieldAddr T x i) (hT : E.tt T = some d)
    (hk : d.kind = .strct fs) (hx : (ev x).bind one? = some c) (hi : fs[i]? = some (off, n, ag))
    (hc : (∃ id p, c = .ptr id p ∧ c' = .ptr id (p + off)) ∨ (∃ id p z j s, c = .el id p z j s ∧ c' = .el id p z j (s + off)) ∨ ∃ t y u, c = .ref t y ∧ subT t y off n = some u ∧ c' = .ref u.1 u.2)
    (hr : rc c' = some r) : StepOk E.P o a w (Post w0 B ob nx ρ H r) := by
  obtain ⟨k1, k2⟩ := hv.one hx
  have run : ∀ g p, a.eval x = .pointer (some ⟨g, p, none⟩) → (execOp a.eval o).run E.P w = .ok (.value (.pointer (some ⟨g, p + off, none⟩))) w := by
    intro g p h
    simp [execOp, ho, h, run_fieldAt (hE.tt T d hT) hk hi g p]
  rcases hc with ⟨id, p, rfl, rfl⟩ | ⟨id, p, z, j, s, rfl, rfl⟩ | ⟨t, y, u, rfl, hs, rfl⟩
  · obtain ⟨b, h1, h2⟩ := k1
    exact ok_rc I hr (run _ _ h2) ⟨b, h1, rfl⟩ k2
  · obtain ⟨b, h1, h2⟩ := k1
    exact ok_rc I hr (run _ _ h2) ⟨b, h1, by simp [Nat.add_assoc]⟩ k2
  · obtain ⟨b, p, cc, e, fr, h1, h2, h3⟩ := k1
    obtain ⟨q1, q2⟩ := subT_den t y off n hs h3
    have hl := Rd.len _ _ _ q2
    have hl3 := Rd.len _ _ _ h3
    obtain ⟨_, _, _, _, _, _, hn0, _⟩ := field_get (hE.tt T d hT) hk hi
    have hle : off + n ≤ t.sz := by
      simp only [List.length_take, List.length_drop, hl3] at hl
      rw [q1] at hl; omega
    rw [seg_seg hle] at q2
    exact ok_rc I hr (run _ _ h1) ⟨b, p + off, cc, e, fr, rfl, h2, by rw [q1]; exact q2⟩ trivial
end
end Go.Sx

/- The engine's steps are right: indexes, slices, lengths. -/
namespace Go.Sx
open Go.RowKit
section
variable {E : Env} {w0 : Base} {B : Nat} {ρ : Nat → Value} {H : IH} {ob : List (Nat × Option AObj)} {nx : Nat} {w : World} {ev : Operand → Option SV} {a : Act} {o : Oper} {r : Res}
def Shows (w : World) (H : IH) (t : Ty) (xs : List t.T) (v : Value) : Prop :=
  ∃ a cap, v = .slice a xs.length cap ∧ xs.length ≤ cap ∧ (xs.length = 0 ∨ ∃ b off c e fr, a = some ⟨b, off, none⟩ ∧ w.heap[b]? = some (.cells c e fr) ∧
    off + xs.length * t.sz ≤ c.size ∧ ∀ i (h : i < xs.length), Rd H t xs[i] (seg c (off + i * t.sz) t.sz))
theorem rd_shows (hag : Agree H w) {t : Ty} {xs : List t.T} {v : Value} (hz : t.sz ≠ 0) (h : Rd H (.sl t) xs [v]) : Shows w H t xs v := by
  obtain ⟨a, cap, h1, h2, h3⟩ := h
  cases h1
  refine ⟨a, cap, rfl, h2, ?_⟩
  rcases h3 with h3 | ⟨b, off, c, e, fr, k1, k2, k3⟩
  · exact .inl h3
  · by_cases hl : xs.length = 0
    · exact .inl hl
    · refine .inr ⟨b, off, c, e, fr, k1, hag _ _ k2, ?_, k3⟩
      have hlast := Rd.len _ _ _ (k3 (xs.length - 1) (by omega))
      unfold seg at hlast
      simp only [List.length_take, List.length_drop, Array.length_toList] at hlast
      have e1 : xs.length * t.sz = (xs.length - 1) * t.sz + t.sz := by
        rw [← Nat.succ_mul]; congr 1; omega
      omega
theorem own_shows {t : Ty} {xs : List t.T} {v : Value} (h : OwnRow w B H v t xs) : Shows w H t xs v := by
  rcases h with ⟨rfl, rfl⟩ | ⟨g, cap, cur, e, k1, k2, k3, ⟨_, _, k4⟩, k5, k6, k7, k8⟩
  · exact ⟨none, 0, rfl, Nat.le_refl _, .inl rfl⟩
  · refine ⟨_, cap, k1, k5, .inr ⟨g, 0, cur, e, _, rfl, k4, ?_, fun i hi => by rw [Nat.zero_add]; exact k8 i hi⟩⟩
    have := Nat.mul_le_mul_right t.sz k5
    omega
theorem Shows.sub {t : Ty} {xs : List t.T} {b off : Nat} {c : Array Value} {e : TypeId} {fr : Nat × Nat} {lo n cap : Nat} (hg : w.heap[b]? = some (.cells c e fr)) (hle : off + xs.length * t.sz ≤ c.size)
    (hr : ∀ i (h : i < xs.length), Rd H t xs[i] (seg c (off + i * t.sz) t.sz)) (hn : lo + n ≤ xs.length) (hcap : n ≤ cap) : Shows w H t ((xs.drop lo).take n) (.slice (some ⟨b, off + lo * t.sz, none⟩) n cap) := by
  have hl : ((xs.drop lo).take n).length = n := by simp; omega
  have hm : (lo + n) * t.sz ≤ xs.length * t.sz := Nat.mul_le_mul_right _ hn
  rw [Nat.add_mul] at hm
  refine ⟨_, cap, by rw [hl], by rw [hl]; exact hcap, .inr ⟨b, off + lo * t.sz, c, e, fr, rfl, hg, by rw [hl]; omega, fun i hi => ?_⟩⟩
  have hi' : i < n := by rw [hl] at hi; exact hi
  have := hr (lo + i) (by omega)
  simp only [List.getElem_take, List.getElem_drop]
  rw [show off + lo * t.sz + i * t.sz = off + (lo + i) * t.sz by rw [Nat.add_mul]; omega]
  exact this
theorem rowOf_ok (I : Inv w0 B ρ H ob nx w) {c : C} {t : Ty} {xs : List t.T} {v : Value} (h : rowOf (lookO ob) c = some ⟨t, xs⟩) (hz : (∃ u ys, c = .sl u ys) → t.sz ≠ 0) (hd : DenC ρ H c v) (hn : ∀ id off sz lo n, c = .view id off sz lo n → n = xs.length) : Shows w H t xs v := by
  unfold rowOf at h
  split at h
  · cases h; exact rd_shows I.agree (hz ⟨_, _, rfl⟩) hd
  · rename_i id
    split at h
    · rename_i t' xs' hrow
      cases h
      rw [show v = ρ id from hd]
      exact own_shows (I.objs _ _ hrow).2.2
    · cases h
  · rename_i id off sz lo n
    have hnx := hn _ _ _ _ _ rfl
    split at h
    · rename_i t' xs' hrow
      split at h
      · rename_i hk
        obtain ⟨rfl, rfl⟩ := hk
        cases h
        rcases hd with ⟨b, cap, h1, rfl, h3⟩ | ⟨h1, a, cap, rfl⟩
        · have hlen : n ≤ xs'.length - lo := by rw [hnx]; simp; omega
          rcases (I.objs _ _ hrow).2.2 with ⟨k1, k2⟩ | ⟨g, cap', cur, e, k1, k2, k3, ⟨_, _, k4⟩, k5, k6, k7, k8⟩
          · rw [k1] at h1; rcases h1 with h | ⟨_, _, h⟩ | h <;> cases h
          · have hgb : b = g := by rw [k1] at h1; rcases h1 with h | ⟨_, _, h⟩ | h <;> cases h; rfl
            subst hgb
            by_cases hn0 : n = 0
            · subst hn0
              exact ⟨some ⟨b, 0 + lo * t.sz, none⟩, cap, by simp, by simp, .inl (by simp)⟩
            · have := Nat.mul_le_mul_right t.sz k5
              exact Shows.sub (xs := xs') k4 (by omega) (fun i hi => by rw [Nat.zero_add]; exact k8 i hi) (by omega) h3
        · subst h1
          exact ⟨a, cap, by simp, by simp, .inl (by simp)⟩
      · cases h
    · rename_i bs hbox
      split at h
      · rename_i m t' xs' rest hdr
        split at h
        · rename_i hk
          subst hk
          cases h
          rcases hd with ⟨b, cap, h1, rfl, h3⟩ | ⟨h1, a, cap, rfl⟩
          · have hlen : n ≤ xs'.length - lo := by rw [hnx]; simp; omega
            obtain ⟨g, cur, e, k1, k2, k3, k4⟩ := box_den I hbox
            have hgb : b = g := by rw [k1] at h1; rcases h1 with h | ⟨_, _, h⟩ | h <;> cases h; rfl
            subst hgb
            by_cases hn0 : n = 0
            · subst hn0
              exact ⟨some ⟨b, off + lo * t.sz, none⟩, cap, by simp, by simp, .inl (by simp)⟩
            · refine Shows.sub (xs := xs') k2 ?_ (fun i hi => (arr_elem k3 hdr hi).1) (by omega) h3
              have := (arr_elem k3 hdr (i := xs'.length - 1) (by omega)).2.1
              rwa [show xs'.length - 1 + 1 = xs'.length by omega] at this
          · subst h1
            exact ⟨a, cap, by simp, by simp, .inl (by simp)⟩
        · cases h
      · cases h
    · cases h
  · cases h
end
end Go.Sx

/- The engine's steps are right: indexes, slices, conversions, comparisons. -/
namespace Go.Sx
open Go.RowKit
theorem sc_int {P : Program} {t : TypeId} {d : TD} {k : IntKind} (h : TDok P t d) (h1 : d.kind = .sc) (h2 : d.ty = some (.int k)) : P.underlying t = some (.int k) := by
  have := h.sc _ h1 h2
  unfold scOk at this
  split at this <;> simp_all
theorem sc_str {P : Program} {t : TypeId} {d : TD} (h : TDok P t d) (h1 : d.kind = .sc) (h2 : d.ty = some .str) : P.underlying t = some .string := by
  have := h.sc _ h1 h2
  unfold scOk at this
  split at this <;> simp_all
section
variable {E : Env} {w0 : Base} {B : Nat} {ρ : Nat → Value} {H : IH} {ob : List (Nat × Option AObj)} {nx : Nat} {w : World} {ev : Operand → Option SV} {a : Act} {o : Oper} {r : Res}
theorem lenOf_ok (I : Inv w0 B ρ H ob nx w) {c : C} {n : Nat} {v : Value} (h : lenOf (lookO ob) c = some n) (hd : DenC ρ H c v) : ∃ a cap, v = .slice a n cap ∧ n ≤ cap := by
  cases c <;> simp only [lenOf, rowOf, Option.map_none, Option.map_some, reduceCtorEq, Option.some.injEq] at h
  case nils => subst h; exact ⟨none, 0, hd, Nat.le_refl _⟩
  case view id off sz lo m =>
    subst h
    rcases hd with ⟨b, cap, _, h2, h3⟩ | ⟨h1, a, cap, h2⟩
    · exact ⟨_, cap, h2, h3⟩
    · exact ⟨a, cap, by rw [h1]; exact h2, by omega⟩
  case sl t xs =>
    subst h
    obtain ⟨a, cap, h1, h2, _⟩ := hd
    cases h1
    exact ⟨a, cap, rfl, h2⟩
  case own id =>
    split at h
    · rename_i t xs hrow
      simp only [Option.map_some, Option.some.injEq] at h
      subst h
      rw [show v = ρ id from hd]
      obtain ⟨a, cap, h1, h2, _⟩ := own_shows (I.objs _ _ hrow).2.2
      exact ⟨a, cap, h1, h2⟩
    · simp at h
theorem lenOf_nil (I : Inv w0 B ρ H ob nx w) {c : C} {n : Nat} {v : Value} (h : lenOf (lookO ob) c = some n) (hd : DenC ρ H c v) : ∃ a cap, v = .slice a n cap ∧ (a = none → n = 0) := by
  cases c <;> simp only [lenOf, rowOf, Option.map_none, Option.map_some, reduceCtorEq, Option.some.injEq] at h
  case nils => subst h; exact ⟨none, 0, hd, fun _ => rfl⟩
  case view id off sz lo m =>
    subst h
    rcases hd with ⟨b, cap, _, h2, h3⟩ | ⟨h1, a, cap, h2⟩
    · exact ⟨_, cap, h2, fun h => by cases h⟩
    · exact ⟨a, cap, by rw [h1]; exact h2, fun _ => h1⟩
  case sl t xs =>
    subst h
    obtain ⟨a, cap, h1, h2, h3⟩ := hd
    cases h1
    refine ⟨a, cap, rfl, fun ha => ?_⟩
    rcases h3 with h3 | ⟨_, _, _, _, _, h3, _⟩
    · exact h3
    · rw [ha] at h3; cases h3
  case own id =>
    split at h
    · rename_i t xs hrow
      simp only [Option.map_some, Option.some.injEq] at h
      subst h
      rw [show v = ρ id from hd]
      obtain ⟨a, cap, h1, h2, h3⟩ := own_shows (I.objs _ _ hrow).2.2
      refine ⟨a, cap, h1, fun ha => ?_⟩
      rcases h3 with h3 | ⟨_, _, _, _, _, h3, _⟩
      · exact h3
      · rw [ha] at h3; cases h3
    · simp at h
theorem sound_len_slice {T e : TypeId} {d : TD} {x : Operand} {c : C} {n : Nat} (hE : EnvOk E) (I : Inv w0 B ρ H ob nx w) (hv : EvOk ρ H nx ev a) (ho : o.op = .call ⟨.builtin .len, #[x], #[T]⟩) (hT : E.tt T = some d) (hk : d.kind = .slc e)
    (hx : (ev x).bind one? = some c) (hl : lenOf (lookO ob) c = some n) (hr : rc (.int .i64 n) = some r) : StepOk E.P o a w (Post w0 B ob nx ρ H r) := by
  obtain ⟨k1, k2⟩ := hv.one hx
  obtain ⟨b, cap, h1, _⟩ := lenOf_ok I hl k1
  refine ok_rc I hr (v := .int .i64 n) ?_ rfl trivial
  simp [execOp, ho, resolve, invoke, builtin, Builtin.len_, run_underlying ((hE.tt T d hT).slc e hk), h1, goInt]
theorem sound_len_str {T : TypeId} {d : TD} {x : Operand} {l : List UInt8} (hE : EnvOk E) (I : Inv w0 B ρ H ob nx w) (hv : EvOk ρ H nx ev a) (ho : o.op = .call ⟨.builtin .len, #[x], #[T]⟩) (hT : E.tt T = some d) (hk : d.kind = .sc) (ht : d.ty = some .str)
    (hx : (ev x).bind one? = some (.str l)) (hr : rc (.int .i64 l.length) = some r) : StepOk E.P o a w (Post w0 B ob nx ρ H r) := by
  obtain ⟨k1, k2⟩ := hv.one hx
  have k1' : a.eval x = .string ⟨⟨l⟩⟩ := k1
  refine ok_rc I hr (v := .int .i64 l.length) ?_ rfl trivial
  have hs : (⟨⟨l⟩⟩ : ByteArray).size = l.length := rfl
  simp [execOp, ho, resolve, invoke, builtin, Builtin.len_, run_underlying (sc_str (hE.tt T d hT) hk ht), k1', goInt, hs]
theorem run_indexAt_slice {P : Program} {T e : TypeId} {k : IntKind} {i : Int} {g off n cap sz : Nat} (hu : P.underlying T = some (.slice e)) (hs : ∀ w, (sizeOf e).run P w = .ok sz w) (h0 : 0 ≤ i) (h1 : i < n) :
    (Instr.indexAt T (.slice (some ⟨g, off, none⟩) n cap) (.int k i)).run P w = .ok (.pointer (some ⟨g, off + i.toNat * sz, none⟩)) w := by
  simp [Instr.indexAt, asIntOf, run_underlying hu, h0, h1, hs, addr_add]
theorem run_indexAt_arr {P : Program} {T e : TypeId} {k : IntKind} {i : Int} {g off n sz : Nat} (hu : P.underlying T = some (.array n e)) (hs : ∀ w, (sizeOf e).run P w = .ok sz w) (h0 : 0 ≤ i) (h1 : i < n) :
    (Instr.indexAt T (.pointer (some ⟨g, off, none⟩)) (.int k i)).run P w = .ok (.pointer (some ⟨g, off + i.toNat * sz, none⟩)) w := by
  simp [Instr.indexAt, asIntOf, run_underlying hu, Instr.sureAddr, h0, h1, hs, addr_add]
theorem run_idx {P : Program} {T : TypeId} {x y : Operand} {res : Value} (ho : o.op = .indexAddr T x y) (h : (Instr.indexAt T (a.eval x) (a.eval y)).run P w = .ok res w) : (execOp a.eval o).run P w = .ok (.value res) w := by
  simp [execOp, ho, h]
theorem sound_indexAddr_arr (hE : EnvOk E) (I : Inv w0 B ρ H ob nx w) (hv : EvOk ρ H nx ev a) {T e : TypeId} {x y : Operand} {d de : TD} {c c' : C} {n : Nat} {k : IntKind} {i : Int} (ho : o.op = .indexAddr T x y) (hT : E.tt T = some d) (hk : d.kind = .arr n e)
    (he : E.tt e = some de) (hx : (ev x).bind one? = some c) (hy : (ev y).bind one? = some (.int k i))
    (hcase : (∃ id off, c = .ptr id off ∧ c' = .el id off de.sz i.toNat 0) ∨ ∃ t xs, c = .ref (.arr n t) xs ∧ de.sz = t.sz ∧ c' = .ref t (List.getD xs i.toNat t.d))
    (hr : rcc (0 ≤ i ∧ i < n) c' = some r) (hc : ∀ q ∈ r.cs, q) : StepOk E.P o a w (Post w0 B ob nx ρ H r) := by
  obtain ⟨k1, k2⟩ := hv.one hx
  obtain ⟨m1, _⟩ := hv.one hy
  have m1' : a.eval y = .int k i := m1
  obtain ⟨h0, h1⟩ := rcc_holds hr hc
  have hu := (hE.tt T d hT).arr n e hk
  have hs : ∀ w, (sizeOf e).run E.P w = .ok de.sz w := fun w => run_sizeOf (hE.tt e de he)
  rcases hcase with ⟨id, off, rfl, rfl⟩ | ⟨t, xs, rfl, hz, rfl⟩
  · obtain ⟨b, q1, q2⟩ := k1
    refine ok_rcc I hr (run_idx ho (by rw [q2, m1']; exact run_indexAt_arr hu hs h0 h1)) ⟨b, .inl q1, by simp⟩ k2
  · obtain ⟨b, off, cc, ee, fr, q1, q2, q3⟩ := k1
    refine ok_rcc I hr (run_idx ho (by rw [q1, m1']; exact run_indexAt_arr hu hs h0 h1)) ?_ trivial
    obtain ⟨z1, z2, z3⟩ := q3
    have hi : i.toNat < List.length xs := by rw [z1]; omega
    have hrd := z3 i.toNat hi
    have hm : (i.toNat + 1) * t.sz ≤ n * t.sz := Nat.mul_le_mul_right _ (by omega)
    rw [Nat.succ_mul] at hm
    simp only [Ty.sz] at hrd
    rw [seg_seg (by omega)] at hrd
    refine ⟨b, off + i.toNat * de.sz, cc, ee, fr, rfl, q2, ?_⟩
    rw [getD_get hi, hz]
    exact hrd
theorem sound_indexAddr_slc (hE : EnvOk E) (I : Inv w0 B ρ H ob nx w) (hv : EvOk ρ H nx ev a) {T e : TypeId} {x y : Operand} {d de : TD} {c c' : C} {n : Nat} {k : IntKind} {i : Int} (ho : o.op = .indexAddr T x y) (hT : E.tt T = some d) (hk : d.kind = .slc e)
    (he : E.tt e = some de) (hx : (ev x).bind one? = some c) (hy : (ev y).bind one? = some (.int k i))
    (hcase : (∃ t xs, c = .sl t xs ∧ de.sz = t.sz ∧ n = xs.length ∧ c' = .ref t (xs.getD i.toNat t.d)) ∨ (∃ id t xs, c = .own id ∧ lookO ob id = some (.row t xs) ∧ de.sz = t.sz ∧ n = xs.length ∧ c' = .el id 0 t.sz i.toNat 0) ∨
      ∃ id off sz lo, c = .view id off sz lo n ∧ de.sz = sz ∧ c' = .el id off sz (lo + i.toNat) 0)
    (hr : rcc (0 ≤ i ∧ i < n) c' = some r) (hc : ∀ q ∈ r.cs, q) : StepOk E.P o a w (Post w0 B ob nx ρ H r) := by
  obtain ⟨k1, k2⟩ := hv.one hx
  obtain ⟨m1, _⟩ := hv.one hy
  have m1' : a.eval y = .int k i := m1
  obtain ⟨h0, h1⟩ := rcc_holds hr hc
  have hu := (hE.tt T d hT).slc e hk
  have hs : ∀ w, (sizeOf e).run E.P w = .ok de.sz w := fun w => run_sizeOf (hE.tt e de he)
  have hpos := (hE.tt e de he).pos
  rcases hcase with ⟨t, xs, rfl, hz, rfl, rfl⟩ | ⟨id, t, xs, rfl, hrow, hz, rfl, rfl⟩ | ⟨id, off, sz, lo, rfl, hz, rfl⟩
  · have hi : i.toNat < xs.length := by omega
    obtain ⟨aa, cap, q1, q2, q3⟩ := k1
    simp only [List.cons.injEq, and_true] at q1
    rcases q3 with q3 | ⟨b, off, cc, ee, fr, rfl, g2, g3⟩
    · omega
    · refine ok_rcc I hr (run_idx ho (by rw [q1, m1']; exact run_indexAt_slice hu hs h0 h1)) ?_ trivial
      refine ⟨b, off + i.toNat * de.sz, cc, ee, fr, rfl, g2, ?_⟩
      rw [getD_get hi, hz]
      exact g3 i.toNat hi
  · have hi : i.toNat < xs.length := by omega
    rcases (I.objs _ _ hrow).2.2 with ⟨g1, g2⟩ | ⟨g, cap, cur, ee, g1, g2, g3, g4, g5, g6, g7, g8⟩
    · subst g2; simp at hi
    · have hval : a.eval x = .slice (some ⟨g, 0, none⟩) xs.length cap := by rw [show a.eval x = ρ id from k1]; exact g1
      refine ok_rcc I hr (run_idx ho (by rw [hval, m1']; exact run_indexAt_slice hu hs h0 h1)) ⟨g, .inr (.inl ⟨_, _, g1⟩), by rw [hz]; simp⟩ k2
  · rcases k1 with ⟨b, cap, q1, q2, q3⟩ | ⟨q1, _⟩
    · refine ok_rcc I hr (run_idx ho (by rw [q2, m1']; exact run_indexAt_slice hu hs h0 h1)) ⟨b, q1, ?_⟩ k2
      rw [hz, Nat.add_mul]; simp; omega
    · omega
theorem run_bounds {P : Program} {isSlice : Bool} {len cap : Nat} {lo hi : Option Value} {l h : Int} (hlo : (lo = none ∧ l = 0) ∨ ∃ k, lo = some (.int k l)) (hhi : (hi = none ∧ h = len) ∨ ∃ k, hi = some (.int k h)) (h0 : 0 ≤ l) (h1 : l ≤ h) (h2 : h ≤ cap) :
    (Instr.sliceBounds isSlice len cap lo hi none).run P w = .ok (l.toNat, h.toNat, cap) w := by
  have eh : (h.toNat : Int) = h := Int.toNat_of_nonneg (by omega)
  rcases hlo with ⟨rfl, rfl⟩ | ⟨k, rfl⟩ <;> rcases hhi with ⟨rfl, rfl⟩ | ⟨k', rfl⟩
  · simp [Instr.sliceBounds]
  · simp [Instr.sliceBounds, run_sliceBound, (by omega : 0 ≤ h), h2]
  · simp [Instr.sliceBounds, run_sliceBound, h0, h1]
  · simp [Instr.sliceBounds, run_sliceBound, (by omega : 0 ≤ h), h2, h0, eh, h1]
theorem bound_ok (hv : EvOk ρ H nx ev a) {x : Option Operand} {d l : Int} (h : bound ev d x = some l) : ((x.map a.eval) = none ∧ l = d) ∨ ∃ k, (x.map a.eval) = some (.int k l) := by
  cases x with
  | none => cases h; exact .inl ⟨rfl, rfl⟩
  | some x =>
    simp only [bound] at h
    split at h
    · rename_i k n hx
      cases h
      exact .inr ⟨k, by rw [Option.map_some, show a.eval x = _ from (hv.one hx).1]⟩
    · cases h
theorem sound_slice_arr (hE : EnvOk E) (I : Inv w0 B ρ H ob nx w) (hv : EvOk ρ H nx ev a) {T e : TypeId} {x : Operand} {lo hi : Option Operand} {d de : TD} {c c' : C} {n : Nat} {l h : Int} {cs : List Prop} (ho : o.op = .slice T x lo hi none) (hT : E.tt T = some d) (hk : d.kind = .arr n e)
    (he : E.tt e = some de) (hx : (ev x).bind one? = some c) (hl : bound ev 0 lo = some l) (hh : bound ev n hi = some h)
    (hcase : (∃ id off, c = .ptr id off ∧ c' = .view id off de.sz l.toNat (h.toNat - l.toNat)) ∨ ∃ t xs, c = .ref (.arr n t) xs ∧ de.sz = t.sz ∧ c' = .sl t ((List.drop l.toNat xs).take (h.toNat - l.toNat)))
    (hr : r = ⟨cs, some (.val (.one c')), []⟩) (hp : 0 ≤ l ∧ l ≤ h ∧ h ≤ n) : StepOk E.P o a w (Post w0 B ob nx ρ H r) := by
  obtain ⟨k1, k2⟩ := hv.one hx
  obtain ⟨h0, h1, h2⟩ := hp
  have hu := (hE.tt T d hT).arr n e hk
  have hs : ∀ w, (sizeOf e).run E.P w = .ok de.sz w := fun w => run_sizeOf (hE.tt e de he)
  have hb := fun w => run_bounds (P := E.P) (w := w) (isSlice := false) (len := n) (cap := n) (bound_ok hv hl) (bound_ok hv hh) h0 h1 h2
  have run : ∀ g off, a.eval x = .pointer (some ⟨g, off, none⟩) → (execOp a.eval o).run E.P w = .ok (.value (.slice (some (if n = l.toNat then ⟨g, off, none⟩ else ⟨g, off + l.toNat * de.sz, none⟩)) (h.toNat - l.toNat) (n - l.toNat))) w := by
    intro g off hg
    have := hb w
    simp [execOp, ho, Instr.sliceAt, run_underlying hu, Instr.sureAddr, hg, this, hs, addr_add]
  rcases hcase with ⟨id, off, rfl, rfl⟩ | ⟨t, xs, rfl, hz, rfl⟩
  · obtain ⟨b, q1, q2⟩ := k1
    refine ok_same I (run _ _ q2) (sv := .val (.one (.view id off de.sz l.toNat (h.toNat - l.toNat)))) ?_ k2 hr
    by_cases hn : n = l.toNat
    · exact .inr ⟨by omega, some ⟨b, off, none⟩, n - l.toNat, by simp [hn]; omega⟩
    · exact .inl ⟨b, n - l.toNat, .inl q1, by simp [hn], by omega⟩
  · obtain ⟨b, off, cc, ee, fr, q1, q2, q3⟩ := k1
    refine ok_same I (run _ _ q1) (sv := .val (.one (.sl t ((List.drop l.toNat xs).take (h.toNat - l.toNat))))) ?_ trivial hr
    obtain ⟨z1, z2, z3⟩ := q3
    have hln : ((List.drop l.toNat xs).take (h.toNat - l.toNat)).length = h.toNat - l.toNat := by simp; omega
    by_cases hn : n = l.toNat
    · have e0 : h.toNat - l.toNat = 0 := by omega
      rw [e0]
      exact ⟨some ⟨b, off, none⟩, n - l.toNat, by simp [hn], by simp, .inl (by simp)⟩
    · refine ⟨some ⟨b, off + l.toNat * de.sz, none⟩, n - l.toNat, by rw [hln]; simp [hn], by rw [hln]; omega, .inr ⟨b, off + l.toNat * de.sz, cc, ee, fr, rfl, q2, fun i hi => ?_⟩⟩
      rw [hln] at hi
      have hrd := z3 (l.toNat + i) (by omega)
      have hm : (l.toNat + i + 1) * t.sz ≤ n * t.sz := Nat.mul_le_mul_right _ (by omega)
      rw [Nat.succ_mul] at hm
      simp only [Ty.sz] at hrd
      rw [seg_seg (by omega)] at hrd
      simp only [List.getElem_take, List.getElem_drop]
      rw [hz, Nat.add_assoc, ← Nat.add_mul]
      exact hrd
theorem sound_slice_slc (hE : EnvOk E) (I : Inv w0 B ρ H ob nx w) (hv : EvOk ρ H nx ev a) {T e : TypeId} {x : Operand} {lo hi : Option Operand} {d de : TD} {c c' : C} {n : Nat} {l h : Int} (ho : o.op = .slice T x lo hi none) (hT : E.tt T = some d) (hk : d.kind = .slc e)
    (he : E.tt e = some de) (hx : (ev x).bind one? = some c) (hn : lenOf (lookO ob) c = some n) (hl : bound ev 0 lo = some l) (hh : bound ev n hi = some h) (hsl : sliceC (lookO ob) de.sz c l h = some c')
    (hr : rcc (0 ≤ l ∧ l ≤ h ∧ h ≤ n) c' = some r) (hc : ∀ q ∈ r.cs, q) : StepOk E.P o a w (Post w0 B ob nx ρ H r) := by
  obtain ⟨k1, k2⟩ := hv.one hx
  obtain ⟨h0, h1, h2⟩ := rcc_holds hr hc
  have hu := (hE.tt T d hT).slc e hk
  have hs : ∀ w, (sizeOf e).run E.P w = .ok de.sz w := fun w => run_sizeOf (hE.tt e de he)
  obtain ⟨aa, cap, hval, hcap⟩ := lenOf_ok I hn k1
  have hb := run_bounds (P := E.P) (w := w) (isSlice := true) (len := n) (cap := cap) (bound_ok hv hl) (bound_ok hv hh) h0 h1 (by omega)
  have run : (execOp a.eval o).run E.P w = .ok (.value (.slice (if cap = l.toNat then aa else aa.map (·.add (l.toNat * de.sz))) (h.toNat - l.toNat) (cap - l.toNat))) w := by
    simp [execOp, ho, Instr.sliceAt, Instr.slice, run_underlying hu, hval, hb, hs]
  refine ok_rcc I hr run ?_ ?_
  · unfold sliceC at hsl
    split at hsl
    · rename_i t xs
      split at hsl
      · rename_i hz
        cases hsl
        simp only [lenOf, rowOf, Option.map_some, Option.some.injEq] at hn
        subst hn
        obtain ⟨a2, cap2, q1, q2, q3⟩ := k1
        rw [hval] at q1
        simp only [List.cons.injEq, Value.slice.injEq, and_true] at q1
        obtain ⟨rfl, _, rfl⟩ := q1
        have hln : ((List.drop l.toNat xs).take (h.toNat - l.toNat)).length = h.toNat - l.toNat := by simp; omega
        refine ⟨_, cap - l.toNat, by rw [hln], by rw [hln]; omega, ?_⟩
        by_cases e0 : h.toNat - l.toNat = 0
        · exact .inl (by rw [hln]; exact e0)
        · rcases q3 with q3 | ⟨b, off, cc, ee, fr, rfl, g2, g3⟩
          · omega
          · refine .inr ⟨b, off + l.toNat * de.sz, cc, ee, fr, ?_, g2, fun i hi => ?_⟩
            · rw [if_neg (by omega)]; simp [addr_add]
            · rw [hln] at hi
              have hrd := g3 (l.toNat + i) (by omega)
              simp only [List.getElem_take, List.getElem_drop]
              rw [← hz, Nat.add_assoc, ← Nat.add_mul]
              exact hrd
      · cases hsl
    · cases hsl
      simp only [lenOf, Option.some.injEq] at hn
      subst hn
      have hv0 : a.eval x = .slice none 0 0 := k1
      rw [hval] at hv0
      cases hv0
      show _ = _
      have e1 : l.toNat = 0 := by omega
      have e2 : h.toNat = 0 := by omega
      simp [e1, e2]
    · rename_i id
      split at hsl
      · rename_i t xs hrow
        split at hsl
        · rename_i hz
          cases hsl
          simp only [lenOf, rowOf, hrow, Option.map_some, Option.some.injEq] at hn
          subst hn
          have hv0 : a.eval x = ρ id := k1
          by_cases hcl : cap = l.toNat
          · exact .inr ⟨by omega, _, _, by rw [show h.toNat - l.toNat = 0 by omega]⟩
          · rcases (I.objs _ _ hrow).2.2 with ⟨g1, g2⟩ | ⟨g, cap', cur, ee, g1, g2, g3, g4, g5, g6, g7, g8⟩
            · rw [hval, g1] at hv0
              simp only [Value.slice.injEq] at hv0
              omega
            · rw [hval, g1] at hv0
              cases hv0
              refine .inl ⟨g, cap - l.toNat, .inr (.inl ⟨_, _, g1⟩), ?_, by omega⟩
              rw [if_neg hcl]; simp [addr_add]
        · cases hsl
      · cases hsl
    · rename_i id off z lo' n'
      split at hsl
      · rename_i hz
        subst hz
        cases hsl
        simp only [lenOf, Option.some.injEq] at hn
        subst hn
        by_cases hcl : cap = l.toNat
        · exact .inr ⟨by omega, _, _, by rw [show h.toNat - l.toNat = 0 by omega]⟩
        · rcases k1 with ⟨b, cap', q1, q2, q3⟩ | ⟨q1, a3, cap3, q2⟩
          · rw [hval] at q2
            cases q2
            refine .inl ⟨b, cap - l.toNat, q1, ?_, by omega⟩
            rw [if_neg hcl]
            simp [addr_add, Nat.add_mul, Nat.add_assoc]
          · exact .inr ⟨by omega, _, _, by rw [show h.toNat - l.toNat = 0 by omega]⟩
      · cases hsl
    · cases hsl
  · unfold sliceC at hsl
    split at hsl
    · split at hsl <;> cases hsl; trivial
    · cases hsl; trivial
    · split at hsl
      · split at hsl <;> cases hsl; exact k2
      · cases hsl
    · split at hsl <;> cases hsl; exact k2
    · cases hsl
end
end Go.Sx

/- The engine's steps are right: the smaller operations. -/
namespace Go.Sx
open Go.RowKit
section
variable {E : Env} {w0 : Base} {B : Nat} {ρ : Nat → Value} {H : IH} {ob : List (Nat × Option AObj)} {nx : Nat} {w : World} {ev : Operand → Option SV} {a : Act} {o : Oper} {r : Res}
theorem bytes_extract (s : List UInt8) (l h : Nat) : (⟨⟨s⟩⟩ : ByteArray).extract l h = ⟨⟨(s.drop l).take (h - l)⟩⟩ := by
  apply ByteArray.ext
  rw [ByteArray.data_extract]
  apply Array.ext'
  simp [List.extract_eq_take_drop]
theorem sound_slice_str (hE : EnvOk E) (I : Inv w0 B ρ H ob nx w) (hv : EvOk ρ H nx ev a) {T : TypeId} {x : Operand} {lo hi : Option Operand} {d : TD} {s : List UInt8} {l h : Int} (ho : o.op = .slice T x lo hi none) (hT : E.tt T = some d) (hk : d.kind = .sc) (ht : d.ty = some .str)
    (hx : (ev x).bind one? = some (.str s)) (hl : bound ev 0 lo = some l) (hh : bound ev s.length hi = some h)
    (hr : rcc (0 ≤ l ∧ l ≤ h ∧ h ≤ s.length) (.str ((s.drop l.toNat).take (h.toNat - l.toNat))) = some r) (hc : ∀ q ∈ r.cs, q) : StepOk E.P o a w (Post w0 B ob nx ρ H r) := by
  obtain ⟨k1, k2⟩ := hv.one hx
  have k1' : a.eval x = .string ⟨⟨s⟩⟩ := k1
  obtain ⟨h0, h1, h2⟩ := rcc_holds hr hc
  have hu := sc_str (hE.tt T d hT) hk ht
  have hs : (⟨⟨s⟩⟩ : ByteArray).size = s.length := rfl
  have hb := run_bounds (P := E.P) (w := w) (isSlice := false) (len := s.length) (cap := s.length) (bound_ok hv hl) (bound_ok hv hh) h0 h1 h2
  refine ok_rcc I hr (v := .string ⟨⟨(s.drop l.toNat).take (h.toNat - l.toNat)⟩⟩) ?_ rfl trivial
  rw [← bytes_extract]
  simp [execOp, ho, Instr.sliceAt, Instr.slice, run_underlying hu, k1', hs, hb]
theorem sound_index_str (hE : EnvOk E) (I : Inv w0 B ρ H ob nx w) (hv : EvOk ρ H nx ev a) {T : TypeId} {x y : Operand} {d : TD} {s : List UInt8} {k : IntKind} {i : Int} (ho : o.op = .index T x y) (hT : E.tt T = some d) (hk : d.kind = .sc) (ht : d.ty = some .str)
    (hx : (ev x).bind val? = some (.one (.str s))) (hy : (ev y).bind one? = some (.int k i))
    (hr : rcc (0 ≤ i ∧ i < s.length) (.int .u8 (s.getD i.toNat 0).toNat) = some r) (hc : ∀ q ∈ r.cs, q) : StepOk E.P o a w (Post w0 B ob nx ρ H r) := by
  obtain ⟨k1, k2⟩ := hv.val hx
  have k1' : a.eval x = .string ⟨⟨s⟩⟩ := k1
  have m1 : a.eval y = .int k i := (hv.one hy).1
  obtain ⟨h0, h1⟩ := rcc_holds hr hc
  have hu := sc_str (hE.tt T d hT) hk ht
  have hi : i.toNat < s.length := by omega
  have hget : (⟨⟨s⟩⟩ : ByteArray)[i.toNat]? = some (s.getD i.toNat 0) := by
    rw [getD_get hi]
    show (if h : i.toNat < (⟨⟨s⟩⟩ : ByteArray).size then some _ else none) = _
    rw [dif_pos (show i.toNat < (⟨⟨s⟩⟩ : ByteArray).size from hi)]
    rfl
  refine ok_rcc I hr (v := .int .u8 (s.getD i.toNat 0).toNat) ?_ rfl trivial
  simp only [execOp, ho, Instr.index, k1', m1, asIntOf, Sem.run_bind, Sem.run_pure, Result.andThen_ok, run_underlying hu, h0, if_true, hget]
theorem part_run {P : Program} {T : TypeId} {d : TD} (hT : TDok P T d) {vals : Array Value} {off : Nat} {cs : List Ch} {v : V} (hc : DenChs ρ H cs (seg vals off d.sz)) (hv : mkV d cs = some v) :
    ∃ u, (part T vals off).run P w = .ok u w ∧ DenV ρ H v u := by
  unfold mkV at hv
  cases hagg : d.agg with
  | true =>
    rw [hagg] at hv
    simp only [cond_true] at hv
    cases hv
    refine ⟨.agg (vals.extract off (off + d.sz)), ?_, ?_⟩
    · simp [part, run_isAgg hT, hagg, run_sizeOf hT]
    · refine ⟨seg vals off d.sz, ?_, hc⟩
      congr 1
      apply Array.ext'
      simp [seg, List.extract_eq_take_drop]
  | false =>
    rw [hagg] at hv
    simp only [cond_false] at hv
    split at hv
    · rename_i c
      cases hv
      obtain ⟨u, vs', h1, h2, h3⟩ := hc
      have h0 := seg_get (c := vals) (o := off) (n := d.sz) (j := 0) (v := u) (by rw [h1]; rfl)
      refine ⟨u, ?_, h2⟩
      rw [Nat.add_zero] at h0
      simp [part, run_isAgg hT, hagg, h0]
    · cases hv
theorem sound_index_arr (hE : EnvOk E) (I : Inv w0 B ρ H ob nx w) (hv : EvOk ρ H nx ev a) {T e : TypeId} {x y : Operand} {d de : TD} {n : Nat} {t : Ty} {xs : List t.T} {k : IntKind} {i : Int} {v : V} {cs : List Prop} (ho : o.op = .index T x y) (hT : E.tt T = some d) (hk : d.kind = .arr n e)
    (he : E.tt e = some de) (hx : (ev x).bind val? = some (.agg [.arr n t xs])) (hy : (ev y).bind one? = some (.int k i)) (hz : de.sz = t.sz) (hm : mkV de (toChs t (xs.getD i.toNat t.d)) = some v)
    (hr : r = ⟨cs, some (.val v), []⟩) (hp : 0 ≤ i ∧ i < n) : StepOk E.P o a w (Post w0 B ob nx ρ H r) := by
  obtain ⟨k1, k2⟩ := hv.val hx
  have m1 : a.eval y = .int k i := (hv.one hy).1
  obtain ⟨h0, h1⟩ := hp
  have hu := (hE.tt T d hT).arr n e hk
  obtain ⟨vs, q1, q2, q3⟩ := k1
  have q3' : vs.drop (n * t.sz) = [] := q3
  have hvl : vs.length ≤ n * t.sz := List.drop_eq_nil_iff.1 q3'
  rw [List.take_of_length_le hvl] at q2
  obtain ⟨z1, z2, z3⟩ := q2
  have hi : i.toNat < List.length xs := by rw [z1]; omega
  have hrd := z3 i.toNat hi
  have hmm : (i.toNat + 1) * t.sz ≤ n * t.sz := Nat.mul_le_mul_right _ (by omega)
  rw [Nat.succ_mul] at hmm
  rw [getD_get hi] at hm
  have hseg : (vs.drop (i.toNat * t.sz)).take t.sz = seg ⟨vs⟩ (i.toNat * de.sz) de.sz := by rw [hz]; rfl
  rw [hseg] at hrd
  obtain ⟨u, g1, g2⟩ := part_run (ρ := ρ) (w := w) (hE.tt e de he) (vals := ⟨vs⟩) (off := i.toNat * de.sz) (toChs_den t _ _ hrd) hm
  refine ok_same I (v := u) (sv := .val v) ?_ g2 ?_ hr
  · simp [execOp, ho, Instr.index, q1, m1, asIntOf, run_underlying hu, h0, h1, run_sizeOf (hE.tt e de he), g1]
  · have hlt := toChs_lt nx t xs[i.toNat]
    unfold mkV at hm
    cases hagg : de.agg with
    | true => rw [hagg] at hm; simp only [cond_true] at hm; cases hm; exact hlt
    | false =>
      rw [hagg] at hm
      simp only [cond_false] at hm
      split at hm
      · rename_i c hh; cases hm; rw [hh] at hlt; exact hlt (.one _) (by simp)
      · cases hm
theorem sound_index_cut (hE : EnvOk E) (I : Inv w0 B ρ H ob nx w) (hv : EvOk ρ H nx ev a) {T e : TypeId} {x y : Operand} {d de : TD} {n : Nat} {chs z : List Ch} {k : IntKind} {i : Int} {v : V} {cs : List Prop} (ho : o.op = .index T x y) (hT : E.tt T = some d) (hk : d.kind = .arr n e)
    (he : E.tt e = some de) (hx : (ev x).bind val? = some (.agg chs)) (hy : (ev y).bind one? = some (.int k i)) (hcut : cutCh chs (i.toNat * de.sz) de.sz = some z) (hm : mkV de z = some v)
    (hr : r = ⟨cs, some (.val v), []⟩) (hp : 0 ≤ i ∧ i < n) : StepOk E.P o a w (Post w0 B ob nx ρ H r) := by
  obtain ⟨k1, k2⟩ := hv.val hx
  have m1 : a.eval y = .int k i := (hv.one hy).1
  obtain ⟨h0, h1⟩ := hp
  have hu := (hE.tt T d hT).arr n e hk
  obtain ⟨vs, q1, q2⟩ := k1
  obtain ⟨z1, z2⟩ := cutCh_den hcut q2
  have hseg : (vs.drop (i.toNat * de.sz)).take de.sz = seg ⟨vs⟩ (i.toNat * de.sz) de.sz := rfl
  rw [hseg] at z1
  obtain ⟨u, g1, g2⟩ := part_run (ρ := ρ) (w := w) (hE.tt e de he) (vals := ⟨vs⟩) (off := i.toNat * de.sz) z1 hm
  refine ok_same I (v := u) (sv := .val v) ?_ g2 ?_ hr
  · simp [execOp, ho, Instr.index, q1, m1, asIntOf, run_underlying hu, h0, h1, run_sizeOf (hE.tt e de he), g1]
  · have hlt : ∀ c ∈ z, c.lt nx := fun c hc => k2 c (cutCh_mem hcut c hc)
    unfold mkV at hm
    cases hagg : de.agg with
    | true => rw [hagg] at hm; simp only [cond_true] at hm; cases hm; exact hlt
    | false =>
      rw [hagg] at hm
      simp only [cond_false] at hm
      split at hm
      · rename_i c; cases hm; exact hlt (.one _) (by simp)
      · cases hm
theorem sound_field (hE : EnvOk E) (I : Inv w0 B ρ H ob nx w) (hv : EvOk ρ H nx ev a) {T : TypeId} {x : Operand} {i : Nat} {d : TD} {fs : List (Nat × Nat × Bool)} {chs y : List Ch} {v : V} {off n : Nat} {ag : Bool} (ho : o.op = .field T x i) (hT : E.tt T = some d)
    (hk : d.kind = .strct fs) (hx : (ev x).bind val? = some (.agg chs)) (hi : fs[i]? = some (off, n, ag)) (hcut : cutCh chs off n = some y) (hy : (ag = false ∧ ∃ c, y = [.one c] ∧ v = .one c) ∨ (ag = true ∧ v = .agg y))
    (hr : r = ⟨[], some (.val v), []⟩) : StepOk E.P o a w (Post w0 B ob nx ρ H r) := by
  obtain ⟨k1, k2⟩ := hv.val hx
  obtain ⟨vs, q1, q2⟩ := k1
  obtain ⟨m1, m2⟩ := cutCh_den hcut q2
  obtain ⟨fields, f, g1, g2, g3, g4, g5, e1, ⟨ud, e2⟩, fi, g6, g7⟩ := field_get (hE.tt T d hT) hk hi
  have hlt : ∀ c ∈ y, c.lt nx := fun c hc => k2 c (cutCh_mem hcut c hc)
  have hag : (isAgg f.type).run E.P w = .ok ag w := by
    unfold aggOf at e1
    rw [e2] at e1
    simp only [isAgg, Sem.run_bind, run_underlying e2, Result.andThen_ok]
    rw [← e1]
    cases ud <;> rfl
  subst g3
  rcases hy with ⟨rfl, c, rfl, rfl⟩ | ⟨rfl, rfl⟩
  · obtain ⟨u, vs', h1, h2, h3⟩ := m1
    have hget : vs[f.offset]? = some u := by
      have : ((vs.drop f.offset).take n)[0]? = some u := by rw [h1]; rfl
      rw [List.getElem?_take] at this
      split at this
      · rw [List.getElem?_drop, Nat.add_zero] at this; exact this
      · cases this
    refine ok_same I (v := u) (sv := .val (.one c)) ?_ h2 (hlt (.one c) (by simp)) hr
    simp [execOp, ho, Instr.field, run_underlying g1, g2, q1, asAgg, part, hag, hget]
  · refine ok_same I (v := .agg ((⟨vs⟩ : Array Value).extract f.offset (f.offset + n))) (sv := .val (.agg y)) ?_ ⟨_, ?_, m1⟩ hlt hr
    · simp [execOp, ho, Instr.field, run_underlying g1, g2, q1, asAgg, part, hag, sizeOf, typeInfo, g6, g7]
    · congr 1
      apply Array.ext'
      simp [List.extract_eq_take_drop]
theorem sound_extract (I : Inv w0 B ρ H ob nx w) (hv : EvOk ρ H nx ev a) {x : Operand} {i : Nat} {vs : List V} {v : V} (ho : o.op = .extract x i) (hx : ev x = some (.tup vs)) (hi : vs[i]? = some v) (hr : rv (.val v) = some r) : StepOk E.P o a w (Post w0 B ob nx ρ H r) := by
  obtain ⟨⟨us, k1, k2⟩, k3⟩ := hv x _ hx
  have key : ∀ (vs : List V) (us : List Value) (i : Nat) (v : V), DenVs ρ H vs us → vs[i]? = some v → ∃ u, us[i]? = some u ∧ DenV ρ H v u := by
    intro vs
    induction vs with
    | nil => intro us i v _ h; simp at h
    | cons y ys ih =>
      intro us i v h hi
      obtain ⟨u, us', rfl, h1, h2⟩ := h
      cases i with
      | zero => simp at hi; subst hi; exact ⟨u, rfl, h1⟩
      | succ i => simp at hi; obtain ⟨u', g1, g2⟩ := ih us' i v h2 hi; exact ⟨u', by simpa using g1, g2⟩
  obtain ⟨u, g1, g2⟩ := key vs us i v k2 hi
  refine ok_same I (v := u) (sv := .val v) ?_ g2 (k3 v (List.mem_of_getElem? hi)) (rv_eq hr)
  simp [execOp, ho, Instr.extract, k1, g1]
theorem sound_not (I : Inv w0 B ρ H ob nx w) (hv : EvOk ρ H nx ev a) {T : TypeId} {x : Operand} {b : Bool} (ho : o.op = .unOp .not T x) (hx : (ev x).bind one? = some (.bool b)) (hr : rc (.bool (!b)) = some r) : StepOk E.P o a w (Post w0 B ob nx ρ H r) := by
  have k1 : a.eval x = .bool b := (hv.one hx).1
  exact ok_rc I hr (v := .bool (!b)) (by simp [execOp, ho, k1, Op.unary]) rfl trivial
theorem sound_neg (I : Inv w0 B ρ H ob nx w) (hv : EvOk ρ H nx ev a) {T : TypeId} {x : Operand} {k : IntKind} {n : Int} (ho : o.op = .unOp .neg T x) (hx : (ev x).bind one? = some (.int k n)) (hr : rcc (fits k (-n)) (.int k (-n)) = some r) (hc : ∀ q ∈ r.cs, q) : StepOk E.P o a w (Post w0 B ob nx ρ H r) := by
  have k1 : a.eval x = .int k n := (hv.one hx).1
  have h := rcc_holds hr hc
  refine ok_rcc I hr (v := .int k (-n)) ?_ rfl trivial
  simp [execOp, ho, k1, Op.unary, Op.intArith, fits_wrap h]
theorem sound_convert_int (hE : EnvOk E) (I : Inv w0 B ρ H ob nx w) (hv : EvOk ρ H nx ev a) {S T : TypeId} {x : Operand} {d d' : TD} {k k' : IntKind} {n m : Int} {cs : List Prop} (ho : o.op = .convert S T x) (hS : E.tt S = some d') (hT : E.tt T = some d) (hk : d.kind = .sc) (ht : d.ty = some (.int k))
    (hx : (ev x).bind one? = some (.int k' n)) (hm : k.wrap n = m) (hr : r = ⟨cs, some (.val (.one (.int k m))), []⟩) : StepOk E.P o a w (Post w0 B ob nx ρ H r) := by
  have k1 : a.eval x = .int k' n := (hv.one hx).1
  have hu := sc_int (hE.tt T d hT) hk ht
  obtain ⟨u, hu'⟩ := (hE.tt S d' hS).und
  refine ok_same I (v := .int k m) (sv := .val (.one (.int k m))) ?_ rfl trivial hr
  simp only [execOp, ho, convert, Sem.run_bind, run_underlying hu', run_underlying hu, Result.andThen_ok, k1]
  cases u <;> simp [Conv.intToInt, hm]
theorem sound_convert_str (hE : EnvOk E) (I : Inv w0 B ρ H ob nx w) (hv : EvOk ρ H nx ev a) {S T : TypeId} {x : Operand} {d d' : TD} {l : List UInt8} (ho : o.op = .convert S T x) (hS : E.tt S = some d') (hSk : d'.kind = .sc) (hSt : d'.ty = some .str) (hT : E.tt T = some d) (hk : d.kind = .sc) (ht : d.ty = some .str)
    (hx : (ev x).bind one? = some (.str l)) (hr : rc (.str l) = some r) : StepOk E.P o a w (Post w0 B ob nx ρ H r) := by
  have k1 : a.eval x = .string ⟨⟨l⟩⟩ := (hv.one hx).1
  refine ok_rc I hr (v := .string ⟨⟨l⟩⟩) ?_ rfl trivial
  simp [execOp, ho, convert, run_underlying (sc_str (hE.tt T d hT) hk ht), run_underlying (sc_str (hE.tt S d' hS) hSk hSt), k1]
theorem sound_toArr (hE : EnvOk E) (I : Inv w0 B ρ H ob nx w) (hv : EvOk ρ H nx ev a) {T e : TypeId} {x : Operand} {d de : TD} {n : Nat} {t : Ty} {xs : List t.T} (ho : o.op = .sliceToArrayPointer T x) (hT : E.tt T = some d) (hk : d.kind = .arr n e)
    (he : E.tt e = some de) (ht : de.ty = some t) (hx : (ev x).bind one? = some (.sl t xs)) (hn : n ≠ 0) (hr : rcc (n ≤ xs.length) (.ref (.arr n t) (xs.take n)) = some r) (hc : ∀ q ∈ r.cs, q) : StepOk E.P o a w (Post w0 B ob nx ρ H r) := by
  obtain ⟨k1, _⟩ := hv.one hx
  have h := rcc_holds hr hc
  have hu := (hE.tt T d hT).arr n e hk
  obtain ⟨aa, cap, q1, q2, q3⟩ := k1
  simp only [List.cons.injEq, and_true] at q1
  have hsz : t.sz ≠ 0 := by
    have := ((hE.tt e de he).ty t ht).2
    rw [this]; exact (hE.tt e de he).pos
  rcases q3 with q3 | ⟨b, off, cc, ee, fr, rfl, g2, g3⟩
  · omega
  · refine ok_rcc I hr (v := .pointer (some ⟨b, off, none⟩)) ?_ ?_ trivial
    · have : ¬ xs.length < n := by omega
      simp [execOp, ho, Instr.arrayAt, run_underlying hu, q1, this]
    · have hle : ∀ i, i < n → off + i * t.sz + t.sz ≤ cc.size := by
        intro i hi
        have hl := Rd.len _ _ _ (g3 i (by omega))
        unfold seg at hl
        simp only [List.length_take, List.length_drop, Array.length_toList] at hl
        omega
      have hall : off + n * t.sz ≤ cc.size := by
        have := hle (n - 1) (by omega)
        have e1 : n * t.sz = (n - 1) * t.sz + t.sz := by rw [← Nat.succ_mul]; congr 1; omega
        omega
      refine ⟨b, off, cc, ee, fr, rfl, g2, by simp; omega, seg_len (by simpa [Ty.sz] using hall), fun i hi => ?_⟩
      have hi' : i < n := by simp at hi; omega
      have hm : (i + 1) * t.sz ≤ n * t.sz := Nat.mul_le_mul_right _ (by omega)
      rw [Nat.succ_mul] at hm
      simp only [Ty.sz, List.getElem_take]
      rw [seg_seg (by omega)]
      exact g3 i (by omega)
theorem sound_toArr_own (hE : EnvOk E) (I : Inv w0 B ρ H ob nx w) (hv : EvOk ρ H nx ev a) {T e : TypeId} {x : Operand} {d : TD} {n : Nat} {t : Ty} {xs : List t.T} {id : Nat} (ho : o.op = .sliceToArrayPointer T x) (hT : E.tt T = some d) (hk : d.kind = .arr n e)
    (hx : (ev x).bind one? = some (.own id)) (hrow : lookO ob id = some (.row t xs)) (hn : n ≠ 0) (hr : rcc (n ≤ xs.length) (.vp id 0 t.sz 0 n) = some r) (hc : ∀ q ∈ r.cs, q) : StepOk E.P o a w (Post w0 B ob nx ρ H r) := by
  obtain ⟨k1, k2⟩ := hv.one hx
  have h := rcc_holds hr hc
  have hu := (hE.tt T d hT).arr n e hk
  have k1' : a.eval x = ρ id := k1
  rcases (I.objs id _ hrow).2.2 with ⟨q1, q2⟩ | ⟨g, cap, cur, e', q1, _⟩
  · subst q2; simp at h; omega
  · refine ok_rcc I hr (v := .pointer (some ⟨g, 0, none⟩)) ?_ ⟨hn, g, .inr (.inl ⟨_, _, q1⟩), by simp⟩ k2
    have : ¬ xs.length < n := by omega
    simp [execOp, ho, Instr.arrayAt, run_underlying hu, k1', q1, this]
theorem sound_toArr_view (hE : EnvOk E) (I : Inv w0 B ρ H ob nx w) (hv : EvOk ρ H nx ev a) {T e : TypeId} {x : Operand} {d : TD} {n id off sz lo m : Nat} (ho : o.op = .sliceToArrayPointer T x) (hT : E.tt T = some d) (hk : d.kind = .arr n e)
    (hx : (ev x).bind one? = some (.view id off sz lo m)) (hn : n ≠ 0) (hr : rcc (n ≤ m) (.vp id off sz lo n) = some r) (hc : ∀ q ∈ r.cs, q) : StepOk E.P o a w (Post w0 B ob nx ρ H r) := by
  obtain ⟨k1, k2⟩ := hv.one hx
  have h := rcc_holds hr hc
  have hu := (hE.tt T d hT).arr n e hk
  rcases k1 with ⟨b, cap, q1, q2, q3⟩ | ⟨q1, _⟩
  · refine ok_rcc I hr (v := .pointer (some ⟨b, off + lo * sz, none⟩)) ?_ ⟨hn, b, q1, rfl⟩ k2
    have : ¬ m < n := by omega
    simp [execOp, ho, Instr.arrayAt, run_underlying hu, q2, this]
  · omega
theorem shows_arr {t : Ty} {xs : List t.T} {b off n cap : Nat} (h : Shows w H t xs (.slice (some ⟨b, off, none⟩) n cap)) (hl : xs.length = n) (hn : n ≠ 0) : ∃ c e fr, w.heap[b]? = some (.cells c e fr) ∧ off + n * t.sz ≤ c.size ∧ Rd H (.arr n t) xs (seg c off (n * t.sz)) := by
  obtain ⟨aa, cap', q1, q2, q3⟩ := h
  simp only [Value.slice.injEq] at q1
  rcases q3 with q3 | ⟨b', off', c, e, fr, r1, r2, r3, r4⟩
  · omega
  · rw [← q1.1] at r1
    cases r1
    rw [hl] at r3
    refine ⟨c, e, fr, r2, r3, hl, seg_len r3, fun i hi => ?_⟩
    have hm : (i + 1) * t.sz ≤ n * t.sz := Nat.mul_le_mul_right _ (by omega)
    rw [Nat.succ_mul] at hm
    rw [seg_seg (by omega)]
    exact r4 i hi
theorem sound_load_vp (hE : EnvOk E) (I : Inv w0 B ρ H ob nx w) (hv : EvOk ρ H nx ev a) {T : TypeId} {x : Operand} {d : TD} {id off sz lo n : Nat} {t : Ty} {xs : List t.T} {v : V} (ho : o.op = .load T x) (hT : E.tt T = some d)
    (hx : (ev x).bind one? = some (.vp id off sz lo n)) (hrow : rowOf (lookO ob) (.view id off sz lo n) = some ⟨t, xs⟩) (hd : d.sz = n * t.sz) (hm : mkV d [.arr n t xs] = some v) (hr : r = ⟨[xs.length = n], some (.val v), []⟩) (hc : ∀ q ∈ r.cs, q) : StepOk E.P o a w (Post w0 B ob nx ρ H r) := by
  obtain ⟨⟨hn, b, k1, k2⟩, _⟩ := hv.one hx
  subst hr
  have hl : xs.length = n := hc _ (by simp)
  have hsh := rowOf_ok I hrow (fun ⟨_, _, e⟩ => by cases e) (v := .slice (some ⟨b, off + lo * sz, none⟩) n n) (.inl ⟨b, n, k1, rfl, Nat.le_refl _⟩) (fun _ _ _ _ _ e => by cases e; exact hl.symm)
  obtain ⟨c, e, fr, q1, q2, q3⟩ := shows_arr hsh hl hn
  obtain ⟨u, m1, m2⟩ := run_loadVar_den (ρ := ρ) (hE.tt T d hT) q1 (by rw [hd]; exact q2) (cs := [.arr n t xs]) (by
    rw [hd]
    refine ⟨?_, ?_⟩
    · rw [List.take_of_length_le (by rw [seg_len q2]; exact Nat.le_refl _)]; exact q3
    · rw [List.drop_of_length_le (by rw [seg_len q2]; exact Nat.le_refl _)]; rfl) hm
  refine .inl ⟨u, w, ?_, post_same I m2 ?_⟩
  · simp [execOp, ho, Instr.loadAt, k2, Instr.sureAddr, m1]
  · unfold mkV at hm
    cases hag : d.agg with
    | true => rw [hag] at hm; cases hm; intro c hc; simp only [List.mem_singleton] at hc; subst hc; trivial
    | false => rw [hag] at hm; simp at hm
theorem ptrs_ok (hv : EvOk ρ H nx ev a) : ∀ {xs : List Operand} {ps : List (Nat × Nat)}, ptrs ev xs = some ps → ptrsOf ρ ps (xs.map a.eval) ∧ ∀ p ∈ ps, p.1 < nx
  | [], ps, h => by cases h; exact ⟨rfl, by simp⟩
  | x :: xs, ps, h => by
    simp only [ptrs] at h
    split at h
    · rename_i id off hx
      obtain ⟨qs, h1, rfl⟩ := Option.map_eq_some_iff.1 h
      obtain ⟨k1, k2⟩ := hv.one hx
      obtain ⟨m1, m2⟩ := ptrs_ok hv h1
      refine ⟨⟨_, _, rfl, k1, m1⟩, fun p hp => ?_⟩
      rcases List.mem_cons.1 hp with rfl | hp
      · exact k2
      · exact m2 p hp
    · cases h
theorem sound_makeFunc (I : Inv w0 B ρ H ob nx w) (hv : EvOk ρ H nx ev a) {f : FuncId} {x y : Array Operand} {p q : List (Nat × Nat)} (ho : o.op = .makeFunc (.func f) x y) (hx : ptrs ev x.toList = some p) (hy : ptrs ev y.toList = some q) (hr : rc (.fn f p q) = some r) :
    StepOk E.P o a w (Post w0 B ob nx ρ H r) := by
  obtain ⟨h1, h2⟩ := ptrs_ok hv hx
  obtain ⟨h3, h4⟩ := ptrs_ok hv hy
  refine ok_rc I hr (v := .func (.func f) (x.map a.eval) (y.map a.eval)) ?_ ⟨_, _, ?_, h1, h3⟩ ⟨h2, h4⟩
  · simp [execOp, ho, Instr.makeFunc]
  · congr 1 <;> (apply Array.ext'; simp)
theorem sound_minmax (I : Inv w0 B ρ H ob nx w) {b : Builtin} {x y : Operand} {ts : Array TypeId} {k : IntKind} {m n : Int} (ho : o.op = .call ⟨.builtin b, #[x, y], ts⟩) (hx : a.eval x = .int k m) (hy : a.eval y = .int k n)
    (hr : (b = .min ∧ rc (.int k (min m n)) = some r) ∨ (b = .max ∧ rc (.int k (max m n)) = some r)) : StepOk E.P o a w (Post w0 B ob nx ρ H r) := by
  rcases hr with ⟨rfl, hr⟩ | ⟨rfl, hr⟩
  · refine ok_rc I hr (v := .int k (min m n)) ?_ rfl trivial
    have e : (if n < m then n else m) = min m n := by rw [Int.min_def]; split <;> split <;> omega
    simp [execOp, ho, resolve, invoke, builtin, Builtin.min_, Builtin.min2, hx, hy, e]
  · refine ok_rc I hr (v := .int k (max m n)) ?_ rfl trivial
    have e : (if m < n then n else m) = max m n := by rw [Int.max_def]; split <;> split <;> omega
    simp [execOp, ho, resolve, invoke, builtin, Builtin.max_, Builtin.max2, hx, hy, e]
end
end Go.Sx

/- The engine's steps are right: values that are written out. -/
namespace Go.Sx
open Go.RowKit
theorem fold_splice (off : Nat) : ∀ (l : List Value) (k : Nat) (cells : Array Value), off + k + l.length ≤ cells.size →
    (l.zipIdx k).foldl (fun cs (x : Value × Nat) => cs.setIfInBounds (off + x.2) x.1) cells = (cells.toList.take (off + k) ++ l ++ cells.toList.drop (off + k + l.length)).toArray
  | [], k, cells, h => by simp
  | v :: rest, k, cells, h => by
    simp only [List.length_cons] at h
    rw [List.zipIdx_cons, List.foldl_cons, fold_splice off rest (k + 1) _ (by simp; omega)]
    have e := list_seg_step cells.toList (off + k) v rest (by simp; omega)
    congr 1
    simpa [Array.toList_setIfInBounds, Nat.add_assoc] using e
theorem fold_cells (off : Nat) (v cells : Array Value) (h : off + v.size ≤ cells.size) :
    v.zipIdx.foldl (fun cs (x : Value × Nat) => cs.setIfInBounds (off + x.2) x.1) cells = (cells.toList.take off ++ v.toList ++ cells.toList.drop (off + v.size)).toArray := by
  rw [← Array.foldl_toList, Array.toList_zipIdx]
  have := fold_splice off v.toList 0 cells (by simpa using h)
  simpa using this
section
variable {E : Env} {w0 : Base} {B : Nat} {ρ : Nat → Value} {H : IH} {ob : List (Nat × Option AObj)} {nx : Nat} {w : World} {ev : Operand → Option SV} {a : Act} {o : Oper} {r : Res}
def DenParts (ρ : Nat → Value) (H : IH) (nx : Nat) : List (Nat × V) → List (Nat × Value) → Prop
  | [], us => us = []
  | (i, v) :: r, us => ∃ u us', us = (i, u) :: us' ∧ DenV ρ H v u ∧ v.lt nx ∧ DenParts ρ H nx r us'
theorem parts_ok (hv : EvOk ρ H nx ev a) : ∀ {ps : List (Nat × Operand)} {vs : List (Nat × V)}, parts ev ps = some vs → DenParts ρ H nx vs (ps.map fun x => (x.1, a.eval x.2))
  | [], vs, h => by cases h; rfl
  | (i, x) :: ps, vs, h => by
    simp only [parts] at h
    split at h
    · rename_i v hx
      obtain ⟨qs, h1, rfl⟩ := Option.map_eq_some_iff.1 h
      obtain ⟨k1, k2⟩ := hv.val hx
      exact ⟨_, _, rfl, k1, k2, parts_ok hv h1⟩
    · cases h
theorem put_fill (hρ : ∀ id, (ρ id).oneCell' = true) {cs y : List Ch} {off n : Nat} {v : V} {u : Value} {cells : Array Value} (hp : putCh cs off n (Ch.chs v) = some y) (hs : chsSz (Ch.chs v) = n) (hd : DenChs ρ H cs cells.toList) (hu : DenV ρ H v u) :
    u.cells.size = n ∧ off + u.cells.size ≤ cells.size ∧ DenChs ρ H y (u.cells.zipIdx.foldl (fun cs (x : Value × Nat) => cs.setIfInBounds (off + x.2) x.1) cells).toList := by
  have hc := hu.cells hρ
  have hl := hc.len
  rw [hs] at hl
  have hl' : u.cells.size = n := by simpa using hl
  obtain ⟨m1, m2⟩ := putCh_den hp hd hc
  have hle : off + u.cells.size ≤ cells.size := by rw [hl']; simpa using m2
  refine ⟨hl', hle, ?_⟩
  rw [fold_cells off u.cells cells hle, hl']
  simpa using m1
theorem cells_list {t : Ty} {x : t.T} {u : Value} (h : Rd H t x u.cells.toList) : u.cells.size = t.sz := by
  have := Rd.len _ _ _ h
  simpa using this
theorem fillRow_ok (hρ : ∀ id, (ρ id).oneCell' = true) {t : Ty} {n : Nat} (hz : t.sz ≠ 0) : ∀ {vs : List (Nat × V)} {us : List (Nat × Value)} {xs ys : List t.T} {cells : Array Value}, fillRow t xs vs = some ys → DenParts ρ H nx vs us → xs.length = n → cells.size = n * t.sz →
    (∀ i (h : i < xs.length), Rd H t xs[i] (seg cells (i * t.sz) t.sz)) →
    ∃ cells', Instr.fill (fun i => some (i * t.sz, t.sz)) cells us = some cells' ∧ ys.length = n ∧ cells'.size = n * t.sz ∧ ∀ i (h : i < ys.length), Rd H t ys[i] (seg cells' (i * t.sz) t.sz)
  | [], us, xs, ys, cells, h, hd, hl, hs, hr => by
    cases h
    rw [show us = [] from hd]
    exact ⟨cells, rfl, hl, hs, hr⟩
  | (i, v) :: rest, us, xs, ys, cells, h, hd, hl, hs, hr => by
    obtain ⟨u, us', rfl, h1, _, h3⟩ := hd
    simp only [fillRow] at h
    split at h
    · rename_i x hx
      split at h
      · rename_i hi
        have hrd := ofV_den hρ hx h1
        have hsz := cells_list hrd
        have hm : (i + 1) * t.sz ≤ n * t.sz := Nat.mul_le_mul_right _ (by omega)
        rw [Nat.succ_mul] at hm
        have hfold := fold_cells (i * t.sz) u.cells cells (by omega)
        have hu : u.cells.toList.length = t.sz := by simpa using hsz
        obtain ⟨cells', g1, g2, g3, g4⟩ := fillRow_ok hρ hz (xs := xs.set i x) (cells := u.cells.zipIdx.foldl (fun cs (x : Value × Nat) => cs.setIfInBounds (i * t.sz + x.2) x.1) cells) h h3 (by simpa using hl)
          (by rw [hfold, hsz, splice_size cells (i * t.sz) t.sz _ hu (by omega)]; exact hs)
          (by
            intro j hj
            have hj' : j < xs.length := by simpa using hj
            rw [hfold, hsz]
            by_cases hij : i = j
            · subst hij
              simp only [List.getElem_set_self]
              rw [splice_same cells (i * t.sz) t.sz _ hu (by omega)]
              exact hrd
            · simp only [List.getElem_set_ne hij]
              rw [splice_seg cells _ t.sz _ hu (by omega) (j * t.sz) t.sz ?_]
              · exact hr j hj'
              · rcases Nat.lt_or_gt_of_ne hij with h | h
                · have : (i + 1) * t.sz ≤ j * t.sz := Nat.mul_le_mul_right _ (by omega)
                  rw [Nat.succ_mul] at this; omega
                · have : (j + 1) * t.sz ≤ i * t.sz := Nat.mul_le_mul_right _ (by omega)
                  rw [Nat.succ_mul] at this; omega)
        refine ⟨cells', ?_, g2, g3, g4⟩
        have hno : ¬ (u.cells.size ≠ t.sz ∨ i * t.sz + u.cells.size > cells.size) := by omega
        simp only [Instr.fill, Bool.or_eq_true, decide_eq_true_eq, hno, if_false]
        exact g1
      · cases h
    · cases h
end
end Go.Sx
