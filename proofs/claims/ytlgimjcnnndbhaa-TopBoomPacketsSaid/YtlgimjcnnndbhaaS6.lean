/- A verified symbolic run of functions, part 6: lemmas, no claim of their own. -/
import Derived.Test.YtlgimjcnnndbhaaS5
import Derived.Laws.Externs
import Derived.Laws.Tables
import Derived.Lib.AppendStr
namespace Go.Sx
open Go.RowKit
section
variable {E : Env} {w0 : Base} {B : Nat} {ρ : Nat → Value} {H : IH} {ob : List (Nat × Option AObj)} {nx : Nat} {w : World} {ev : Operand → Option SV} {a : Act} {o : Oper} {r : Res}
theorem Inv.write (I : Inv w0 B ρ H ob nx w) {g : Nat} {new : Array Value} (hB : B ≤ g) (hH : H g = none) (hno : ∀ id p, lookO ob id = some p → ¬ HB (ρ id) g) (hK : ¬ w0.K g) : Inv w0 B ρ H ob nx (w.setRow g new) := by
  have hbelow : Below B w (w.setRow g new) := ⟨rfl, rfl, rfl, by simp, fun i hi => heap_setRow_other w g i new (by omega)⟩
  refine ⟨I.below.trans hbelow, I.bsz, I.one, fun b o' h => ?_, fun id q h => ?_, I.sep, fun b hk => ?_⟩
  rotate_left 2
  · obtain ⟨k1, k2, k3, k4⟩ := I.kp b hk
    exact ⟨k1, by rw [heap_setRow_other w g b new (fun e : b = g => hK (e ▸ hk))]; exact k2, k3, k4⟩
  · have hne : b ≠ g := fun e => by subst e; rw [hH] at h; cases h
    rw [heap_setRow_other w g b new hne]; exact I.agree b o' h
  · obtain ⟨a, b, c⟩ := I.objs id q h
    refine ⟨a, b, c.kept a b (REq.refl _ _) (HLe.refl _) fun b hb => ⟨?_, (I.hb h hb).2.1⟩⟩
    exact heap_setRow_other w g b new (fun e => by subst e; exact hno id q h hb)
theorem run_append_room' {P : Program} (t ty e e' : TypeId) (i : TypeInfo) (ht : P.underlying t = some (.slice e)) (hi : P.info? e = some i)
    (g sLen sCap : Nat) (cur : Array Value) (hg : Cells w g cur e')
    (a : Addr) (m c : Nat) (news : List Value) (hl : news.length = m * i.size) (hnews : ∀ j u, news[j]? = some u → w.cell? (a.add j) = some u) (h1 : ∀ u ∈ news, u.oneCell' = true)
    (hroom : sLen + m ≤ sCap) (hfit : sLen * i.size + news.length ≤ cur.size) :
    (Builtin.append_ #[t, t] ty #[.slice (some ⟨g, 0, none⟩) sLen sCap, .slice (some a) m c]).run P w =
      .ok (.slice (some ⟨g, 0, none⟩) (sLen + m) sCap) (w.setRow g (cur.toList.take (sLen * i.size) ++ news ++ cur.toList.drop (sLen * i.size + news.length)).toArray) := by
  have hf := run_firstCells_some (P := P) w i.size m a m c news hl hnews
  have hst := storeCells_own (P := P) hg (by simpa using hfit) h1
  simp [Builtin.append_, run_underlying ht, sizeOf, typeInfo, hi, Builtin.lenOf, hroom, hf, addr_add, hst]
theorem run_append_none {P : Program} (t ty e : TypeId) (i : TypeInfo) (ht : P.underlying t = some (.slice e)) (hi : P.info? e = some i) (base x : Option Addr) (n cap c : Nat) (h : n ≤ cap) :
    (Builtin.append_ #[t, t] ty #[.slice base n cap, .slice x 0 c]).run P w = .ok (.slice base n cap) w := by
  cases base <;> cases x <;> simp [Builtin.append_, run_underlying ht, sizeOf, typeInfo, hi, Builtin.lenOf, h, Builtin.firstCells, loadCells, loadCellsFrom, storeCells]
theorem news_rd {t : Ty} {ys : List t.T} {c : Array Value} {off : Nat} (hr : ∀ i (h : i < ys.length), Rd H t ys[i] (seg c (off + i * t.sz) t.sz)) :
    ∀ i (h : i < ys.length), Rd H t ys[i] (((seg c off (ys.length * t.sz)).drop (i * t.sz)).take t.sz) := by
  intro i hi
  have hm : (i + 1) * t.sz ≤ ys.length * t.sz := Nat.mul_le_mul_right _ (by omega)
  rw [Nat.succ_mul] at hm
  rw [seg_seg (by omega)]
  exact hr i hi
theorem row_one {t : Ty} {ys : List t.T} {us : List Value} (hlen : us.length = ys.length * t.sz) (hr : ∀ i (h : i < ys.length), Rd H t ys[i] ((us.drop (i * t.sz)).take t.sz)) : ∀ v ∈ us, v.oneCell' = true :=
  Rd.one (.arr ys.length t) ys us ⟨rfl, hlen, hr⟩
theorem row_append {t : Ty} {xs ys : List t.T} {us vs : List Value} (hu : us.length = xs.length * t.sz)
    (h1 : ∀ i (h : i < xs.length), Rd H t xs[i] ((us.drop (i * t.sz)).take t.sz)) (h2 : ∀ i (h : i < ys.length), Rd H t ys[i] ((vs.drop (i * t.sz)).take t.sz)) (rest : List Value) (hv : vs.length = ys.length * t.sz) :
    ∀ i (h : i < (xs ++ ys).length), Rd H t (xs ++ ys)[i] (((us ++ vs ++ rest).drop (i * t.sz)).take t.sz) := by
  intro i hi
  rw [List.length_append] at hi
  by_cases h : i < xs.length
  · have hm : (i + 1) * t.sz ≤ xs.length * t.sz := Nat.mul_le_mul_right _ (by omega)
    rw [Nat.succ_mul] at hm
    rw [List.getElem_append_left h, List.append_assoc, List.drop_append_of_le_length (by omega), List.take_append_of_le_length (by simp; omega)]
    exact h1 i h
  · have hi2 : i - xs.length < ys.length := by omega
    have hm : (i - xs.length + 1) * t.sz ≤ ys.length * t.sz := Nat.mul_le_mul_right _ (by omega)
    rw [Nat.succ_mul] at hm
    rw [List.getElem_append_right (by omega), List.append_assoc, List.drop_append, List.drop_of_length_le (by rw [hu]; exact Nat.mul_le_mul_right _ (by omega)), List.nil_append]
    have e1 : i * t.sz - us.length = (i - xs.length) * t.sz := by rw [hu, Nat.sub_mul]
    rw [e1, List.drop_append_of_le_length (by omega), List.take_append_of_le_length (by simp; omega)]
    exact h2 _ hi2
theorem append_core (hE : EnvOk E) (I : Inv w0 B ρ H ob nx w) {e : TypeId} {de : TD} {t : Ty} {xs ys : List t.T} {v : Value} {cs : List Prop} {dels : List Nat} {z : Value} {ap : Value → Sem Value} {news : List Value} (he : E.tt e = some de) (ht : de.ty = some t)
    (hown : OwnRow w B H v t xs) (hdel : ∀ b, HB v b → ∀ id p, lookO (dels.map (fun k => (k, (none : Option AObj))) ++ ob) id = some p → ¬ HB (ρ id) b) (hKv : ∀ b, HB v b → ¬ w0.K b) (hroom : room (xs.length + ys.length) de.bytes)
    (hzs : z.cells.size = t.sz) (hnl' : news.length = ys.length * t.sz) (hnr : ∀ i (h : i < ys.length), Rd H t ys[i] ((news.drop (i * t.sz)).take t.sz))
    (h0 : ys.length = 0 → ∀ va vn vc, vn ≤ vc → (ap (.slice va vn vc)).run E.P w = .ok (.slice va vn vc) w)
    (h1 : ys.length ≠ 0 → xs.length = 0 → (ap (.slice none 0 0)).run E.P w = .ok (.slice (some ⟨w.heap.size, 0, none⟩) ys.length (grownCap w ys.length 0 e)) (w.drew.alloc (.cells (news.toArray ++ Builtin.zeroCells z.cells (grownCap w ys.length 0 e - ys.length)) e)))
    (h2 : ys.length ≠ 0 → ∀ g cap cur e', Cells w g cur e' → xs.length + ys.length ≤ cap → xs.length * t.sz + news.length ≤ cur.size →
      (ap (.slice (some ⟨g, 0, none⟩) xs.length cap)).run E.P w = .ok (.slice (some ⟨g, 0, none⟩) (xs.length + ys.length) cap) (w.setRow g (cur.toList.take (xs.length * t.sz) ++ news ++ cur.toList.drop (xs.length * t.sz + news.length)).toArray))
    (h3 : ys.length ≠ 0 → ∀ g cap (olds : List Value), olds.length = xs.length * t.sz → (∀ j u, olds[j]? = some u → w.cell? ((⟨g, 0, none⟩ : Addr).add j) = some u) → cap < xs.length + ys.length →
      (ap (.slice (some ⟨g, 0, none⟩) xs.length cap)).run E.P w = .ok (.slice (some ⟨w.heap.size, 0, none⟩) (xs.length + ys.length) (grownCap w (xs.length + ys.length) cap e))
        (w.drew.alloc (.cells (olds.toArray ++ news.toArray ++ Builtin.zeroCells z.cells (grownCap w (xs.length + ys.length) cap e - (xs.length + ys.length))) e))) :
    ∃ v' w', (ap v).run E.P w = .ok v' w' ∧
      Post w0 B ob nx ρ H ⟨cs, some (.val (.one (.own nx))), (nx, some (.row t (xs ++ ys))) :: dels.map fun k => (k, none)⟩ v' w' := by
  obtain ⟨r1, r2⟩ := hroom
  have hB : B ≤ w.heap.size := Nat.le_trans I.bsz I.below.size
  have Idel : Inv w0 B ρ H (dels.map (fun k => (k, none)) ++ ob) nx w := by
    clear hdel
    induction dels with
    | nil => exact I
    | cons k ks ih => exact ih.del k
  by_cases hy0 : ys.length = 0
  · -- nothing is appended
    have hys : ys = [] := List.length_eq_zero_iff.1 hy0
    obtain ⟨va, vc, hvv, hvc⟩ : ∃ va vc, v = .slice va xs.length vc ∧ xs.length ≤ vc := by
      obtain ⟨va, vc, h1, h2, _⟩ := own_shows hown; exact ⟨va, vc, h1, h2⟩
    refine ⟨v, w, ?_, ?_⟩
    · rw [hvv]; exact h0 hy0 va xs.length vc hvc
    · rw [hys, List.append_nil]
      refine ⟨upd ρ nx v, H, ?_, HLe.refl _, REq.upd _ _ _ (Nat.le_refl _), ?_⟩
      · refine Idel.add (Nat.le_refl _) (by simp [W]) (by rw [hvv]; rfl) trivial ?_ hdel hKv
        show OwnRow _ _ _ (upd ρ nx v nx) _ _
        rw [upd_same]; exact hown
      · intro sv e; cases e; exact ⟨(upd_same _ _ _).symm, by simp [SV.lt, V.lt, C.lt, W]⟩
  · have hpos : t.sz ≠ 0 := by rw [((hE.tt e de he).ty t ht).2]; exact (hE.tt e de he).pos
    have grown : ∀ (olds : List Value) (old : Nat), olds.length = xs.length * t.sz → (∀ j (h : j < xs.length), Rd H t xs[j] ((olds.drop (j * t.sz)).take t.sz)) →
        Post w0 B ob nx ρ H ⟨cs, some (.val (.one (.own nx))), (nx, some (.row t (xs ++ ys))) :: dels.map fun k => (k, none)⟩ (.slice (some ⟨w.heap.size, 0, none⟩) (xs.length + ys.length) (grownCap w (xs.length + ys.length) old e))
          (w.drew.alloc (.cells (olds.toArray ++ news.toArray ++ Builtin.zeroCells z.cells (grownCap w (xs.length + ys.length) old e - (xs.length + ys.length))) e)) := by
      intro olds old hol hor
      have hcap := grownCap_ge w (xs.length + ys.length) old e
      have hcapm := grownCap_le_maxLen w (xs.length + ys.length) old e (by simp only [maxLen]; omega)
      have hp := post_row (w := w.drew) (e := e) (I.grow (by exact ⟨rfl, rfl, rfl, Nat.le_refl _, fun _ _ => rfl⟩)) (cs := cs) (t := t) (xs := xs ++ ys) (cap := grownCap w (xs.length + ys.length) old e)
        (cur := olds.toArray ++ news.toArray ++ Builtin.zeroCells z.cells (grownCap w (xs.length + ys.length) old e - (xs.length + ys.length)))
        (by rw [List.length_append]; exact hcap) hcapm
        (by
          simp only [Array.size_append, List.size_toArray, hol, hnl', size_zeroCells, hzs]
          rw [← Nat.add_mul, ← Nat.add_mul]; congr 1; omega)
        (fun j hj => by
          have := row_append hol hor hnr (Builtin.zeroCells z.cells (grownCap w (xs.length + ys.length) old e - (xs.length + ys.length))).toList hnl' j hj
          unfold seg at this ⊢
          simpa using this) (dels := dels)
      rw [List.length_append] at hp
      exact hp
    rcases hown with ⟨rfl, rfl⟩ | ⟨g, cap, cur, e', o1, o2, o3, o4, o5, o6, o7, o8⟩
    · -- a nil slice
      refine ⟨_, _, h1 hy0 rfl, ?_⟩
      have := grown [] 0 (by simp) (by intro j h; simp at h)
      simpa using this
    · subst o1
      have hold : ∀ j (h : j < xs.length), Rd H t xs[j] (((cur.toList.take (xs.length * t.sz)).drop (j * t.sz)).take t.sz) := by
        intro j hj
        have hm : (j + 1) * t.sz ≤ xs.length * t.sz := Nat.mul_le_mul_right _ (by omega)
        rw [Nat.succ_mul] at hm
        rw [List.drop_take, List.take_take, Nat.min_eq_left (by omega)]
        exact o8 j hj
      have hcapm : xs.length * t.sz ≤ cap * t.sz := Nat.mul_le_mul_right _ o5
      have hol : (cur.toList.take (xs.length * t.sz)).length = xs.length * t.sz := by simp; omega
      by_cases hfit : xs.length + ys.length ≤ cap
      · -- there is room
        have hfm : (xs.length + ys.length) * t.sz ≤ cap * t.sz := Nat.mul_le_mul_right _ hfit
        rw [Nat.add_mul] at hfm
        refine ⟨_, _, h2 hy0 g cap cur e' o4 hfit (by rw [hnl']; omega), ?_⟩
        rw [hnl']
        have hno : ∀ id p, lookO (dels.map (fun k => (k, (none : Option AObj))) ++ ob) id = some p → ¬ HB (ρ id) g := hdel g (.inr (.inl ⟨_, _, rfl⟩))
        refine ⟨upd ρ nx (.slice (some ⟨g, 0, none⟩) (xs.length + ys.length) cap), H, ?_, HLe.refl _, REq.upd _ _ _ (Nat.le_refl _), ?_⟩
        · refine (Idel.write o2 o3 hno (hKv g (.inr (.inl ⟨_, _, rfl⟩)))).add (Nat.le_refl _) (by simp [W]) rfl trivial ?_ ?_ ?_
          · show OwnRow _ _ _ (upd ρ nx _ nx) _ _
            rw [upd_same]
            refine .inr ⟨g, cap, _, e', by rw [List.length_append], o2, o3, o4.set (splice_size cur (xs.length * t.sz) (ys.length * t.sz) _ hnl' (by omega)), by rw [List.length_append]; exact hfit, o6, ?_, ?_⟩
            · rw [splice_size cur (xs.length * t.sz) (ys.length * t.sz) _ hnl' (by omega), o7]
            · intro j hj
              have := row_append hol hold hnr (cur.toList.drop (xs.length * t.sz + ys.length * t.sz)) hnl' j hj
              exact this
          · intro b' hb' id p hp
            rcases hb' with hb' | ⟨_, _, hb'⟩ | hb' <;> cases hb'
            exact hno id p hp
          · intro b' hb'
            rcases hb' with hb' | ⟨_, _, hb'⟩ | hb' <;> cases hb'
            exact hKv g (.inr (.inl ⟨_, _, rfl⟩))
        · intro sv e; cases e; exact ⟨(upd_same _ _ _).symm, by simp [SV.lt, V.lt, C.lt, W]⟩
      · obtain ⟨_, _, o4h⟩ := id o4
        have holds := cell_seg o4h (o := 0) (n := xs.length * t.sz)
        have e0 : seg cur 0 (xs.length * t.sz) = cur.toList.take (xs.length * t.sz) := by unfold seg; simp
        rw [e0] at holds
        exact ⟨_, _, h3 hy0 g cap _ hol holds (by omega), grown _ cap hol hold⟩
theorem append_own (hE : EnvOk E) (I : Inv w0 B ρ H ob nx w) {T e : TypeId} {d de : TD} {t : Ty} {xs ys : List t.T} {v x : Value} {ty : TypeId} {cs : List Prop} {dels : List Nat} (hT : E.tt T = some d) (hk : d.kind = .slc e) (he : E.tt e = some de) (ht : de.ty = some t)
    (hown : OwnRow w B H v t xs) (hdel : ∀ b, HB v b → ∀ id p, lookO (dels.map (fun k => (k, (none : Option AObj))) ++ ob) id = some p → ¬ HB (ρ id) b) (hKv : ∀ b, HB v b → ¬ w0.K b) (hx : Shows w H t ys x) (hroom : room (xs.length + ys.length) de.bytes) :
    ∃ v' w', (Builtin.append_ #[T, T] ty #[v, x]).run E.P w = .ok v' w' ∧
      Post w0 B ob nx ρ H ⟨cs, some (.val (.one (.own nx))), (nx, some (.row t (xs ++ ys))) :: dels.map fun k => (k, none)⟩ v' w' := by
  obtain ⟨i, z, g1, g2, g3, g4, g5, g6⟩ := (hE.tt e de he).info
  have hzr := g6 t ht H
  have hzs : z.cells.size = t.sz := by simpa using Rd.len _ _ _ hzr
  have hsz : i.size = t.sz := by rw [g2]; exact ((hE.tt e de he).ty t ht).2.symm
  have hu := (hE.tt T d hT).slc e hk
  have hroom' := hroom
  obtain ⟨r1, r2⟩ := hroom'
  obtain ⟨xa, xc, rfl, q2, q3⟩ := hx
  by_cases hy0 : ys.length = 0
  · exact append_core (ap := fun v => Builtin.append_ #[T, T] ty #[v, .slice xa ys.length xc]) (news := []) (z := z) hE I he ht hown hdel hKv hroom hzs (by simp [hy0]) (fun j hj => by omega)
      (fun _ va vn vc hvc => by rw [hy0]; exact run_append_none T ty e i hu g1 va xa vn vc xc hvc) (fun h => absurd hy0 h) (fun h => absurd hy0 h) (fun h => absurd hy0 h)
  · rcases q3 with q3 | ⟨b, off, c, e', fr, rfl, k2, k3, k4⟩
    · exact absurd q3 hy0
    · have hnl : (seg c off (ys.length * t.sz)).length = ys.length * i.size := by rw [seg_len k3, hsz]
      have hnews := cell_seg k2 (o := off) (n := ys.length * t.sz)
      have hnr := news_rd k4
      have hnl' : (seg c off (ys.length * t.sz)).length = ys.length * t.sz := seg_len k3
      have hn1 := row_one hnl' hnr
      refine append_core (ap := fun v => Builtin.append_ #[T, T] ty #[v, .slice (some ⟨b, off, none⟩) ys.length xc]) (news := seg c off (ys.length * t.sz)) (z := z) hE I he ht hown hdel hKv hroom hzs hnl' hnr (fun h => absurd h hy0) ?_ ?_ ?_
      · intro _ hx0
        exact run_append_nil (P := E.P) w T ty e i z hu g1 g4 ⟨b, off, none⟩ ys.length xc (seg c off (ys.length * t.sz)) hnl hnews (by omega) (by omega) (by rw [g3]; rw [hx0, Nat.zero_add] at r2; omega)
      · intro _ g cap cur e'' o4 hfit hle
        have := run_append_room' (w := w) (P := E.P) T ty e e'' i hu g1 g xs.length cap cur o4 ⟨b, off, none⟩ ys.length xc (seg c off (ys.length * t.sz)) hnl hnews hn1 hfit (by rw [hsz]; exact hle)
        rw [hsz] at this
        exact this
      · intro _ g cap olds hol holds hlt
        exact run_append_grow (P := E.P) w T ty e i z hu g1 g4 ⟨g, 0, none⟩ xs.length cap olds (by rw [hol, hsz]) holds ⟨b, off, none⟩ ys.length xc (seg c off (ys.length * t.sz)) hnl hnews (by omega) (by omega)
          (growslice_fits (by omega) (by rw [g3]; exact r2))
end
end Go.Sx

namespace Go.Sx
open Go.RowKit
theorem ρ0_one : ∀ id, (ρ0 id).oneCell' = true := fun _ => rfl
section
variable {E : Env} {w0 : Base} {B : Nat} {ρ : Nat → Value} {H : IH} {ob : List (Nat × Option AObj)} {nx : Nat} {w : World} {ev : Operand → Option SV} {a : Act} {o : Oper} {r : Res}
theorem pureC_den {ρ ρ' : Nat → Value} {c : C} {v : Value} (hp : pureC c = true) (h : DenC ρ H c v) : DenC ρ' H c v := by
  cases c <;> simp only [pureC, Bool.false_eq_true] at hp <;> try exact h
  · rename_i s
    cases s <;> exact h
  · rename_i f x y
    simp only [Bool.and_eq_true, List.isEmpty_iff] at hp
    obtain ⟨rfl, rfl⟩ := hp
    exact h
  · rename_i f c t x
    cases c <;> exact h
  · rename_i b
    cases b <;> exact h
theorem pureC_lt {c : C} (hp : pureC c = true) (n : Nat) : c.lt n := by
  cases c <;> simp only [pureC, Bool.false_eq_true] at hp <;> try trivial
  rename_i f x y
  simp only [Bool.and_eq_true, List.isEmpty_iff] at hp
  obtain ⟨rfl, rfl⟩ := hp
  exact ⟨by simp, by simp⟩
def pureCh : Ch → Bool
  | .one c => pureC c
  | .arr .. => true
theorem pureV_agg {cs : List Ch} : pureV (.agg cs) = cs.all pureCh := by
  simp only [pureV]
  congr 1
theorem pureChs_den {ρ ρ' : Nat → Value} : ∀ {cs : List Ch} {vs : List Value}, cs.all pureCh = true → DenChs ρ H cs vs → DenChs ρ' H cs vs
  | [], _, _, h => h
  | .one c :: r, vs, hp, h => by
    simp only [List.all_cons, Bool.and_eq_true] at hp
    obtain ⟨v, vs', rfl, h1, h2⟩ := h
    exact ⟨v, vs', rfl, pureC_den hp.1 h1, pureChs_den hp.2 h2⟩
  | .arr n t xs :: r, vs, hp, h => by
    simp only [List.all_cons, Bool.and_eq_true] at hp
    exact ⟨h.1, pureChs_den hp.2 h.2⟩
theorem pureV_den {ρ ρ' : Nat → Value} {x : V} {v : Value} (hp : pureV x = true) (h : DenV ρ H x v) : DenV ρ' H x v := by
  cases x with
  | one c => exact pureC_den (c := c) hp h
  | agg cs =>
    rw [pureV_agg] at hp
    obtain ⟨vs, h1, h2⟩ := h
    exact ⟨vs, h1, pureChs_den hp h2⟩
theorem pureV_lt {x : V} (hp : pureV x = true) (n : Nat) : x.lt n := by
  cases x with
  | one c => exact pureC_lt (c := c) hp n
  | agg cs =>
    rw [pureV_agg, List.all_eq_true] at hp
    intro c hc
    have := hp c hc
    cases c with
    | one c => exact pureC_lt (c := c) this n
    | arr => trivial
def snap (w : World) : IH := fun b => w.heap[b]?
theorem snap_le (h : Agree H w) : HLe H (snap w) := fun b o hb => h b o hb
theorem shows_rd (hag : Agree H w) {t : Ty} {xs : List t.T} {v : Value} (h : Shows w H t xs v) : Rd (snap w) (.sl t) xs [v] := by
  obtain ⟨a, cap, rfl, h2, h3⟩ := h
  refine ⟨a, cap, rfl, h2, ?_⟩
  rcases h3 with h3 | ⟨b, off, c, e, fr, rfl, k2, _, k4⟩
  · exact .inl h3
  · exact .inr ⟨b, off, c, e, fr, rfl, k2, fun i hi => Rd.mono (snap_le hag) _ _ _ (k4 i hi)⟩
theorem row_rd (I : Inv w0 B ρ H ob nx w) {c : C} {t : Ty} {xs : List t.T} {v : Value} (h : rowOf (lookO ob) c = some ⟨t, xs⟩) (hd : DenC ρ H c v) (hp : ∀ p ∈ rowP (lookO ob) c, p) : Rd (snap w) (.sl t) xs [v] := by
  cases c with
  | sl t' xs' => cases h; exact Rd.mono (snap_le I.agree) _ _ _ hd
  | own id =>
    simp only [rowOf] at h
    split at h
    · rename_i t' xs' hrow
      cases h
      rw [show v = ρ id from hd]
      exact shows_rd I.agree (own_shows (I.objs _ _ hrow).2.2)
    · cases h
  | view id off sz lo n =>
    have hn : xs.length = n := by
      simp only [rowP, h] at hp
      exact hp _ (by simp)
    exact shows_rd I.agree (rowOf_ok I h (fun ⟨_, _, e⟩ => by cases e) hd (fun _ _ _ _ _ e => by cases e; exact hn.symm))
  | _ => simp [rowOf] at h
theorem map_den (I : Inv w0 B ρ H ob nx w) {c : C} {m : MapD} {v : Value} (h : mapOf (lookO ob) c = some m) (hd : DenC ρ H c v) :
    ∃ g es clock, v = .map (some g) ∧ w.heap[g]? = some (.map es clock) ∧ MEnt H m.gk m.gt m.k m.t m.l es.toList := by
  cases c with
  | own id =>
    simp only [mapOf] at h
    split at h
    · rename_i gk gt k t l ho
      cases h
      obtain ⟨g, es, cl, d1, _, _, d4, d5⟩ := (I.objs _ _ ho).2.2
      exact ⟨g, es, cl, by rw [show v = ρ id from hd]; exact d1, d4, d5⟩
    · cases h
  | mp gk gt k t l =>
    cases h
    obtain ⟨g, es, cl, d1, d2, d3⟩ := hd
    exact ⟨g, es, cl, d1, I.agree _ _ d2, d3⟩
  | _ => simp [mapOf] at h
theorem asArgC_den (I : Inv w0 B ρ H ob nx w) {c : C} {v : Value} (hd : DenC ρ H c v) (hp : ∀ p ∈ rowP (lookO ob) c, p) (hpure : pureC (asArgC (lookO ob) c) = true) : DenC ρ0 (snap w) (asArgC (lookO ob) c) v := by
  unfold asArgC at hpure ⊢
  split
  · rename_i t xs hrow
    exact row_rd I hrow hd hp
  · rename_i hrow
    rw [hrow] at hpure
    simp only [] at hpure
    split
    · rename_i m hm
      obtain ⟨g, es, cl, h1, h2, h3⟩ := map_den I hm hd
      exact ⟨g, es, cl, h1, h2, h3.mono (snap_le I.agree)⟩
    · rename_i hm
      rw [hm] at hpure
      simp only [] at hpure
      split
      · rename_i t xs hbx
        cases c with
        | ptr id o =>
          unfold boxOfC at hbx
          split at hbx
          · rename_i e
            cases e
            split at hbx
            · rename_i t0 xs0 ho
              cases hbx
              obtain ⟨g, cur, e, d1, _, _, d4, d5⟩ := (I.objs _ _ ho).2.2
              obtain ⟨b, k1, k2⟩ := hd
              rw [d1] at k1
              cases k1
              obtain ⟨v1, vs', q1, q2, q3⟩ := d5
              have q3' : vs' = [] := q3
              subst q3'
              refine ⟨g, 0, cur, e, (0, 0), k2, d4, ?_⟩
              have : seg cur 0 (Ty.sl t0).sz = [v1] := by simp [seg, q1, Ty.sz]
              rw [this]
              exact Rd.mono (snap_le I.agree) _ _ _ q2
            · rename_i ho
              split at hbx
              · rename_i t0 hty
                split at hbx
                · rename_i y hy
                  cases hbx
                  obtain ⟨g, cur, e, d1, _, _, d4, d5⟩ := (I.objs _ _ ho).2.2
                  obtain ⟨b, k1, k2⟩ := hd
                  rw [d1] at k1
                  cases k1
                  obtain ⟨q1, q2⟩ := ofChs_all hy d5
                  refine ⟨g, 0, cur, e, (0, 0), k2, d4, ?_⟩
                  have key : ∀ n, cur.toList.length = n → seg cur 0 n = cur.toList := by
                    rintro n rfl
                    unfold seg
                    rw [List.drop_zero, List.take_length]
                  rw [key _ q2]
                  exact Rd.mono (snap_le I.agree) _ _ _ q1
                · cases hbx
              · cases hbx
            · cases hbx
          · cases hbx
        | _ => simp [boxOfC] at hbx
      · rename_i hbx
        rw [hbx] at hpure
        have := DenC.mono (ρ' := ρ) (n := 0) (REq.refl 0 ρ) (snap_le I.agree) (pureC_lt hpure 0) hd
        exact pureC_den hpure this
def asArgCh (ob : Nat → Option AObj) : Ch → Ch
  | .one c => .one (asArgC ob c)
  | x => x
theorem asArg_agg (ob : Nat → Option AObj) (cs : List Ch) : asArg ob (.agg cs) = .agg (cs.map (asArgCh ob)) := rfl
theorem asArgChs_den (I : Inv w0 B ρ H ob nx w) : ∀ {cs : List Ch} {vs : List Value}, DenChs ρ H cs vs → (∀ p ∈ cs.flatMap (fun | .one c => rowP (lookO ob) c | .arr .. => []), p) → (cs.map (asArgCh (lookO ob))).all pureCh = true →
    DenChs ρ0 (snap w) (cs.map (asArgCh (lookO ob))) vs
  | [], _, h, _, _ => h
  | .one c :: r, vs, h, hp, hpure => by
    obtain ⟨v, vs', rfl, h1, h2⟩ := h
    simp only [List.map_cons, List.all_cons, Bool.and_eq_true] at hpure
    simp only [List.flatMap_cons, List.mem_append] at hp
    exact ⟨v, vs', rfl, asArgC_den I h1 (fun p h => hp p (.inl h)) hpure.1, asArgChs_den I h2 (fun p h => hp p (.inr h)) hpure.2⟩
  | .arr n t xs :: r, vs, h, hp, hpure => by
    simp only [List.map_cons, List.all_cons, Bool.and_eq_true] at hpure
    simp only [List.flatMap_cons, List.mem_append] at hp
    exact ⟨Rd.mono (snap_le I.agree) _ _ _ h.1, asArgChs_den I h.2 (fun p h => hp p (.inr h)) hpure.2⟩
theorem asArg_den (I : Inv w0 B ρ H ob nx w) {x : V} {v : Value} (hd : DenV ρ H x v) (hp : ∀ p ∈ argP (lookO ob) x, p) (hpure : pureV (asArg (lookO ob) x) = true) : DenV ρ0 (snap w) (asArg (lookO ob) x) v := by
  cases x with
  | one c => exact asArgC_den I hd hp hpure
  | agg cs =>
    obtain ⟨vs, h1, h2⟩ := hd
    rw [asArg_agg, pureV_agg] at hpure
    exact ⟨vs, h1, asArgChs_den I h2 hp hpure⟩
theorem asArgs_den (I : Inv w0 B ρ H ob nx w) : ∀ {xs : List V} {vs : List Value}, DenVs ρ H xs vs → (∀ p ∈ xs.flatMap (argP (lookO ob)), p) → (xs.map (asArg (lookO ob))).all pureV = true → DenVs ρ0 (snap w) (xs.map (asArg (lookO ob))) vs
  | [], _, h, _, _ => h
  | x :: r, vs, h, hp, hpure => by
    obtain ⟨v, vs', rfl, h1, h2⟩ := h
    simp only [List.map_cons, List.all_cons, Bool.and_eq_true] at hpure
    simp only [List.flatMap_cons, List.mem_append] at hp
    exact ⟨v, vs', rfl, asArg_den I h1 (fun p h => hp p (.inl h)) hpure.1, asArgs_den I h2 (fun p h => hp p (.inr h)) hpure.2⟩
theorem asArg_same {x : V} (h : lentV x = false) : asArg (lookO ob) x = x := by
  have key : ∀ c, lentC c = false → asArgC (lookO ob) c = c := by
    intro c hc
    cases c <;> simp [lentC] at hc <;> simp [asArgC, rowOf, mapOf, boxOfC]
  cases x with
  | one c => show V.one _ = _; rw [key c h]
  | agg cs =>
    rw [asArg_agg]
    congr 1
    simp only [lentV] at h
    induction cs with
    | nil => rfl
    | cons c r ih =>
      simp only [List.any_cons, Bool.or_eq_false_iff] at h
      rw [List.map_cons, ih h.2]
      cases c with
      | one c => simp only [asArgCh]; rw [key c h.1]
      | arr => rfl
theorem denVs_pure {ρ ρ' : Nat → Value} : ∀ {xs : List V} {vs : List Value}, DenVs ρ H xs vs → xs.all pureV = true → DenVs ρ' H xs vs
  | [], _, h, _ => h
  | x :: r, vs, h, hp => by
    obtain ⟨v, vs', rfl, h1, h2⟩ := h
    simp only [List.all_cons, Bool.and_eq_true] at hp
    exact ⟨v, vs', rfl, pureV_den hp.1 h1, denVs_pure h2 hp.2⟩
theorem Inv.ext (I : Inv w0 B ρ H ob nx w) {H' : IH} (hle : HLe H H') (hag : Agree H' w) (hno : ∀ id p, lookO ob id = some p → ∀ b, HB (ρ id) b → H' b = none) (hK : ∀ b, w0.K b → H' b = none) : Inv w0 B ρ H' ob nx w :=
  ⟨I.below, I.bsz, I.one, hag, fun id p h => let ⟨a, b, c⟩ := I.objs id p h; ⟨a, b, c.kept a b (REq.refl _ _) hle fun b hb => ⟨rfl, hno id p h b hb⟩⟩, I.sep, fun b hk => let ⟨k1, k2, _, k4⟩ := I.kp b hk; ⟨k1, k2, hK b hk, k4⟩⟩
theorem takeV_ok {w' : World} {B' : Nat} {H' H2 : IH} {k : Nat} (I : Inv w0 B ρ H2 ob k w') {x : V} {v : Value} (hle : HLe H' H2) (hnew : ∀ b, B' ≤ b → H2 b = H' b) (hB : B ≤ B') (hKB : ∀ b, w0.K b → b < B') (hd : DenRV w' B' H' x v)
    (hfr : ∀ id p, lookO ob id = some p → ∀ b, HB (ρ id) b → B' ≤ b → isFrs x = true → ¬ HB v b) :
    ∃ ρ', Inv w0 B ρ' H2 ((takeV k x).2 ++ ob) (k + 1) w' ∧ REq k ρ ρ' ∧ DenV ρ' H2 (takeV k x).1 v ∧ (takeV k x).1.lt (k + 1) ∧
      ∀ id p, lookO ((takeV k x).2 ++ ob) id = some p → lookO ob id = some p ∨ (id = k ∧ ρ' k = v ∧ isFrs x = true) := by
  have other : pureV x = true → DenV ρ0 H' x v → takeV k x = (x, []) → ∃ ρ', Inv w0 B ρ' H2 ((takeV k x).2 ++ ob) (k + 1) w' ∧ REq k ρ ρ' ∧ DenV ρ' H2 (takeV k x).1 v ∧ (takeV k x).1.lt (k + 1) ∧
      ∀ id p, lookO ((takeV k x).2 ++ ob) id = some p → lookO ob id = some p ∨ (id = k ∧ ρ' k = v ∧ isFrs x = true) := by
    intro h1 h2 h3
    rw [h3]
    refine ⟨ρ, I.more (by omega), REq.refl _ _, ?_, pureV_lt h1 _, fun id p hp => .inl hp⟩
    have := DenV.mono (ρ' := ρ) (n := 0) (REq.refl 0 ρ) hle (pureV_lt h1 0) (pureV_den (ρ' := ρ) h1 h2)
    exact this
  cases x with
  | agg cs => exact other hd.1 hd.2 rfl
  | one c =>
    cases c with
    | frs t xs =>
      have hown : OwnRow w' B' H' v t xs := hd
      have hown2 : OwnRow w' B H2 v t xs := by
        rcases hown with h | ⟨g, cap, cur, e, h1, h2, h3, h4, h5, h6, h7, h8⟩
        · exact .inl h
        · exact .inr ⟨g, cap, cur, e, h1, by omega, by rw [hnew g h2]; exact h3, h4, h5, h6, h7, fun i hi => Rd.mono hle _ _ _ (h8 i hi)⟩
      have hv1 : v.oneCell' = true := by
        rcases hown with ⟨rfl, _⟩ | ⟨g, cap, cur, e, h1, _⟩
        · rfl
        · rw [h1]; rfl
      have hvb : ∀ b, HB v b → H' b = none ∧ B' ≤ b := by
        intro b hb
        rcases hown with ⟨rfl, _⟩ | ⟨g, cap, cur, e, h1, h2, h3, _⟩
        · rcases hb with h | ⟨_, _, h⟩ | h <;> cases h
        · rw [h1] at hb; rcases hb with h | ⟨_, _, h⟩ | h <;> cases h; exact ⟨h3, h2⟩
      refine ⟨upd ρ k v, ?_, REq.upd _ _ _ (Nat.le_refl _), (upd_same _ _ _).symm, by simp [takeV, V.lt, C.lt], ?_⟩
      · refine I.add (Nat.le_refl _) (by omega) hv1 trivial ?_ ?_ ?_
        · show OwnRow _ _ _ (upd ρ k v k) _ _
          rw [upd_same]; exact hown2
        · intro b hb id p hp hb2
          exact hfr id p hp b hb2 (hvb b hb).2 rfl hb
        · intro b hb hk
          have := (hvb b hb).2
          have := hKB b hk
          omega
      · intro id p hp
        simp only [takeV, List.cons_append, List.nil_append, lookO_cons] at hp
        split at hp
        · rename_i e; subst e; exact .inr ⟨rfl, upd_same _ _ _, rfl⟩
        · exact .inl hp
    | _ => exact other hd.1 hd.2 rfl
theorem takeVs_ok {w' : World} {B' : Nat} {H' H2 : IH} (hle : HLe H' H2) (hnew : ∀ b, B' ≤ b → H2 b = H' b) (hB : B ≤ B') (hKB : ∀ b, w0.K b → b < B') : ∀ (xs : List V) (vs : List Value) (k : Nat) (ob : List (Nat × Option AObj)) (ρ : Nat → Value), Inv w0 B ρ H2 ob k w' → DenRVs w' B' H' xs vs →
    (∀ id p, lookO ob id = some p → ∀ b, HB (ρ id) b → B' ≤ b → FrsFree b xs vs) →
    ∃ ρ', Inv w0 B ρ' H2 ((takeVs k xs).2 ++ ob) (k + xs.length) w' ∧ REq k ρ ρ' ∧ DenVs ρ' H2 (takeVs k xs).1 vs ∧ ∀ x ∈ (takeVs k xs).1, x.lt (k + xs.length)
  | [], vs, k, ob, ρ, I, h, _ => ⟨ρ, I, REq.refl _ _, h, by simp [takeVs]⟩
  | x :: r, vs, k, ob, ρ, I, h, hfr => by
    obtain ⟨v, vs', rfl, h1, h2, h3⟩ := h
    obtain ⟨ρ1, I1, e1, d1, l1, o1⟩ := takeV_ok I hle hnew hB hKB h1 (fun id p hp b hb hb' hf => (hfr id p hp b hb hb').1 hf)
    obtain ⟨ρ2, I2, e2, d2, l2⟩ := takeVs_ok hle hnew hB hKB r vs' (k + 1) _ ρ1 I1 h2 (by
      intro id p hp b hb hb'
      rcases o1 id p hp with hq | ⟨rfl, hq1, hq2⟩
      · have hid := (I.objs id p hq).1
        rw [e1 id hid] at hb
        exact (hfr id p hq b hb hb').2
      · rw [hq1] at hb
        exact h3 hq2 b hb)
    refine ⟨ρ2, ?_, REq.trans e1 e2 (by omega), ⟨v, vs', rfl, ?_, d2⟩, ?_⟩
    · simp only [takeVs, List.append_assoc, List.length_cons]
      rw [show k + (r.length + 1) = k + 1 + r.length by omega]
      exact I2
    · exact d1.mono e2 (HLe.refl _) l1
    · intro y hy
      simp only [takeVs, List.mem_cons, List.length_cons] at hy ⊢
      rcases hy with rfl | hy
      · exact l1.mono (by omega)
      · exact (l2 y hy).mono (by omega)
theorem chsV_den : ∀ {cs : List Ch} {xs : List V} {us : List Value}, chsV cs = some xs → DenChs ρ H cs us → DenVs ρ H xs us
  | [], xs, us, h, hd => by cases h; exact hd
  | .one c :: r, xs, us, h, hd => by
    simp only [chsV, Option.map_eq_some_iff] at h
    obtain ⟨ys, h1, rfl⟩ := h
    obtain ⟨v, vs', rfl, h2, h3⟩ := hd
    exact ⟨v, vs', rfl, h2, chsV_den h1 h3⟩
  | .arr .. :: _, _, _, h, _ => by cases h
theorem takeVs_ch : ∀ {cs : List Ch} {xs : List V} {us : List Value} {k : Nat}, chsV cs = some xs → DenVs ρ H (takeVs k xs).1 us → DenChs ρ H (vsCh (takeVs k xs).1) us
  | [], xs, us, k, h, hd => by cases h; exact hd
  | .one c :: r, xs, us, k, h, hd => by
    simp only [chsV, Option.map_eq_some_iff] at h
    obtain ⟨ys, h1, rfl⟩ := h
    obtain ⟨v, vs', rfl, h2, h3⟩ := hd
    have key : ∃ c', (takeV k (.one c)).1 = .one c' := by cases c <;> exact ⟨_, rfl⟩
    obtain ⟨c', e⟩ := key
    have h2' : DenV ρ H (takeV k (.one c)).1 v := h2
    rw [e] at h2'
    show DenChs ρ H (vsCh ((takeV k (.one c)).1 :: (takeVs (k + 1) ys).1)) (v :: vs')
    rw [e]
    exact ⟨v, vs', rfl, h2', takeVs_ch h1 h3⟩
  | .arr .. :: _, _, _, _, h, _ => by cases h
theorem vsCh_lt {n : Nat} : ∀ {xs : List V}, (∀ x ∈ xs, x.lt n) → ∀ c ∈ vsCh xs, c.lt n
  | [], _, c, hc => by cases hc
  | .one c :: r, h, c', hc => by
    rcases List.mem_cons.1 hc with rfl | hc
    · exact h (.one c) (by simp)
    · exact vsCh_lt (fun x hx => h x (by simp [hx])) c' hc
  | .agg _ :: r, h, c', hc => vsCh_lt (xs := r) (fun x hx => h x (by simp [hx])) c' hc
theorem aggFr_chs {x : V} {xs : List V} (h : aggFr x = some xs) : ∃ cs, x = .agg cs ∧ chsV cs = some xs := by
  cases x with
  | one c => cases h
  | agg cs =>
    refine ⟨cs, rfl, ?_⟩
    cases e : frsCh cs
    · simp [aggFr, e] at h
    · simpa [aggFr, e] using h
theorem call_ok0 (hE : EnvOk E) (I : Inv w0 B ρ H ob nx w) (G : GlobOk E.gl H) {f : FuncId} {vs : List V} {us : List Value} (hd : DenVs ρ H vs us) (h : callR0 E (lookO ob) nx f vs = some r) (hc : ∀ p ∈ r.cs, p) :
    Calls E.P f ⟨us⟩ w fun e w' => ∃ v, e = .returned v ∧ Post w0 B ob nx ρ H r v w' := by
  unfold callR0 at h
  split at h
  · rename_i sp hsp
    simp only [] at h
    split at h
    · rename_i hk
      simp only [Bool.and_eq_true, Bool.or_eq_true] at hk
      split at h
      · rename_i ps rr hrun
        split at h
        · rename_i hlen
          have hr := (Option.some.inj h).symm
          subst hr
          simp only [List.mem_append] at hc
          obtain ⟨hsok, _⟩ := hE.sp f sp hsp
          have hB : B ≤ w.heap.size := Nat.le_trans I.bsz I.below.size
          have fin : ∀ (v : Value) (w' : World) (H' : IH), Below w.heap.size w w' → Agree H' w' → (∀ b, b < w.heap.size → H' b = none ∨ H' b = H b) → DenRSV w' w.heap.size H' rr v →
              Post w0 B ob nx ρ H ⟨vs.flatMap (argP (lookO ob)) ++ ps, some (takeSV nx rr).1, (takeSV nx rr).2⟩ v w' := by
            intro v w' H' hb hag hlow hres
            have I1 := I.grow hb
            have hle1 : HLe H (fun b => if b < w.heap.size then H b else H' b) := by
              intro b o ho
              have := lt_of_some (I.agree b o ho)
              simp [this, ho]
            have hle2 : HLe H' (fun b => if b < w.heap.size then H b else H' b) := by
              intro b o ho
              show (if b < w.heap.size then H b else H' b) = some o
              split
              · rename_i hlt
                rcases hlow b hlt with h | h
                · rw [h] at ho; cases ho
                · rw [← h]; exact ho
              · exact ho
            have I2 : Inv w0 B ρ (fun b => if b < w.heap.size then H b else H' b) ob nx w' := by
              refine I1.ext hle1 ?_ ?_ ?_
              · intro b o ho
                simp only [] at ho
                split at ho
                · rename_i hlt; rw [hb.block b hlt]; exact I.agree b o ho
                · exact hag b o ho
              · intro id p hp b hhb
                obtain ⟨_, k2, k3⟩ := I.hb hp hhb
                simp [k3, k2]
              · intro b hk
                have k3 := I.kLt hk
                simp [k3, (I.kp b hk).2.2.1]
            have hnew : ∀ b, w.heap.size ≤ b → (fun b => if b < w.heap.size then H b else H' b) b = H' b := by
              intro b hb'
              have : ¬ b < w.heap.size := by omega
              simp [this]
            have hfr : ∀ id p, lookO ob id = some p → ∀ b, HB (ρ id) b → w.heap.size ≤ b → False := by
              intro id p hp b hhb hle'
              have := (I.hb hp hhb).2.2
              omega
            cases rr with
            | val x =>
              cases hag : aggFr x with
              | none =>
                have hres : DenRV w' w.heap.size H' x v := by simp only [DenRSV, hag] at hres; exact hres
                have et : takeSV nx (.val x) = (.val (takeV nx x).1, (takeV nx x).2) := by simp only [takeSV, hag]
                rw [et]
                obtain ⟨ρ1, J1, e1, d1, l1, _⟩ := takeV_ok I2 hle2 hnew hB (fun b hk => I.kLt hk) hres (fun id p hp b hhb hle' => (hfr id p hp b hhb hle').elim)
                refine ⟨ρ1, _, J1.more (by simp [W]), hle1, e1, ?_⟩
                intro sv e; cases e
                exact ⟨d1, V.lt.mono (by simp [W]) l1⟩
              | some xs =>
                have hres2 : ∃ us : List Value, v = .agg ⟨us⟩ ∧ DenRVs w' w.heap.size H' xs us := by simp only [DenRSV, hag] at hres; exact hres
                have et : takeSV nx (.val x) = (.val (.agg (vsCh (takeVs nx xs).1)), (takeVs nx xs).2) := by simp only [takeSV, hag]
                rw [et]
                obtain ⟨cs, rfl, hcs⟩ := aggFr_chs hag
                obtain ⟨us', rfl, hres3⟩ := hres2
                obtain ⟨ρ1, J1, e1, d1, l1⟩ := takeVs_ok hle2 hnew hB (fun b hk => I.kLt hk) xs us' nx ob ρ I2 hres3 (fun id p hp b hhb hle' => (hfr id p hp b hhb hle').elim)
                have hl : xs.length ≤ 4 := by simp only [svLen, hag] at hlen; exact hlen
                refine ⟨ρ1, _, J1.more (by simp [W]; omega), hle1, e1, ?_⟩
                intro sv e; cases e
                exact ⟨⟨us', rfl, takeVs_ch hcs d1⟩, fun y hy => Ch.lt.mono (by simp [W]; omega) (vsCh_lt l1 y hy)⟩
            | tup xs =>
              obtain ⟨us', rfl, hres⟩ := hres
              obtain ⟨ρ1, J1, e1, d1, l1⟩ := takeVs_ok hle2 hnew hB (fun b hk => I.kLt hk) xs us' nx ob ρ I2 hres (fun id p hp b hhb hle' => (hfr id p hp b hhb hle').elim)
              have hl : xs.length ≤ 4 := hlen
              refine ⟨ρ1, _, J1.more (by simp [W]; omega), hle1, e1, ?_⟩
              intro sv e; cases e
              exact ⟨⟨us', rfl, d1⟩, fun y hy => V.lt.mono (by simp [W]; omega) (l1 y hy)⟩
          rcases Bool.eq_false_or_eq_true sp.fr with hfr | hfr
          · -- in new memory
            have hargs := asArgs_den I hd (fun p hp => hc p (.inl hp)) hk.1
            have := hsok _ _ _ hrun (fun p hp => hc p (.inr hp)) w (snap w) us (fun b o h => h) (G.mono (snap_le I.agree)) hargs
            refine this.mono fun e w' he => ?_
            obtain ⟨v, H', rfl, h1, h2, h3, h4⟩ := he
            rw [hfr] at h3
            exact ⟨v, rfl, fin v w' H' h1 h2 (fun b hb => .inl (h3 b hb)) h4⟩
          · -- nothing was lent
            have hnl : vs.all (fun v => !lentV v) = true := by
              rcases hk.2 with h | h
              · rw [hfr] at h; cases h
              · exact h
            have hsame : vs.map (asArg (lookO ob)) = vs := by
              clear hd hk hrun hc h fin
              induction vs with
              | nil => rfl
              | cons x r ih =>
                simp only [List.all_cons, Bool.and_eq_true, Bool.not_eq_true'] at hnl
                rw [List.map_cons, asArg_same hnl.1, ih hnl.2]
            rw [hsame] at hrun hk
            have := hsok _ _ _ hrun (fun p hp => hc p (.inr hp)) w H us I.agree G (denVs_pure hd hk.1)
            refine this.mono fun e w' he => ?_
            obtain ⟨v, H', rfl, h1, h2, h3, h4⟩ := he
            rw [hfr] at h3
            exact ⟨v, rfl, fin v w' H' h1 h2 (fun b hb => .inr (h3 b hb)) h4⟩
        · cases h
      · cases h
    · cases h
  · cases h
theorem argP_same {ob1 ob2 : List (Nat × Option AObj)} {x : V} (h : lentV x = false) : argP (lookO ob1) x = argP (lookO ob2) x := by
  have key : ∀ c, lentC c = false → rowP (lookO ob1) c = rowP (lookO ob2) c := by
    intro c hc
    cases c <;> simp [lentC] at hc <;> rfl
  cases x with
  | one c => exact key c h
  | agg cs =>
    simp only [lentV] at h
    simp only [argP]
    induction cs with
    | nil => rfl
    | cons c r ih =>
      simp only [List.any_cons, Bool.or_eq_false_iff] at h
      rw [List.flatMap_cons, List.flatMap_cons, ih h.2]
      cases c with
      | one c => simp only []; rw [key c h.1]
      | arr => rfl
theorem callR0_same {ob1 ob2 : List (Nat × Option AObj)} {f : FuncId} {vs : List V} (h : vs.all (fun v => !lentV v) = true) : callR0 E (lookO ob1) nx f vs = callR0 E (lookO ob2) nx f vs := by
  have e1 : ∀ ob : List (Nat × Option AObj), vs.map (asArg (lookO ob)) = vs := by
    intro ob
    induction vs with
    | nil => rfl
    | cons x r ih =>
      simp only [List.all_cons, Bool.and_eq_true, Bool.not_eq_true'] at h
      rw [List.map_cons, asArg_same h.1, ih h.2]
  have e2 : vs.flatMap (argP (lookO ob1)) = vs.flatMap (argP (lookO ob2)) := by
    clear e1
    induction vs with
    | nil => rfl
    | cons x r ih =>
      simp only [List.all_cons, Bool.and_eq_true, Bool.not_eq_true'] at h
      rw [List.flatMap_cons, List.flatMap_cons, argP_same (ob2 := ob2) h.1, ih h.2]
  unfold callR0
  rw [e1, e1, e2]
theorem frzVs_den {H1 : IH} (hle : HLe H H1) : ∀ {vs : List V} {us : List Value}, (∀ v ∈ vs, v.lt nx) → (∀ j ∈ vs.flatMap ownV, ∀ (t : Ty) (xs : List t.T), lookO ob j = some (.row t xs) → Rd H1 (.sl t) xs [ρ j]) → DenVs ρ H vs us → DenVs ρ H1 (vs.map (frzV (lookO ob))) us
  | [], _, _, _, h => h
  | v :: r, us, hlt, hr, h => by
    obtain ⟨u, us', rfl, h1, h2⟩ := h
    have k1 := frzV_den (nx := nx) hle (hlt v List.mem_cons_self) (fun j hj => hr j (by simp only [List.flatMap_cons, List.mem_append]; exact .inl hj)) h1
    exact ⟨u, us', rfl, k1.1, frzVs_den hle (fun x hx => hlt x (List.mem_cons_of_mem _ hx)) (fun j hj => hr j (by simp only [List.flatMap_cons, List.mem_append]; exact .inr hj)) h2⟩
theorem call_ok (hE : EnvOk E) (I : Inv w0 B ρ H ob nx w) (G : GlobOk E.gl H) {f : FuncId} {vs : List V} {us : List Value} (hd : DenVs ρ H vs us) (hl : ∀ v ∈ vs, v.lt nx) (h : callR E (lookO ob) nx f vs = some r) (hc : ∀ p ∈ r.cs, p) :
    Calls E.P f ⟨us⟩ w fun e w' => ∃ v, e = .returned v ∧ Post w0 B ob nx ρ H r v w' := by
  unfold callR at h
  split at h
  · rename_i r0 h0
    cases h
    exact call_ok0 hE I G hd h0 hc
  · cases hb : (vs.map (frzV (lookO ob))).all fun v => !lentV v with
    | false => rw [hb] at h; cases h
    | true =>
      rw [hb, cond_true] at h
      split at h
      · rename_i r0 h0
        cases h
        obtain ⟨H1, hle, I1, hrd⟩ := freeze_rows I (vs.flatMap ownV)
        rw [callR0_same (ob2 := (vs.flatMap ownV).map (fun j => (j, (none : Option AObj))) ++ ob) hb] at h0
        have := call_ok0 hE I1 (G.mono hle) (frzVs_den (nx := nx) hle hl hrd hd) h0 hc
        refine this.mono fun e w' he => ?_
        obtain ⟨v, rfl, ρ', H', h1, h2, h3, h4⟩ := he
        refine ⟨v, rfl, ρ', H', ?_, hle.trans h2, h3, h4⟩
        rw [← List.append_assoc] at h1
        exact h1
      · cases h
theorem callR_fn (hE : EnvOk E) {f : FuncId} {vs : List V} (h : callR E (lookO ob) nx f vs = some r) : ∃ fn c, E.P.funcs[f]? = some fn ∧ fn.body = some c ∧ (fn.name == "runtime.NumGoroutine") = false := by
  have key : ∀ {us : List V} {r : Res}, callR0 E (lookO ob) nx f us = some r → ∃ fn c, E.P.funcs[f]? = some fn ∧ fn.body = some c ∧ (fn.name == "runtime.NumGoroutine") = false := by
    intro us r h
    unfold callR0 at h
    split at h
    · rename_i sp hsp; exact (hE.sp f sp hsp).2
    · cases h
  unfold callR at h
  split at h
  · rename_i r0 h0; exact key h0
  · cases hb : (vs.map (frzV (lookO ob))).all fun v => !lentV v with
    | false => rw [hb] at h; cases h
    | true =>
      rw [hb, cond_true] at h
      split at h
      · rename_i r0 h0; exact key h0
      · cases h
theorem evs_ok (hv : EvOk ρ H nx ev a) : ∀ {xs : List Operand} {vs : List V}, evs ev xs = some vs → DenVs ρ H vs (xs.map a.eval) ∧ ∀ v ∈ vs, v.lt nx
  | [], vs, h => by cases h; exact ⟨rfl, by simp⟩
  | x :: xs, vs, h => by
    simp only [evs] at h
    split at h
    · rename_i v hx
      obtain ⟨qs, h1, rfl⟩ := Option.map_eq_some_iff.1 h
      obtain ⟨k1, k2⟩ := hv.val hx
      obtain ⟨m1, m2⟩ := evs_ok hv h1
      refine ⟨⟨_, _, rfl, k1, m1⟩, fun p hp => ?_⟩
      rcases List.mem_cons.1 hp with rfl | hp
      · exact k2
      · exact m2 p hp
    · cases h
theorem sound_ex (hE : EnvOk E) (I : Inv w0 B ρ H ob nx w) (hv : EvOk ρ H nx ev a) {x : Operand} {args : Array Operand} {ts : Array TypeId} {f : FuncId} {vs : List V} {k : ExK} (ho : o.op = .call ⟨.value x, args, ts⟩)
    (hx : (ev x).bind one? = some (.fn f [] [])) (hvs : evs ev args.toList = some vs) (he : E.ex f = some k) (h : exR k vs = some r) (hc : ∀ p ∈ r.cs, p) : StepOk E.P o a w (Post w0 B ob nx ρ H r) := by
  obtain ⟨k1, _⟩ := hv.one hx
  obtain ⟨p, q, k2, k3, k4⟩ := k1
  have k3' : p = [] := k3
  have k4' : q = [] := k4
  subst k3' k4'
  obtain ⟨m1, _⟩ := evs_ok hv hvs
  obtain ⟨fn, hf, hn, hb, hx1, hx2⟩ := hE.ex f k he
  have hargs : (args.map a.eval : Array Value) = ⟨args.toList.map a.eval⟩ := by apply Array.ext'; simp
  have fin : ∀ v, (exRow k ⟨args.toList.map a.eval⟩).run E.P w = .ok v w → (execOp a.eval o).run E.P w = .ok (.value v) w := by
    intro v hr
    have hcf := run_callFunc_extern (P := E.P) hf hn hb hx1 hx2 ⟨args.toList.map a.eval⟩ w
    rw [hr] at hcf
    simp only [Result.andThen_ok] at hcf
    simp [execOp, ho, resolve, k2, Deferred.ofValue, invoke, hargs]
    exact hcf
  unfold exR at h
  split at h
  · obtain ⟨v, l, e1, e2, e3⟩ := m1
    have e2' : v = _ := e2
    have e3' : l = [] := e3
    subst e2' e3'
    refine ok_rc I h (fin _ ?_) rfl trivial
    rw [e1]; rfl
  · obtain ⟨v, l, e1, e2, e3⟩ := m1
    have e2' : v = _ := e2
    have e3' : l = [] := e3
    subst e2' e3'
    refine ok_rc I h (fin _ ?_) rfl trivial
    rw [e1]; rfl
  · obtain ⟨v, l, e1, e2, e3⟩ := m1
    have e2' : v = _ := e2
    have e3' : l = [] := e3
    subst e2' e3'
    refine ok_rc I h (fin _ ?_) rfl trivial
    rw [e1]; rfl
  · obtain ⟨v, l, e1, e2, e3⟩ := m1
    have e2' : v = _ := e2
    have e3' : l = [] := e3
    subst e2' e3'
    refine ok_rc I h (fin _ ?_) rfl trivial
    rw [e1]; rfl
  · rename_i b _
    obtain ⟨v, l, e1, e2, e3⟩ := m1
    have e2' : v = _ := e2
    have e3' : l = [] := e3
    subst e2' e3'
    have hz := rcc_holds h hc
    refine ok_rcc I h (v := .float .f64 (FloatKind.f64.encode ((FloatKind.f64.decode b).integral .down))) (fin _ ?_) rfl trivial
    rw [e1]
    show (Extern.MathFloor.toIntegral "math.archFloor" .down #[.float .f64 b]).run E.P w = _
    have e : Extern.MathFloor.toIntegral "math.archFloor" .down #[.float .f64 b] = Extern.MathFloor.toIntegral.match_1 (motive := fun _ => Sem Value) (FloatKind.f64.decode b) (fun _ _ => _) (fun d => _) := rfl
    rw [e]
    cases hd : FloatKind.f64.decode b with
    | nan s t => rw [hd] at hz; cases hz
    | number => rfl
    | infinity => rfl
  · cases h
theorem sound_call (hE : EnvOk E) (I : Inv w0 B ρ H ob nx w) (G : GlobOk E.gl H) (hv : EvOk ρ H nx ev a) {x : Operand} {args : Array Operand} {ts : Array TypeId} {f : FuncId} {vs : List V} (ho : o.op = .call ⟨.value x, args, ts⟩)
    (hx : (ev x).bind one? = some (.fn f [] [])) (hvs : evs ev args.toList = some vs)
    (h : (match E.ex f with
      | some k => exR k vs
      | none => match E.pt f with
        | some run => match run vs with
          | some p => rc (.ptr p.1 p.2)
          | none => none
        | none => callR E (lookO ob) nx f vs) = some r) (hc : ∀ p ∈ r.cs, p) : StepOk E.P o a w (Post w0 B ob nx ρ H r) := by
  split at h
  · rename_i k he
    exact sound_ex hE I hv ho hx hvs he h hc
  obtain ⟨k1, _⟩ := hv.one hx
  obtain ⟨p, q, k2, k3, k4⟩ := k1
  have k3' : p = [] := k3
  have k4' : q = [] := k4
  subst k3' k4'
  obtain ⟨m1, m2⟩ := evs_ok hv hvs
  have fin : ∀ {K : Ending → World → Prop}, (∃ fn c, E.P.funcs[f]? = some fn ∧ fn.body = some c ∧ (fn.name == "runtime.NumGoroutine") = false) → Calls E.P f ⟨args.toList.map a.eval⟩ w (fun e w' => ∃ v, e = .returned v ∧ Post w0 B ob nx ρ H r v w') → StepOk E.P o a w (Post w0 B ob nx ρ H r) := by
    rintro _ ⟨fn, c, hf, hb, hn⟩ hcall
    refine .inr (.inr ⟨f, ⟨args.toList.map a.eval⟩, ?_, hcall⟩)
    have hn' : ¬ fn.name = "runtime.NumGoroutine" := by simpa using hn
    have hargs : (args.map a.eval : Array Value) = ⟨args.toList.map a.eval⟩ := by apply Array.ext'; simp
    simp [execOp, ho, resolve, k2, Deferred.ofValue, invoke, callFunc, hf, hb, hn', hargs]
  split at h
  · rename_i run hpt
    split at h
    · rename_i p hp
      obtain ⟨hok, hfn⟩ := hE.pt f run hpt
      obtain ⟨hlt, hcl⟩ := hok vs p hp
      refine fin (K := fun _ _ => True) hfn ?_
      refine (hcl ρ H w _ I.one I.agree G m1).mono fun e w' he => ?_
      obtain ⟨v, rfl, hb, hpv⟩ := he
      refine ⟨v, rfl, ?_⟩
      have hr := rc_eq h
      subst hr
      exact post_grow I hb (sv := .val (.one (.ptr p.1 p.2))) hpv (hlt nx m2)
    · cases h
  · have hcall := call_ok hE I G m1 m2 h hc
    exact fin (K := fun _ _ => True) (callR_fn hE h) hcall
theorem DenVs.app : ∀ {xs ys : List V} {us vs : List Value}, DenVs ρ H xs us → DenVs ρ H ys vs → DenVs ρ H (xs ++ ys) (us ++ vs)
  | [], ys, us, vs, h, k => by rw [show us = [] from h]; exact k
  | x :: xs, ys, us, vs, h, k => by
    obtain ⟨u, us', rfl, h1, h2⟩ := h
    exact ⟨u, us' ++ vs, rfl, h1, DenVs.app h2 k⟩
theorem capVs_den : ∀ {ps : List (Nat × Nat)} {us : List Value}, ptrsOf ρ ps us → DenVs ρ H (capVs ps) us
  | [], us, h => h
  | p :: ps, us, h => by
    obtain ⟨u, us', rfl, h1, h2⟩ := h
    exact ⟨u, us', rfl, h1, capVs_den h2⟩
theorem sound_callF (hE : EnvOk E) (I : Inv w0 B ρ H ob nx w) (G : GlobOk E.gl H) (hv : EvOk ρ H nx ev a) {x : Operand} {args : Array Operand} {ts : Array TypeId} {f : FuncId} {p q : List (Nat × Nat)} {vs : List V} (ho : o.op = .call ⟨.value x, args, ts⟩)
    (hx : (ev x).bind one? = some (.fn f p q)) (hvs : evs ev args.toList = some vs)
    (h : callR E (lookO ob) nx f (capVs p ++ vs ++ capVs q) = some r) (hc : ∀ p ∈ r.cs, p) : StepOk E.P o a w (Post w0 B ob nx ρ H r) := by
  obtain ⟨k1, kl⟩ := hv.one hx
  have kl : (∀ x ∈ p, x.1 < nx) ∧ (∀ x ∈ q, x.1 < nx) := kl
  obtain ⟨us, vs1, k2, k3, k4⟩ := k1
  obtain ⟨m1, m2⟩ := evs_ok hv hvs
  have hcall := call_ok hE I G (((capVs_den k3).app m1).app (capVs_den k4)) (fun v hv' => by
    rcases List.mem_append.1 hv' with h1 | h1
    · rcases List.mem_append.1 h1 with h2 | h2
      · obtain ⟨x, hx1, rfl⟩ := List.mem_map.1 h2; exact kl.1 x hx1
      · exact m2 v h2
    · obtain ⟨x, hx1, rfl⟩ := List.mem_map.1 h1; exact kl.2 x hx1) h hc
  obtain ⟨fn, c, hf, hb, hn⟩ := callR_fn hE h
  refine .inr (.inr ⟨f, ⟨us ++ args.toList.map a.eval ++ vs1⟩, ?_, hcall⟩)
  have hn' : ¬ fn.name = "runtime.NumGoroutine" := by simpa using hn
  have hargs : ((⟨us⟩ : Array Value) ++ args.map a.eval ++ (⟨vs1⟩ : Array Value)) = ⟨us ++ args.toList.map a.eval ++ vs1⟩ := by apply Array.ext'; simp
  rw [← hargs]
  simp [execOp, ho, resolve, k2, Deferred.ofValue, invoke, callFunc, hf, hb, hn']
theorem fnd_den {f : FuncId} {c : Bool} {t : Ty} {x : t.T} {p q : List V} {v : Value} (h : DenC ρ H (.fnd f c t x) v) (he : fndArgs c t x = some (p, q)) :
    ∃ us vs, v = .func (.func f) ⟨us⟩ ⟨vs⟩ ∧ DenVs ρ H p us ∧ DenVs ρ H q vs ∧ (∀ y ∈ p, y.lt nx) ∧ ∀ y ∈ q, y.lt nx := by
  cases c with
  | false =>
    obtain ⟨u, rfl, k⟩ := h
    cases t with
    | sl t =>
      cases he
      exact ⟨[u], [], rfl, ⟨u, [], rfl, k, rfl⟩, rfl, fun y hy => by rw [List.mem_singleton.1 hy]; trivial, fun y hy => by simp at hy⟩
    | _ => simp [fndArgs] at he
  | true =>
    obtain ⟨b, off, cc, e, fr, rfl, k1, k2⟩ := h
    cases he
    exact ⟨[], [_], rfl, rfl, ⟨_, [], rfl, ⟨b, off, cc, e, fr, rfl, k1, k2⟩, rfl⟩, fun y hy => by simp at hy, fun y hy => by rw [List.mem_singleton.1 hy]; trivial⟩
theorem sound_callD (hE : EnvOk E) (I : Inv w0 B ρ H ob nx w) (G : GlobOk E.gl H) (hv : EvOk ρ H nx ev a) {x : Operand} {args : Array Operand} {ts : Array TypeId} {f : FuncId} {c : Bool} {t : Ty} {y : t.T} {p q vs : List V} (ho : o.op = .call ⟨.value x, args, ts⟩)
    (hx : (ev x).bind one? = some (.fnd f c t y)) (hpq : fndArgs c t y = some (p, q)) (hvs : evs ev args.toList = some vs)
    (h : callR E (lookO ob) nx f (p ++ vs ++ q) = some r) (hc : ∀ p ∈ r.cs, p) : StepOk E.P o a w (Post w0 B ob nx ρ H r) := by
  obtain ⟨k1, _⟩ := hv.one hx
  obtain ⟨us, vs1, k2, k3, k4, l3, l4⟩ := fnd_den (nx := nx) k1 hpq
  obtain ⟨m1, m2⟩ := evs_ok hv hvs
  have hcall := call_ok hE I G ((k3.app m1).app k4) (fun v hv' => by
    rcases List.mem_append.1 hv' with h1 | h1
    · rcases List.mem_append.1 h1 with h2 | h2
      · exact l3 v h2
      · exact m2 v h2
    · exact l4 v h1) h hc
  obtain ⟨fn, c, hf, hb, hn⟩ := callR_fn hE h
  refine .inr (.inr ⟨f, ⟨us ++ args.toList.map a.eval ++ vs1⟩, ?_, hcall⟩)
  have hn' : ¬ fn.name = "runtime.NumGoroutine" := by simpa using hn
  have hargs : ((⟨us⟩ : Array Value) ++ args.map a.eval ++ (⟨vs1⟩ : Array Value)) = ⟨us ++ args.toList.map a.eval ++ vs1⟩ := by apply Array.ext'; simp
  rw [← hargs]
  simp [execOp, ho, resolve, k2, Deferred.ofValue, invoke, callFunc, hf, hb, hn']
end
end Go.Sx

namespace Go.Sx
open Go.RowKit
section
variable {E : Env} {w0 : Base} {B : Nat} {ρ : Nat → Value} {H : IH} {ob : List (Nat × Option AObj)} {nx : Nat} {w : World} {ev : Operand → Option SV} {a : Act} {o : Oper} {r : Res}
theorem rowAs_shows (I : Inv w0 B ρ H ob nx w) {t : Ty} {c : C} {xs : List t.T} {v : Value} (h : rowAs (lookO ob) t c = some xs) (hz : t.sz ≠ 0) (hd : DenC ρ H c v) (hp : ∀ p ∈ rowP (lookO ob) c, p) : Shows w H t xs v := by
  have key : ∀ c, DenC ρ H c v → (∀ p ∈ rowP (lookO ob) c, p) → (match rowOf (lookO ob) c with
      | some ⟨t', xs⟩ => if h : t' = t then some (h ▸ xs) else none
      | none => none) = some xs → Shows w H t xs v := by
    intro c hd hp h
    split at h
    · rename_i t' xs' hrow
      split at h
      · rename_i e
        subst e
        cases h
        refine rowOf_ok I hrow (fun _ => hz) hd ?_
        intro id off sz lo n e
        subst e
        simp only [rowP, hrow] at hp
        have := hp (xs'.length = n) (by simp)
        exact this.symm
      · cases h
    · cases h
  unfold rowAs at h
  split at h
  · cases h
    rw [show v = _ from hd]
    exact ⟨none, 0, rfl, Nat.le_refl _, .inl rfl⟩
  · exact key c hd hp h
theorem run_append_op {P : Program} {x y : Operand} {T : TypeId} {v : Value} {w' : World} (ho : o.op = .call ⟨.builtin .append, #[x, y], #[T, T]⟩) (h : (Builtin.append_ #[T, T] o.type #[a.eval x, a.eval y]).run P w = .ok v w') :
    (execOp a.eval o).run P w = .ok (.value v) w' := by
  simp [execOp, ho, resolve, invoke, builtin, h]
theorem own_row {t : Ty} {id : Nat} {xs : List t.T} (h : rowAs (lookO ob) t (.own id) = some xs) : lookO ob id = some (.row t xs) := by
  simp only [rowAs, rowOf] at h
  split at h
  · rename_i t' xs' hrow
    split at h
    · rename_i e; subst e; cases h
      split at hrow
      · rename_i hh; cases hrow; exact hh
      · cases hrow
    · cases h
  · cases h
theorem append_fresh (hE : EnvOk E) (I : Inv w0 B ρ H ob nx w) {T e : TypeId} {d de : TD} {t : Ty} {ys : List t.T} {ad : Addr} {x : Value} {ty : TypeId} {cs : List Prop} (hT : E.tt T = some d) (hk : d.kind = .slc e) (he : E.tt e = some de) (ht : de.ty = some t)
    (hx : Shows w H t ys x) (hroom : room ys.length de.bytes) :
    ∃ v' w', (Builtin.append_ #[T, T] ty #[.slice (some ad) 0 0, x]).run E.P w = .ok v' w' ∧ Post w0 B ob nx ρ H ⟨cs, some (.val (.one (.sl t ys))), []⟩ v' w' := by
  obtain ⟨i, z, g1, g2, g3, g4, g5, g6⟩ := (hE.tt e de he).info
  have hzr := g6 t ht H
  have hzs : z.cells.size = t.sz := by simpa using Rd.len _ _ _ hzr
  have hsz : i.size = t.sz := by rw [g2]; exact ((hE.tt e de he).ty t ht).2.symm
  have hu := (hE.tt T d hT).slc e hk
  obtain ⟨r1, r2⟩ := hroom
  obtain ⟨xa, xc, rfl, q2, q3⟩ := hx
  by_cases hy0 : ys.length = 0
  · have hys : ys = [] := List.length_eq_zero_iff.1 hy0
    subst hys
    refine ⟨_, w, run_append_none T ty e i hu g1 (some ad) xa 0 0 xc (Nat.le_refl _), ρ, H, I.more (by simp [W]), HLe.refl _, REq.refl _ _, fun sv e => ?_⟩
    cases e
    exact ⟨⟨_, 0, rfl, Nat.le_refl _, .inl rfl⟩, trivial⟩
  · rcases q3 with q3 | ⟨b, off, c, e', fr, rfl, k2, k3, k4⟩
    · exact absurd q3 hy0
    · have hnl : (seg c off (ys.length * t.sz)).length = ys.length * i.size := by rw [seg_len k3, hsz]
      have hnews := cell_seg k2 (o := off) (n := ys.length * t.sz)
      have hnr := news_rd k4
      have hnl' : (seg c off (ys.length * t.sz)).length = ys.length * t.sz := seg_len k3
      have hrun := run_append_grow (P := E.P) w T ty e i z hu g1 g4 ad 0 0 [] (by simp) (by intro j u h; simp at h) ⟨b, off, none⟩ ys.length xc (seg c off (ys.length * t.sz)) hnl hnews (by omega) (by omega)
        (growslice_fits (by omega) (by rw [g3]; simpa using r2))
      refine ⟨_, _, hrun, ?_⟩
      have hcap := grownCap_ge w (0 + ys.length) 0 e
      have hcapm := grownCap_le_maxLen w (0 + ys.length) 0 e (by simp only [maxLen]; omega)
      have hp := post_row (w := w.drew) (e := e) (I.grow (by exact ⟨rfl, rfl, rfl, Nat.le_refl _, fun _ _ => rfl⟩)) (cs := cs) (t := t) (xs := ys) (cap := grownCap w (0 + ys.length) 0 e)
        (cur := ([] : List Value).toArray ++ (seg c off (ys.length * t.sz)).toArray ++ Builtin.zeroCells z.cells (grownCap w (0 + ys.length) 0 e - (0 + ys.length)))
        (by omega) hcapm
        (by
          simp only [Array.size_append, List.size_toArray, List.length_nil, hnl', size_zeroCells, hzs]
          rw [Nat.zero_add, ← Nat.add_mul]; congr 1; omega)
        (fun j hj => by
          have := row_append (t := t) (xs := []) (us := []) (by simp) (by intro j h; simp at h) hnr (Builtin.zeroCells z.cells (grownCap w (0 + ys.length) 0 e - (0 + ys.length))).toList hnl' j (by simpa using hj)
          unfold seg at this ⊢
          simpa using this) (dels := [])
      rw [Nat.zero_add] at hp ⊢
      exact (still_ok (r := ⟨cs, some (.val (.one (.own nx))), [(nx, some (.row t ys))]⟩) (r' := ⟨cs, some (.val (.one (.sl t ys))), []⟩) (fun id p h => (I.objs id p h).1) (by simp [still]) (by simpa using hp)).1
theorem sound_append (hE : EnvOk E) (I : Inv w0 B ρ H ob nx w) {T : TypeId} {x y : Operand} {s c : C} (ho : o.op = .call ⟨.builtin .append, #[x, y], #[T, T]⟩)
    (hx : DenC ρ H s (a.eval x)) (hy : DenC ρ H c (a.eval y)) (h : appendR E (lookO ob) nx T s c = some r) (hc : ∀ p ∈ r.cs, p) : StepOk E.P o a w (Post w0 B ob nx ρ H r) := by
  unfold appendR at h
  split at h
  · rename_i e _ _ hT
    split at h
    · rename_i de he
      split at h
      · rename_i t ht
        have hz : t.sz ≠ 0 := by rw [((hE.tt e de he).ty t ht).2]; exact (hE.tt e de he).pos
        split at h
        · rename_i ys hys
          have hr := (Option.some.inj h).symm
          subst hr
          simp only [List.mem_append, List.mem_singleton] at hc
          have hsh := rowAs_shows I hys hz hy (fun p hp => hc p (.inl hp))
          have hx' : a.eval x = .slice none 0 0 := hx
          obtain ⟨v', w', m1, m2⟩ := append_own hE I (ty := o.type) (cs := rowP (lookO ob) c ++ [room ys.length de.bytes]) (dels := []) hT rfl he ht (v := a.eval x) (xs := []) (.inl ⟨hx', rfl⟩)
            (by intro b hb; rw [hx'] at hb; rcases hb with hb | ⟨_, _, hb⟩ | hb <;> cases hb) (by intro b hb; rw [hx'] at hb; rcases hb with hb | ⟨_, _, hb⟩ | hb <;> cases hb) hsh (by simpa using hc _ (.inr rfl))
          exact .inl ⟨v', w', run_append_op ho m1, by simpa using m2⟩
        · rename_i ys id hys
          split at h
          · rename_i xs hxs
            have hr := (Option.some.inj h).symm
            subst hr
            simp only [List.mem_append, List.mem_singleton] at hc
            have hsh := rowAs_shows I hys hz hy (fun p hp => hc p (.inl hp))
            have hrow := own_row hxs
            have hx' : a.eval x = ρ id := hx
            have hown : OwnRow w B H (a.eval x) t xs := by rw [hx']; exact (I.objs _ _ hrow).2.2
            obtain ⟨v', w', m1, m2⟩ := append_own hE I (ty := o.type) (cs := rowP (lookO ob) c ++ [room (xs.length + ys.length) de.bytes]) (dels := [id]) hT rfl he ht hown
              (by
                intro b hb id' p hp
                rw [hx'] at hb
                simp only [List.map_cons, List.map_nil, List.cons_append, List.nil_append, lookO_cons] at hp
                split at hp
                · cases hp
                · rename_i hne
                  exact I.sep id id' _ _ hne hrow hp b hb) (by intro b hb hk; rw [hx'] at hb; exact (I.kp b hk).2.2.2 id _ hrow hb) hsh (hc _ (.inr rfl))
            exact .inl ⟨v', w', run_append_op ho m1, m2⟩
          · cases h
        · rename_i ys t' xs' hys
          have hr := (Option.some.inj h).symm
          subst hr
          simp only [List.mem_append, List.mem_singleton] at hc
          have hsh := rowAs_shows I hys hz hy (fun p hp => hc p (.inl hp))
          obtain ⟨_, ad, hx'⟩ : xs' = [] ∧ ∃ ad, a.eval x = .slice (some ad) 0 0 := hx
          obtain ⟨v', w', m1, m2⟩ := append_fresh hE I (ty := o.type) (ad := ad) (cs := rowP (lookO ob) c ++ [room ys.length de.bytes]) hT rfl he ht hsh (hc _ (.inr rfl))
          rw [← hx'] at m1
          exact .inl ⟨v', w', run_append_op ho m1, m2⟩
        · cases h
      · cases h
    · cases h
  · cases h
theorem run_append_room_str' {P : Program} (t u ty e e' : TypeId) (i : TypeInfo) (ht : P.underlying t = some (.slice e)) (hu : P.underlying u = some .string) (hi : P.info? e = some i) (hs1 : i.size = 1)
    (g sLen sCap : Nat) (cur : Array Value) (hg : Cells w g cur e') (s : ByteArray) (hroom : sLen + s.size ≤ sCap) (hfit : sLen + s.size ≤ cur.size) :
    (Builtin.append_ #[t, u] ty #[.slice (some ⟨g, 0, none⟩) sLen sCap, .string s]).run P w =
      .ok (.slice (some ⟨g, 0, none⟩) (sLen + s.size) sCap) (w.setRow g (cur.toList.take sLen ++ Lib.strCells s ++ cur.toList.drop (sLen + s.size)).toArray) := by
  have hf := Lib.run_firstCells_string (P := P) w 1 s
  have hst := storeCells_own (P := P) hg (by simpa [Lib.strCells_length] using hfit) (Lib.strCells_oneCell s)
  simp only [Lib.strCells_length] at hst
  simp [Builtin.append_, run_underlying ht, run_underlying hu, sizeOf, typeInfo, hi, hs1, Builtin.lenOf, hroom, hf, addr_add, hst]
theorem append_str (hE : EnvOk E) (I : Inv w0 B ρ H ob nx w) {T T' e : TypeId} {d d' de : TD} {xs : List Int} {l : List UInt8} {v : Value} {ty : TypeId} {cs : List Prop} {dels : List Nat} (hT : E.tt T = some d) (hk : d.kind = .slc e) (hT' : E.tt T' = some d') (hk' : d'.kind = .sc) (hs' : d'.ty = some .str)
    (he : E.tt e = some de) (ht : de.ty = some (.int .u8)) (hown : OwnRow w B H v (.int .u8) xs) (hdel : ∀ b, HB v b → ∀ id p, lookO (dels.map (fun k => (k, (none : Option AObj))) ++ ob) id = some p → ¬ HB (ρ id) b) (hKv : ∀ b, HB v b → ¬ w0.K b)
    (hroom : room (xs.length + l.length) de.bytes) :
    ∃ v' w', (Builtin.append_ #[T, T'] ty #[v, .string ⟨⟨l⟩⟩]).run E.P w = .ok v' w' ∧
      Post w0 B ob nx ρ H ⟨cs, some (.val (.one (.own nx))), (nx, some (.row (.int .u8) (xs ++ strNs l))) :: dels.map fun k => (k, none)⟩ v' w' := by
  obtain ⟨i, z, g1, g2, g3, g4, g5, g6⟩ := (hE.tt e de he).info
  have hzr := g6 _ ht H
  have hzs : z.cells.size = (Ty.int .u8).sz := by simpa using Rd.len _ _ _ hzr
  have hsz : i.size = 1 := by rw [g2]; exact ((hE.tt e de he).ty _ ht).2.symm
  have hu := (hE.tt T d hT).slc e hk
  have hu' := sc_str (hE.tt T' d' hT') hk' hs'
  have hl : (strNs l).length = l.length := by simp [strNs]
  have hs : (⟨⟨l⟩⟩ : ByteArray).size = l.length := rfl
  have hroom' : room (xs.length + (strNs l).length) de.bytes := by rw [hl]; exact hroom
  obtain ⟨r1, r2⟩ := hroom
  have hnews : Lib.strCells ⟨⟨l⟩⟩ = (strNs l).map (Value.int .u8) := by simp [Lib.strCells, strNs]
  refine append_core (t := .int .u8) (ys := strNs l) (ap := fun v => Builtin.append_ #[T, T'] ty #[v, .string ⟨⟨l⟩⟩]) (news := Lib.strCells ⟨⟨l⟩⟩) (z := z) hE I he ht hown hdel hKv hroom' hzs (by rw [hnews]; simp [Ty.sz]) ?_ ?_ ?_ ?_ ?_
  · intro j hj
    rw [hnews]
    show _ = _
    have hj' : j < ((strNs l).map (Value.int .u8)).length := by simpa using hj
    simp only [Ty.sz, Nat.mul_one]
    rw [List.drop_eq_getElem_cons hj']
    simp
  · intro h0 va vn vc hvc
    rw [hl] at h0
    have : l = [] := List.length_eq_zero_iff.1 h0
    subst this
    have hf := Lib.run_firstCells_string (P := E.P) w 1 ⟨⟨[]⟩⟩
    have hs0 : (⟨⟨[]⟩⟩ : ByteArray).size = 0 := rfl
    rw [hs0] at hf
    have hc0 : Lib.strCells ⟨⟨[]⟩⟩ = [] := rfl
    rw [hc0] at hf
    cases va <;> simp [Builtin.append_, run_underlying hu, run_underlying hu', sizeOf, typeInfo, g1, hsz, Builtin.lenOf, hs0, hf, hvc, storeCells]
  · intro h0 hx0
    rw [hl] at h0 ⊢
    have hr := run_append_nil_string (P := E.P) w T T' ty e i z hu hu' g1 g4 ⟨⟨l⟩⟩ (by rw [hs]; omega) (by rw [hs]; omega) (by rw [g3, hs]; rw [hx0, Nat.zero_add] at r2; omega)
    rw [hs] at hr
    have e1 : ((⟨⟨l⟩⟩ : ByteArray).data.map fun b => Value.int .u8 b.toNat) = (Lib.strCells ⟨⟨l⟩⟩).toArray := by
      apply Array.ext'
      simp [Lib.strCells]
    rw [e1] at hr
    exact hr
  · intro h0 g cap cur e' o4 hfit hle
    rw [hl] at hfit ⊢
    have hlen : (Lib.strCells ⟨⟨l⟩⟩).length = l.length := by rw [Lib.strCells_length]; rfl
    have hle' : xs.length + l.length ≤ cur.size := by rw [hlen] at hle; simpa [Ty.sz] using hle
    have := run_append_room_str' (w := w) (P := E.P) T T' ty e e' i hu hu' g1 hsz g xs.length cap cur o4 ⟨⟨l⟩⟩ (by rw [hs]; exact hfit) (by rw [hs]; exact hle')
    rw [hs] at this
    rw [hlen]
    simpa [Ty.sz] using this
  · intro h0 g cap olds hol holds hlt
    rw [hl] at hlt ⊢
    have := Lib.run_append_grow_string (P := E.P) w T T' ty e i z hu hu' g1 g4 ⟨g, 0, none⟩ xs.length cap olds (by rw [hsz]; simpa [Ty.sz] using hol) holds ⟨⟨l⟩⟩ (by rw [hs]; exact hlt) (by rw [hs]; omega) (by rw [hs]; exact growslice_fits (by omega) (by rw [g3]; exact r2))
    rw [hs] at this
    exact this
theorem run_append_op' {P : Program} {x y : Operand} {T T' : TypeId} {v : Value} {w' : World} (ho : o.op = .call ⟨.builtin .append, #[x, y], #[T, T']⟩) (h : (Builtin.append_ #[T, T'] o.type #[a.eval x, a.eval y]).run P w = .ok v w') :
    (execOp a.eval o).run P w = .ok (.value v) w' := by
  simp [execOp, ho, resolve, invoke, builtin, h]
theorem sound_append_str (hE : EnvOk E) (I : Inv w0 B ρ H ob nx w) {T T' : TypeId} {x y : Operand} {s c : C} (ho : o.op = .call ⟨.builtin .append, #[x, y], #[T, T']⟩)
    (hx : DenC ρ H s (a.eval x)) (hy : DenC ρ H c (a.eval y)) (h : appendS E (lookO ob) nx T T' s c = some r) (hc : ∀ p ∈ r.cs, p) : StepOk E.P o a w (Post w0 B ob nx ρ H r) := by
  unfold appendS at h
  split at h
  · rename_i e _ _ l hT hT'
    split at h
    · rename_i sz by_ _ _ _ he
      have hy' : a.eval y = .string ⟨⟨l⟩⟩ := hy
      split at h
      · have hr := (Option.some.inj h).symm
        subst hr
        simp only [List.mem_singleton, forall_eq] at hc
        have hx' : a.eval x = .slice none 0 0 := hx
        obtain ⟨v', w', m1, m2⟩ := append_str hE I (ty := o.type) (cs := [room l.length by_]) (dels := []) hT rfl hT' rfl rfl he rfl (v := a.eval x) (xs := []) (l := l) (.inl ⟨hx', rfl⟩)
            (by intro b hb; rw [hx'] at hb; rcases hb with hb | ⟨_, _, hb⟩ | hb <;> cases hb) (by intro b hb; rw [hx'] at hb; rcases hb with hb | ⟨_, _, hb⟩ | hb <;> cases hb) (by simpa using hc)
        exact .inl ⟨v', w', run_append_op' ho (by rw [hy']; exact m1), by simpa using m2⟩
      · rename_i id
        split at h
        · rename_i xs hxs
          have hr := (Option.some.inj h).symm
          subst hr
          simp only [List.mem_singleton, forall_eq] at hc
          have hrow := own_row hxs
          have hx' : a.eval x = ρ id := hx
          have hown : OwnRow w B H (a.eval x) (.int .u8) xs := by rw [hx']; exact (I.objs _ _ hrow).2.2
          obtain ⟨v', w', m1, m2⟩ := append_str hE I (ty := o.type) (cs := [room (xs.length + l.length) by_]) (dels := [id]) hT rfl hT' rfl rfl he rfl hown (l := l)
              (by
                intro b hb id' p hp
                rw [hx'] at hb
                simp only [List.map_cons, List.map_nil, List.cons_append, List.nil_append, lookO_cons] at hp
                split at hp
                · cases hp
                · rename_i hne
                  exact I.sep id id' _ _ hne hrow hp b hb) (by intro b hb hk; rw [hx'] at hb; exact (I.kp b hk).2.2.2 id _ hrow hb) hc
          exact .inl ⟨v', w', run_append_op' ho (by rw [hy']; exact m1), m2⟩
        · cases h
      · cases h
    · cases h
  · cases h
theorem fillS_ok (hρ : ∀ id, (ρ id).oneCell' = true) {fs : List (Nat × Nat × Bool)} : ∀ {vs : List (Nat × V)} {us : List (Nat × Value)} {cs ys : List Ch} {cells : Array Value}, fillS fs cs vs = some ys → DenParts ρ H nx vs us → DenChs ρ H cs cells.toList → (∀ c ∈ cs, c.lt nx) →
    ∃ cells', Instr.fill (fun i => (fs[i]?).map fun x => (x.1, x.2.1)) cells us = some cells' ∧ DenChs ρ H ys cells'.toList ∧ ∀ c ∈ ys, c.lt nx
  | [], us, cs, ys, cells, h, hd, hc, hl => by
    cases h
    rw [show us = [] from hd]
    exact ⟨cells, rfl, hc, hl⟩
  | (i, v) :: rest, us, cs, ys, cells, h, hd, hc, hl => by
    obtain ⟨u, us', rfl, h1, h2, h3⟩ := hd
    simp only [fillS] at h
    split at h
    · rename_i off n ag hfs
      split at h
      · rename_i hs
        obtain ⟨cs', k1, k2⟩ := Option.bind_eq_some_iff.1 h
        obtain ⟨m1, m2, m3⟩ := put_fill hρ k1 hs hc h1
        obtain ⟨cells', g1, g2, g3⟩ := fillS_ok hρ k2 h3 m3 (box_lt k1 hl (chs_lt h2))
        refine ⟨cells', ?_, g2, g3⟩
        have hno : ¬ (u.cells.size ≠ n ∨ off + u.cells.size > cells.size) := by omega
        simp only [Instr.fill, hfs, Option.map_some, Bool.or_eq_true, decide_eq_true_eq, hno, if_false]
        exact g1
      · cases h
    · cases h
theorem fillA_ok (hρ : ∀ id, (ρ id).oneCell' = true) {sz : Nat} : ∀ {vs : List (Nat × V)} {us : List (Nat × Value)} {cs ys : List Ch} {cells : Array Value}, fillA sz cs vs = some ys → DenParts ρ H nx vs us → DenChs ρ H cs cells.toList → (∀ c ∈ cs, c.lt nx) →
    ∃ cells', Instr.fill (fun i => some (i * sz, sz)) cells us = some cells' ∧ DenChs ρ H ys cells'.toList ∧ ∀ c ∈ ys, c.lt nx
  | [], us, cs, ys, cells, h, hd, hc, hl => by
    cases h
    rw [show us = [] from hd]
    exact ⟨cells, rfl, hc, hl⟩
  | (i, v) :: rest, us, cs, ys, cells, h, hd, hc, hl => by
    obtain ⟨u, us', rfl, h1, h2, h3⟩ := hd
    simp only [fillA] at h
    split at h
    · rename_i hs
      obtain ⟨cs', k1, k2⟩ := Option.bind_eq_some_iff.1 h
      obtain ⟨m1, m2, m3⟩ := put_fill hρ k1 hs hc h1
      obtain ⟨cells', g1, g2, g3⟩ := fillA_ok hρ k2 h3 m3 (box_lt k1 hl (chs_lt h2))
      refine ⟨cells', ?_, g2, g3⟩
      have hno : ¬ (u.cells.size ≠ sz ∨ i * sz + u.cells.size > cells.size) := by omega
      simp only [Instr.fill, Bool.or_eq_true, decide_eq_true_eq, hno, if_false]
      exact g1
    · cases h
theorem places_ok {P : Program} : ∀ (fields : List Field) (fs : List (Nat × Nat × Bool)), fields.map (fun f => (f.offset, P.cellsOf f.type, aggOf P f.type)) = fs → (∀ f ∈ fields, (P.info? f.type).isSome) →
    fields.mapM (fun f => (P.info? f.type).map fun i => (f.offset, i.size)) = some (fs.map fun x => (x.1, x.2.1))
  | [], fs, h, _ => by subst h; rfl
  | f :: r, fs, h, hi => by
    subst h
    obtain ⟨i, hi'⟩ := Option.isSome_iff_exists.1 (hi f (by simp))
    have ih := places_ok (P := P) r _ rfl (fun g hg => hi g (by simp [hg]))
    simp [List.mapM_cons, hi', ih, Program.cellsOf]
theorem sound_build (hE : EnvOk E) (I : Inv w0 B ρ H ob nx w) (hv : EvOk ρ H nx ev a) {T : TypeId} {ps : Array (Nat × Operand)} {vs : List (Nat × V)} {d : TD} {chs : List Ch} (ho : o.op = .build T ps) (hT : E.tt T = some d)
    (hp : parts ev ps.toList = some vs)
    (hk : (∃ fs, d.kind = .strct fs ∧ fillS fs d.zero vs = some chs) ∨ (∃ n e de t xs ys, d.kind = .arr n e ∧ E.tt e = some de ∧ d.zero = [.arr n t xs] ∧ de.sz = t.sz ∧ fillRow t xs vs = some ys ∧ chs = [.arr n t ys]) ∨ ∃ n e de, d.kind = .arr n e ∧ E.tt e = some de ∧ fillA de.sz d.zero vs = some chs)
    (hr : r = ⟨[], some (.val (.agg chs)), []⟩) : StepOk E.P o a w (Post w0 B ob nx ρ H r) := by
  have hd := parts_ok hv hp
  have hT' := hE.tt T d hT
  obtain ⟨i, z, g1, g2, g3, g4, g5, g6⟩ := hT'.info
  have hparts : (ps.map fun x => (x.1, a.eval x.2)).toList = ps.toList.map fun x => (x.1, a.eval x.2) := by simp
  have fin : ∀ cells : Array Value, E.P.built T (ps.toList.map fun x => (x.1, a.eval x.2)) = some cells → DenChs ρ H chs cells.toList → (∀ c ∈ chs, c.lt nx) → StepOk E.P o a w (Post w0 B ob nx ρ H r) := by
    intro cells hb hc hl
    rw [← hparts] at hb
    have hrun := run_build (P := E.P) w T _ cells hb
    refine ok_same I (sv := .val (.agg chs)) (v := .agg cells) ?_ ⟨cells.toList, rfl, hc⟩ hl hr
    simp [execOp, ho, hrun]
  rcases hk with ⟨fs, k1, k2⟩ | ⟨n, e, de, t, xs, ys, k1, k2, k3, k4, k5, rfl⟩ | ⟨n, e, de, k1, k2, k3⟩
  · obtain ⟨fields, m1, m2, m3⟩ := hT'.strct fs k1
    obtain ⟨cells, q1, q2, q3⟩ := fillS_ok I.one k2 hd (g5 ρ H) (fun c hc => (hT'.lt c hc).mono (by omega))
    refine fin cells ?_ q2 q3
    have hpl := places_ok (P := E.P) fields.toList fs m2 (fun f hf => (m3 f hf).2.1)
    simp only [Program.built, g1, m1, g4, hpl]
    rw [← q1]
    congr 1
    funext j
    simp
  · have hzero := g5 ρ H
    rw [k3] at hzero
    have hzr : Rd H (.arr n t) xs (z.cells.toList.take (n * t.sz)) := hzero.1
    have hz2 : z.cells.toList.drop (n * t.sz) = [] := hzero.2
    have hlen := hzr.2.1
    have hzs : z.cells.size = n * t.sz := by
      simp at hz2 hlen
      omega
    have htk : z.cells.toList.take (n * t.sz) = z.cells.toList := List.take_of_length_le (by simp; omega)
    rw [htk] at hzr
    have hpos : t.sz ≠ 0 := by rw [← k4]; exact (hE.tt e de k2).pos
    obtain ⟨ie, _, f1, f2, _⟩ := (hE.tt e de k2).info
    obtain ⟨cells, q1, q2, q3, q4⟩ := fillRow_ok I.one hpos (n := n) k5 hd hzr.1 hzs (fun j hj => hzr.2.2 j hj)
    refine fin cells ?_ ⟨⟨q2, ?_, ?_⟩, ?_⟩ (by simp [Ch.lt])
    · have hsz : ie.size = t.sz := by rw [f2, k4]
      simp only [Program.built, g1, hT'.arr n e k1, g4, f1, hsz]
      exact q1
    · simp; omega
    · intro j hj
      have e2 : cells.toList.take (n * t.sz) = cells.toList := List.take_of_length_le (by simp; omega)
      rw [e2]
      exact q4 j hj
    · simp [DenChs]; omega
  · obtain ⟨ie, _, f1, f2, _⟩ := (hE.tt e de k2).info
    obtain ⟨cells, q1, q2, q3⟩ := fillA_ok I.one k3 hd (g5 ρ H) (fun c hc => (hT'.lt c hc).mono (by omega))
    refine fin cells ?_ q2 q3
    simp only [Program.built, g1, hT'.arr n e k1, g4, f1, f2]
    exact q1
end
end Go.Sx
