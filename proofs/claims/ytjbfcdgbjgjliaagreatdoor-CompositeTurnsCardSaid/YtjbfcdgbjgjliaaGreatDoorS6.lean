/- A verified symbolic run of functions, part 6: lemmas, no claim of their own. -/
import Derived.Test.YtjbfcdgbjgjliaaGreatDoorS5
import Derived.Laws.Tables
import Derived.Lib.AppendStr
import Derived.Laws.BytesArg
import Derived.Laws.BytesString
import Derived.Laws.IdiomStrings
import Derived.WalkSpells
/- The engine's steps are right: append, written-out values, and all together. -/
namespace Go.Sx
open Go.RowKit
section
variable {E : Env} {w0 : Base} {B : Nat} {ρ : Nat → Value} {H : IH} {ob : List (Nat × Option AObj)} {nx : Nat} {w : World} {ev : Operand → Option SV} {a : Act} {o : Oper} {r : Res}
theorem rowAs_shows (I : Inv w0 B ρ H ob nx w) {t : Ty} {c : C} {xs : List t.T} {v : Value} (h : rowAs (lookO ob) t c = some xs) (hz : t.sz ≠ 0) (hd : DenC ρ H c v) (hp : ∀ p ∈ rowP (lookO ob) c, p) : Shows w H t xs v := by
  have key : ∀ c, DenC ρ H c v → (∀ p ∈ rowP (lookO ob) c, p) → (match rowOf (lookO ob) c with
      | some ⟨t', xs⟩ => if h : t' = t then some (h ▸ xs) else none
      | none => none) = some xs → Shows w H t xs v := by
    intro c hd hp h
    split at h
    · rename_i t' xs' hrow
      split at h
      · rename_i e
        subst e
        cases h
        refine rowOf_ok I hrow (fun _ => hz) hd ?_
        intro id off sz lo n e
        subst e
        simp only [rowP, hrow] at hp
        have := hp (xs'.length = n) (by simp)
        exact this.symm
      · cases h
    · cases h
  unfold rowAs at h
  split at h
  · cases h
    rw [show v = _ from hd]
    exact ⟨none, 0, rfl, Nat.le_refl _, .inl rfl⟩
  · exact key c hd hp h
theorem run_append_op {P : Program} {x y : Operand} {T : TypeId} {v : Value} {w' : World} (ho : o.op = .call ⟨.builtin .append, #[x, y], #[T, T]⟩) (h : (Builtin.append_ #[T, T] o.type #[a.eval x, a.eval y]).run P w = .ok v w') :
    (execOp a.eval o).run P w = .ok (.value v) w' := by
  simp [execOp, ho, resolve, invoke, builtin, h]
theorem own_row {t : Ty} {id : Nat} {xs : List t.T} (h : rowAs (lookO ob) t (.own id) = some xs) : lookO ob id = some (.row t xs) := by
  simp only [rowAs, rowOf] at h
  split at h
  · rename_i t' xs' hrow
    split at h
    · rename_i e; subst e; cases h
      split at hrow
      · rename_i hh; cases hrow; exact hh
      · cases hrow
    · cases h
  · cases h
theorem append_fresh (hE : EnvOk E) (I : Inv w0 B ρ H ob nx w) {T e : TypeId} {d de : TD} {t : Ty} {ys : List t.T} {ad : Addr} {x : Value} {ty : TypeId} {cs : List Prop} (hT : E.tt T = some d) (hk : d.kind = .slc e) (he : E.tt e = some de) (ht : de.ty = some t)
    (hx : Shows w H t ys x) (hroom : room ys.length de.bytes) :
    ∃ v' w', (Builtin.append_ #[T, T] ty #[.slice (some ad) 0 0, x]).run E.P w = .ok v' w' ∧ Post w0 B ob nx ρ H ⟨cs, some (.val (.one (.sl t ys))), []⟩ v' w' := by
  obtain ⟨i, z, g1, g2, g3, g4, g5, g6⟩ := (hE.tt e de he).info
  have hzr := g6 t ht H
  have hzs : z.cells.size = t.sz := by simpa using Rd.len _ _ _ hzr
  have hsz : i.size = t.sz := by rw [g2]; exact ((hE.tt e de he).ty t ht).2.symm
  have hu := (hE.tt T d hT).slc e hk
  obtain ⟨r1, r2⟩ := hroom
  obtain ⟨xa, xc, rfl, q2, q3⟩ := hx
  by_cases hy0 : ys.length = 0
  · have hys : ys = [] := List.length_eq_zero_iff.1 hy0
    subst hys
    refine ⟨_, w, run_append_none T ty e i hu g1 (some ad) xa 0 0 xc (Nat.le_refl _), ρ, H, I.more (by simp [W]), HLe.refl _, REq.refl _ _, fun sv e => ?_⟩
    cases e
    exact ⟨⟨_, 0, rfl, Nat.le_refl _, .inl rfl⟩, trivial⟩
  · rcases q3 with q3 | ⟨b, off, c, e', fr, rfl, k2, k3, k4⟩
    · exact absurd q3 hy0
    · have hnl : (seg c off (ys.length * t.sz)).length = ys.length * i.size := by rw [seg_len k3, hsz]
      have hnews := cell_seg k2 (o := off) (n := ys.length * t.sz)
      have hnr := news_rd k4
      have hnl' : (seg c off (ys.length * t.sz)).length = ys.length * t.sz := seg_len k3
      have hrun := run_append_grow (P := E.P) w T ty e i z hu g1 g4 ad 0 0 [] (by simp) (by intro j u h; simp at h) ⟨b, off, none⟩ ys.length xc (seg c off (ys.length * t.sz)) hnl hnews (by omega) (by omega)
        (growslice_fits (by omega) (by rw [g3]; simpa using r2))
      refine ⟨_, _, hrun, ?_⟩
      have hcap := grownCap_ge w (0 + ys.length) 0 e
      have hcapm := grownCap_le_maxLen w (0 + ys.length) 0 e (by simp only [maxLen]; omega)
      have hp := post_row (w := w.drew) (e := e) (I.grow (by exact ⟨rfl, rfl, rfl, Nat.le_refl _, fun _ _ => rfl⟩)) (cs := cs) (t := t) (xs := ys) (cap := grownCap w (0 + ys.length) 0 e)
        (cur := ([] : List Value).toArray ++ (seg c off (ys.length * t.sz)).toArray ++ Builtin.zeroCells z.cells (grownCap w (0 + ys.length) 0 e - (0 + ys.length)))
        (by omega) hcapm
        (by
          simp only [Array.size_append, List.size_toArray, List.length_nil, hnl', size_zeroCells, hzs]
          rw [Nat.zero_add, ← Nat.add_mul]; congr 1; omega)
        (fun j hj => by
          have := row_append (t := t) (xs := []) (us := []) (by simp) (by intro j h; simp at h) hnr (Builtin.zeroCells z.cells (grownCap w (0 + ys.length) 0 e - (0 + ys.length))).toList hnl' j (by simpa using hj)
          unfold seg at this ⊢
          simpa using this) (dels := [])
      rw [Nat.zero_add] at hp ⊢
      exact (still_ok (r := ⟨cs, some (.val (.one (.own nx))), [(nx, some (.row t ys))]⟩) (r' := ⟨cs, some (.val (.one (.sl t ys))), []⟩) (fun id p h => (I.objs id p h).1) (by simp [still]) (by simpa using hp)).1
theorem sound_append (hE : EnvOk E) (I : Inv w0 B ρ H ob nx w) {T : TypeId} {x y : Operand} {s c : C} (ho : o.op = .call ⟨.builtin .append, #[x, y], #[T, T]⟩)
    (hx : DenC ρ H s (a.eval x)) (hy : DenC ρ H c (a.eval y)) (h : appendR E (lookO ob) nx T s c = some r) (hc : ∀ p ∈ r.cs, p) : StepOk E.P o a w (Post w0 B ob nx ρ H r) := by
  unfold appendR at h
  split at h
  · rename_i e _ _ hT
    split at h
    · rename_i de he
      split at h
      · rename_i t ht
        have hz : t.sz ≠ 0 := by rw [((hE.tt e de he).ty t ht).2]; exact (hE.tt e de he).pos
        split at h
        · rename_i ys hys
          have hr := (Option.some.inj h).symm
          subst hr
          simp only [List.mem_append, List.mem_singleton] at hc
          have hsh := rowAs_shows I hys hz hy (fun p hp => hc p (.inl hp))
          have hx' : a.eval x = .slice none 0 0 := hx
          obtain ⟨v', w', m1, m2⟩ := append_own hE I (ty := o.type) (cs := rowP (lookO ob) c ++ [room ys.length de.bytes]) (dels := []) hT rfl he ht (v := a.eval x) (xs := []) (.inl ⟨hx', rfl⟩)
            (by intro b hb; rw [hx'] at hb; rcases hb with hb | ⟨_, _, hb⟩ | hb <;> cases hb) (by intro b hb; rw [hx'] at hb; rcases hb with hb | ⟨_, _, hb⟩ | hb <;> cases hb) hsh (by simpa using hc _ (.inr rfl))
          exact .inl ⟨v', w', run_append_op ho m1, by simpa using m2⟩
        · rename_i ys id hys
          split at h
          · rename_i xs hxs
            have hr := (Option.some.inj h).symm
            subst hr
            simp only [List.mem_append, List.mem_singleton] at hc
            have hsh := rowAs_shows I hys hz hy (fun p hp => hc p (.inl hp))
            have hrow := own_row hxs
            have hx' : a.eval x = ρ id := hx
            have hown : OwnRow w B H (a.eval x) t xs := by rw [hx']; exact (I.objs _ _ hrow).2.2
            obtain ⟨v', w', m1, m2⟩ := append_own hE I (ty := o.type) (cs := rowP (lookO ob) c ++ [room (xs.length + ys.length) de.bytes]) (dels := [id]) hT rfl he ht hown
              (by
                intro b hb id' p hp
                rw [hx'] at hb
                simp only [List.map_cons, List.map_nil, List.cons_append, List.nil_append, lookO_cons] at hp
                split at hp
                · cases hp
                · rename_i hne
                  exact I.sep id id' _ _ hne hrow hp b hb) (by intro b hb hk; rw [hx'] at hb; exact (I.kp b hk).2.2.2 id _ hrow hb) hsh (hc _ (.inr rfl))
            exact .inl ⟨v', w', run_append_op ho m1, m2⟩
          · cases h
        · rename_i ys t' xs' hys
          have hr := (Option.some.inj h).symm
          subst hr
          simp only [List.mem_append, List.mem_singleton] at hc
          have hsh := rowAs_shows I hys hz hy (fun p hp => hc p (.inl hp))
          obtain ⟨_, ad, hx'⟩ : xs' = [] ∧ ∃ ad, a.eval x = .slice (some ad) 0 0 := hx
          obtain ⟨v', w', m1, m2⟩ := append_fresh hE I (ty := o.type) (ad := ad) (cs := rowP (lookO ob) c ++ [room ys.length de.bytes]) hT rfl he ht hsh (hc _ (.inr rfl))
          rw [← hx'] at m1
          exact .inl ⟨v', w', run_append_op ho m1, m2⟩
        · cases h
      · cases h
    · cases h
  · cases h
theorem run_append_room_str' {P : Program} (t u ty e e' : TypeId) (i : TypeInfo) (ht : P.underlying t = some (.slice e)) (hu : P.underlying u = some .string) (hi : P.info? e = some i) (hs1 : i.size = 1)
    (g sLen sCap : Nat) (cur : Array Value) (hg : Cells w g cur e') (s : ByteArray) (hroom : sLen + s.size ≤ sCap) (hfit : sLen + s.size ≤ cur.size) :
    (Builtin.append_ #[t, u] ty #[.slice (some ⟨g, 0, none⟩) sLen sCap, .string s]).run P w =
      .ok (.slice (some ⟨g, 0, none⟩) (sLen + s.size) sCap) (w.setRow g (cur.toList.take sLen ++ Lib.strCells s ++ cur.toList.drop (sLen + s.size)).toArray) := by
  have hf := Lib.run_firstCells_string (P := P) w 1 s
  have hst := storeCells_own (P := P) hg (by simpa [Lib.strCells_length] using hfit) (Lib.strCells_oneCell s)
  simp only [Lib.strCells_length] at hst
  simp [Builtin.append_, run_underlying ht, run_underlying hu, sizeOf, typeInfo, hi, hs1, Builtin.lenOf, hroom, hf, addr_add, hst]
theorem append_str (hE : EnvOk E) (I : Inv w0 B ρ H ob nx w) {T T' e : TypeId} {d d' de : TD} {xs : List Int} {l : List UInt8} {v : Value} {ty : TypeId} {cs : List Prop} {dels : List Nat} (hT : E.tt T = some d) (hk : d.kind = .slc e) (hT' : E.tt T' = some d') (hk' : d'.kind = .sc) (hs' : d'.ty = some .str)
    (he : E.tt e = some de) (ht : de.ty = some (.int .u8)) (hown : OwnRow w B H v (.int .u8) xs) (hdel : ∀ b, HB v b → ∀ id p, lookO (dels.map (fun k => (k, (none : Option AObj))) ++ ob) id = some p → ¬ HB (ρ id) b) (hKv : ∀ b, HB v b → ¬ w0.K b)
    (hroom : room (xs.length + l.length) de.bytes) :
    ∃ v' w', (Builtin.append_ #[T, T'] ty #[v, .string ⟨⟨l⟩⟩]).run E.P w = .ok v' w' ∧
      Post w0 B ob nx ρ H ⟨cs, some (.val (.one (.own nx))), (nx, some (.row (.int .u8) (xs ++ strNs l))) :: dels.map fun k => (k, none)⟩ v' w' := by
  obtain ⟨i, z, g1, g2, g3, g4, g5, g6⟩ := (hE.tt e de he).info
  have hzr := g6 _ ht H
  have hzs : z.cells.size = (Ty.int .u8).sz := by simpa using Rd.len _ _ _ hzr
  have hsz : i.size = 1 := by rw [g2]; exact ((hE.tt e de he).ty _ ht).2.symm
  have hu := (hE.tt T d hT).slc e hk
  have hu' := sc_str (hE.tt T' d' hT') hk' hs'
  have hl : (strNs l).length = l.length := by simp [strNs]
  have hs : (⟨⟨l⟩⟩ : ByteArray).size = l.length := rfl
  have hroom' : room (xs.length + (strNs l).length) de.bytes := by rw [hl]; exact hroom
  obtain ⟨r1, r2⟩ := hroom
  have hnews : Lib.strCells ⟨⟨l⟩⟩ = (strNs l).map (Value.int .u8) := by simp [Lib.strCells, strNs]
  refine append_core (t := .int .u8) (ys := strNs l) (ap := fun v => Builtin.append_ #[T, T'] ty #[v, .string ⟨⟨l⟩⟩]) (news := Lib.strCells ⟨⟨l⟩⟩) (z := z) hE I he ht hown hdel hKv hroom' hzs (by rw [hnews]; simp [Ty.sz]) ?_ ?_ ?_ ?_ ?_
  · intro j hj
    rw [hnews]
    show _ = _
    have hj' : j < ((strNs l).map (Value.int .u8)).length := by simpa using hj
    simp only [Ty.sz, Nat.mul_one]
    rw [List.drop_eq_getElem_cons hj']
    simp
  · intro h0 va vn vc hvc
    rw [hl] at h0
    have : l = [] := List.length_eq_zero_iff.1 h0
    subst this
    have hf := Lib.run_firstCells_string (P := E.P) w 1 ⟨⟨[]⟩⟩
    have hs0 : (⟨⟨[]⟩⟩ : ByteArray).size = 0 := rfl
    rw [hs0] at hf
    have hc0 : Lib.strCells ⟨⟨[]⟩⟩ = [] := rfl
    rw [hc0] at hf
    cases va <;> simp [Builtin.append_, run_underlying hu, run_underlying hu', sizeOf, typeInfo, g1, hsz, Builtin.lenOf, hs0, hf, hvc, storeCells]
  · intro h0 hx0
    rw [hl] at h0 ⊢
    have hr := run_append_nil_string (P := E.P) w T T' ty e i z hu hu' g1 g4 ⟨⟨l⟩⟩ (by rw [hs]; omega) (by rw [hs]; omega) (by rw [g3, hs]; rw [hx0, Nat.zero_add] at r2; omega)
    rw [hs] at hr
    have e1 : ((⟨⟨l⟩⟩ : ByteArray).data.map fun b => Value.int .u8 b.toNat) = (Lib.strCells ⟨⟨l⟩⟩).toArray := by
      apply Array.ext'
      simp [Lib.strCells]
    rw [e1] at hr
    exact hr
  · intro h0 g cap cur e' o4 hfit hle
    rw [hl] at hfit ⊢
    have hlen : (Lib.strCells ⟨⟨l⟩⟩).length = l.length := by rw [Lib.strCells_length]; rfl
    have hle' : xs.length + l.length ≤ cur.size := by rw [hlen] at hle; simpa [Ty.sz] using hle
    have := run_append_room_str' (w := w) (P := E.P) T T' ty e e' i hu hu' g1 hsz g xs.length cap cur o4 ⟨⟨l⟩⟩ (by rw [hs]; exact hfit) (by rw [hs]; exact hle')
    rw [hs] at this
    rw [hlen]
    simpa [Ty.sz] using this
  · intro h0 g cap olds hol holds hlt
    rw [hl] at hlt ⊢
    have := Lib.run_append_grow_string (P := E.P) w T T' ty e i z hu hu' g1 g4 ⟨g, 0, none⟩ xs.length cap olds (by rw [hsz]; simpa [Ty.sz] using hol) holds ⟨⟨l⟩⟩ (by rw [hs]; exact hlt) (by rw [hs]; omega) (by rw [hs]; exact growslice_fits (by omega) (by rw [g3]; exact r2))
    rw [hs] at this
    exact this
theorem run_append_op' {P : Program} {x y : Operand} {T T' : TypeId} {v : Value} {w' : World} (ho : o.op = .call ⟨.builtin .append, #[x, y], #[T, T']⟩) (h : (Builtin.append_ #[T, T'] o.type #[a.eval x, a.eval y]).run P w = .ok v w') :
    (execOp a.eval o).run P w = .ok (.value v) w' := by
  simp [execOp, ho, resolve, invoke, builtin, h]
theorem sound_append_str (hE : EnvOk E) (I : Inv w0 B ρ H ob nx w) {T T' : TypeId} {x y : Operand} {s c : C} (ho : o.op = .call ⟨.builtin .append, #[x, y], #[T, T']⟩)
    (hx : DenC ρ H s (a.eval x)) (hy : DenC ρ H c (a.eval y)) (h : appendS E (lookO ob) nx T T' s c = some r) (hc : ∀ p ∈ r.cs, p) : StepOk E.P o a w (Post w0 B ob nx ρ H r) := by
  unfold appendS at h
  split at h
  · rename_i e _ _ l hT hT'
    split at h
    · rename_i sz by_ _ _ _ he
      have hy' : a.eval y = .string ⟨⟨l⟩⟩ := hy
      split at h
      · have hr := (Option.some.inj h).symm
        subst hr
        simp only [List.mem_singleton, forall_eq] at hc
        have hx' : a.eval x = .slice none 0 0 := hx
        obtain ⟨v', w', m1, m2⟩ := append_str hE I (ty := o.type) (cs := [room l.length by_]) (dels := []) hT rfl hT' rfl rfl he rfl (v := a.eval x) (xs := []) (l := l) (.inl ⟨hx', rfl⟩)
            (by intro b hb; rw [hx'] at hb; rcases hb with hb | ⟨_, _, hb⟩ | hb <;> cases hb) (by intro b hb; rw [hx'] at hb; rcases hb with hb | ⟨_, _, hb⟩ | hb <;> cases hb) (by simpa using hc)
        exact .inl ⟨v', w', run_append_op' ho (by rw [hy']; exact m1), by simpa using m2⟩
      · rename_i id
        split at h
        · rename_i xs hxs
          have hr := (Option.some.inj h).symm
          subst hr
          simp only [List.mem_singleton, forall_eq] at hc
          have hrow := own_row hxs
          have hx' : a.eval x = ρ id := hx
          have hown : OwnRow w B H (a.eval x) (.int .u8) xs := by rw [hx']; exact (I.objs _ _ hrow).2.2
          obtain ⟨v', w', m1, m2⟩ := append_str hE I (ty := o.type) (cs := [room (xs.length + l.length) by_]) (dels := [id]) hT rfl hT' rfl rfl he rfl hown (l := l)
              (by
                intro b hb id' p hp
                rw [hx'] at hb
                simp only [List.map_cons, List.map_nil, List.cons_append, List.nil_append, lookO_cons] at hp
                split at hp
                · cases hp
                · rename_i hne
                  exact I.sep id id' _ _ hne hrow hp b hb) (by intro b hb hk; rw [hx'] at hb; exact (I.kp b hk).2.2.2 id _ hrow hb) hc
          exact .inl ⟨v', w', run_append_op' ho (by rw [hy']; exact m1), m2⟩
        · cases h
      · cases h
    · cases h
  · cases h
theorem fillS_ok (hρ : ∀ id, (ρ id).oneCell' = true) {fs : List (Nat × Nat × Bool)} : ∀ {vs : List (Nat × V)} {us : List (Nat × Value)} {cs ys : List Ch} {cells : Array Value}, fillS fs cs vs = some ys → DenParts ρ H nx vs us → DenChs ρ H cs cells.toList → (∀ c ∈ cs, c.lt nx) →
    ∃ cells', Instr.fill (fun i => (fs[i]?).map fun x => (x.1, x.2.1)) cells us = some cells' ∧ DenChs ρ H ys cells'.toList ∧ ∀ c ∈ ys, c.lt nx
  | [], us, cs, ys, cells, h, hd, hc, hl => by
    cases h
    rw [show us = [] from hd]
    exact ⟨cells, rfl, hc, hl⟩
  | (i, v) :: rest, us, cs, ys, cells, h, hd, hc, hl => by
    obtain ⟨u, us', rfl, h1, h2, h3⟩ := hd
    simp only [fillS] at h
    split at h
    · rename_i off n ag hfs
      split at h
      · rename_i hs
        obtain ⟨cs', k1, k2⟩ := Option.bind_eq_some_iff.1 h
        obtain ⟨m1, m2, m3⟩ := put_fill hρ k1 hs hc h1
        obtain ⟨cells', g1, g2, g3⟩ := fillS_ok hρ k2 h3 m3 (box_lt k1 hl (chs_lt h2))
        refine ⟨cells', ?_, g2, g3⟩
        have hno : ¬ (u.cells.size ≠ n ∨ off + u.cells.size > cells.size) := by omega
        simp only [Instr.fill, hfs, Option.map_some, Bool.or_eq_true, decide_eq_true_eq, hno, if_false]
        exact g1
      · cases h
    · cases h
theorem fillA_ok (hρ : ∀ id, (ρ id).oneCell' = true) {sz : Nat} : ∀ {vs : List (Nat × V)} {us : List (Nat × Value)} {cs ys : List Ch} {cells : Array Value}, fillA sz cs vs = some ys → DenParts ρ H nx vs us → DenChs ρ H cs cells.toList → (∀ c ∈ cs, c.lt nx) →
    ∃ cells', Instr.fill (fun i => some (i * sz, sz)) cells us = some cells' ∧ DenChs ρ H ys cells'.toList ∧ ∀ c ∈ ys, c.lt nx
  | [], us, cs, ys, cells, h, hd, hc, hl => by
    cases h
    rw [show us = [] from hd]
    exact ⟨cells, rfl, hc, hl⟩
  | (i, v) :: rest, us, cs, ys, cells, h, hd, hc, hl => by
    obtain ⟨u, us', rfl, h1, h2, h3⟩ := hd
    simp only [fillA] at h
    split at h
    · rename_i hs
      obtain ⟨cs', k1, k2⟩ := Option.bind_eq_some_iff.1 h
      obtain ⟨m1, m2, m3⟩ := put_fill hρ k1 hs hc h1
      obtain ⟨cells', g1, g2, g3⟩ := fillA_ok hρ k2 h3 m3 (box_lt k1 hl (chs_lt h2))
      refine ⟨cells', ?_, g2, g3⟩
      have hno : ¬ (u.cells.size ≠ sz ∨ i * sz + u.cells.size > cells.size) := by omega
      simp only [Instr.fill, Bool.or_eq_true, decide_eq_true_eq, hno, if_false]
      exact g1
    · cases h
theorem places_ok {P : Program} : ∀ (fields : List Field) (fs : List (Nat × Nat × Bool)), fields.map (fun f => (f.offset, P.cellsOf f.type, aggOf P f.type)) = fs → (∀ f ∈ fields, (P.info? f.type).isSome) →
    fields.mapM (fun f => (P.info? f.type).map fun i => (f.offset, i.size)) = some (fs.map fun x => (x.1, x.2.1))
  | [], fs, h, _ => by subst h; rfl
  | f :: r, fs, h, hi => by
    subst h
    obtain ⟨i, hi'⟩ := Option.isSome_iff_exists.1 (hi f (by simp))
    have ih := places_ok (P := P) r _ rfl (fun g hg => hi g (by simp [hg]))
    simp [List.mapM_cons, hi', ih, Program.cellsOf]
theorem sound_build (hE : EnvOk E) (I : Inv w0 B ρ H ob nx w) (hv : EvOk ρ H nx ev a) {T : TypeId} {ps : Array (Nat × Operand)} {vs : List (Nat × V)} {d : TD} {chs : List Ch} (ho : o.op = .build T ps) (hT : E.tt T = some d)
    (hp : parts ev ps.toList = some vs)
    (hk : (∃ fs, d.kind = .strct fs ∧ fillS fs d.zero vs = some chs) ∨ (∃ n e de t xs ys, d.kind = .arr n e ∧ E.tt e = some de ∧ d.zero = [.arr n t xs] ∧ de.sz = t.sz ∧ fillRow t xs vs = some ys ∧ chs = [.arr n t ys]) ∨ ∃ n e de, d.kind = .arr n e ∧ E.tt e = some de ∧ fillA de.sz d.zero vs = some chs)
    (hr : r = ⟨[], some (.val (.agg chs)), []⟩) : StepOk E.P o a w (Post w0 B ob nx ρ H r) := by
  have hd := parts_ok hv hp
  have hT' := hE.tt T d hT
  obtain ⟨i, z, g1, g2, g3, g4, g5, g6⟩ := hT'.info
  have hparts : (ps.map fun x => (x.1, a.eval x.2)).toList = ps.toList.map fun x => (x.1, a.eval x.2) := by simp
  have fin : ∀ cells : Array Value, E.P.built T (ps.toList.map fun x => (x.1, a.eval x.2)) = some cells → DenChs ρ H chs cells.toList → (∀ c ∈ chs, c.lt nx) → StepOk E.P o a w (Post w0 B ob nx ρ H r) := by
    intro cells hb hc hl
    rw [← hparts] at hb
    have hrun := run_build (P := E.P) w T _ cells hb
    refine ok_same I (sv := .val (.agg chs)) (v := .agg cells) ?_ ⟨cells.toList, rfl, hc⟩ hl hr
    simp [execOp, ho, hrun]
  rcases hk with ⟨fs, k1, k2⟩ | ⟨n, e, de, t, xs, ys, k1, k2, k3, k4, k5, rfl⟩ | ⟨n, e, de, k1, k2, k3⟩
  · obtain ⟨fields, m1, m2, m3⟩ := hT'.strct fs k1
    obtain ⟨cells, q1, q2, q3⟩ := fillS_ok I.one k2 hd (g5 ρ H) (fun c hc => (hT'.lt c hc).mono (by omega))
    refine fin cells ?_ q2 q3
    have hpl := places_ok (P := E.P) fields.toList fs m2 (fun f hf => (m3 f hf).2.1)
    simp only [Program.built, g1, m1, g4, hpl]
    rw [← q1]
    congr 1
    funext j
    simp
  · have hzero := g5 ρ H
    rw [k3] at hzero
    have hzr : Rd H (.arr n t) xs (z.cells.toList.take (n * t.sz)) := hzero.1
    have hz2 : z.cells.toList.drop (n * t.sz) = [] := hzero.2
    have hlen := hzr.2.1
    have hzs : z.cells.size = n * t.sz := by
      simp at hz2 hlen
      omega
    have htk : z.cells.toList.take (n * t.sz) = z.cells.toList := List.take_of_length_le (by simp; omega)
    rw [htk] at hzr
    have hpos : t.sz ≠ 0 := by rw [← k4]; exact (hE.tt e de k2).pos
    obtain ⟨ie, _, f1, f2, _⟩ := (hE.tt e de k2).info
    obtain ⟨cells, q1, q2, q3, q4⟩ := fillRow_ok I.one hpos (n := n) k5 hd hzr.1 hzs (fun j hj => hzr.2.2 j hj)
    refine fin cells ?_ ⟨⟨q2, ?_, ?_⟩, ?_⟩ (by simp [Ch.lt])
    · have hsz : ie.size = t.sz := by rw [f2, k4]
      simp only [Program.built, g1, hT'.arr n e k1, g4, f1, hsz]
      exact q1
    · simp; omega
    · intro j hj
      have e2 : cells.toList.take (n * t.sz) = cells.toList := List.take_of_length_le (by simp; omega)
      rw [e2]
      exact q4 j hj
    · simp [DenChs]; omega
  · obtain ⟨ie, _, f1, f2, _⟩ := (hE.tt e de k2).info
    obtain ⟨cells, q1, q2, q3⟩ := fillA_ok I.one k3 hd (g5 ρ H) (fun c hc => (hT'.lt c hc).mono (by omega))
    refine fin cells ?_ q2 q3
    simp only [Program.built, g1, hT'.arr n e k1, g4, f1, f2]
    exact q1
end
end Go.Sx

/- The engine's steps are right: equality of data. -/
namespace Go.Sx
open Go.RowKit
section
variable {P : Program} {tt : TypeId → Option TD} {H : IH} {w : World}
def VRd (H : IH) (d : TD) (t : Ty) (x : t.T) (v : Value) : Prop := (d.agg = true ∧ ∃ cs : Array Value, v = .agg cs ∧ Rd H t x cs.toList) ∨ (d.agg = false ∧ Rd H t x [v])
theorem part_vrd {T : TypeId} {d : TD} (hT : TDok P T d) {t : Ty} {x : t.T} {vals : Array Value} {off : Nat} (hd : t.sz = d.sz) (hs : d.agg = false → t.sz = 1) (hr : Rd H t x (seg vals off t.sz)) : ∃ u, (part T vals off).run P w = .ok u w ∧ VRd H d t x u := by
  cases hagg : d.agg with
  | true =>
    refine ⟨.agg (vals.extract off (off + d.sz)), by simp [part, run_isAgg hT, hagg, run_sizeOf hT], .inl ⟨hagg, _, rfl, ?_⟩⟩
    rw [hd] at hr
    simpa [seg, List.extract_eq_take_drop] using hr
  | false =>
    have hl := Rd.len _ _ _ hr
    rw [hs hagg] at hl
    obtain ⟨u, hu⟩ := List.length_eq_one_iff.1 hl
    rw [hs hagg] at hr
    have h0 := seg_get (c := vals) (o := off) (n := 1) (j := 0) (v := u) (by rw [hu]; rfl)
    rw [Nat.add_zero] at h0
    rw [hu] at hr
    exact ⟨u, by simp [part, run_isAgg hT, hagg, h0], .inr ⟨hagg, hr⟩⟩
theorem run_forIn_all {α : Type} (f : α → Option Bool × Unit → Sem (ForInStep (Option Bool × Unit))) (q : α → Bool) : ∀ (l : List α), (∀ a ∈ l, (f a (none, ())).run P w = .ok (if q a then .yield (none, ()) else .done (some false, ())) w) →
    (forIn l ((none, ()) : Option Bool × Unit) f).run P w = .ok (if l.all q then (none, ()) else (some false, ())) w
  | [], _ => by simp
  | a :: l, h => by
    rw [List.forIn_cons, Sem.run_bind, h a (by simp)]
    cases hq : q a with
    | true =>
      simp only [if_true, Result.andThen_ok, List.all_cons, hq, Bool.true_and]
      exact run_forIn_all f q l (fun b hb => h b (by simp [hb]))
    | false => simp [hq]
theorem eqChk_sz {n : Nat} {t : TypeId} {u : Ty} {d : TD} (hok : ∀ t d, tt t = some d → TDok P t d) (h : eqChk P tt n t u = true) (hd : tt t = some d) : u.sz = d.sz ∧ (d.agg = false → u.sz = 1) ∧ d.ty = some u := by
  cases n with
  | zero => simp [eqChk] at h
  | succ n =>
    simp only [eqChk, hd, Bool.and_eq_true, decide_eq_true_eq] at h
    have hT := hok t d hd
    refine ⟨(hT.ty u h.1).2, fun hag => ?_, h.1⟩
    have ha := hT.agg
    rw [hag] at ha
    unfold aggOf at ha
    obtain ⟨_, h2⟩ := h
    split at h2 <;> simp_all [Ty.sz]
theorem eq_ok (hok : ∀ t d, tt t = some d → TDok P t d) : ∀ n, (∀ t u, eqChk P tt n t u = true → ∀ d (x y : u.T) vx vy k, tt t = some d → VRd H d u x vx → VRd H d u y vy → (Op.equalIn (n + k) t vx vy).run P w = .ok (eqT u x y) w) ∧
    (∀ off fs u, eqFs P tt n off fs u = true → ∀ (xs ys : Array Value) (x y : u.T) k, Rd H u x (xs.toList.drop off) → Rd H u y (ys.toList.drop off) →
      (forIn fs ((none, ()) : Option Bool × Unit) (fun (f : Field) (_ : Option Bool × Unit) => (if f.name = "_" then pure (ForInStep.yield (none, ()))
            else do
              let p ← part f.type xs f.offset
              let q ← part f.type ys f.offset
              let e ← Op.equalIn (n + k) f.type p q
              if e = false then pure (ForInStep.done (some false, ())) else pure (ForInStep.yield (none, ())) : Sem (ForInStep (Option Bool × Unit))))).run P w = .ok (if eqT u x y then (none, ()) else (some false, ())) w)
  | 0 => ⟨fun t u h => by simp [eqChk] at h, fun off fs u h => by simp [eqFs] at h⟩
  | n + 1 => by
    obtain ⟨ih1, ih2⟩ := eq_ok hok n
    constructor
    · intro t u h d x y vx vy k hd hx hy
      have hT := hok t d hd
      simp only [eqChk, hd, Bool.and_eq_true, decide_eq_true_eq] at h
      obtain ⟨hty, h⟩ := h
      have hagg := hT.agg
      unfold aggOf at hagg
      have sc : ∀ {u : Ty} {x : u.T} {v : Value}, d.agg = false → VRd H d u x v → Rd H u x [v] := by
        rintro u x v hf (⟨h1, _⟩ | ⟨_, h2⟩)
        · rw [hf] at h1; cases h1
        · exact h2
      have ag : ∀ {u : Ty} {x : u.T} {v : Value}, d.agg = true → VRd H d u x v → ∃ cs : Array Value, v = .agg cs ∧ Rd H u x cs.toList := by
        rintro u x v hf (⟨_, h1⟩ | ⟨h2, _⟩)
        · exact h1
        · rw [hf] at h2; cases h2
      rw [show n + 1 + k = (n + k) + 1 by omega]
      split at h
      · rename_i k' hu
        simp only [decide_eq_true_eq] at h
        subst h
        rw [hu] at hagg
        have e1 := sc hagg.symm hx
        have e2 := sc hagg.symm hy
        simp only [Rd, List.cons.injEq, and_true] at e1 e2
        subst e1 e2
        simp [Op.equalIn, run_underlying hu, eqT]
      · rename_i hu
        simp only [decide_eq_true_eq] at h
        subst h
        rw [hu] at hagg
        have e1 := sc hagg.symm hx
        have e2 := sc hagg.symm hy
        simp only [Rd, List.cons.injEq, and_true] at e1 e2
        subst e1 e2
        simp [Op.equalIn, run_underlying hu, eqT]
      · rename_i hu
        simp only [decide_eq_true_eq] at h
        subst h
        rw [hu] at hagg
        have e1 := sc hagg.symm hx
        have e2 := sc hagg.symm hy
        simp only [Rd, List.cons.injEq, and_true] at e1 e2
        subst e1 e2
        have hb : ((⟨⟨x⟩⟩ : ByteArray) == ⟨⟨y⟩⟩) = (x == y) := by
          show ((⟨x⟩ : Array UInt8) == ⟨y⟩) = _
          simp
        simp [Op.equalIn, run_underlying hu, eqT, hb]
      · rename_i k' hu
        simp only [decide_eq_true_eq] at h
        subst h
        rw [hu] at hagg
        have e1 := sc hagg.symm hx
        have e2 := sc hagg.symm hy
        simp only [Rd, List.cons.injEq, and_true] at e1 e2
        subst e1 e2
        simp [Op.equalIn, run_underlying hu, eqT]
      · rename_i k' hu
        simp only [decide_eq_true_eq] at h
        subst h
        rw [hu] at hagg
        have e1 := sc hagg.symm hx
        have e2 := sc hagg.symm hy
        simp only [Rd, List.cons.injEq, and_true] at e1 e2
        subst e1 e2
        simp [Op.equalIn, run_underlying hu, eqT]
      · rename_i fs hu
        simp only [Bool.and_eq_true, Bool.not_eq_true'] at h
        rw [hu] at hagg
        obtain ⟨cx, rfl, hx'⟩ := ag hagg.symm hx
        obtain ⟨cy, rfl, hy'⟩ := ag hagg.symm hy
        have := ih2 0 fs.toList u h.2 cx cy x y k (by simpa using hx') (by simpa using hy')
        simp only [Op.equalIn, Sem.run_bind, run_underlying hu, Result.andThen_ok]
        simp only [run_program, Result.andThen_ok, h.1, Bool.false_eq_true, if_false, ne_eq, ite_not, Bool.not_eq_true']
        rw [← Array.forIn_toList, Sem.run_bind, this]
        cases eqT u x y <;> simp
      · rename_i m e hu
        rw [hu] at hagg
        split at h
        · rename_i m' v
          simp only [Bool.and_eq_true, decide_eq_true_eq] at h
          obtain ⟨rfl, h⟩ := h
          obtain ⟨cx, rfl, hx'⟩ := ag hagg.symm hx
          obtain ⟨cy, rfl, hy'⟩ := ag hagg.symm hy
          obtain ⟨de, hde⟩ : ∃ de, tt e = some de := by
            cases n with
            | zero => simp [eqChk] at h
            | succ n =>
              cases hh : tt e with
              | none => simp [eqChk, hh] at h
              | some de => exact ⟨de, rfl⟩
          have hTe := hok e de hde
          obtain ⟨s1, s2, _⟩ := eqChk_sz hok h hde
          obtain ⟨x1, x2, x3⟩ := hx'
          obtain ⟨y1, y2, y3⟩ := hy'
          simp only [Op.equalIn, Sem.run_bind, run_underlying hu, Result.andThen_ok, run_sizeOf hTe]
          rw [Std.Legacy.Range.forIn_eq_forIn_range']
          rw [run_forIn_all _ (fun i => eqT v (List.getD x i v.d) (List.getD y i v.d))]
          · simp only [Std.Legacy.Range.size, Nat.sub_zero, Nat.add_sub_cancel, Nat.div_one, eqT, List.range_eq_range']
            cases (List.range' 0 m).all fun i => eqT v (List.getD x i v.d) (List.getD y i v.d) <;> simp
          · intro i hi
            simp only [List.mem_range'_1, Std.Legacy.Range.size, Nat.sub_zero, Nat.add_sub_cancel, Nat.div_one, Nat.zero_add] at hi
            have hi' : i < m := hi.2
            have hm : (i + 1) * v.sz ≤ m * v.sz := Nat.mul_le_mul_right _ (by omega)
            rw [Nat.succ_mul] at hm
            obtain ⟨ux, a1, a2⟩ := part_vrd (w := w) hTe (x := x[i]'(by omega)) (vals := cx) (off := i * v.sz) s1 s2 (x3 i (by omega))
            obtain ⟨uy, b1, b2⟩ := part_vrd (w := w) hTe (x := y[i]'(by omega)) (vals := cy) (off := i * v.sz) s1 s2 (y3 i (by omega))
            have := ih1 e v h de _ _ ux uy k hde a2 b2
            rw [← s1]
            rw [getD_get (show i < List.length x by omega), getD_get (show i < List.length y by omega)]
            simp only [Sem.run_bind, a1, b1, this, Result.andThen_ok]
            cases eqT v (x[i]'(by omega)) (y[i]'(by omega)) <;> simp
        · cases h
      · cases h
    · intro off fs u h xs ys x y k hx hy
      have onef : ∀ (f : Field) (a : Ty) (p q : a.T), f.name ≠ "_" → f.offset = off → eqChk P tt n f.type a = true → Rd H a p (seg xs off a.sz) → Rd H a q (seg ys off a.sz) →
          ((if f.name = "_" then pure (ForInStep.yield (none, ()))
            else do
              let p ← part f.type xs f.offset
              let q ← part f.type ys f.offset
              let e ← Op.equalIn (n + 1 + k) f.type p q
              if e = false then pure (ForInStep.done (some false, ())) else pure (ForInStep.yield (none, ())) : Sem (ForInStep (Option Bool × Unit)))).run P w = .ok (if eqT a p q then .yield (none, ()) else .done (some false, ())) w := by
        intro f a p q h1 h2 h3 h4 h5
        obtain ⟨df, hdf⟩ : ∃ de, tt f.type = some de := by
          cases n with
          | zero => simp [eqChk] at h3
          | succ n =>
            cases hh : tt f.type with
            | none => simp [eqChk, hh] at h3
            | some de => exact ⟨de, rfl⟩
        obtain ⟨s1, s2, _⟩ := eqChk_sz hok h3 hdf
        obtain ⟨ux, a1, a2⟩ := part_vrd (w := w) (hok _ _ hdf) s1 s2 h4
        obtain ⟨uy, b1, b2⟩ := part_vrd (w := w) (hok _ _ hdf) s1 s2 h5
        have := ih1 f.type a h3 df p q ux uy (k + 1) hdf a2 b2
        rw [show n + (k + 1) = n + 1 + k by omega] at this
        rw [if_neg h1, h2]
        simp only [Sem.run_bind, a1, b1, this, Result.andThen_ok]
        cases eqT a p q <;> simp
      have whole : ∀ (vs : Array Value) (a : Ty) (p : a.T), Rd H a p (vs.toList.drop off) → Rd H a p (seg vs off a.sz) := by
        intro vs a p h
        unfold seg
        rw [List.take_of_length_le (by rw [Rd.len _ _ _ h]; exact Nat.le_refl _)]
        exact h
      match fs, u, x, y, h, hx, hy with
      | [], u, x, y, h, hx, hy => simp [eqFs] at h
      | [f], u, x, y, h, hx, hy =>
        simp only [eqFs, Bool.and_eq_true, decide_eq_true_eq] at h
        have := onef f u x y h.1.1 h.1.2 h.2 (whole _ _ _ hx) (whole _ _ _ hy)
        rw [List.forIn_cons, Sem.run_bind, this]
        cases eqT u x y <;> simp
      | f :: f2 :: r, .pair a b, x, y, h, hx, hy =>
        simp only [eqFs, Bool.and_eq_true, decide_eq_true_eq] at h
        have := onef f a x.1 y.1 h.1.1.1 h.1.1.2 h.1.2 hx.1 hy.1
        rw [List.forIn_cons, Sem.run_bind, this]
        have hx2 := hx.2
        have hy2 := hy.2
        rw [List.drop_drop] at hx2 hy2
        have tl := ih2 (off + a.sz) (f2 :: r) b h.2 xs ys x.2 y.2 (k + 1) hx2 hy2
        rw [show n + (k + 1) = n + 1 + k by omega] at tl
        cases he : eqT a x.1 y.1 with
        | true =>
          simp only [if_true, Result.andThen_ok, eqT, he, Bool.true_and]
          exact tl
        | false => simp [eqT, he]
      | f :: f2 :: r, .int _, x, y, h, hx, hy => simp [eqFs] at h
      | f :: f2 :: r, .bool, x, y, h, hx, hy => simp [eqFs] at h
      | f :: f2 :: r, .str, x, y, h, hx, hy => simp [eqFs] at h
      | f :: f2 :: r, .flt _, x, y, h, hx, hy => simp [eqFs] at h
      | f :: f2 :: r, .cpx _, x, y, h, hx, hy => simp [eqFs] at h
      | f :: f2 :: r, .sl _, x, y, h, hx, hy => simp [eqFs] at h
      | f :: f2 :: r, .arr _ _, x, y, h, hx, hy => simp [eqFs] at h
end
section
variable {E : Env} {w0 : Base} {B : Nat} {ρ : Nat → Value} {H : IH} {ob : List (Nat × Option AObj)} {nx : Nat} {w : World} {ev : Operand → Option SV} {a : Act} {o : Oper} {r : Res}
theorem sound_eq_agg (hE : EnvOk E) (I : Inv w0 B ρ H ob nx w) (hv : EvOk ρ H nx ev a) {op : BinOp} {T T' : TypeId} {x y : Operand} {d : TD} {u : Ty} {xs ys : List Ch} {p q : u.T} (ho : o.op = .binOp op T x y T') (hx : (ev x).bind val? = some (.agg xs)) (hy : (ev y).bind val? = some (.agg ys))
    (hT : E.tt T = some d) (hag : d.agg = true) (hu : d.ty = some u) (heq : E.eq T = true) (hp : ofV u (.agg xs) = some p) (hq : ofV u (.agg ys) = some q)
    (hop : (op = .eql ∧ rc (.bool (eqT u p q)) = some r) ∨ (op = .neq ∧ rc (.bool (!eqT u p q)) = some r)) : StepOk E.P o a w (Post w0 B ob nx ρ H r) := by
  obtain ⟨k1, _⟩ := hv.val hx
  obtain ⟨k2, _⟩ := hv.val hy
  obtain ⟨c1, c2⟩ := hE.eq T d u heq hT hu
  have rx := ofV_den I.one hp k1
  have ry := ofV_den I.one hq k2
  obtain ⟨vx, ex, _⟩ := k1
  obtain ⟨vy, ey, _⟩ := k2
  rw [ex] at rx
  rw [ey] at ry
  have hrun : (Op.equal T (.agg ⟨vx⟩) (.agg ⟨vy⟩)).run E.P w = .ok (eqT u p q) w :=
    (eq_ok (H := H) (w := w) hE.tt 16).1 T u c1 d p q _ _ 9984 hT (.inl ⟨hag, _, rfl, rx⟩) (.inl ⟨hag, _, rfl, ry⟩)
  have hg : ∀ op, (eqGuard op T x y (.agg ⟨vx⟩) (.agg ⟨vy⟩)).run E.P w = .ok () w := by
    intro op
    cases op <;> simp [eqGuard, c2]
  rcases hop with ⟨rfl, hr⟩ | ⟨rfl, hr⟩
  · exact ok_rc I hr (v := .bool (eqT u p q)) (run_bin ho ex ey (hg _) (by simp [binOp, hrun])) rfl trivial
  · exact ok_rc I hr (v := .bool (!eqT u p q)) (run_bin ho ex ey (hg _) (by simp [binOp, hrun])) rfl trivial
theorem sc_u8 {P : Program} {t : TypeId} {d : TD} (h : TDok P t d) (h1 : d.kind = .sc) (h2 : d.ty = some (.int .u8)) : P.underlying t = some (.int .u8) := by
  have := h.sc _ h1 h2
  unfold scOk at this
  split at this <;> simp_all
theorem sound_bytes_str (hE : EnvOk E) (I : Inv w0 B ρ H ob nx w) (hv : EvOk ρ H nx ev a) {S T e : TypeId} {x : Operand} {d d' de : TD} {c : C} {xs : List Int} (ho : o.op = .convert S T x) (hS : E.tt S = some d) (hk : d.kind = .slc e) (hT : E.tt T = some d') (hk' : d'.kind = .sc) (ht' : d'.ty = some .str)
    (he : E.tt e = some de) (hke : de.kind = .sc) (hte : de.ty = some (.int .u8)) (hx : (ev x).bind one? = some c) (hrow : rowAs (lookO ob) (.int .u8) c = some xs) (hr : r = ⟨rowP (lookO ob) c, some (.val (.one (.str (bytesOf xs)))), []⟩) (hc : ∀ q ∈ r.cs, q) : StepOk E.P o a w (Post w0 B ob nx ρ H r) := by
  subst hr
  obtain ⟨k1, _⟩ := hv.one hx
  have hu1 := (hE.tt S d hS).slc e hk
  have hu2 := sc_u8 (hE.tt e de he) hke hte
  have hu3 := sc_str (hE.tt T d' hT) hk' ht'
  obtain ⟨aa, cap, q1, q2, q3⟩ := rowAs_shows I hrow (by simp [Ty.sz]) k1 hc
  refine .inl ⟨.string ⟨⟨bytesOf xs⟩⟩, w, ?_, post_same I rfl trivial⟩
  have hconv : (convert S T (a.eval x)).run E.P w = .ok (.string ⟨⟨bytesOf xs⟩⟩) w := by
    rw [q1]
    cases aa with
    | none =>
      rcases q3 with q3 | ⟨_, _, _, _, _, q3, _⟩
      · have : xs = [] := List.length_eq_zero_iff.1 q3
        subst this
        exact run_convert_bytes_nil w S e hu1 hu2 _ _ T hu3
      · cases q3
    | some ad =>
      rcases q3 with q3 | ⟨b, off, cc, ee, fr, q4, q5, q6, q7⟩
      · have : xs = [] := List.length_eq_zero_iff.1 q3
        subst this
        rw [run_convert_bytes_string w S T e _ _ cap hu1 hu2 hu3]
        have hl : (loadCells ad 0).run E.P w = .ok (([] : List Int).map (Value.int .u8)).toArray w := by
          have := run_loadCells_list (P := E.P) w ad [] (by simp)
          simpa using this
        rw [show (List.length ([] : List Int)) = 0 from rfl, run_bytesToString w ad 0 cap [] hl]
        rfl
      · cases q4
        have := run_convert_bytes_arg (P := E.P) w S e hu1 hu2 b off xs.length cap xs rfl (fun i hi => by
          have h7 := q7 i hi
          simp only [Rd, Ty.sz, Nat.mul_one] at h7
          have h8 := cell_seg q5 (o := off + i) (n := 1) 0 _ (by rw [h7]; rfl)
          rw [addr_add, Nat.add_zero] at h8
          rw [h8, getD_get hi]) T hu3
        rw [this]
        rfl
  simp [execOp, ho, hconv]
theorem post_frozen (I : Inv w0 B ρ H ob nx w) {w' : World} {H' : IH} {x : V} {v : Value} (hb : Below w.heap.size w w') (hag : Agree H' w') (hlow : ∀ b, b < w.heap.size → H' b = none) (hp : pureV x = true) (hd : DenV ρ0 H' x v) :
    Post w0 B ob nx ρ H ⟨[], some (.val x), []⟩ v w' := by
  have I1 := I.grow hb
  have hle1 : HLe H (fun b => if b < w.heap.size then H b else H' b) := by
    intro b o ho
    have := lt_of_some (I.agree b o ho)
    simp [this, ho]
  have hle2 : HLe H' (fun b => if b < w.heap.size then H b else H' b) := by
    intro b o ho
    show (if b < w.heap.size then H b else H' b) = some o
    split
    · rename_i hlt
      rw [hlow b hlt] at ho; cases ho
    · exact ho
  have I2 : Inv w0 B ρ (fun b => if b < w.heap.size then H b else H' b) ob nx w' := by
    refine I1.ext hle1 ?_ ?_ ?_
    · intro b o ho
      simp only [] at ho
      split at ho
      · rename_i hlt; rw [hb.block b hlt]; exact I.agree b o ho
      · exact hag b o ho
    · intro id p hp b hhb
      obtain ⟨_, k2, k3⟩ := I.hb hp hhb
      simp [k3, k2]
    · intro b hk
      have k3 := I.kLt hk
      simp [k3, (I.kp b hk).2.2.1]
  refine ⟨ρ, _, I2.more (by simp [W]), hle1, REq.refl _ _, fun sv e => ?_⟩
  cases e
  exact ⟨DenV.mono (ρ' := ρ) (n := 0) (REq.refl 0 ρ) hle2 (pureV_lt hp 0) (pureV_den (ρ' := ρ) hp hd), pureV_lt hp _⟩
theorem sound_str_bytes (hE : EnvOk E) (I : Inv w0 B ρ H ob nx w) (hv : EvOk ρ H nx ev a) {S T e : TypeId} {x : Operand} {d d' de : TD} {l : List UInt8} (ho : o.op = .convert S T x) (hS : E.tt S = some d) (hk : d.kind = .sc) (hst : d.ty = some .str) (hT : E.tt T = some d') (hk' : d'.kind = .slc e)
    (he : E.tt e = some de) (hke : de.kind = .sc) (hte : de.ty = some (.int .u8)) (hx : (ev x).bind one? = some (.str l)) (hr : r = ⟨[], some (.val (.one (.sl (.int .u8) (strNs l)))), []⟩) : StepOk E.P o a w (Post w0 B ob nx ρ H r) := by
  subst hr
  obtain ⟨k1, _⟩ := hv.one hx
  have k1 : a.eval x = .string ⟨⟨l⟩⟩ := k1
  have hrun := run_bytes_of_string (P := E.P) w S T e ⟨⟨l⟩⟩ (sc_str (hE.tt S d hS) hk hst) ((hE.tt T d' hT).slc e hk') (sc_u8 (hE.tt e de he) hke hte)
  generalize hcap : grownCap w (ByteArray.size ⟨⟨l⟩⟩) 0 e = cap at hrun
  have hge : l.length ≤ cap := by have := grownCap_ge w (ByteArray.size ⟨⟨l⟩⟩) 0 e; rw [hcap] at this; exact this
  generalize hobj : Obj.cells (bytesRow ⟨⟨l⟩⟩ cap) e ((bytesRow ⟨⟨l⟩⟩ cap).size, (bytesRow ⟨⟨l⟩⟩ cap).size + 1) = obj at hrun
  have hconv : (convert S T (a.eval x)).run E.P w = .ok (.slice (some ⟨w.heap.size, 0, none⟩) (ByteArray.size ⟨⟨l⟩⟩) cap) (w.drew.alloc obj) := by rw [k1]; exact hrun
  refine .inl ⟨.slice (some ⟨w.heap.size, 0, none⟩) (ByteArray.size ⟨⟨l⟩⟩) cap, w.drew.alloc obj, by simp [execOp, ho, hconv], post_frozen I (H' := fun b => if b = w.heap.size then some obj else none) (Below.alloc (Below.drew (Below.refl _ w)) (Nat.le_refl _) obj) ?_ (fun b hb => if_neg (by omega)) rfl ?_⟩
  · intro b q hq
    simp only [] at hq
    split at hq
    · rename_i e1
      cases hq
      subst e1
      show (w.heap.push obj)[w.heap.size]? = some obj
      simp
    · cases hq
  · refine ⟨some ⟨w.heap.size, 0, none⟩, cap, ?_, by simpa [strNs] using hge, .inr ⟨w.heap.size, 0, bytesRow ⟨⟨l⟩⟩ cap, e, _, rfl, (if_pos rfl).trans (congrArg some hobj.symm), fun i hi => ?_⟩⟩
    · simp [strNs, ByteArray.size]
    · have hi' : i < l.length := by simpa [strNs] using hi
      show seg (bytesRow ⟨⟨l⟩⟩ cap) (0 + i * 1) 1 = [Value.int .u8 (strNs l)[i]]
      unfold seg bytesRow
      simp only [Nat.zero_add, Nat.mul_one, Array.toList_append, Array.toList_map]
      rw [List.drop_append_of_le_length (by simp; omega), List.drop_eq_getElem_cons (by simpa using hi')]
      simp [strNs]
theorem row_write (I : Inv w0 B ρ H ob nx w) {id : Nat} {t : Ty} {xs ys : List t.T} {lo : Nat} {us : List Value} (hrow : lookO ob id = some (.row t xs)) (hle : lo + ys.length ≤ xs.length) (hpos : 0 < ys.length) (hul : us.length = ys.length * t.sz)
    (hr : ∀ i (h : i < ys.length), Rd H t ys[i] ((us.drop (i * t.sz)).take t.sz)) :
    ∃ g cur e, HB (ρ id) g ∧ Cells w g cur e ∧ lo * t.sz + us.length ≤ cur.size ∧
      Inv w0 B ρ H ((id, some (.row t (xs.take lo ++ ys ++ xs.drop (lo + ys.length)))) :: ob) nx (w.setRow g (cur.toList.take (lo * t.sz) ++ us ++ cur.toList.drop (lo * t.sz + us.length)).toArray) := by
  rcases (I.objs id _ hrow).2.2 with ⟨_, h⟩ | ⟨g, cap, cur, e, k1, k2, k3, k4, k5, k6, k7, k8⟩
  · subst h; simp only [List.length_nil] at hle; omega
  · have hcap : xs.length * t.sz ≤ cap * t.sz := Nat.mul_le_mul_right _ k5
    have hlm : (lo + ys.length) * t.sz ≤ xs.length * t.sz := Nat.mul_le_mul_right _ hle
    rw [Nat.add_mul] at hlm
    have hfit : lo * t.sz + us.length ≤ cur.size := by omega
    refine ⟨g, cur, e, .inr (.inl ⟨_, _, k1⟩), k4, hfit, I.put hrow (.inr (.inl ⟨_, _, k1⟩)) k4.choose_spec.2 trivial ?_⟩
    have hlen : (xs.take lo ++ ys ++ xs.drop (lo + ys.length)).length = xs.length := by simp; omega
    refine .inr ⟨g, cap, _, e, by rw [hlen]; exact k1, k2, k3, k4.set (splice_size cur _ _ us rfl hfit), by rw [hlen]; exact k5, k6, ?_, fun i hi => ?_⟩
    · rw [splice_size cur _ _ us rfl hfit]; exact k7
    · have hi' : i < xs.length := by rw [hlen] at hi; exact hi
      by_cases h1 : i < lo
      · have e1 : (xs.take lo ++ ys ++ xs.drop (lo + ys.length))[i] = xs[i] := by
          rw [List.getElem_append_left (by simp; omega), List.getElem_append_left (by simp; omega)]
          simp
        rw [e1, splice_seg cur _ _ us rfl hfit (i * t.sz) t.sz (.inl (by
          have : (i + 1) * t.sz ≤ lo * t.sz := Nat.mul_le_mul_right _ (by omega)
          rw [Nat.succ_mul] at this; omega))]
        exact k8 i hi'
      · by_cases h2 : i < lo + ys.length
        · have e1 : (xs.take lo ++ ys ++ xs.drop (lo + ys.length))[i] = ys[i - lo]'(by omega) := by
            rw [List.getElem_append_left (by simp; omega), List.getElem_append_right (by simp; omega)]
            congr 1
            simp; omega
          rw [e1]
          have hs := splice_same cur (lo * t.sz) us.length us rfl hfit
          have hm : (i - lo + 1) * t.sz ≤ ys.length * t.sz := Nat.mul_le_mul_right _ (by omega)
          rw [Nat.succ_mul] at hm
          have hi2 : i * t.sz = lo * t.sz + (i - lo) * t.sz := by rw [← Nat.add_mul]; congr 1; omega
          have := seg_seg (c := (cur.toList.take (lo * t.sz) ++ us ++ cur.toList.drop (lo * t.sz + us.length)).toArray) (o := lo * t.sz) (n := us.length) (p := (i - lo) * t.sz) (m := t.sz) (by omega)
          rw [hs, ← hi2] at this
          rw [← this]
          exact hr (i - lo) (by omega)
        · have e1 : (xs.take lo ++ ys ++ xs.drop (lo + ys.length))[i] = xs[i] := by
            rw [List.getElem_append_right (by simp; omega)]
            simp only [List.getElem_drop]
            congr 1
            simp; omega
          rw [e1, splice_seg cur _ _ us rfl hfit (i * t.sz) t.sz (.inr (by
            have : (lo + ys.length) * t.sz ≤ i * t.sz := Nat.mul_le_mul_right _ (by omega)
            rw [Nat.add_mul] at this; omega))]
          exact k8 i hi'
theorem partOf_ok (I : Inv w0 B ρ H ob nx w) {t : Ty} {c : C} {v : Value} {id lo n : Nat} {xs : List t.T} (h : partOf (lookO ob) t c = some (id, lo, n, xs)) (hd : DenC ρ H c v) (hle : lo + n ≤ xs.length) :
    lookO ob id = some (.row t xs) ∧ ∃ ad cap, v = .slice ad n cap ∧ (n ≠ 0 → ∃ g, HB (ρ id) g ∧ ad = some ⟨g, lo * t.sz, none⟩) := by
  unfold partOf at h
  split at h
  · rename_i id'
    split at h
    · rename_i t' xs' hrow
      split at h
      · rename_i e
        subst e
        cases h
        refine ⟨hrow, ?_⟩
        have hv : v = ρ id := hd
        rcases (I.objs _ _ hrow).2.2 with ⟨q1, q2⟩ | ⟨g, cap, cur, e, q1, _⟩
        · refine ⟨none, 0, by rw [hv, q1, q2]; rfl, fun hn => ?_⟩
          rw [q2] at hn; exact absurd rfl hn
        · exact ⟨_, cap, by rw [hv, q1], fun _ => ⟨g, .inr (.inl ⟨_, _, q1⟩), by simp⟩⟩
      · cases h
    · cases h
  · rename_i id' sz lo' n'
    split at h
    · rename_i t' xs' hrow
      split at h
      · rename_i e
        obtain ⟨rfl, rfl⟩ := e
        cases h
        refine ⟨hrow, ?_⟩
        rcases hd with ⟨b, cap, q1, q2, _⟩ | ⟨q1, ad, cap, q2⟩
        · exact ⟨_, cap, q2, fun _ => ⟨b, q1, by simp⟩⟩
        · exact ⟨ad, cap, by rw [q2, q1], fun hn => absurd q1 hn⟩
      · cases h
    · cases h
  · cases h
theorem Inv.again (I : Inv w0 B ρ H ob nx w) {id : Nat} {p : AObj} (h : lookO ob id = some p) : Inv w0 B ρ H ((id, some p) :: ob) nx w := by
  have key : ∀ j q, lookO ((id, some p) :: ob) j = some q → lookO ob j = some q := by
    intro j q hq
    rw [lookO_cons] at hq
    split at hq
    · rename_i e; rw [← e, h]; exact hq
    · exact hq
  exact ⟨I.below, I.bsz, I.one, I.agree, fun j q hq => I.objs j q (key j q hq), fun i j q q' hij h1 h2 => I.sep i j q q' hij (key _ _ h1) (key _ _ h2), fun k hk => let ⟨k1, k2, k3, k4⟩ := I.kp k hk; ⟨k1, k2, k3, fun j q hq => k4 j q (key _ _ hq)⟩⟩
theorem post_put {w' : World} {id : Nat} {p : AObj} {cs : List Prop} {sv : Option SV} {v : Value} (I' : Inv w0 B ρ H ((id, some p) :: ob) nx w') (hs : ∀ x, sv = some x → DenSV ρ H x v ∧ x.lt nx) : Post w0 B ob nx ρ H ⟨cs, sv, [(id, some p)]⟩ v w' :=
  ⟨ρ, H, I'.more (Nat.le_add_right _ _), HLe.refl _, REq.refl _ _, fun x hx => ⟨(hs x hx).1, (hs x hx).2.mono (Nat.le_add_right _ _)⟩⟩
theorem sound_mark (hE : EnvOk E) (I : Inv w0 B ρ H ob nx w) (hv : EvOk ρ H nx ev a) {T e : TypeId} {x : Operand} {d de : TD} {id : Nat} {xs : List Int} (ho : o.op = .convert T T x) (hT : E.tt T = some d) (hk : d.kind = .slc e)
    (he : E.tt e = some de) (hke : de.kind = .sc) (hte : de.ty = some (.int .u8)) (hx : (ev x).bind one? = some (.own id)) (hrow : lookO ob id = some (.row (.int .u8) xs)) (hr : r = ⟨[0 < xs.length], some (.val (.one (.own id))), [(id, some (.row (.int .u8) xs))]⟩) (hc : ∀ q ∈ r.cs, q) : StepOk E.P o a w (Post w0 B ob nx ρ H r) := by
  subst hr
  have hpos : 0 < xs.length := hc _ (by simp)
  obtain ⟨k1, k2⟩ := hv.one hx
  have hval : a.eval x = ρ id := k1
  have hu1 := (hE.tt T d hT).slc e hk
  have hu2 := sc_u8 (hE.tt e de he) hke hte
  rcases (I.objs id _ hrow).2.2 with ⟨_, q2⟩ | ⟨g, cap, cur, e', q1, q2, q3, ⟨fz, f1, q4⟩, q5, q6, q7, q8⟩
  · subst q2; simp at hpos
  · have hsh : w.shape? g = some (e', cur.size) := by
      unfold World.shape?
      rw [q4]
    have hconv : (convert T T (a.eval x)).run E.P w = .ok (a.eval x) (w.freeze ⟨g, cur.size, none⟩ 1) := by
      rw [hval, q1]
      simp [convert, run_underlying hu1, run_underlying hu2, markStringish, hsh]
    have hnew : ∃ fz', (fz' = (0, 0) ∨ cur.size ≤ fz'.1) ∧ (w.freeze ⟨g, cur.size, none⟩ 1).heap[g]? = some (.cells cur e' fz') := by
      obtain ⟨lo, hi⟩ := fz
      refine ⟨if lo == hi then (cur.size, cur.size + 1) else (min lo cur.size, max hi (cur.size + 1)), ?_, ?_⟩
      · right
        split
        · exact Nat.le_refl _
        · rename_i hne
          rcases f1 with f1 | f1
          · cases f1; simp at hne
          · simp only at f1 ⊢; omega
      · unfold World.freeze
        rw [if_neg (by decide)]
        simp only [Array.getElem?_modify, if_pos, q4, Option.map_some]
    have hoth : ∀ i, i ≠ g → (w.freeze ⟨g, cur.size, none⟩ 1).heap[i]? = w.heap[i]? := by
      intro i hi
      unfold World.freeze
      rw [if_neg (by decide)]
      simp only [Array.getElem?_modify, if_neg (Ne.symm hi)]
    have hbw : Below B w (w.freeze ⟨g, cur.size, none⟩ 1) := by
      refine ⟨rfl, rfl, rfl, ?_, fun i hi => hoth i (by omega)⟩
      unfold World.freeze
      rw [if_neg (by decide)]
      simp
    refine .inl ⟨a.eval x, w.freeze ⟨g, cur.size, none⟩ 1, by simp [execOp, ho, hconv], post_put (I.putW hrow (.inr (.inl ⟨_, _, q1⟩)) hbw hoth trivial (.inr ⟨g, cap, cur, e', q1, q2, q3, hnew, q5, q6, q7, q8⟩)) (by intro x hx; cases hx; exact ⟨k1, k2⟩)⟩
theorem sound_clear (hE : EnvOk E) (I : Inv w0 B ρ H ob nx w) {T e : TypeId} {x : Operand} {d de : TD} {t : Ty} {c : C} {id lo n : Nat} {xs : List t.T} (ho : o.op = .call ⟨.builtin .clear, #[x], #[T]⟩) (hT : E.tt T = some d) (hk : d.kind = .slc e) (he : E.tt e = some de) (ht : de.ty = some t)
    (hx : DenC ρ H c (a.eval x)) (hp : partOf (lookO ob) t c = some (id, lo, n, xs)) (hr : r = ⟨[lo + n ≤ xs.length], none, [(id, some (.row t (xs.take lo ++ List.replicate n t.d ++ xs.drop (lo + n))))]⟩) (hc : ∀ q ∈ r.cs, q) : StepOk E.P o a w (Post w0 B ob nx ρ H r) := by
  subst hr
  have hle : lo + n ≤ xs.length := hc _ (by simp)
  obtain ⟨hrow, ad, cap, hv, hg⟩ := partOf_ok I hp hx hle
  have hu := (hE.tt T d hT).slc e hk
  by_cases hn : n = 0
  · subst hn
    refine .inl ⟨.tuple #[], w, by cases ad <;> simp [execOp, ho, resolve, invoke, builtin, Builtin.clear_, run_underlying hu, hv], post_put ?_ (by simp)⟩
    have : xs.take lo ++ List.replicate 0 t.d ++ xs.drop (lo + 0) = xs := by simp
    rw [this]
    exact I.again hrow
  · obtain ⟨g, hg1, rfl⟩ := hg hn
    obtain ⟨i, z, g1, g2, g3, g4, g5, g6⟩ := (hE.tt e de he).info
    have hzr := g6 t ht H
    have hzs : z.cells.size = t.sz := by simpa using Rd.len _ _ _ hzr
    have hus : (Builtin.zeroCells z.cells n).toList.length = (List.replicate n t.d).length * t.sz := by simp [Builtin.zeroCells, hzs]
    obtain ⟨g', cur, e', q1, q2, q3, q4⟩ := row_write I (lo := lo) (ys := List.replicate n t.d) (us := (Builtin.zeroCells z.cells n).toList) hrow (by simpa using hle) (by simp; omega) hus (fun j hj => by
      have hj' : j < n := by simpa using hj
      have hm := made_seg z.cells n j hj'
      unfold seg at hm
      rw [List.getElem_replicate, ← hzs]
      have e1 : Builtin.zeroCells z.cells n = madeCells z.cells (n * z.cells.size) := rfl
      rw [e1, hm]
      exact hzr)
    have := HB.uniq hg1 q1
    subst this
    have hone : ∀ v ∈ (Builtin.zeroCells z.cells n).toList, v.oneCell' = true := by
      intro v hv
      simp only [Builtin.zeroCells, Array.toList_map, List.mem_map, Array.mem_toList_iff, Array.mem_range] at hv
      obtain ⟨j, hj, rfl⟩ := hv
      have hz0 : 0 < z.cells.size := by
        rcases Nat.eq_zero_or_pos z.cells.size with h | h
        · rw [h] at hj; simp at hj
        · exact h
      have hlt := Nat.mod_lt j hz0
      rw [getElem!_pos z.cells (j % z.cells.size) hlt]
      exact Rd.one _ _ _ hzr _ (by simp)
    have hst := storeCells_own (P := E.P) q2 (by simpa using q3) hone
    simp only [List.length_replicate] at q4
    refine .inl ⟨.tuple #[], _, ?_, post_put q4 (by simp)⟩
    have hz : (zeroValue e).run E.P w = .ok z w := by simp [zeroValue, typeInfo, g1, g4]
    cases n with
    | zero => exact absurd rfl hn
    | succ n => simp [execOp, ho, resolve, invoke, builtin, Builtin.clear_, run_underlying hu, hv, hz, hst]
theorem sound_copy (hE : EnvOk E) (I : Inv w0 B ρ H ob nx w) {T e : TypeId} {x y : Operand} {d de : TD} {t : Ty} {c s : C} {id lo n : Nat} {xs ys : List t.T} (ho : o.op = .call ⟨.builtin .copy, #[x, y], #[T, T]⟩) (hT : E.tt T = some d) (hk : d.kind = .slc e) (he : E.tt e = some de) (ht : de.ty = some t)
    (hx : DenC ρ H c (a.eval x)) (hy : DenC ρ H s (a.eval y)) (hp : partOf (lookO ob) t c = some (id, lo, n, xs)) (hs : rowAs (lookO ob) t s = some ys)
    (hr : r = ⟨rowP (lookO ob) s ++ [lo + n ≤ xs.length], some (.val (.one (.int .i64 ((min ys.length n : Nat) : Int)))), [(id, some (.row t (xs.take lo ++ ys.take n ++ xs.drop (lo + min ys.length n))))]⟩) (hc : ∀ q ∈ r.cs, q) : StepOk E.P o a w (Post w0 B ob nx ρ H r) := by
  subst hr
  simp only [List.mem_append, List.mem_singleton] at hc
  have hle : lo + n ≤ xs.length := hc _ (.inr rfl)
  obtain ⟨hrow, ad, cap, hv, hg⟩ := partOf_ok I hp hx hle
  have hu := (hE.tt T d hT).slc e hk
  have hz : t.sz ≠ 0 := by rw [((hE.tt e de he).ty t ht).2]; exact (hE.tt e de he).pos
  obtain ⟨aa, cap', s1, s2, s3⟩ := rowAs_shows I hs hz hy (fun p hp => hc p (.inl hp))
  have hsz := run_sizeOf (w := w) (hE.tt e de he)
  have hd := ((hE.tt e de he).ty t ht).2
  rw [← hd] at hsz
  have hint : goInt ((min ys.length n : Nat) : Int) = .int .i64 ((min ys.length n : Nat) : Int) := rfl
  by_cases hn : min ys.length n = 0
  · have hrun : (Builtin.copy_ #[T, T] o.type #[a.eval x, a.eval y]).run E.P w = .ok (goInt 0) w := by
      have hmin : Nat.min ys.length n = 0 := hn
      cases aa with
      | none => cases ad <;> simp [Builtin.copy_, run_underlying hu, hv, s1, Builtin.lenOf, hsz, Builtin.firstCells, storeCells, hmin]
      | some b =>
        have hl : (loadCells b 0).run E.P w = .ok #[] w := by
          have := run_loadCells_list (P := E.P) w b [] (by simp)
          simpa using this
        cases ad <;> simp [Builtin.copy_, run_underlying hu, hv, s1, Builtin.lenOf, hsz, Builtin.firstCells, storeCells, hmin, hl]
    refine .inl ⟨goInt 0, w, by simp [execOp, ho, resolve, invoke, builtin, hrun], post_put ?_ (by intro x hx; cases hx; rw [hn]; exact ⟨rfl, trivial⟩)⟩
    have : xs.take lo ++ ys.take n ++ xs.drop (lo + min ys.length n) = xs := by
      have h0 : ys.take n = [] := List.length_eq_zero_iff.1 (by rw [List.length_take, Nat.min_comm]; exact hn)
      rw [hn, h0]; simp
    rw [this]
    exact I.again hrow
  · obtain ⟨g, hg1, rfl⟩ := hg (by omega)
    rcases s3 with s3 | ⟨b, off, cc, ee, fr, rfl, s4, s5, s6⟩
    · omega
    · have hm : min ys.length n * t.sz ≤ ys.length * t.sz := Nat.mul_le_mul_right _ (Nat.min_le_left _ _)
      have hfit : off + min ys.length n * t.sz ≤ cc.size := by omega
      have hul : (seg cc off (min ys.length n * t.sz)).length = (ys.take n).length * t.sz := by rw [seg_len hfit]; simp [Nat.min_comm]
      obtain ⟨g', cur, e', q1, q2, q3, q4⟩ := row_write I (lo := lo) (ys := ys.take n) (us := seg cc off (min ys.length n * t.sz)) hrow (by simp; omega) (by simp; omega) hul (fun j hj => by
        have hj' : j < min ys.length n := by simp at hj; omega
        have hjm : (j + 1) * t.sz ≤ min ys.length n * t.sz := Nat.mul_le_mul_right _ (by omega)
        rw [Nat.succ_mul] at hjm
        rw [seg_seg (by omega), List.getElem_take]
        exact s6 j (by omega))
      have := HB.uniq hg1 q1
      subst this
      have hone : ∀ v ∈ seg cc off (min ys.length n * t.sz), v.oneCell' = true := by
        refine row_one (t := t) (ys := ys.take n) hul (H := H) (fun j hj => ?_)
        have hj' : j < min ys.length n := by simp at hj; omega
        have hjm : (j + 1) * t.sz ≤ min ys.length n * t.sz := Nat.mul_le_mul_right _ (by omega)
        rw [Nat.succ_mul] at hjm
        rw [seg_seg (by omega), List.getElem_take]
        exact s6 j (by omega)
      have hst := storeCells_own (P := E.P) q2 (by simpa using q3) hone
      have hl : (loadCells ⟨b, off, none⟩ (min ys.length n * t.sz)).run E.P w = .ok (seg cc off (min ys.length n * t.sz)).toArray w := by
        have := run_loadCells_list (P := E.P) w ⟨b, off, none⟩ (seg cc off (min ys.length n * t.sz)) (fun j v hj => cell_seg s4 j v hj)
        rw [seg_len hfit] at this
        exact this
      have hlen : (ys.take n).length = min ys.length n := by simp [Nat.min_comm]
      rw [hlen] at q4
      have hmin : Nat.min ys.length n = min ys.length n := rfl
      refine .inl ⟨goInt ((min ys.length n : Nat) : Int), _, ?_, post_put q4 (by intro x hx; cases hx; exact ⟨hint, trivial⟩)⟩
      simp [execOp, ho, resolve, invoke, builtin, Builtin.copy_, run_underlying hu, hv, s1, Builtin.lenOf, hsz, Builtin.firstCells, hmin, hl, hst]
end
end Go.Sx
