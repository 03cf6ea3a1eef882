/- A verified symbolic run of functions, part 5: lemmas, no claim of their own. -/
import Derived.Test.YtjbfcdgbjgjliaaGreatDoorS4
import Derived.Laws.Externs
/- The engine's steps are right: values that are written out. -/
namespace Go.Sx
open Go.RowKit
theorem fold_splice (off : Nat) : ∀ (l : List Value) (k : Nat) (cells : Array Value), off + k + l.length ≤ cells.size →
    (l.zipIdx k).foldl (fun cs (x : Value × Nat) => cs.setIfInBounds (off + x.2) x.1) cells = (cells.toList.take (off + k) ++ l ++ cells.toList.drop (off + k + l.length)).toArray
  | [], k, cells, h => by simp
  | v :: rest, k, cells, h => by
    simp only [List.length_cons] at h
    rw [List.zipIdx_cons, List.foldl_cons, fold_splice off rest (k + 1) _ (by simp; omega)]
    have e := list_seg_step cells.toList (off + k) v rest (by simp; omega)
    congr 1
    simpa [Array.toList_setIfInBounds, Nat.add_assoc] using e
theorem fold_cells (off : Nat) (v cells : Array Value) (h : off + v.size ≤ cells.size) :
    v.zipIdx.foldl (fun cs (x : Value × Nat) => cs.setIfInBounds (off + x.2) x.1) cells = (cells.toList.take off ++ v.toList ++ cells.toList.drop (off + v.size)).toArray := by
  rw [← Array.foldl_toList, Array.toList_zipIdx]
  have := fold_splice off v.toList 0 cells (by simpa using h)
  simpa using this
section
variable {E : Env} {w0 : Base} {B : Nat} {ρ : Nat → Value} {H : IH} {ob : List (Nat × Option AObj)} {nx : Nat} {w : World} {ev : Operand → Option SV} {a : Act} {o : Oper} {r : Res}
def DenParts (ρ : Nat → Value) (H : IH) (nx : Nat) : List (Nat × V) → List (Nat × Value) → Prop
  | [], us => us = []
  | (i, v) :: r, us => ∃ u us', us = (i, u) :: us' ∧ DenV ρ H v u ∧ v.lt nx ∧ DenParts ρ H nx r us'
theorem parts_ok (hv : EvOk ρ H nx ev a) : ∀ {ps : List (Nat × Operand)} {vs : List (Nat × V)}, parts ev ps = some vs → DenParts ρ H nx vs (ps.map fun x => (x.1, a.eval x.2))
  | [], vs, h => by cases h; rfl
  | (i, x) :: ps, vs, h => by
    simp only [parts] at h
    split at h
    · rename_i v hx
      obtain ⟨qs, h1, rfl⟩ := Option.map_eq_some_iff.1 h
      obtain ⟨k1, k2⟩ := hv.val hx
      exact ⟨_, _, rfl, k1, k2, parts_ok hv h1⟩
    · cases h
theorem put_fill (hρ : ∀ id, (ρ id).oneCell' = true) {cs y : List Ch} {off n : Nat} {v : V} {u : Value} {cells : Array Value} (hp : putCh cs off n (Ch.chs v) = some y) (hs : chsSz (Ch.chs v) = n) (hd : DenChs ρ H cs cells.toList) (hu : DenV ρ H v u) :
    u.cells.size = n ∧ off + u.cells.size ≤ cells.size ∧ DenChs ρ H y (u.cells.zipIdx.foldl (fun cs (x : Value × Nat) => cs.setIfInBounds (off + x.2) x.1) cells).toList := by
  have hc := hu.cells hρ
  have hl := hc.len
  rw [hs] at hl
  have hl' : u.cells.size = n := by simpa using hl
  obtain ⟨m1, m2⟩ := putCh_den hp hd hc
  have hle : off + u.cells.size ≤ cells.size := by rw [hl']; simpa using m2
  refine ⟨hl', hle, ?_⟩
  rw [fold_cells off u.cells cells hle, hl']
  simpa using m1
theorem cells_list {t : Ty} {x : t.T} {u : Value} (h : Rd H t x u.cells.toList) : u.cells.size = t.sz := by
  have := Rd.len _ _ _ h
  simpa using this
theorem fillRow_ok (hρ : ∀ id, (ρ id).oneCell' = true) {t : Ty} {n : Nat} (hz : t.sz ≠ 0) : ∀ {vs : List (Nat × V)} {us : List (Nat × Value)} {xs ys : List t.T} {cells : Array Value}, fillRow t xs vs = some ys → DenParts ρ H nx vs us → xs.length = n → cells.size = n * t.sz →
    (∀ i (h : i < xs.length), Rd H t xs[i] (seg cells (i * t.sz) t.sz)) →
    ∃ cells', Instr.fill (fun i => some (i * t.sz, t.sz)) cells us = some cells' ∧ ys.length = n ∧ cells'.size = n * t.sz ∧ ∀ i (h : i < ys.length), Rd H t ys[i] (seg cells' (i * t.sz) t.sz)
  | [], us, xs, ys, cells, h, hd, hl, hs, hr => by
    cases h
    rw [show us = [] from hd]
    exact ⟨cells, rfl, hl, hs, hr⟩
  | (i, v) :: rest, us, xs, ys, cells, h, hd, hl, hs, hr => by
    obtain ⟨u, us', rfl, h1, _, h3⟩ := hd
    simp only [fillRow] at h
    split at h
    · rename_i x hx
      split at h
      · rename_i hi
        have hrd := ofV_den hρ hx h1
        have hsz := cells_list hrd
        have hm : (i + 1) * t.sz ≤ n * t.sz := Nat.mul_le_mul_right _ (by omega)
        rw [Nat.succ_mul] at hm
        have hfold := fold_cells (i * t.sz) u.cells cells (by omega)
        have hu : u.cells.toList.length = t.sz := by simpa using hsz
        obtain ⟨cells', g1, g2, g3, g4⟩ := fillRow_ok hρ hz (xs := xs.set i x) (cells := u.cells.zipIdx.foldl (fun cs (x : Value × Nat) => cs.setIfInBounds (i * t.sz + x.2) x.1) cells) h h3 (by simpa using hl)
          (by rw [hfold, hsz, splice_size cells (i * t.sz) t.sz _ hu (by omega)]; exact hs)
          (by
            intro j hj
            have hj' : j < xs.length := by simpa using hj
            rw [hfold, hsz]
            by_cases hij : i = j
            · subst hij
              simp only [List.getElem_set_self]
              rw [splice_same cells (i * t.sz) t.sz _ hu (by omega)]
              exact hrd
            · simp only [List.getElem_set_ne hij]
              rw [splice_seg cells _ t.sz _ hu (by omega) (j * t.sz) t.sz ?_]
              · exact hr j hj'
              · rcases Nat.lt_or_gt_of_ne hij with h | h
                · have : (i + 1) * t.sz ≤ j * t.sz := Nat.mul_le_mul_right _ (by omega)
                  rw [Nat.succ_mul] at this; omega
                · have : (j + 1) * t.sz ≤ i * t.sz := Nat.mul_le_mul_right _ (by omega)
                  rw [Nat.succ_mul] at this; omega)
        refine ⟨cells', ?_, g2, g3, g4⟩
        have hno : ¬ (u.cells.size ≠ t.sz ∨ i * t.sz + u.cells.size > cells.size) := by omega
        simp only [Instr.fill, Bool.or_eq_true, decide_eq_true_eq, hno, if_false]
        exact g1
      · cases h
    · cases h
end
end Go.Sx

/- The engine's steps are right: new rows, append. -/
namespace Go.Sx
open Go.RowKit
section
variable {E : Env} {w0 : Base} {B : Nat} {ρ : Nat → Value} {H : IH} {ob : List (Nat × Option AObj)} {nx : Nat} {w : World} {ev : Operand → Option SV} {a : Act} {o : Oper} {r : Res}
theorem Inv.hnew (I : Inv w0 B ρ H ob nx w) : H w.heap.size = none := by
  cases hh : H w.heap.size with
  | none => rfl
  | some o => have := lt_of_some (I.agree _ _ hh); omega
theorem post_row (I : Inv w0 B ρ H ob nx w) {cs : List Prop} {t : Ty} {xs : List t.T} {cap : Nat} {cur : Array Value} {e : TypeId} (h1 : xs.length ≤ cap) (h2 : cap ≤ maxLen) (h3 : cur.size = cap * t.sz)
    (h4 : ∀ i (h : i < xs.length), Rd H t xs[i] (seg cur (i * t.sz) t.sz)) {dels : List Nat} :
    Post w0 B ob nx ρ H ⟨cs, some (.val (.one (.own nx))), (nx, some (.row t xs)) :: dels.map fun k => (k, none)⟩ (.slice (some ⟨w.heap.size, 0, none⟩) xs.length cap) (w.alloc (.cells cur e)) := by
  have hb : Below w.heap.size w (w.alloc (.cells cur e)) := (Below.refl _ _).alloc (Nat.le_refl _) _
  have hB : B ≤ w.heap.size := Nat.le_trans I.bsz I.below.size
  have hr : REq nx ρ (upd ρ nx (.slice (some ⟨w.heap.size, 0, none⟩) xs.length cap)) := REq.upd _ _ _ (Nat.le_refl _)
  have I' : Inv w0 B ρ H (dels.map (fun k => (k, none)) ++ ob) nx (w.alloc (.cells cur e)) := by
    have := I.grow hb
    clear I
    induction dels with
    | nil => exact this
    | cons k ks ih => exact ih.del k
  have hfr : ∀ id p, lookO (dels.map (fun k => (k, (none : Option AObj))) ++ ob) id = some p → ¬ HB (ρ id) w.heap.size := by
    intro id p hp
    have hp' : lookO ob id = some p := by
      clear I'
      induction dels with
      | nil => exact hp
      | cons k ks ih =>
        rw [List.map_cons, List.cons_append, lookO_cons] at hp
        split at hp
        · cases hp
        · exact ih hp
    exact DenO.fresh I id p hp' _ (Nat.le_refl _)
  refine ⟨upd ρ nx (.slice (some ⟨w.heap.size, 0, none⟩) xs.length cap), H, ?_, HLe.refl _, hr, ?_⟩
  · refine I'.add (Nat.le_refl _) (by simp [W]) rfl trivial ?_ ?_ ?_
    · show OwnRow _ _ _ (upd ρ nx _ nx) _ _
      rw [upd_same]
      exact .inr ⟨w.heap.size, cap, cur, e, rfl, hB, I.hnew, ⟨_, .inl rfl, heap_alloc_new _ _⟩, h1, h2, h3, h4⟩
    · intro b hb' id p hp
      rcases hb' with hb' | ⟨_, _, hb'⟩ | hb' <;> cases hb'
      exact hfr id p hp
    · intro b hb' hk
      rcases hb' with hb' | ⟨_, _, hb'⟩ | hb' <;> cases hb'
      exact absurd (I.kLt hk) (by omega)
  · intro sv e; cases e
    exact ⟨(upd_same _ _ _).symm, by simp [SV.lt, V.lt, C.lt, W]⟩
theorem made_seg (z : Array Value) (n i : Nat) (hi : i < n) : seg (madeCells z (n * z.size)) (i * z.size) z.size = z.toList := by
  have hm : (i + 1) * z.size ≤ n * z.size := Nat.mul_le_mul_right _ (by omega)
  rw [Nat.succ_mul] at hm
  apply List.ext_getElem?
  intro j
  by_cases hj : j < z.size
  · unfold seg
    rw [List.getElem?_take_of_lt hj, List.getElem?_drop]
    simp only [madeCells, Array.toList_map, List.getElem?_map, Array.getElem?_toList]
    have h1 : (Array.range (n * z.size))[i * z.size + j]? = some (i * z.size + j) := by rw [Array.getElem?_eq_some_iff]; exact ⟨by rw [Array.size_range]; omega, by simp [Array.range]⟩
    rw [h1]
    have h2 : (i * z.size + j) % z.size = j := by rw [Nat.mul_comm, Nat.mul_add_mod]; exact Nat.mod_eq_of_lt hj
    simp [h2, hj]
  · rw [List.getElem?_eq_none, List.getElem?_eq_none]
    · simp; omega
    · unfold seg; simp; omega
theorem sound_makeSlice (hE : EnvOk E) (I : Inv w0 B ρ H ob nx w) (hv : EvOk ρ H nx ev a) {T e : TypeId} {x : Nat} {d de : TD} {t : Ty} {n : Int} (ho : o.op = .makeSlice T (.tmp x) (.tmp x)) (hT : E.tt T = some d) (hk : d.kind = .slc e) (he : E.tt e = some de) (ht : de.ty = some t)
    (hx : (ev (.tmp x)).bind one? = some (.int .i64 n)) (hr : r = ⟨[0 ≤ n, room n.toNat de.bytes], some (.val (.one (.own nx))), [(nx, some (.row t (List.replicate n.toNat t.d)))]⟩) (hc : ∀ q ∈ r.cs, q) : StepOk E.P o a w (Post w0 B ob nx ρ H r) := by
  subst hr
  have k1 : a.eval (.tmp x) = .int .i64 n := (hv.one hx).1
  have h0 : 0 ≤ n := hc _ (by simp)
  obtain ⟨h1, h2⟩ : room n.toNat de.bytes := hc _ (by simp)
  obtain ⟨i, z, g1, g2, g3, g4, g5, g6⟩ := (hE.tt e de he).info
  have hzr := g6 t ht H
  have hzs : z.cells.size = t.sz := by simpa using Rd.len _ _ _ hzr
  have hsz : i.size = t.sz := by rw [g2]; exact ((hE.tt e de he).ty t ht).2.symm
  have hmul : (i.bytes : Int) * n ≤ 281474976710656 := by
    have : n = (n.toNat : Int) := (Int.toNat_of_nonneg h0).symm
    rw [this, g3, Int.mul_comm, ← Int.natCast_mul]
    omega
  have hrun := run_make (P := E.P) w T e i z ((hE.tt T d hT).slc e hk) g1 g4 .i64 .i64 n n h0 (Int.le_refl _) hmul (by omega)
  rw [hsz, ← hzs] at hrun
  refine .inl ⟨_, _, by simp only [execOp, ho, k1, Sem.run_bind, hrun, Result.andThen_ok, Sem.run_pure]; rfl, ?_⟩
  have hl : (List.replicate n.toNat t.d).length = n.toNat := by simp
  have := post_row I (cs := [0 ≤ n, room n.toNat de.bytes]) (t := t) (xs := List.replicate n.toNat t.d) (cap := n.toNat) (cur := madeCells z.cells (n.toNat * z.cells.size)) (e := e) (by omega) (by simp only [maxLen]; omega) (by rw [size_madeCells, hzs])
    (fun j hj => by
      have hj' : j < n.toNat := by simpa using hj
      rw [List.getElem_replicate, ← hzs, made_seg z.cells n.toNat j hj']
      exact hzr) (dels := [])
  rw [hl] at this
  exact this
theorem sound_buildSlice0 (hE : EnvOk E) (I : Inv w0 B ρ H ob nx w) {T e : TypeId} {n : Nat} {ps : Array (Nat × Operand)} {vs : List (Nat × V)} {d de : TD} {t : Ty} {xs : List t.T} (ho : o.op = .buildSlice T n ps) (hT : E.tt T = some d) (hk : d.kind = .slc e) (he : E.tt e = some de) (ht : de.ty = some t)
    (hd : DenParts ρ H nx vs (ps.toList.map fun x => (x.1, a.eval x.2))) (hf : fillRow t (List.replicate n t.d) vs = some xs) (hn : n * t.sz ≤ 16777216) (hr : r = ⟨[], some (.val (.one (.own nx))), [(nx, some (.row t xs))]⟩) : StepOk E.P o a w (Post w0 B ob nx ρ H r) := by
  subst hr
  obtain ⟨i, z, g1, g2, g3, g4, g5, g6⟩ := (hE.tt e de he).info
  have hzr := g6 t ht H
  have hzs : z.cells.size = t.sz := by simpa using Rd.len _ _ _ hzr
  have hsz : i.size = t.sz := by rw [g2]; exact ((hE.tt e de he).ty t ht).2.symm
  have hpos : t.sz ≠ 0 := by rw [← hsz, g2]; exact (hE.tt e de he).pos
  obtain ⟨cells, m1, m2, m3, m4⟩ := fillRow_ok I.one hpos (n := n) (cells := madeCells z.cells (n * z.cells.size)) hf hd (by simp) (by rw [size_madeCells, hzs])
    (fun j hj => by
      have hj' : j < n := by simpa using hj
      rw [List.getElem_replicate, ← hzs, made_seg z.cells n j hj']
      exact hzr)
  refine .inl ⟨_, _, ?_, post_row I (cap := n) (cur := cells) (e := e) (by omega) ?_ m3 m4 (dels := [])⟩
  · have hn' : ¬ (n * t.sz > 2 ^ 24) := by omega
    have hparts : (ps.map fun x => (x.1, a.eval x.2)).toList = ps.toList.map fun x => (x.1, a.eval x.2) := by simp
    rw [m2]
    by_cases h0 : n * t.sz = 0
    · have hn0 : n = 0 := by
        rcases Nat.mul_eq_zero.1 h0 with h | h
        · exact h
        · exact absurd h hpos
      subst hn0
      have m1' : Instr.fill (fun i => some (i * t.sz, t.sz)) #[] (ps.toList.map fun x => (x.1, a.eval x.2)) = some cells := by
        have : madeCells z.cells (0 * z.cells.size) = #[] := by simp [madeCells]
        rw [this] at m1; exact m1
      simp [execOp, ho, Instr.buildSlice, run_underlying ((hE.tt T d hT).slc e hk), sizeOf, typeInfo, g1, hsz, Array.range_zero', m1', newRow]
    · have m1' := m1
      unfold madeCells at m1'
      rw [hzs] at m1'
      have hz2 : ∀ i : Nat, z.cells[i % t.sz]! = z.cells[i % z.cells.size]! := by intro i; rw [hzs]
      simp only [hz2] at m1'
      simp [execOp, ho, Instr.buildSlice, run_underlying ((hE.tt T d hT).slc e hk), sizeOf, typeInfo, zeroValue, g1, g4, hsz, hn', h0, m1', newRow]
  · simp only [maxLen]
    have : n ≤ n * t.sz := Nat.le_mul_of_pos_right _ (by omega)
    omega
theorem sound_buildSlice (hE : EnvOk E) (I : Inv w0 B ρ H ob nx w) (hv : EvOk ρ H nx ev a) {T e : TypeId} {n : Nat} {ps : Array (Nat × Operand)} {vs : List (Nat × V)} {d de : TD} {t : Ty} {xs : List t.T} (ho : o.op = .buildSlice T n ps) (hT : E.tt T = some d) (hk : d.kind = .slc e) (he : E.tt e = some de) (ht : de.ty = some t)
    (hp : parts ev ps.toList = some vs) (hf : fillRow t (List.replicate n t.d) vs = some xs) (hn : n * t.sz ≤ 16777216) (hr : r = ⟨[], some (.val (.one (.own nx))), [(nx, some (.row t xs))]⟩) : StepOk E.P o a w (Post w0 B ob nx ρ H r) :=
  sound_buildSlice0 hE I ho hT hk he ht (parts_ok hv hp) hf hn hr
theorem frzParts_den {H1 : IH} (hle : HLe H H1) : ∀ {vs : List (Nat × V)} {us : List (Nat × Value)}, (∀ j ∈ vs.flatMap (fun x => ownV x.2), ∀ (t : Ty) (xs : List t.T), lookO ob j = some (.row t xs) → Rd H1 (.sl t) xs [ρ j]) → DenParts ρ H nx vs us → DenParts ρ H1 nx (vs.map fun x => (x.1, frzV (lookO ob) x.2)) us
  | [], _, _, h => h
  | (i, v) :: r, us, hr, h => by
    obtain ⟨u, us', rfl, h1, h2, h3⟩ := h
    obtain ⟨k1, k2⟩ := frzV_den (nx := nx) hle h2 (fun j hj => hr j (by simp only [List.flatMap_cons, List.mem_append]; exact .inl hj)) h1
    exact ⟨u, us', rfl, k1, k2, frzParts_den hle (fun j hj => hr j (by simp only [List.flatMap_cons, List.mem_append]; exact .inr hj)) h3⟩
theorem sound_buildSlice_fz (hE : EnvOk E) (I : Inv w0 B ρ H ob nx w) (hv : EvOk ρ H nx ev a) {T e : TypeId} {n : Nat} {ps : Array (Nat × Operand)} {vs : List (Nat × V)} {d de : TD} {t : Ty} {xs : List t.T} (ho : o.op = .buildSlice T n ps) (hT : E.tt T = some d) (hk : d.kind = .slc e) (he : E.tt e = some de) (ht : de.ty = some t)
    (hp : parts ev ps.toList = some vs) (hf : fillRow t (List.replicate n t.d) (vs.map fun x => (x.1, frzV (lookO ob) x.2)) = some xs) (hn : n * t.sz ≤ 16777216)
    (hr : r = ⟨[], some (.val (.one (.own nx))), (nx, some (.row t xs)) :: (vs.flatMap fun x => ownV x.2).map fun j => (j, none)⟩) : StepOk E.P o a w (Post w0 B ob nx ρ H r) := by
  subst hr
  obtain ⟨H1, hle, I1, hrd⟩ := freeze_rows I (vs.flatMap fun x => ownV x.2)
  have := sound_buildSlice0 (o := o) (a := a) (r := ⟨[], some (.val (.one (.own nx))), [(nx, some (.row t xs))]⟩) hE I1 ho hT hk he ht (frzParts_den hle hrd (parts_ok hv hp)) hf hn rfl
  refine this.mono fun v w' hq => ?_
  obtain ⟨ρ', H', h1, h2, h3, h4⟩ := hq
  exact ⟨ρ', H', h1, hle.trans h2, h3, h4⟩
theorem sound_empty (hE : EnvOk E) (I : Inv w0 B ρ H ob nx w) {T e : TypeId} {d de : TD} {t : Ty} (ho : o.op = .buildSlice T 0 ⟨[]⟩) (hT : E.tt T = some d) (hk : d.kind = .slc e) (he : E.tt e = some de) (ht : de.ty = some t) :
    StepOk E.P o a w (Post w0 B ob nx ρ H ⟨[], some (.val (.one (.frs t []))), []⟩) := by
  obtain ⟨i, z, g1, g2, g3, g4, g5, g6⟩ := (hE.tt e de he).info
  have hsz : i.size = t.sz := by rw [g2]; exact ((hE.tt e de he).ty t ht).2.symm
  have hb : Below w.heap.size w (w.alloc (.cells #[] e)) := (Below.refl _ _).alloc (Nat.le_refl _) _
  refine .inl ⟨.slice (some ⟨w.heap.size, 0, none⟩) 0 0, w.alloc (.cells #[] e), ?_, ρ, H, (I.grow hb).more (by simp [W]), HLe.refl _, REq.refl _ _, fun sv e => ?_⟩
  · have m1 : Instr.fill (fun i => some (i * t.sz, t.sz)) #[] [] = some #[] := rfl
    simp [execOp, ho, Instr.buildSlice, run_underlying ((hE.tt T d hT).slc e hk), sizeOf, typeInfo, g1, hsz, Array.range_zero', m1, newRow]
  · cases e
    exact ⟨⟨rfl, _, rfl⟩, trivial⟩
theorem still_ok {r' : Res} {v : Value} {w' : World} (hnx : ∀ id p, lookO ob id = some p → id < nx) (h : still nx r = some r') (hp : Post w0 B ob nx ρ H r v w') : Post w0 B ob nx ρ H r' v w' ∧ r'.cs = r.cs ∧ r'.up = [] := by
  unfold still at h
  split at h
  · rename_i hu
    cases h
    exact ⟨hp, rfl, hu⟩
  · rename_i i t xs hu
    split at h
    · rename_i j hj
      split at h
      · rename_i e
        obtain ⟨rfl, hni⟩ := e
        cases h
        obtain ⟨ρ', H', I, k2, k3, k4⟩ := hp
        obtain ⟨k5, k6⟩ := k4 _ hj
        rw [hu] at I
        have hl : lookO ([(i, some (AObj.row t xs))] ++ ob) i = some (.row t xs) := by simp [lookO]
        have hden := (I.objs i _ hl).2.2
        have hv : v = ρ' i := k5
        have sub : ∀ id p, lookO ob id = some p → lookO ([(i, some (AObj.row t xs))] ++ ob) id = some p ∧ id ≠ i := by
          intro id p hp
          have := hnx id p hp
          refine ⟨?_, by omega⟩
          show lookO ((i, some (AObj.row t xs)) :: ob) id = some p
          rw [lookO_cons, if_neg (by omega)]; exact hp
        have I' : Inv w0 B ρ' H' ob (nx + W) w' :=
          ⟨I.below, I.bsz, I.one, I.agree, fun id p hp => I.objs id p (sub id p hp).1, fun x y p q hxy h1 h2 => I.sep x y p q hxy (sub _ _ h1).1 (sub _ _ h2).1,
            fun b hk => let ⟨m1, m2, m3, m4⟩ := I.kp b hk; ⟨m1, m2, m3, fun id p hp => m4 id p (sub _ _ hp).1⟩⟩
        refine ⟨?_, rfl, rfl⟩
        rcases hden with ⟨d1, rfl⟩ | ⟨g, cap, cur, e, d1, d2, d3, ⟨_, _, d4⟩, d5, d6, d7, d8⟩
        · refine ⟨ρ', H', I', k2, k3, fun sv e => ?_⟩
          cases e
          refine ⟨?_, trivial⟩
          show Rd H' (.sl t) [] [v]
          rw [hv, d1]
          exact ⟨none, 0, rfl, Nat.le_refl _, .inl rfl⟩
        · have hf : ∀ id p, lookO ob id = some p → ¬ HB (ρ' id) g := by
            intro id p hp hb
            exact I.sep i id _ _ (Ne.symm (sub _ _ hp).2) hl (sub _ _ hp).1 g (.inr (.inl ⟨_, _, d1⟩)) hb
          have hK : ¬ w0.K g := fun hk => (I.kp g hk).2.2.2 i _ hl (.inr (.inl ⟨_, _, d1⟩))
          obtain ⟨I2, hle⟩ := I'.imm d4 d3 hf hK
          refine ⟨ρ', _, I2, k2.trans hle, k3, fun sv e => ?_⟩
          cases e
          refine ⟨?_, trivial⟩
          show Rd _ (.sl t) xs [v]
          rw [hv, d1]
          refine ⟨_, cap, rfl, d5, .inr ⟨g, 0, cur, _, _, rfl, upd_same _ _ _, fun i hi => ?_⟩⟩
          rw [Nat.zero_add]
          exact Rd.mono hle _ _ _ (d8 i hi)
      · cases h
    · cases h
  · cases h
end
end Go.Sx

/- The engine's steps are right: append. -/
namespace Go.Sx
open Go.RowKit
section
variable {E : Env} {w0 : Base} {B : Nat} {ρ : Nat → Value} {H : IH} {ob : List (Nat × Option AObj)} {nx : Nat} {w : World} {ev : Operand → Option SV} {a : Act} {o : Oper} {r : Res}
theorem Inv.write (I : Inv w0 B ρ H ob nx w) {g : Nat} {new : Array Value} (hB : B ≤ g) (hH : H g = none) (hno : ∀ id p, lookO ob id = some p → ¬ HB (ρ id) g) (hK : ¬ w0.K g) : Inv w0 B ρ H ob nx (w.setRow g new) := by
  have hbelow : Below B w (w.setRow g new) := ⟨rfl, rfl, rfl, by simp, fun i hi => heap_setRow_other w g i new (by omega)⟩
  refine ⟨I.below.trans hbelow, I.bsz, I.one, fun b o' h => ?_, fun id q h => ?_, I.sep, fun b hk => ?_⟩
  rotate_left 2
  · obtain ⟨k1, k2, k3, k4⟩ := I.kp b hk
    exact ⟨k1, by rw [heap_setRow_other w g b new (fun e : b = g => hK (e ▸ hk))]; exact k2, k3, k4⟩
  · have hne : b ≠ g := fun e => by subst e; rw [hH] at h; cases h
    rw [heap_setRow_other w g b new hne]; exact I.agree b o' h
  · obtain ⟨a, b, c⟩ := I.objs id q h
    refine ⟨a, b, c.kept a b (REq.refl _ _) (HLe.refl _) fun b hb => ⟨?_, (I.hb h hb).2.1⟩⟩
    exact heap_setRow_other w g b new (fun e => by subst e; exact hno id q h hb)
theorem run_append_room' {P : Program} (t ty e e' : TypeId) (i : TypeInfo) (ht : P.underlying t = some (.slice e)) (hi : P.info? e = some i)
    (g sLen sCap : Nat) (cur : Array Value) (hg : Cells w g cur e')
    (a : Addr) (m c : Nat) (news : List Value) (hl : news.length = m * i.size) (hnews : ∀ j u, news[j]? = some u → w.cell? (a.add j) = some u) (h1 : ∀ u ∈ news, u.oneCell' = true)
    (hroom : sLen + m ≤ sCap) (hfit : sLen * i.size + news.length ≤ cur.size) :
    (Builtin.append_ #[t, t] ty #[.slice (some ⟨g, 0, none⟩) sLen sCap, .slice (some a) m c]).run P w =
      .ok (.slice (some ⟨g, 0, none⟩) (sLen + m) sCap) (w.setRow g (cur.toList.take (sLen * i.size) ++ news ++ cur.toList.drop (sLen * i.size + news.length)).toArray) := by
  have hf := run_firstCells_some (P := P) w i.size m a m c news hl hnews
  have hst := storeCells_own (P := P) hg (by simpa using hfit) h1
  simp [Builtin.append_, run_underlying ht, sizeOf, typeInfo, hi, Builtin.lenOf, hroom, hf, addr_add, hst]
theorem run_append_none {P : Program} (t ty e : TypeId) (i : TypeInfo) (ht : P.underlying t = some (.slice e)) (hi : P.info? e = some i) (base x : Option Addr) (n cap c : Nat) (h : n ≤ cap) :
    (Builtin.append_ #[t, t] ty #[.slice base n cap, .slice x 0 c]).run P w = .ok (.slice base n cap) w := by
  cases base <;> cases x <;> simp [Builtin.append_, run_underlying ht, sizeOf, typeInfo, hi, Builtin.lenOf, h, Builtin.firstCells, loadCells, loadCellsFrom, storeCells]
theorem news_rd {t : Ty} {ys : List t.T} {c : Array Value} {off : Nat} (hr : ∀ i (h : i < ys.length), Rd H t ys[i] (seg c (off + i * t.sz) t.sz)) :
    ∀ i (h : i < ys.length), Rd H t ys[i] (((seg c off (ys.length * t.sz)).drop (i * t.sz)).take t.sz) := by
  intro i hi
  have hm : (i + 1) * t.sz ≤ ys.length * t.sz := Nat.mul_le_mul_right _ (by omega)
  rw [Nat.succ_mul] at hm
  rw [seg_seg (by omega)]
  exact hr i hi
theorem row_one {t : Ty} {ys : List t.T} {us : List Value} (hlen : us.length = ys.length * t.sz) (hr : ∀ i (h : i < ys.length), Rd H t ys[i] ((us.drop (i * t.sz)).take t.sz)) : ∀ v ∈ us, v.oneCell' = true :=
  Rd.one (.arr ys.length t) ys us ⟨rfl, hlen, hr⟩
theorem row_append {t : Ty} {xs ys : List t.T} {us vs : List Value} (hu : us.length = xs.length * t.sz)
    (h1 : ∀ i (h : i < xs.length), Rd H t xs[i] ((us.drop (i * t.sz)).take t.sz)) (h2 : ∀ i (h : i < ys.length), Rd H t ys[i] ((vs.drop (i * t.sz)).take t.sz)) (rest : List Value) (hv : vs.length = ys.length * t.sz) :
    ∀ i (h : i < (xs ++ ys).length), Rd H t (xs ++ ys)[i] (((us ++ vs ++ rest).drop (i * t.sz)).take t.sz) := by
  intro i hi
  rw [List.length_append] at hi
  by_cases h : i < xs.length
  · have hm : (i + 1) * t.sz ≤ xs.length * t.sz := Nat.mul_le_mul_right _ (by omega)
    rw [Nat.succ_mul] at hm
    rw [List.getElem_append_left h, List.append_assoc, List.drop_append_of_le_length (by omega), List.take_append_of_le_length (by simp; omega)]
    exact h1 i h
  · have hi2 : i - xs.length < ys.length := by omega
    have hm : (i - xs.length + 1) * t.sz ≤ ys.length * t.sz := Nat.mul_le_mul_right _ (by omega)
    rw [Nat.succ_mul] at hm
    rw [List.getElem_append_right (by omega), List.append_assoc, List.drop_append, List.drop_of_length_le (by rw [hu]; exact Nat.mul_le_mul_right _ (by omega)), List.nil_append]
    have e1 : i * t.sz - us.length = (i - xs.length) * t.sz := by rw [hu, Nat.sub_mul]
    rw [e1, List.drop_append_of_le_length (by omega), List.take_append_of_le_length (by simp; omega)]
    exact h2 _ hi2
theorem append_core (hE : EnvOk E) (I : Inv w0 B ρ H ob nx w) {e : TypeId} {de : TD} {t : Ty} {xs ys : List t.T} {v : Value} {cs : List Prop} {dels : List Nat} {z : Value} {ap : Value → Sem Value} {news : List Value} (he : E.tt e = some de) (ht : de.ty = some t)
    (hown : OwnRow w B H v t xs) (hdel : ∀ b, HB v b → ∀ id p, lookO (dels.map (fun k => (k, (none : Option AObj))) ++ ob) id = some p → ¬ HB (ρ id) b) (hKv : ∀ b, HB v b → ¬ w0.K b) (hroom : room (xs.length + ys.length) de.bytes)
    (hzs : z.cells.size = t.sz) (hnl' : news.length = ys.length * t.sz) (hnr : ∀ i (h : i < ys.length), Rd H t ys[i] ((news.drop (i * t.sz)).take t.sz))
    (h0 : ys.length = 0 → ∀ va vn vc, vn ≤ vc → (ap (.slice va vn vc)).run E.P w = .ok (.slice va vn vc) w)
    (h1 : ys.length ≠ 0 → xs.length = 0 → (ap (.slice none 0 0)).run E.P w = .ok (.slice (some ⟨w.heap.size, 0, none⟩) ys.length (grownCap w ys.length 0 e)) (w.drew.alloc (.cells (news.toArray ++ Builtin.zeroCells z.cells (grownCap w ys.length 0 e - ys.length)) e)))
    (h2 : ys.length ≠ 0 → ∀ g cap cur e', Cells w g cur e' → xs.length + ys.length ≤ cap → xs.length * t.sz + news.length ≤ cur.size →
      (ap (.slice (some ⟨g, 0, none⟩) xs.length cap)).run E.P w = .ok (.slice (some ⟨g, 0, none⟩) (xs.length + ys.length) cap) (w.setRow g (cur.toList.take (xs.length * t.sz) ++ news ++ cur.toList.drop (xs.length * t.sz + news.length)).toArray))
    (h3 : ys.length ≠ 0 → ∀ g cap (olds : List Value), olds.length = xs.length * t.sz → (∀ j u, olds[j]? = some u → w.cell? ((⟨g, 0, none⟩ : Addr).add j) = some u) → cap < xs.length + ys.length →
      (ap (.slice (some ⟨g, 0, none⟩) xs.length cap)).run E.P w = .ok (.slice (some ⟨w.heap.size, 0, none⟩) (xs.length + ys.length) (grownCap w (xs.length + ys.length) cap e))
        (w.drew.alloc (.cells (olds.toArray ++ news.toArray ++ Builtin.zeroCells z.cells (grownCap w (xs.length + ys.length) cap e - (xs.length + ys.length))) e))) :
    ∃ v' w', (ap v).run E.P w = .ok v' w' ∧
      Post w0 B ob nx ρ H ⟨cs, some (.val (.one (.own nx))), (nx, some (.row t (xs ++ ys))) :: dels.map fun k => (k, none)⟩ v' w' := by
  obtain ⟨r1, r2⟩ := hroom
  have hB : B ≤ w.heap.size := Nat.le_trans I.bsz I.below.size
  have Idel : Inv w0 B ρ H (dels.map (fun k => (k, none)) ++ ob) nx w := by
    clear hdel
    induction dels with
    | nil => exact I
    | cons k ks ih => exact ih.del k
  by_cases hy0 : ys.length = 0
  · -- nothing is appended
    have hys : ys = [] := List.length_eq_zero_iff.1 hy0
    obtain ⟨va, vc, hvv, hvc⟩ : ∃ va vc, v = .slice va xs.length vc ∧ xs.length ≤ vc := by
      obtain ⟨va, vc, h1, h2, _⟩ := own_shows hown; exact ⟨va, vc, h1, h2⟩
    refine ⟨v, w, ?_, ?_⟩
    · rw [hvv]; exact h0 hy0 va xs.length vc hvc
    · rw [hys, List.append_nil]
      refine ⟨upd ρ nx v, H, ?_, HLe.refl _, REq.upd _ _ _ (Nat.le_refl _), ?_⟩
      · refine Idel.add (Nat.le_refl _) (by simp [W]) (by rw [hvv]; rfl) trivial ?_ hdel hKv
        show OwnRow _ _ _ (upd ρ nx v nx) _ _
        rw [upd_same]; exact hown
      · intro sv e; cases e; exact ⟨(upd_same _ _ _).symm, by simp [SV.lt, V.lt, C.lt, W]⟩
  · have hpos : t.sz ≠ 0 := by rw [((hE.tt e de he).ty t ht).2]; exact (hE.tt e de he).pos
    have grown : ∀ (olds : List Value) (old : Nat), olds.length = xs.length * t.sz → (∀ j (h : j < xs.length), Rd H t xs[j] ((olds.drop (j * t.sz)).take t.sz)) →
        Post w0 B ob nx ρ H ⟨cs, some (.val (.one (.own nx))), (nx, some (.row t (xs ++ ys))) :: dels.map fun k => (k, none)⟩ (.slice (some ⟨w.heap.size, 0, none⟩) (xs.length + ys.length) (grownCap w (xs.length + ys.length) old e))
          (w.drew.alloc (.cells (olds.toArray ++ news.toArray ++ Builtin.zeroCells z.cells (grownCap w (xs.length + ys.length) old e - (xs.length + ys.length))) e)) := by
      intro olds old hol hor
      have hcap := grownCap_ge w (xs.length + ys.length) old e
      have hcapm := grownCap_le_maxLen w (xs.length + ys.length) old e (by simp only [maxLen]; omega)
      have hp := post_row (w := w.drew) (e := e) (I.grow (by exact ⟨rfl, rfl, rfl, Nat.le_refl _, fun _ _ => rfl⟩)) (cs := cs) (t := t) (xs := xs ++ ys) (cap := grownCap w (xs.length + ys.length) old e)
        (cur := olds.toArray ++ news.toArray ++ Builtin.zeroCells z.cells (grownCap w (xs.length + ys.length) old e - (xs.length + ys.length)))
        (by rw [List.length_append]; exact hcap) hcapm
        (by
          simp only [Array.size_append, List.size_toArray, hol, hnl', size_zeroCells, hzs]
          rw [← Nat.add_mul, ← Nat.add_mul]; congr 1; omega)
        (fun j hj => by
          have := row_append hol hor hnr (Builtin.zeroCells z.cells (grownCap w (xs.length + ys.length) old e - (xs.length + ys.length))).toList hnl' j hj
          unfold seg at this ⊢
          simpa using this) (dels := dels)
      rw [List.length_append] at hp
      exact hp
    rcases hown with ⟨rfl, rfl⟩ | ⟨g, cap, cur, e', o1, o2, o3, o4, o5, o6, o7, o8⟩
    · -- a nil slice
      refine ⟨_, _, h1 hy0 rfl, ?_⟩
      have := grown [] 0 (by simp) (by intro j h; simp at h)
      simpa using this
    · subst o1
      have hold : ∀ j (h : j < xs.length), Rd H t xs[j] (((cur.toList.take (xs.length * t.sz)).drop (j * t.sz)).take t.sz) := by
        intro j hj
        have hm : (j + 1) * t.sz ≤ xs.length * t.sz := Nat.mul_le_mul_right _ (by omega)
        rw [Nat.succ_mul] at hm
        rw [List.drop_take, List.take_take, Nat.min_eq_left (by omega)]
        exact o8 j hj
      have hcapm : xs.length * t.sz ≤ cap * t.sz := Nat.mul_le_mul_right _ o5
      have hol : (cur.toList.take (xs.length * t.sz)).length = xs.length * t.sz := by simp; omega
      by_cases hfit : xs.length + ys.length ≤ cap
      · -- there is room
        have hfm : (xs.length + ys.length) * t.sz ≤ cap * t.sz := Nat.mul_le_mul_right _ hfit
        rw [Nat.add_mul] at hfm
        refine ⟨_, _, h2 hy0 g cap cur e' o4 hfit (by rw [hnl']; omega), ?_⟩
        rw [hnl']
        have hno : ∀ id p, lookO (dels.map (fun k => (k, (none : Option AObj))) ++ ob) id = some p → ¬ HB (ρ id) g := hdel g (.inr (.inl ⟨_, _, rfl⟩))
        refine ⟨upd ρ nx (.slice (some ⟨g, 0, none⟩) (xs.length + ys.length) cap), H, ?_, HLe.refl _, REq.upd _ _ _ (Nat.le_refl _), ?_⟩
        · refine (Idel.write o2 o3 hno (hKv g (.inr (.inl ⟨_, _, rfl⟩)))).add (Nat.le_refl _) (by simp [W]) rfl trivial ?_ ?_ ?_
          · show OwnRow _ _ _ (upd ρ nx _ nx) _ _
            rw [upd_same]
            refine .inr ⟨g, cap, _, e', by rw [List.length_append], o2, o3, o4.set (splice_size cur (xs.length * t.sz) (ys.length * t.sz) _ hnl' (by omega)), by rw [List.length_append]; exact hfit, o6, ?_, ?_⟩
            · rw [splice_size cur (xs.length * t.sz) (ys.length * t.sz) _ hnl' (by omega), o7]
            · intro j hj
              have := row_append hol hold hnr (cur.toList.drop (xs.length * t.sz + ys.length * t.sz)) hnl' j hj
              exact this
          · intro b' hb' id p hp
            rcases hb' with hb' | ⟨_, _, hb'⟩ | hb' <;> cases hb'
            exact hno id p hp
          · intro b' hb'
            rcases hb' with hb' | ⟨_, _, hb'⟩ | hb' <;> cases hb'
            exact hKv g (.inr (.inl ⟨_, _, rfl⟩))
        · intro sv e; cases e; exact ⟨(upd_same _ _ _).symm, by simp [SV.lt, V.lt, C.lt, W]⟩
      · obtain ⟨_, _, o4h⟩ := id o4
        have holds := cell_seg o4h (o := 0) (n := xs.length * t.sz)
        have e0 : seg cur 0 (xs.length * t.sz) = cur.toList.take (xs.length * t.sz) := by unfold seg; simp
        rw [e0] at holds
        exact ⟨_, _, h3 hy0 g cap _ hol holds (by omega), grown _ cap hol hold⟩
theorem append_own (hE : EnvOk E) (I : Inv w0 B ρ H ob nx w) {T e : TypeId} {d de : TD} {t : Ty} {xs ys : List t.T} {v x : Value} {ty : TypeId} {cs : List Prop} {dels : List Nat} (hT : E.tt T = some d) (hk : d.kind = .slc e) (he : E.tt e = some de) (ht : de.ty = some t)
    (hown : OwnRow w B H v t xs) (hdel : ∀ b, HB v b → ∀ id p, lookO (dels.map (fun k => (k, (none : Option AObj))) ++ ob) id = some p → ¬ HB (ρ id) b) (hKv : ∀ b, HB v b → ¬ w0.K b) (hx : Shows w H t ys x) (hroom : room (xs.length + ys.length) de.bytes) :
    ∃ v' w', (Builtin.append_ #[T, T] ty #[v, x]).run E.P w = .ok v' w' ∧
      Post w0 B ob nx ρ H ⟨cs, some (.val (.one (.own nx))), (nx, some (.row t (xs ++ ys))) :: dels.map fun k => (k, none)⟩ v' w' := by
  obtain ⟨i, z, g1, g2, g3, g4, g5, g6⟩ := (hE.tt e de he).info
  have hzr := g6 t ht H
  have hzs : z.cells.size = t.sz := by simpa using Rd.len _ _ _ hzr
  have hsz : i.size = t.sz := by rw [g2]; exact ((hE.tt e de he).ty t ht).2.symm
  have hu := (hE.tt T d hT).slc e hk
  have hroom' := hroom
  obtain ⟨r1, r2⟩ := hroom'
  obtain ⟨xa, xc, rfl, q2, q3⟩ := hx
  by_cases hy0 : ys.length = 0
  · exact append_core (ap := fun v => Builtin.append_ #[T, T] ty #[v, .slice xa ys.length xc]) (news := []) (z := z) hE I he ht hown hdel hKv hroom hzs (by simp [hy0]) (fun j hj => by omega)
      (fun _ va vn vc hvc => by rw [hy0]; exact run_append_none T ty e i hu g1 va xa vn vc xc hvc) (fun h => absurd hy0 h) (fun h => absurd hy0 h) (fun h => absurd hy0 h)
  · rcases q3 with q3 | ⟨b, off, c, e', fr, rfl, k2, k3, k4⟩
    · exact absurd q3 hy0
    · have hnl : (seg c off (ys.length * t.sz)).length = ys.length * i.size := by rw [seg_len k3, hsz]
      have hnews := cell_seg k2 (o := off) (n := ys.length * t.sz)
      have hnr := news_rd k4
      have hnl' : (seg c off (ys.length * t.sz)).length = ys.length * t.sz := seg_len k3
      have hn1 := row_one hnl' hnr
      refine append_core (ap := fun v => Builtin.append_ #[T, T] ty #[v, .slice (some ⟨b, off, none⟩) ys.length xc]) (news := seg c off (ys.length * t.sz)) (z := z) hE I he ht hown hdel hKv hroom hzs hnl' hnr (fun h => absurd h hy0) ?_ ?_ ?_
      · intro _ hx0
        exact run_append_nil (P := E.P) w T ty e i z hu g1 g4 ⟨b, off, none⟩ ys.length xc (seg c off (ys.length * t.sz)) hnl hnews (by omega) (by omega) (by rw [g3]; rw [hx0, Nat.zero_add] at r2; omega)
      · intro _ g cap cur e'' o4 hfit hle
        have := run_append_room' (w := w) (P := E.P) T ty e e'' i hu g1 g xs.length cap cur o4 ⟨b, off, none⟩ ys.length xc (seg c off (ys.length * t.sz)) hnl hnews hn1 hfit (by rw [hsz]; exact hle)
        rw [hsz] at this
        exact this
      · intro _ g cap olds hol holds hlt
        exact run_append_grow (P := E.P) w T ty e i z hu g1 g4 ⟨g, 0, none⟩ xs.length cap olds (by rw [hol, hsz]) holds ⟨b, off, none⟩ ys.length xc (seg c off (ys.length * t.sz)) hnl hnews (by omega) (by omega)
          (growslice_fits (by omega) (by rw [g3]; exact r2))
end
end Go.Sx

/- The engine's steps are right: calls by contract. -/
namespace Go.Sx
open Go.RowKit
theorem ρ0_one : ∀ id, (ρ0 id).oneCell' = true := fun _ => rfl
section
variable {E : Env} {w0 : Base} {B : Nat} {ρ : Nat → Value} {H : IH} {ob : List (Nat × Option AObj)} {nx : Nat} {w : World} {ev : Operand → Option SV} {a : Act} {o : Oper} {r : Res}
theorem pureC_den {ρ ρ' : Nat → Value} {c : C} {v : Value} (hp : pureC c = true) (h : DenC ρ H c v) : DenC ρ' H c v := by
  cases c <;> simp only [pureC, Bool.false_eq_true] at hp <;> try exact h
  · rename_i s
    cases s <;> exact h
  rename_i f x y
  simp only [Bool.and_eq_true, List.isEmpty_iff] at hp
  obtain ⟨rfl, rfl⟩ := hp
  exact h
theorem pureC_lt {c : C} (hp : pureC c = true) (n : Nat) : c.lt n := by
  cases c <;> simp only [pureC, Bool.false_eq_true] at hp <;> try trivial
  rename_i f x y
  simp only [Bool.and_eq_true, List.isEmpty_iff] at hp
  obtain ⟨rfl, rfl⟩ := hp
  exact ⟨by simp, by simp⟩
def pureCh : Ch → Bool
  | .one c => pureC c
  | .arr .. => true
theorem pureV_agg {cs : List Ch} : pureV (.agg cs) = cs.all pureCh := by
  simp only [pureV]
  congr 1
theorem pureChs_den {ρ ρ' : Nat → Value} : ∀ {cs : List Ch} {vs : List Value}, cs.all pureCh = true → DenChs ρ H cs vs → DenChs ρ' H cs vs
  | [], _, _, h => h
  | .one c :: r, vs, hp, h => by
    simp only [List.all_cons, Bool.and_eq_true] at hp
    obtain ⟨v, vs', rfl, h1, h2⟩ := h
    exact ⟨v, vs', rfl, pureC_den hp.1 h1, pureChs_den hp.2 h2⟩
  | .arr n t xs :: r, vs, hp, h => by
    simp only [List.all_cons, Bool.and_eq_true] at hp
    exact ⟨h.1, pureChs_den hp.2 h.2⟩
theorem pureV_den {ρ ρ' : Nat → Value} {x : V} {v : Value} (hp : pureV x = true) (h : DenV ρ H x v) : DenV ρ' H x v := by
  cases x with
  | one c => exact pureC_den (c := c) hp h
  | agg cs =>
    rw [pureV_agg] at hp
    obtain ⟨vs, h1, h2⟩ := h
    exact ⟨vs, h1, pureChs_den hp h2⟩
theorem pureV_lt {x : V} (hp : pureV x = true) (n : Nat) : x.lt n := by
  cases x with
  | one c => exact pureC_lt (c := c) hp n
  | agg cs =>
    rw [pureV_agg, List.all_eq_true] at hp
    intro c hc
    have := hp c hc
    cases c with
    | one c => exact pureC_lt (c := c) this n
    | arr => trivial
def snap (w : World) : IH := fun b => w.heap[b]?
theorem snap_le (h : Agree H w) : HLe H (snap w) := fun b o hb => h b o hb
theorem shows_rd (hag : Agree H w) {t : Ty} {xs : List t.T} {v : Value} (h : Shows w H t xs v) : Rd (snap w) (.sl t) xs [v] := by
  obtain ⟨a, cap, rfl, h2, h3⟩ := h
  refine ⟨a, cap, rfl, h2, ?_⟩
  rcases h3 with h3 | ⟨b, off, c, e, fr, rfl, k2, _, k4⟩
  · exact .inl h3
  · exact .inr ⟨b, off, c, e, fr, rfl, k2, fun i hi => Rd.mono (snap_le hag) _ _ _ (k4 i hi)⟩
theorem row_rd (I : Inv w0 B ρ H ob nx w) {c : C} {t : Ty} {xs : List t.T} {v : Value} (h : rowOf (lookO ob) c = some ⟨t, xs⟩) (hd : DenC ρ H c v) (hp : ∀ p ∈ rowP (lookO ob) c, p) : Rd (snap w) (.sl t) xs [v] := by
  cases c with
  | sl t' xs' => cases h; exact Rd.mono (snap_le I.agree) _ _ _ hd
  | own id =>
    simp only [rowOf] at h
    split at h
    · rename_i t' xs' hrow
      cases h
      rw [show v = ρ id from hd]
      exact shows_rd I.agree (own_shows (I.objs _ _ hrow).2.2)
    · cases h
  | view id off sz lo n =>
    have hn : xs.length = n := by
      simp only [rowP, h] at hp
      exact hp _ (by simp)
    exact shows_rd I.agree (rowOf_ok I h (fun ⟨_, _, e⟩ => by cases e) hd (fun _ _ _ _ _ e => by cases e; exact hn.symm))
  | _ => simp [rowOf] at h
theorem map_den (I : Inv w0 B ρ H ob nx w) {c : C} {m : MapD} {v : Value} (h : mapOf (lookO ob) c = some m) (hd : DenC ρ H c v) :
    ∃ g es clock, v = .map (some g) ∧ w.heap[g]? = some (.map es clock) ∧ MEnt H m.gk m.gt m.k m.t m.l es.toList := by
  cases c with
  | own id =>
    simp only [mapOf] at h
    split at h
    · rename_i gk gt k t l ho
      cases h
      obtain ⟨g, es, cl, d1, _, _, d4, d5⟩ := (I.objs _ _ ho).2.2
      exact ⟨g, es, cl, by rw [show v = ρ id from hd]; exact d1, d4, d5⟩
    · cases h
  | mp gk gt k t l =>
    cases h
    obtain ⟨g, es, cl, d1, d2, d3⟩ := hd
    exact ⟨g, es, cl, d1, I.agree _ _ d2, d3⟩
  | _ => simp [mapOf] at h
theorem asArgC_den (I : Inv w0 B ρ H ob nx w) {c : C} {v : Value} (hd : DenC ρ H c v) (hp : ∀ p ∈ rowP (lookO ob) c, p) (hpure : pureC (asArgC (lookO ob) c) = true) : DenC ρ0 (snap w) (asArgC (lookO ob) c) v := by
  unfold asArgC at hpure ⊢
  split
  · rename_i t xs hrow
    exact row_rd I hrow hd hp
  · rename_i hrow
    rw [hrow] at hpure
    simp only [] at hpure
    split
    · rename_i m hm
      obtain ⟨g, es, cl, h1, h2, h3⟩ := map_den I hm hd
      exact ⟨g, es, cl, h1, h2, h3.mono (snap_le I.agree)⟩
    · rename_i hm
      rw [hm] at hpure
      simp only [] at hpure
      split
      · rename_i t xs hbx
        cases c with
        | ptr id o =>
          unfold boxOfC at hbx
          split at hbx
          · rename_i e
            cases e
            split at hbx
            · rename_i t0 xs0 ho
              cases hbx
              obtain ⟨g, cur, e, d1, _, _, d4, d5⟩ := (I.objs _ _ ho).2.2
              obtain ⟨b, k1, k2⟩ := hd
              rw [d1] at k1
              cases k1
              obtain ⟨v1, vs', q1, q2, q3⟩ := d5
              have q3' : vs' = [] := q3
              subst q3'
              refine ⟨g, 0, cur, e, (0, 0), k2, d4, ?_⟩
              have : seg cur 0 (Ty.sl t0).sz = [v1] := by simp [seg, q1, Ty.sz]
              rw [this]
              exact Rd.mono (snap_le I.agree) _ _ _ q2
            · rename_i ho
              split at hbx
              · rename_i t0 hty
                split at hbx
                · rename_i y hy
                  cases hbx
                  obtain ⟨g, cur, e, d1, _, _, d4, d5⟩ := (I.objs _ _ ho).2.2
                  obtain ⟨b, k1, k2⟩ := hd
                  rw [d1] at k1
                  cases k1
                  obtain ⟨q1, q2⟩ := ofChs_all hy d5
                  refine ⟨g, 0, cur, e, (0, 0), k2, d4, ?_⟩
                  have key : ∀ n, cur.toList.length = n → seg cur 0 n = cur.toList := by
                    rintro n rfl
                    unfold seg
                    rw [List.drop_zero, List.take_length]
                  rw [key _ q2]
                  exact Rd.mono (snap_le I.agree) _ _ _ q1
                · cases hbx
              · cases hbx
            · cases hbx
          · cases hbx
        | _ => simp [boxOfC] at hbx
      · rename_i hbx
        rw [hbx] at hpure
        have := DenC.mono (ρ' := ρ) (n := 0) (REq.refl 0 ρ) (snap_le I.agree) (pureC_lt hpure 0) hd
        exact pureC_den hpure this
def asArgCh (ob : Nat → Option AObj) : Ch → Ch
  | .one c => .one (asArgC ob c)
  | x => x
theorem asArg_agg (ob : Nat → Option AObj) (cs : List Ch) : asArg ob (.agg cs) = .agg (cs.map (asArgCh ob)) := rfl
theorem asArgChs_den (I : Inv w0 B ρ H ob nx w) : ∀ {cs : List Ch} {vs : List Value}, DenChs ρ H cs vs → (∀ p ∈ cs.flatMap (fun | .one c => rowP (lookO ob) c | .arr .. => []), p) → (cs.map (asArgCh (lookO ob))).all pureCh = true →
    DenChs ρ0 (snap w) (cs.map (asArgCh (lookO ob))) vs
  | [], _, h, _, _ => h
  | .one c :: r, vs, h, hp, hpure => by
    obtain ⟨v, vs', rfl, h1, h2⟩ := h
    simp only [List.map_cons, List.all_cons, Bool.and_eq_true] at hpure
    simp only [List.flatMap_cons, List.mem_append] at hp
    exact ⟨v, vs', rfl, asArgC_den I h1 (fun p h => hp p (.inl h)) hpure.1, asArgChs_den I h2 (fun p h => hp p (.inr h)) hpure.2⟩
  | .arr n t xs :: r, vs, h, hp, hpure => by
    simp only [List.map_cons, List.all_cons, Bool.and_eq_true] at hpure
    simp only [List.flatMap_cons, List.mem_append] at hp
    exact ⟨Rd.mono (snap_le I.agree) _ _ _ h.1, asArgChs_den I h.2 (fun p h => hp p (.inr h)) hpure.2⟩
theorem asArg_den (I : Inv w0 B ρ H ob nx w) {x : V} {v : Value} (hd : DenV ρ H x v) (hp : ∀ p ∈ argP (lookO ob) x, p) (hpure : pureV (asArg (lookO ob) x) = true) : DenV ρ0 (snap w) (asArg (lookO ob) x) v := by
  cases x with
  | one c => exact asArgC_den I hd hp hpure
  | agg cs =>
    obtain ⟨vs, h1, h2⟩ := hd
    rw [asArg_agg, pureV_agg] at hpure
    exact ⟨vs, h1, asArgChs_den I h2 hp hpure⟩
theorem asArgs_den (I : Inv w0 B ρ H ob nx w) : ∀ {xs : List V} {vs : List Value}, DenVs ρ H xs vs → (∀ p ∈ xs.flatMap (argP (lookO ob)), p) → (xs.map (asArg (lookO ob))).all pureV = true → DenVs ρ0 (snap w) (xs.map (asArg (lookO ob))) vs
  | [], _, h, _, _ => h
  | x :: r, vs, h, hp, hpure => by
    obtain ⟨v, vs', rfl, h1, h2⟩ := h
    simp only [List.map_cons, List.all_cons, Bool.and_eq_true] at hpure
    simp only [List.flatMap_cons, List.mem_append] at hp
    exact ⟨v, vs', rfl, asArg_den I h1 (fun p h => hp p (.inl h)) hpure.1, asArgs_den I h2 (fun p h => hp p (.inr h)) hpure.2⟩
theorem asArg_same {x : V} (h : lentV x = false) : asArg (lookO ob) x = x := by
  have key : ∀ c, lentC c = false → asArgC (lookO ob) c = c := by
    intro c hc
    cases c <;> simp [lentC] at hc <;> simp [asArgC, rowOf, mapOf, boxOfC]
  cases x with
  | one c => show V.one _ = _; rw [key c h]
  | agg cs =>
    rw [asArg_agg]
    congr 1
    simp only [lentV] at h
    induction cs with
    | nil => rfl
    | cons c r ih =>
      simp only [List.any_cons, Bool.or_eq_false_iff] at h
      rw [List.map_cons, ih h.2]
      cases c with
      | one c => simp only [asArgCh]; rw [key c h.1]
      | arr => rfl
theorem denVs_pure {ρ ρ' : Nat → Value} : ∀ {xs : List V} {vs : List Value}, DenVs ρ H xs vs → xs.all pureV = true → DenVs ρ' H xs vs
  | [], _, h, _ => h
  | x :: r, vs, h, hp => by
    obtain ⟨v, vs', rfl, h1, h2⟩ := h
    simp only [List.all_cons, Bool.and_eq_true] at hp
    exact ⟨v, vs', rfl, pureV_den hp.1 h1, denVs_pure h2 hp.2⟩
theorem Inv.ext (I : Inv w0 B ρ H ob nx w) {H' : IH} (hle : HLe H H') (hag : Agree H' w) (hno : ∀ id p, lookO ob id = some p → ∀ b, HB (ρ id) b → H' b = none) (hK : ∀ b, w0.K b → H' b = none) : Inv w0 B ρ H' ob nx w :=
  ⟨I.below, I.bsz, I.one, hag, fun id p h => let ⟨a, b, c⟩ := I.objs id p h; ⟨a, b, c.kept a b (REq.refl _ _) hle fun b hb => ⟨rfl, hno id p h b hb⟩⟩, I.sep, fun b hk => let ⟨k1, k2, _, k4⟩ := I.kp b hk; ⟨k1, k2, hK b hk, k4⟩⟩
theorem takeV_ok {w' : World} {B' : Nat} {H' H2 : IH} {k : Nat} (I : Inv w0 B ρ H2 ob k w') {x : V} {v : Value} (hle : HLe H' H2) (hnew : ∀ b, B' ≤ b → H2 b = H' b) (hB : B ≤ B') (hKB : ∀ b, w0.K b → b < B') (hd : DenRV w' B' H' x v)
    (hfr : ∀ id p, lookO ob id = some p → ∀ b, HB (ρ id) b → B' ≤ b → isFrs x = true → ¬ HB v b) :
    ∃ ρ', Inv w0 B ρ' H2 ((takeV k x).2 ++ ob) (k + 1) w' ∧ REq k ρ ρ' ∧ DenV ρ' H2 (takeV k x).1 v ∧ (takeV k x).1.lt (k + 1) ∧
      ∀ id p, lookO ((takeV k x).2 ++ ob) id = some p → lookO ob id = some p ∨ (id = k ∧ ρ' k = v ∧ isFrs x = true) := by
  have other : pureV x = true → DenV ρ0 H' x v → takeV k x = (x, []) → ∃ ρ', Inv w0 B ρ' H2 ((takeV k x).2 ++ ob) (k + 1) w' ∧ REq k ρ ρ' ∧ DenV ρ' H2 (takeV k x).1 v ∧ (takeV k x).1.lt (k + 1) ∧
      ∀ id p, lookO ((takeV k x).2 ++ ob) id = some p → lookO ob id = some p ∨ (id = k ∧ ρ' k = v ∧ isFrs x = true) := by
    intro h1 h2 h3
    rw [h3]
    refine ⟨ρ, I.more (by omega), REq.refl _ _, ?_, pureV_lt h1 _, fun id p hp => .inl hp⟩
    have := DenV.mono (ρ' := ρ) (n := 0) (REq.refl 0 ρ) hle (pureV_lt h1 0) (pureV_den (ρ' := ρ) h1 h2)
    exact this
  cases x with
  | agg cs => exact other hd.1 hd.2 rfl
  | one c =>
    cases c with
    | frs t xs =>
      have hown : OwnRow w' B' H' v t xs := hd
      have hown2 : OwnRow w' B H2 v t xs := by
        rcases hown with h | ⟨g, cap, cur, e, h1, h2, h3, h4, h5, h6, h7, h8⟩
        · exact .inl h
        · exact .inr ⟨g, cap, cur, e, h1, by omega, by rw [hnew g h2]; exact h3, h4, h5, h6, h7, fun i hi => Rd.mono hle _ _ _ (h8 i hi)⟩
      have hv1 : v.oneCell' = true := by
        rcases hown with ⟨rfl, _⟩ | ⟨g, cap, cur, e, h1, _⟩
        · rfl
        · rw [h1]; rfl
      have hvb : ∀ b, HB v b → H' b = none ∧ B' ≤ b := by
        intro b hb
        rcases hown with ⟨rfl, _⟩ | ⟨g, cap, cur, e, h1, h2, h3, _⟩
        · rcases hb with h | ⟨_, _, h⟩ | h <;> cases h
        · rw [h1] at hb; rcases hb with h | ⟨_, _, h⟩ | h <;> cases h; exact ⟨h3, h2⟩
      refine ⟨upd ρ k v, ?_, REq.upd _ _ _ (Nat.le_refl _), (upd_same _ _ _).symm, by simp [takeV, V.lt, C.lt], ?_⟩
      · refine I.add (Nat.le_refl _) (by omega) hv1 trivial ?_ ?_ ?_
        · show OwnRow _ _ _ (upd ρ k v k) _ _
          rw [upd_same]; exact hown2
        · intro b hb id p hp hb2
          exact hfr id p hp b hb2 (hvb b hb).2 rfl hb
        · intro b hb hk
          have := (hvb b hb).2
          have := hKB b hk
          omega
      · intro id p hp
        simp only [takeV, List.cons_append, List.nil_append, lookO_cons] at hp
        split at hp
        · rename_i e; subst e; exact .inr ⟨rfl, upd_same _ _ _, rfl⟩
        · exact .inl hp
    | _ => exact other hd.1 hd.2 rfl
theorem takeVs_ok {w' : World} {B' : Nat} {H' H2 : IH} (hle : HLe H' H2) (hnew : ∀ b, B' ≤ b → H2 b = H' b) (hB : B ≤ B') (hKB : ∀ b, w0.K b → b < B') : ∀ (xs : List V) (vs : List Value) (k : Nat) (ob : List (Nat × Option AObj)) (ρ : Nat → Value), Inv w0 B ρ H2 ob k w' → DenRVs w' B' H' xs vs →
    (∀ id p, lookO ob id = some p → ∀ b, HB (ρ id) b → B' ≤ b → FrsFree b xs vs) →
    ∃ ρ', Inv w0 B ρ' H2 ((takeVs k xs).2 ++ ob) (k + xs.length) w' ∧ REq k ρ ρ' ∧ DenVs ρ' H2 (takeVs k xs).1 vs ∧ ∀ x ∈ (takeVs k xs).1, x.lt (k + xs.length)
  | [], vs, k, ob, ρ, I, h, _ => ⟨ρ, I, REq.refl _ _, h, by simp [takeVs]⟩
  | x :: r, vs, k, ob, ρ, I, h, hfr => by
    obtain ⟨v, vs', rfl, h1, h2, h3⟩ := h
    obtain ⟨ρ1, I1, e1, d1, l1, o1⟩ := takeV_ok I hle hnew hB hKB h1 (fun id p hp b hb hb' hf => (hfr id p hp b hb hb').1 hf)
    obtain ⟨ρ2, I2, e2, d2, l2⟩ := takeVs_ok hle hnew hB hKB r vs' (k + 1) _ ρ1 I1 h2 (by
      intro id p hp b hb hb'
      rcases o1 id p hp with hq | ⟨rfl, hq1, hq2⟩
      · have hid := (I.objs id p hq).1
        rw [e1 id hid] at hb
        exact (hfr id p hq b hb hb').2
      · rw [hq1] at hb
        exact h3 hq2 b hb)
    refine ⟨ρ2, ?_, REq.trans e1 e2 (by omega), ⟨v, vs', rfl, ?_, d2⟩, ?_⟩
    · simp only [takeVs, List.append_assoc, List.length_cons]
      rw [show k + (r.length + 1) = k + 1 + r.length by omega]
      exact I2
    · exact d1.mono e2 (HLe.refl _) l1
    · intro y hy
      simp only [takeVs, List.mem_cons, List.length_cons] at hy ⊢
      rcases hy with rfl | hy
      · exact l1.mono (by omega)
      · exact (l2 y hy).mono (by omega)
theorem chsV_den : ∀ {cs : List Ch} {xs : List V} {us : List Value}, chsV cs = some xs → DenChs ρ H cs us → DenVs ρ H xs us
  | [], xs, us, h, hd => by cases h; exact hd
  | .one c :: r, xs, us, h, hd => by
    simp only [chsV, Option.map_eq_some_iff] at h
    obtain ⟨ys, h1, rfl⟩ := h
    obtain ⟨v, vs', rfl, h2, h3⟩ := hd
    exact ⟨v, vs', rfl, h2, chsV_den h1 h3⟩
  | .arr .. :: _, _, _, h, _ => by cases h
theorem takeVs_ch : ∀ {cs : List Ch} {xs : List V} {us : List Value} {k : Nat}, chsV cs = some xs → DenVs ρ H (takeVs k xs).1 us → DenChs ρ H (vsCh (takeVs k xs).1) us
  | [], xs, us, k, h, hd => by cases h; exact hd
  | .one c :: r, xs, us, k, h, hd => by
    simp only [chsV, Option.map_eq_some_iff] at h
    obtain ⟨ys, h1, rfl⟩ := h
    obtain ⟨v, vs', rfl, h2, h3⟩ := hd
    have key : ∃ c', (takeV k (.one c)).1 = .one c' := by cases c <;> exact ⟨_, rfl⟩
    obtain ⟨c', e⟩ := key
    have h2' : DenV ρ H (takeV k (.one c)).1 v := h2
    rw [e] at h2'
    show DenChs ρ H (vsCh ((takeV k (.one c)).1 :: (takeVs (k + 1) ys).1)) (v :: vs')
    rw [e]
    exact ⟨v, vs', rfl, h2', takeVs_ch h1 h3⟩
  | .arr .. :: _, _, _, _, h, _ => by cases h
theorem vsCh_lt {n : Nat} : ∀ {xs : List V}, (∀ x ∈ xs, x.lt n) → ∀ c ∈ vsCh xs, c.lt n
  | [], _, c, hc => by cases hc
  | .one c :: r, h, c', hc => by
    rcases List.mem_cons.1 hc with rfl | hc
    · exact h (.one c) (by simp)
    · exact vsCh_lt (fun x hx => h x (by simp [hx])) c' hc
  | .agg _ :: r, h, c', hc => vsCh_lt (xs := r) (fun x hx => h x (by simp [hx])) c' hc
theorem aggFr_chs {x : V} {xs : List V} (h : aggFr x = some xs) : ∃ cs, x = .agg cs ∧ chsV cs = some xs := by
  cases x with
  | one c => cases h
  | agg cs =>
    refine ⟨cs, rfl, ?_⟩
    cases e : frsCh cs
    · simp [aggFr, e] at h
    · simpa [aggFr, e] using h
theorem call_ok0 (hE : EnvOk E) (I : Inv w0 B ρ H ob nx w) (G : GlobOk E.gl H) {f : FuncId} {vs : List V} {us : List Value} (hd : DenVs ρ H vs us) (h : callR0 E (lookO ob) nx f vs = some r) (hc : ∀ p ∈ r.cs, p) :
    Calls E.P f ⟨us⟩ w fun e w' => ∃ v, e = .returned v ∧ Post w0 B ob nx ρ H r v w' := by
  unfold callR0 at h
  split at h
  · rename_i sp hsp
    simp only [] at h
    split at h
    · rename_i hk
      simp only [Bool.and_eq_true, Bool.or_eq_true] at hk
      split at h
      · rename_i ps rr hrun
        split at h
        · rename_i hlen
          have hr := (Option.some.inj h).symm
          subst hr
          simp only [List.mem_append] at hc
          obtain ⟨hsok, _⟩ := hE.sp f sp hsp
          have hB : B ≤ w.heap.size := Nat.le_trans I.bsz I.below.size
          have fin : ∀ (v : Value) (w' : World) (H' : IH), Below w.heap.size w w' → Agree H' w' → (∀ b, b < w.heap.size → H' b = none ∨ H' b = H b) → DenRSV w' w.heap.size H' rr v →
              Post w0 B ob nx ρ H ⟨vs.flatMap (argP (lookO ob)) ++ ps, some (takeSV nx rr).1, (takeSV nx rr).2⟩ v w' := by
            intro v w' H' hb hag hlow hres
            have I1 := I.grow hb
            have hle1 : HLe H (fun b => if b < w.heap.size then H b else H' b) := by
              intro b o ho
              have := lt_of_some (I.agree b o ho)
              simp [this, ho]
            have hle2 : HLe H' (fun b => if b < w.heap.size then H b else H' b) := by
              intro b o ho
              show (if b < w.heap.size then H b else H' b) = some o
              split
              · rename_i hlt
                rcases hlow b hlt with h | h
                · rw [h] at ho; cases ho
                · rw [← h]; exact ho
              · exact ho
            have I2 : Inv w0 B ρ (fun b => if b < w.heap.size then H b else H' b) ob nx w' := by
              refine I1.ext hle1 ?_ ?_ ?_
              · intro b o ho
                simp only [] at ho
                split at ho
                · rename_i hlt; rw [hb.block b hlt]; exact I.agree b o ho
                · exact hag b o ho
              · intro id p hp b hhb
                obtain ⟨_, k2, k3⟩ := I.hb hp hhb
                simp [k3, k2]
              · intro b hk
                have k3 := I.kLt hk
                simp [k3, (I.kp b hk).2.2.1]
            have hnew : ∀ b, w.heap.size ≤ b → (fun b => if b < w.heap.size then H b else H' b) b = H' b := by
              intro b hb'
              have : ¬ b < w.heap.size := by omega
              simp [this]
            have hfr : ∀ id p, lookO ob id = some p → ∀ b, HB (ρ id) b → w.heap.size ≤ b → False := by
              intro id p hp b hhb hle'
              have := (I.hb hp hhb).2.2
              omega
            cases rr with
            | val x =>
              cases hag : aggFr x with
              | none =>
                have hres : DenRV w' w.heap.size H' x v := by simp only [DenRSV, hag] at hres; exact hres
                have et : takeSV nx (.val x) = (.val (takeV nx x).1, (takeV nx x).2) := by simp only [takeSV, hag]
                rw [et]
                obtain ⟨ρ1, J1, e1, d1, l1, _⟩ := takeV_ok I2 hle2 hnew hB (fun b hk => I.kLt hk) hres (fun id p hp b hhb hle' => (hfr id p hp b hhb hle').elim)
                refine ⟨ρ1, _, J1.more (by simp [W]), hle1, e1, ?_⟩
                intro sv e; cases e
                exact ⟨d1, V.lt.mono (by simp [W]) l1⟩
              | some xs =>
                have hres2 : ∃ us : List Value, v = .agg ⟨us⟩ ∧ DenRVs w' w.heap.size H' xs us := by simp only [DenRSV, hag] at hres; exact hres
                have et : takeSV nx (.val x) = (.val (.agg (vsCh (takeVs nx xs).1)), (takeVs nx xs).2) := by simp only [takeSV, hag]
                rw [et]
                obtain ⟨cs, rfl, hcs⟩ := aggFr_chs hag
                obtain ⟨us', rfl, hres3⟩ := hres2
                obtain ⟨ρ1, J1, e1, d1, l1⟩ := takeVs_ok hle2 hnew hB (fun b hk => I.kLt hk) xs us' nx ob ρ I2 hres3 (fun id p hp b hhb hle' => (hfr id p hp b hhb hle').elim)
                have hl : xs.length ≤ 4 := by simp only [svLen, hag] at hlen; exact hlen
                refine ⟨ρ1, _, J1.more (by simp [W]; omega), hle1, e1, ?_⟩
                intro sv e; cases e
                exact ⟨⟨us', rfl, takeVs_ch hcs d1⟩, fun y hy => Ch.lt.mono (by simp [W]; omega) (vsCh_lt l1 y hy)⟩
            | tup xs =>
              obtain ⟨us', rfl, hres⟩ := hres
              obtain ⟨ρ1, J1, e1, d1, l1⟩ := takeVs_ok hle2 hnew hB (fun b hk => I.kLt hk) xs us' nx ob ρ I2 hres (fun id p hp b hhb hle' => (hfr id p hp b hhb hle').elim)
              have hl : xs.length ≤ 4 := hlen
              refine ⟨ρ1, _, J1.more (by simp [W]; omega), hle1, e1, ?_⟩
              intro sv e; cases e
              exact ⟨⟨us', rfl, d1⟩, fun y hy => V.lt.mono (by simp [W]; omega) (l1 y hy)⟩
          rcases Bool.eq_false_or_eq_true sp.fr with hfr | hfr
          · -- in new memory
            have hargs := asArgs_den I hd (fun p hp => hc p (.inl hp)) hk.1
            have := hsok _ _ _ hrun (fun p hp => hc p (.inr hp)) w (snap w) us (fun b o h => h) (G.mono (snap_le I.agree)) hargs
            refine this.mono fun e w' he => ?_
            obtain ⟨v, H', rfl, h1, h2, h3, h4⟩ := he
            rw [hfr] at h3
            exact ⟨v, rfl, fin v w' H' h1 h2 (fun b hb => .inl (h3 b hb)) h4⟩
          · -- nothing was lent
            have hnl : vs.all (fun v => !lentV v) = true := by
              rcases hk.2 with h | h
              · rw [hfr] at h; cases h
              · exact h
            have hsame : vs.map (asArg (lookO ob)) = vs := by
              clear hd hk hrun hc h fin
              induction vs with
              | nil => rfl
              | cons x r ih =>
                simp only [List.all_cons, Bool.and_eq_true, Bool.not_eq_true'] at hnl
                rw [List.map_cons, asArg_same hnl.1, ih hnl.2]
            rw [hsame] at hrun hk
            have := hsok _ _ _ hrun (fun p hp => hc p (.inr hp)) w H us I.agree G (denVs_pure hd hk.1)
            refine this.mono fun e w' he => ?_
            obtain ⟨v, H', rfl, h1, h2, h3, h4⟩ := he
            rw [hfr] at h3
            exact ⟨v, rfl, fin v w' H' h1 h2 (fun b hb => .inr (h3 b hb)) h4⟩
        · cases h
      · cases h
    · cases h
  · cases h
theorem argP_same {ob1 ob2 : List (Nat × Option AObj)} {x : V} (h : lentV x = false) : argP (lookO ob1) x = argP (lookO ob2) x := by
  have key : ∀ c, lentC c = false → rowP (lookO ob1) c = rowP (lookO ob2) c := by
    intro c hc
    cases c <;> simp [lentC] at hc <;> rfl
  cases x with
  | one c => exact key c h
  | agg cs =>
    simp only [lentV] at h
    simp only [argP]
    induction cs with
    | nil => rfl
    | cons c r ih =>
      simp only [List.any_cons, Bool.or_eq_false_iff] at h
      rw [List.flatMap_cons, List.flatMap_cons, ih h.2]
      cases c with
      | one c => simp only []; rw [key c h.1]
      | arr => rfl
theorem callR0_same {ob1 ob2 : List (Nat × Option AObj)} {f : FuncId} {vs : List V} (h : vs.all (fun v => !lentV v) = true) : callR0 E (lookO ob1) nx f vs = callR0 E (lookO ob2) nx f vs := by
  have e1 : ∀ ob : List (Nat × Option AObj), vs.map (asArg (lookO ob)) = vs := by
    intro ob
    induction vs with
    | nil => rfl
    | cons x r ih =>
      simp only [List.all_cons, Bool.and_eq_true, Bool.not_eq_true'] at h
      rw [List.map_cons, asArg_same h.1, ih h.2]
  have e2 : vs.flatMap (argP (lookO ob1)) = vs.flatMap (argP (lookO ob2)) := by
    clear e1
    induction vs with
    | nil => rfl
    | cons x r ih =>
      simp only [List.all_cons, Bool.and_eq_true, Bool.not_eq_true'] at h
      rw [List.flatMap_cons, List.flatMap_cons, argP_same (ob2 := ob2) h.1, ih h.2]
  unfold callR0
  rw [e1, e1, e2]
theorem frzVs_den {H1 : IH} (hle : HLe H H1) : ∀ {vs : List V} {us : List Value}, (∀ v ∈ vs, v.lt nx) → (∀ j ∈ vs.flatMap ownV, ∀ (t : Ty) (xs : List t.T), lookO ob j = some (.row t xs) → Rd H1 (.sl t) xs [ρ j]) → DenVs ρ H vs us → DenVs ρ H1 (vs.map (frzV (lookO ob))) us
  | [], _, _, _, h => h
  | v :: r, us, hlt, hr, h => by
    obtain ⟨u, us', rfl, h1, h2⟩ := h
    have k1 := frzV_den (nx := nx) hle (hlt v List.mem_cons_self) (fun j hj => hr j (by simp only [List.flatMap_cons, List.mem_append]; exact .inl hj)) h1
    exact ⟨u, us', rfl, k1.1, frzVs_den hle (fun x hx => hlt x (List.mem_cons_of_mem _ hx)) (fun j hj => hr j (by simp only [List.flatMap_cons, List.mem_append]; exact .inr hj)) h2⟩
theorem call_ok (hE : EnvOk E) (I : Inv w0 B ρ H ob nx w) (G : GlobOk E.gl H) {f : FuncId} {vs : List V} {us : List Value} (hd : DenVs ρ H vs us) (hl : ∀ v ∈ vs, v.lt nx) (h : callR E (lookO ob) nx f vs = some r) (hc : ∀ p ∈ r.cs, p) :
    Calls E.P f ⟨us⟩ w fun e w' => ∃ v, e = .returned v ∧ Post w0 B ob nx ρ H r v w' := by
  unfold callR at h
  split at h
  · rename_i r0 h0
    cases h
    exact call_ok0 hE I G hd h0 hc
  · cases hb : (vs.map (frzV (lookO ob))).all fun v => !lentV v with
    | false => rw [hb] at h; cases h
    | true =>
      rw [hb, cond_true] at h
      split at h
      · rename_i r0 h0
        cases h
        obtain ⟨H1, hle, I1, hrd⟩ := freeze_rows I (vs.flatMap ownV)
        rw [callR0_same (ob2 := (vs.flatMap ownV).map (fun j => (j, (none : Option AObj))) ++ ob) hb] at h0
        have := call_ok0 hE I1 (G.mono hle) (frzVs_den (nx := nx) hle hl hrd hd) h0 hc
        refine this.mono fun e w' he => ?_
        obtain ⟨v, rfl, ρ', H', h1, h2, h3, h4⟩ := he
        refine ⟨v, rfl, ρ', H', ?_, hle.trans h2, h3, h4⟩
        rw [← List.append_assoc] at h1
        exact h1
      · cases h
theorem callR_fn (hE : EnvOk E) {f : FuncId} {vs : List V} (h : callR E (lookO ob) nx f vs = some r) : ∃ fn c, E.P.funcs[f]? = some fn ∧ fn.body = some c ∧ (fn.name == "runtime.NumGoroutine") = false := by
  have key : ∀ {us : List V} {r : Res}, callR0 E (lookO ob) nx f us = some r → ∃ fn c, E.P.funcs[f]? = some fn ∧ fn.body = some c ∧ (fn.name == "runtime.NumGoroutine") = false := by
    intro us r h
    unfold callR0 at h
    split at h
    · rename_i sp hsp; exact (hE.sp f sp hsp).2
    · cases h
  unfold callR at h
  split at h
  · rename_i r0 h0; exact key h0
  · cases hb : (vs.map (frzV (lookO ob))).all fun v => !lentV v with
    | false => rw [hb] at h; cases h
    | true =>
      rw [hb, cond_true] at h
      split at h
      · rename_i r0 h0; exact key h0
      · cases h
theorem evs_ok (hv : EvOk ρ H nx ev a) : ∀ {xs : List Operand} {vs : List V}, evs ev xs = some vs → DenVs ρ H vs (xs.map a.eval) ∧ ∀ v ∈ vs, v.lt nx
  | [], vs, h => by cases h; exact ⟨rfl, by simp⟩
  | x :: xs, vs, h => by
    simp only [evs] at h
    split at h
    · rename_i v hx
      obtain ⟨qs, h1, rfl⟩ := Option.map_eq_some_iff.1 h
      obtain ⟨k1, k2⟩ := hv.val hx
      obtain ⟨m1, m2⟩ := evs_ok hv h1
      refine ⟨⟨_, _, rfl, k1, m1⟩, fun p hp => ?_⟩
      rcases List.mem_cons.1 hp with rfl | hp
      · exact k2
      · exact m2 p hp
    · cases h
theorem sound_ex (hE : EnvOk E) (I : Inv w0 B ρ H ob nx w) (hv : EvOk ρ H nx ev a) {x : Operand} {args : Array Operand} {ts : Array TypeId} {f : FuncId} {vs : List V} {k : ExK} (ho : o.op = .call ⟨.value x, args, ts⟩)
    (hx : (ev x).bind one? = some (.fn f [] [])) (hvs : evs ev args.toList = some vs) (he : E.ex f = some k) (h : exR k vs = some r) (hc : ∀ p ∈ r.cs, p) : StepOk E.P o a w (Post w0 B ob nx ρ H r) := by
  obtain ⟨k1, _⟩ := hv.one hx
  obtain ⟨p, q, k2, k3, k4⟩ := k1
  have k3' : p = [] := k3
  have k4' : q = [] := k4
  subst k3' k4'
  obtain ⟨m1, _⟩ := evs_ok hv hvs
  obtain ⟨fn, hf, hn, hb, hx1, hx2⟩ := hE.ex f k he
  have hargs : (args.map a.eval : Array Value) = ⟨args.toList.map a.eval⟩ := by apply Array.ext'; simp
  have fin : ∀ v, (exRow k ⟨args.toList.map a.eval⟩).run E.P w = .ok v w → (execOp a.eval o).run E.P w = .ok (.value v) w := by
    intro v hr
    have hcf := run_callFunc_extern (P := E.P) hf hn hb hx1 hx2 ⟨args.toList.map a.eval⟩ w
    rw [hr] at hcf
    simp only [Result.andThen_ok] at hcf
    simp [execOp, ho, resolve, k2, Deferred.ofValue, invoke, hargs]
    exact hcf
  unfold exR at h
  split at h
  · obtain ⟨v, l, e1, e2, e3⟩ := m1
    have e2' : v = _ := e2
    have e3' : l = [] := e3
    subst e2' e3'
    refine ok_rc I h (fin _ ?_) rfl trivial
    rw [e1]; rfl
  · obtain ⟨v, l, e1, e2, e3⟩ := m1
    have e2' : v = _ := e2
    have e3' : l = [] := e3
    subst e2' e3'
    refine ok_rc I h (fin _ ?_) rfl trivial
    rw [e1]; rfl
  · rename_i b _
    obtain ⟨v, l, e1, e2, e3⟩ := m1
    have e2' : v = _ := e2
    have e3' : l = [] := e3
    subst e2' e3'
    have hz := rcc_holds h hc
    refine ok_rcc I h (v := .float .f64 (FloatKind.f64.encode ((FloatKind.f64.decode b).integral .down))) (fin _ ?_) rfl trivial
    rw [e1]
    show (Extern.MathFloor.toIntegral "math.archFloor" .down #[.float .f64 b]).run E.P w = _
    have e : Extern.MathFloor.toIntegral "math.archFloor" .down #[.float .f64 b] = Extern.MathFloor.toIntegral.match_1 (motive := fun _ => Sem Value) (FloatKind.f64.decode b) (fun _ _ => _) (fun d => _) := rfl
    rw [e]
    cases hd : FloatKind.f64.decode b with
    | nan s t => rw [hd] at hz; cases hz
    | number => rfl
    | infinity => rfl
  · cases h
theorem sound_call (hE : EnvOk E) (I : Inv w0 B ρ H ob nx w) (G : GlobOk E.gl H) (hv : EvOk ρ H nx ev a) {x : Operand} {args : Array Operand} {ts : Array TypeId} {f : FuncId} {vs : List V} (ho : o.op = .call ⟨.value x, args, ts⟩)
    (hx : (ev x).bind one? = some (.fn f [] [])) (hvs : evs ev args.toList = some vs)
    (h : (match E.ex f with
      | some k => exR k vs
      | none => match E.pt f with
        | some run => match run vs with
          | some p => rc (.ptr p.1 p.2)
          | none => none
        | none => callR E (lookO ob) nx f vs) = some r) (hc : ∀ p ∈ r.cs, p) : StepOk E.P o a w (Post w0 B ob nx ρ H r) := by
  split at h
  · rename_i k he
    exact sound_ex hE I hv ho hx hvs he h hc
  obtain ⟨k1, _⟩ := hv.one hx
  obtain ⟨p, q, k2, k3, k4⟩ := k1
  have k3' : p = [] := k3
  have k4' : q = [] := k4
  subst k3' k4'
  obtain ⟨m1, m2⟩ := evs_ok hv hvs
  have fin : ∀ {K : Ending → World → Prop}, (∃ fn c, E.P.funcs[f]? = some fn ∧ fn.body = some c ∧ (fn.name == "runtime.NumGoroutine") = false) → Calls E.P f ⟨args.toList.map a.eval⟩ w (fun e w' => ∃ v, e = .returned v ∧ Post w0 B ob nx ρ H r v w') → StepOk E.P o a w (Post w0 B ob nx ρ H r) := by
    rintro _ ⟨fn, c, hf, hb, hn⟩ hcall
    refine .inr (.inr ⟨f, ⟨args.toList.map a.eval⟩, ?_, hcall⟩)
    have hn' : ¬ fn.name = "runtime.NumGoroutine" := by simpa using hn
    have hargs : (args.map a.eval : Array Value) = ⟨args.toList.map a.eval⟩ := by apply Array.ext'; simp
    simp [execOp, ho, resolve, k2, Deferred.ofValue, invoke, callFunc, hf, hb, hn', hargs]
  split at h
  · rename_i run hpt
    split at h
    · rename_i p hp
      obtain ⟨hok, hfn⟩ := hE.pt f run hpt
      obtain ⟨hlt, hcl⟩ := hok vs p hp
      refine fin (K := fun _ _ => True) hfn ?_
      refine (hcl ρ H w _ I.one I.agree G m1).mono fun e w' he => ?_
      obtain ⟨v, rfl, hb, hpv⟩ := he
      refine ⟨v, rfl, ?_⟩
      have hr := rc_eq h
      subst hr
      exact post_grow I hb (sv := .val (.one (.ptr p.1 p.2))) hpv (hlt nx m2)
    · cases h
  · have hcall := call_ok hE I G m1 m2 h hc
    exact fin (K := fun _ _ => True) (callR_fn hE h) hcall
theorem DenVs.app : ∀ {xs ys : List V} {us vs : List Value}, DenVs ρ H xs us → DenVs ρ H ys vs → DenVs ρ H (xs ++ ys) (us ++ vs)
  | [], ys, us, vs, h, k => by rw [show us = [] from h]; exact k
  | x :: xs, ys, us, vs, h, k => by
    obtain ⟨u, us', rfl, h1, h2⟩ := h
    exact ⟨u, us' ++ vs, rfl, h1, DenVs.app h2 k⟩
theorem capVs_den : ∀ {ps : List (Nat × Nat)} {us : List Value}, ptrsOf ρ ps us → DenVs ρ H (capVs ps) us
  | [], us, h => h
  | p :: ps, us, h => by
    obtain ⟨u, us', rfl, h1, h2⟩ := h
    exact ⟨u, us', rfl, h1, capVs_den h2⟩
theorem sound_callF (hE : EnvOk E) (I : Inv w0 B ρ H ob nx w) (G : GlobOk E.gl H) (hv : EvOk ρ H nx ev a) {x : Operand} {args : Array Operand} {ts : Array TypeId} {f : FuncId} {p q : List (Nat × Nat)} {vs : List V} (ho : o.op = .call ⟨.value x, args, ts⟩)
    (hx : (ev x).bind one? = some (.fn f p q)) (hvs : evs ev args.toList = some vs)
    (h : callR E (lookO ob) nx f (capVs p ++ vs ++ capVs q) = some r) (hc : ∀ p ∈ r.cs, p) : StepOk E.P o a w (Post w0 B ob nx ρ H r) := by
  obtain ⟨k1, kl⟩ := hv.one hx
  have kl : (∀ x ∈ p, x.1 < nx) ∧ (∀ x ∈ q, x.1 < nx) := kl
  obtain ⟨us, vs1, k2, k3, k4⟩ := k1
  obtain ⟨m1, m2⟩ := evs_ok hv hvs
  have hcall := call_ok hE I G (((capVs_den k3).app m1).app (capVs_den k4)) (fun v hv' => by
    rcases List.mem_append.1 hv' with h1 | h1
    · rcases List.mem_append.1 h1 with h2 | h2
      · obtain ⟨x, hx1, rfl⟩ := List.mem_map.1 h2; exact kl.1 x hx1
      · exact m2 v h2
    · obtain ⟨x, hx1, rfl⟩ := List.mem_map.1 h1; exact kl.2 x hx1) h hc
  obtain ⟨fn, c, hf, hb, hn⟩ := callR_fn hE h
  refine .inr (.inr ⟨f, ⟨us ++ args.toList.map a.eval ++ vs1⟩, ?_, hcall⟩)
  have hn' : ¬ fn.name = "runtime.NumGoroutine" := by simpa using hn
  have hargs : ((⟨us⟩ : Array Value) ++ args.map a.eval ++ (⟨vs1⟩ : Array Value)) = ⟨us ++ args.toList.map a.eval ++ vs1⟩ := by apply Array.ext'; simp
  rw [← hargs]
  simp [execOp, ho, resolve, k2, Deferred.ofValue, invoke, callFunc, hf, hb, hn']
end
end Go.Sx
