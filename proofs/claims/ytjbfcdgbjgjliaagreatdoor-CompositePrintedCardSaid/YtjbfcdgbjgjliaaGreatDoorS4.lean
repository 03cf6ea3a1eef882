/- A verified symbolic run of functions, part 4: lemmas, no claim of their own. -/
import Derived.Test.YtjbfcdgbjgjliaaGreatDoorS3
namespace Go.Sx
open Go.RowKit
theorem sc_int {P : Program} {t : TypeId} {d : TD} {k : IntKind} (h : TDok P t d) (h1 : d.kind = .sc) (h2 : d.ty = some (.int k)) : P.underlying t = some (.int k) := by
  have := h.sc _ h1 h2
  unfold scOk at this
  split at this <;> simp_all
theorem sc_flt {P : Program} {t : TypeId} {d : TD} {k : FloatKind} (h : TDok P t d) (h1 : d.kind = .sc) (h2 : d.ty = some (.flt k)) : P.underlying t = some (.float k) := by
  have := h.sc _ h1 h2
  unfold scOk at this
  split at this <;> simp_all
theorem sc_str {P : Program} {t : TypeId} {d : TD} (h : TDok P t d) (h1 : d.kind = .sc) (h2 : d.ty = some .str) : P.underlying t = some .string := by
  have := h.sc _ h1 h2
  unfold scOk at this
  split at this <;> simp_all
section
variable {E : Env} {w0 : Base} {B : Nat} {ρ : Nat → Value} {H : IH} {ob : List (Nat × Option AObj)} {nx : Nat} {w : World} {ev : Operand → Option SV} {a : Act} {o : Oper} {r : Res}
theorem lenOf_ok (I : Inv w0 B ρ H ob nx w) {c : C} {n : Nat} {v : Value} (h : lenOf (lookO ob) c = some n) (hd : DenC ρ H c v) : ∃ a cap, v = .slice a n cap ∧ n ≤ cap := by
  cases c <;> simp only [lenOf, rowOf, Option.map_none, Option.map_some, reduceCtorEq, Option.some.injEq] at h
  case nils => subst h; exact ⟨none, 0, hd, Nat.le_refl _⟩
  case view id off sz lo m =>
    subst h
    rcases hd with ⟨b, cap, _, h2, h3⟩ | ⟨h1, a, cap, h2⟩
    · exact ⟨_, cap, h2, h3⟩
    · exact ⟨a, cap, by rw [h1]; exact h2, by omega⟩
  case sl t xs =>
    subst h
    obtain ⟨a, cap, h1, h2, _⟩ := hd
    cases h1
    exact ⟨a, cap, rfl, h2⟩
  case own id =>
    split at h
    · rename_i t xs hrow
      simp only [Option.map_some, Option.some.injEq] at h
      subst h
      rw [show v = ρ id from hd]
      obtain ⟨a, cap, h1, h2, _⟩ := own_shows (I.objs _ _ hrow).2.2
      exact ⟨a, cap, h1, h2⟩
    · simp at h
theorem lenOf_nil (I : Inv w0 B ρ H ob nx w) {c : C} {n : Nat} {v : Value} (h : lenOf (lookO ob) c = some n) (hd : DenC ρ H c v) : ∃ a cap, v = .slice a n cap ∧ (a = none → n = 0) := by
  cases c <;> simp only [lenOf, rowOf, Option.map_none, Option.map_some, reduceCtorEq, Option.some.injEq] at h
  case nils => subst h; exact ⟨none, 0, hd, fun _ => rfl⟩
  case view id off sz lo m =>
    subst h
    rcases hd with ⟨b, cap, _, h2, h3⟩ | ⟨h1, a, cap, h2⟩
    · exact ⟨_, cap, h2, fun h => by cases h⟩
    · exact ⟨a, cap, by rw [h1]; exact h2, fun _ => h1⟩
  case sl t xs =>
    subst h
    obtain ⟨a, cap, h1, h2, h3⟩ := hd
    cases h1
    refine ⟨a, cap, rfl, fun ha => ?_⟩
    rcases h3 with h3 | ⟨_, _, _, _, _, h3, _⟩
    · exact h3
    · rw [ha] at h3; cases h3
  case own id =>
    split at h
    · rename_i t xs hrow
      simp only [Option.map_some, Option.some.injEq] at h
      subst h
      rw [show v = ρ id from hd]
      obtain ⟨a, cap, h1, h2, h3⟩ := own_shows (I.objs _ _ hrow).2.2
      refine ⟨a, cap, h1, fun ha => ?_⟩
      rcases h3 with h3 | ⟨_, _, _, _, _, h3, _⟩
      · exact h3
      · rw [ha] at h3; cases h3
    · simp at h
theorem sound_len_slice {T e : TypeId} {d : TD} {x : Operand} {c : C} {n : Nat} (hE : EnvOk E) (I : Inv w0 B ρ H ob nx w) (hv : EvOk ρ H nx ev a) (ho : o.op = .call ⟨.builtin .len, #[x], #[T]⟩) (hT : E.tt T = some d) (hk : d.kind = .slc e)
    (hx : (ev x).bind one? = some c) (hl : lenOf (lookO ob) c = some n) (hr : rc (.int .i64 n) = some r) : StepOk E.P o a w (Post w0 B ob nx ρ H r) := by
  obtain ⟨k1, k2⟩ := hv.one hx
  obtain ⟨b, cap, h1, _⟩ := lenOf_ok I hl k1
  refine ok_rc I hr (v := .int .i64 n) ?_ rfl trivial
  simp [execOp, ho, resolve, invoke, builtin, Builtin.len_, run_underlying ((hE.tt T d hT).slc e hk), h1, goInt]
theorem sound_len_str {T : TypeId} {d : TD} {x : Operand} {l : List UInt8} (hE : EnvOk E) (I : Inv w0 B ρ H ob nx w) (hv : EvOk ρ H nx ev a) (ho : o.op = .call ⟨.builtin .len, #[x], #[T]⟩) (hT : E.tt T = some d) (hk : d.kind = .sc) (ht : d.ty = some .str)
    (hx : (ev x).bind one? = some (.str l)) (hr : rc (.int .i64 l.length) = some r) : StepOk E.P o a w (Post w0 B ob nx ρ H r) := by
  obtain ⟨k1, k2⟩ := hv.one hx
  have k1' : a.eval x = .string ⟨⟨l⟩⟩ := k1
  refine ok_rc I hr (v := .int .i64 l.length) ?_ rfl trivial
  have hs : (⟨⟨l⟩⟩ : ByteArray).size = l.length := rfl
  simp [execOp, ho, resolve, invoke, builtin, Builtin.len_, run_underlying (sc_str (hE.tt T d hT) hk ht), k1', goInt, hs]
theorem run_indexAt_slice {P : Program} {T e : TypeId} {k : IntKind} {i : Int} {g off n cap sz : Nat} (hu : P.underlying T = some (.slice e)) (hs : ∀ w, (sizeOf e).run P w = .ok sz w) (h0 : 0 ≤ i) (h1 : i < n) :
    (Instr.indexAt T (.slice (some ⟨g, off, none⟩) n cap) (.int k i)).run P w = .ok (.pointer (some ⟨g, off + i.toNat * sz, none⟩)) w := by
  simp [Instr.indexAt, asIntOf, run_underlying hu, h0, h1, hs, addr_add]
theorem run_indexAt_arr {P : Program} {T e : TypeId} {k : IntKind} {i : Int} {g off n sz : Nat} (hu : P.underlying T = some (.array n e)) (hs : ∀ w, (sizeOf e).run P w = .ok sz w) (h0 : 0 ≤ i) (h1 : i < n) :
    (Instr.indexAt T (.pointer (some ⟨g, off, none⟩)) (.int k i)).run P w = .ok (.pointer (some ⟨g, off + i.toNat * sz, none⟩)) w := by
  simp [Instr.indexAt, asIntOf, run_underlying hu, Instr.sureAddr, h0, h1, hs, addr_add]
theorem run_idx {P : Program} {T : TypeId} {x y : Operand} {res : Value} (ho : o.op = .indexAddr T x y) (h : (Instr.indexAt T (a.eval x) (a.eval y)).run P w = .ok res w) : (execOp a.eval o).run P w = .ok (.value res) w := by
  simp [execOp, ho, h]
theorem sound_indexAddr_arr (hE : EnvOk E) (I : Inv w0 B ρ H ob nx w) (hv : EvOk ρ H nx ev a) {T e : TypeId} {x y : Operand} {d de : TD} {c c' : C} {n : Nat} {k : IntKind} {i : Int} (ho : o.op = .indexAddr T x y) (hT : E.tt T = some d) (hk : d.kind = .arr n e)
    (he : E.tt e = some de) (hx : (ev x).bind one? = some c) (hy : (ev y).bind one? = some (.int k i))
    (hcase : (∃ id off, c = .ptr id off ∧ c' = .el id off de.sz i.toNat 0) ∨ ∃ t xs, c = .ref (.arr n t) xs ∧ de.sz = t.sz ∧ c' = .ref t (List.getD xs i.toNat t.d))
    (hr : rcc (0 ≤ i ∧ i < n) c' = some r) (hc : ∀ q ∈ r.cs, q) : StepOk E.P o a w (Post w0 B ob nx ρ H r) := by
  obtain ⟨k1, k2⟩ := hv.one hx
  obtain ⟨m1, _⟩ := hv.one hy
  have m1' : a.eval y = .int k i := m1
  obtain ⟨h0, h1⟩ := rcc_holds hr hc
  have hu := (hE.tt T d hT).arr n e hk
  have hs : ∀ w, (sizeOf e).run E.P w = .ok de.sz w := fun w => run_sizeOf (hE.tt e de he)
  rcases hcase with ⟨id, off, rfl, rfl⟩ | ⟨t, xs, rfl, hz, rfl⟩
  · obtain ⟨b, q1, q2⟩ := k1
    refine ok_rcc I hr (run_idx ho (by rw [q2, m1']; exact run_indexAt_arr hu hs h0 h1)) ⟨b, .inl q1, by simp⟩ k2
  · obtain ⟨b, off, cc, ee, fr, q1, q2, q3⟩ := k1
    refine ok_rcc I hr (run_idx ho (by rw [q1, m1']; exact run_indexAt_arr hu hs h0 h1)) ?_ trivial
    obtain ⟨z1, z2, z3⟩ := q3
    have hi : i.toNat < List.length xs := by rw [z1]; omega
    have hrd := z3 i.toNat hi
    have hm : (i.toNat + 1) * t.sz ≤ n * t.sz := Nat.mul_le_mul_right _ (by omega)
    rw [Nat.succ_mul] at hm
    simp only [Ty.sz] at hrd
    rw [seg_seg (by omega)] at hrd
    refine ⟨b, off + i.toNat * de.sz, cc, ee, fr, rfl, q2, ?_⟩
    rw [getD_get hi, hz]
    exact hrd
theorem sound_indexAddr_slc (hE : EnvOk E) (I : Inv w0 B ρ H ob nx w) (hv : EvOk ρ H nx ev a) {T e : TypeId} {x y : Operand} {d de : TD} {c c' : C} {n : Nat} {k : IntKind} {i : Int} (ho : o.op = .indexAddr T x y) (hT : E.tt T = some d) (hk : d.kind = .slc e)
    (he : E.tt e = some de) (hx : (ev x).bind one? = some c) (hy : (ev y).bind one? = some (.int k i))
    (hcase : (∃ t xs, c = .sl t xs ∧ de.sz = t.sz ∧ n = xs.length ∧ c' = .ref t (xs.getD i.toNat t.d)) ∨ (∃ id t xs, c = .own id ∧ lookO ob id = some (.row t xs) ∧ de.sz = t.sz ∧ n = xs.length ∧ c' = .el id 0 t.sz i.toNat 0) ∨
      ∃ id off sz lo, c = .view id off sz lo n ∧ de.sz = sz ∧ c' = .el id off sz (lo + i.toNat) 0)
    (hr : rcc (0 ≤ i ∧ i < n) c' = some r) (hc : ∀ q ∈ r.cs, q) : StepOk E.P o a w (Post w0 B ob nx ρ H r) := by
  obtain ⟨k1, k2⟩ := hv.one hx
  obtain ⟨m1, _⟩ := hv.one hy
  have m1' : a.eval y = .int k i := m1
  obtain ⟨h0, h1⟩ := rcc_holds hr hc
  have hu := (hE.tt T d hT).slc e hk
  have hs : ∀ w, (sizeOf e).run E.P w = .ok de.sz w := fun w => run_sizeOf (hE.tt e de he)
  have hpos := (hE.tt e de he).pos
  rcases hcase with ⟨t, xs, rfl, hz, rfl, rfl⟩ | ⟨id, t, xs, rfl, hrow, hz, rfl, rfl⟩ | ⟨id, off, sz, lo, rfl, hz, rfl⟩
  · have hi : i.toNat < xs.length := by omega
    obtain ⟨aa, cap, q1, q2, q3⟩ := k1
    simp only [List.cons.injEq, and_true] at q1
    rcases q3 with q3 | ⟨b, off, cc, ee, fr, rfl, g2, g3⟩
    · omega
    · refine ok_rcc I hr (run_idx ho (by rw [q1, m1']; exact run_indexAt_slice hu hs h0 h1)) ?_ trivial
      refine ⟨b, off + i.toNat * de.sz, cc, ee, fr, rfl, g2, ?_⟩
      rw [getD_get hi, hz]
      exact g3 i.toNat hi
  · have hi : i.toNat < xs.length := by omega
    rcases (I.objs _ _ hrow).2.2 with ⟨g1, g2⟩ | ⟨g, cap, cur, ee, g1, g2, g3, g4, g5, g6, g7, g8⟩
    · subst g2; simp at hi
    · have hval : a.eval x = .slice (some ⟨g, 0, none⟩) xs.length cap := by rw [show a.eval x = ρ id from k1]; exact g1
      refine ok_rcc I hr (run_idx ho (by rw [hval, m1']; exact run_indexAt_slice hu hs h0 h1)) ⟨g, .inr (.inl ⟨_, _, g1⟩), by rw [hz]; simp⟩ k2
  · rcases k1 with ⟨b, cap, q1, q2, q3⟩ | ⟨q1, _⟩
    · refine ok_rcc I hr (run_idx ho (by rw [q2, m1']; exact run_indexAt_slice hu hs h0 h1)) ⟨b, q1, ?_⟩ k2
      rw [hz, Nat.add_mul]; simp; omega
    · omega
theorem sound_indexAddr_el (hE : EnvOk E) (I : Inv w0 B ρ H ob nx w) (hv : EvOk ρ H nx ev a) {T e : TypeId} {x y : Operand} {d de : TD} {n : Nat} {id off sz j sub : Nat} {k : IntKind} {i : Int} (ho : o.op = .indexAddr T x y) (hT : E.tt T = some d) (hk : d.kind = .arr n e)
    (he : E.tt e = some de) (hx : (ev x).bind one? = some (.el id off sz j sub)) (hy : (ev y).bind one? = some (.int k i))
    (hr : rcc (0 ≤ i ∧ i < n) (.el id off sz j (sub + i.toNat * de.sz)) = some r) (hc : ∀ q ∈ r.cs, q) : StepOk E.P o a w (Post w0 B ob nx ρ H r) := by
  obtain ⟨k1, k2⟩ := hv.one hx
  obtain ⟨m1, _⟩ := hv.one hy
  have m1' : a.eval y = .int k i := m1
  obtain ⟨h0, h1⟩ := rcc_holds hr hc
  have hu := (hE.tt T d hT).arr n e hk
  have hs : ∀ w, (sizeOf e).run E.P w = .ok de.sz w := fun w => run_sizeOf (hE.tt e de he)
  obtain ⟨b, q1, q2⟩ := k1
  exact ok_rcc I hr (run_idx ho (by rw [q2, m1']; exact run_indexAt_arr hu hs h0 h1)) ⟨b, q1, by rw [Nat.add_assoc]⟩ k2
theorem sound_indexAddr_sbox (hE : EnvOk E) (I : Inv w0 B ρ H ob nx w) (hv : EvOk ρ H nx ev a) {T e : TypeId} {x y : Operand} {d de : TD} {id : Nat} {cs : List Ch} {k : IntKind} {i : Int} (ho : o.op = .indexAddr T x y) (hT : E.tt T = some d) (hk : d.kind = .slc e)
    (he : E.tt e = some de) (hx : (ev x).bind one? = some (.own id)) (hy : (ev y).bind one? = some (.int k i)) (hbox : lookO ob id = some (.sbox cs)) (hz : de.sz = 1)
    (hr : rcc (0 ≤ i ∧ i < chsSz cs) (.el id 0 1 i.toNat 0) = some r) (hc : ∀ q ∈ r.cs, q) : StepOk E.P o a w (Post w0 B ob nx ρ H r) := by
  obtain ⟨k1, k2⟩ := hv.one hx
  obtain ⟨m1, _⟩ := hv.one hy
  have m1' : a.eval y = .int k i := m1
  obtain ⟨h0, h1⟩ := rcc_holds hr hc
  have hu := (hE.tt T d hT).slc e hk
  have hs : ∀ w, (sizeOf e).run E.P w = .ok de.sz w := fun w => run_sizeOf (hE.tt e de he)
  obtain ⟨g, cap, cur, ee, g1, _⟩ := sbox_den I hbox
  have hval : a.eval x = .slice (some ⟨g, 0, none⟩) (chsSz cs) cap := by rw [show a.eval x = ρ id from k1]; exact g1
  exact ok_rcc I hr (run_idx ho (by rw [hval, m1']; exact run_indexAt_slice hu hs h0 h1)) ⟨g, .inr (.inl ⟨_, _, g1⟩), by rw [hz]; simp⟩ k2
theorem run_bounds {P : Program} {isSlice : Bool} {len cap : Nat} {lo hi : Option Value} {l h : Int} (hlo : (lo = none ∧ l = 0) ∨ ∃ k, lo = some (.int k l)) (hhi : (hi = none ∧ h = len) ∨ ∃ k, hi = some (.int k h)) (h0 : 0 ≤ l) (h1 : l ≤ h) (h2 : h ≤ cap) :
    (Instr.sliceBounds isSlice len cap lo hi none).run P w = .ok (l.toNat, h.toNat, cap) w := by
  have eh : (h.toNat : Int) = h := Int.toNat_of_nonneg (by omega)
  rcases hlo with ⟨rfl, rfl⟩ | ⟨k, rfl⟩ <;> rcases hhi with ⟨rfl, rfl⟩ | ⟨k', rfl⟩
  · simp [Instr.sliceBounds]
  · simp [Instr.sliceBounds, run_sliceBound, (by omega : 0 ≤ h), h2]
  · simp [Instr.sliceBounds, run_sliceBound, h0, h1]
  · simp [Instr.sliceBounds, run_sliceBound, (by omega : 0 ≤ h), h2, h0, eh, h1]
theorem bound_ok (hv : EvOk ρ H nx ev a) {x : Option Operand} {d l : Int} (h : bound ev d x = some l) : ((x.map a.eval) = none ∧ l = d) ∨ ∃ k, (x.map a.eval) = some (.int k l) := by
  cases x with
  | none => cases h; exact .inl ⟨rfl, rfl⟩
  | some x =>
    simp only [bound] at h
    split at h
    · rename_i k n hx
      cases h
      exact .inr ⟨k, by rw [Option.map_some, show a.eval x = _ from (hv.one hx).1]⟩
    · cases h
theorem sound_slice_arr (hE : EnvOk E) (I : Inv w0 B ρ H ob nx w) (hv : EvOk ρ H nx ev a) {T e : TypeId} {x : Operand} {lo hi : Option Operand} {d de : TD} {c c' : C} {n : Nat} {l h : Int} {cs : List Prop} (ho : o.op = .slice T x lo hi none) (hT : E.tt T = some d) (hk : d.kind = .arr n e)
    (he : E.tt e = some de) (hx : (ev x).bind one? = some c) (hl : bound ev 0 lo = some l) (hh : bound ev n hi = some h)
    (hcase : (∃ id off, c = .ptr id off ∧ c' = .view id off de.sz l.toNat (h.toNat - l.toNat)) ∨ ∃ t xs, c = .ref (.arr n t) xs ∧ de.sz = t.sz ∧ c' = .sl t ((List.drop l.toNat xs).take (h.toNat - l.toNat)))
    (hr : r = ⟨cs, some (.val (.one c')), []⟩) (hp : 0 ≤ l ∧ l ≤ h ∧ h ≤ n) : StepOk E.P o a w (Post w0 B ob nx ρ H r) := by
  obtain ⟨k1, k2⟩ := hv.one hx
  obtain ⟨h0, h1, h2⟩ := hp
  have hu := (hE.tt T d hT).arr n e hk
  have hs : ∀ w, (sizeOf e).run E.P w = .ok de.sz w := fun w => run_sizeOf (hE.tt e de he)
  have hb := fun w => run_bounds (P := E.P) (w := w) (isSlice := false) (len := n) (cap := n) (bound_ok hv hl) (bound_ok hv hh) h0 h1 h2
  have run : ∀ g off, a.eval x = .pointer (some ⟨g, off, none⟩) → (execOp a.eval o).run E.P w = .ok (.value (.slice (some (if n = l.toNat then ⟨g, off, none⟩ else ⟨g, off + l.toNat * de.sz, none⟩)) (h.toNat - l.toNat) (n - l.toNat))) w := by
    intro g off hg
    have := hb w
    simp [execOp, ho, Instr.sliceAt, run_underlying hu, Instr.sureAddr, hg, this, hs, addr_add]
  rcases hcase with ⟨id, off, rfl, rfl⟩ | ⟨t, xs, rfl, hz, rfl⟩
  · obtain ⟨b, q1, q2⟩ := k1
    refine ok_same I (run _ _ q2) (sv := .val (.one (.view id off de.sz l.toNat (h.toNat - l.toNat)))) ?_ k2 hr
    by_cases hn : n = l.toNat
    · exact .inr ⟨by omega, some ⟨b, off, none⟩, n - l.toNat, by simp [hn]; omega⟩
    · exact .inl ⟨b, n - l.toNat, .inl q1, by simp [hn], by omega⟩
  · obtain ⟨b, off, cc, ee, fr, q1, q2, q3⟩ := k1
    refine ok_same I (run _ _ q1) (sv := .val (.one (.sl t ((List.drop l.toNat xs).take (h.toNat - l.toNat))))) ?_ trivial hr
    obtain ⟨z1, z2, z3⟩ := q3
    have hln : ((List.drop l.toNat xs).take (h.toNat - l.toNat)).length = h.toNat - l.toNat := by simp; omega
    by_cases hn : n = l.toNat
    · have e0 : h.toNat - l.toNat = 0 := by omega
      rw [e0]
      exact ⟨some ⟨b, off, none⟩, n - l.toNat, by simp [hn], by simp, .inl (by simp)⟩
    · refine ⟨some ⟨b, off + l.toNat * de.sz, none⟩, n - l.toNat, by rw [hln]; simp [hn], by rw [hln]; omega, .inr ⟨b, off + l.toNat * de.sz, cc, ee, fr, rfl, q2, fun i hi => ?_⟩⟩
      rw [hln] at hi
      have hrd := z3 (l.toNat + i) (by omega)
      have hm : (l.toNat + i + 1) * t.sz ≤ n * t.sz := Nat.mul_le_mul_right _ (by omega)
      rw [Nat.succ_mul] at hm
      simp only [Ty.sz] at hrd
      rw [seg_seg (by omega)] at hrd
      simp only [List.getElem_take, List.getElem_drop]
      rw [hz, Nat.add_assoc, ← Nat.add_mul]
      exact hrd
theorem sound_slice_slc (hE : EnvOk E) (I : Inv w0 B ρ H ob nx w) (hv : EvOk ρ H nx ev a) {T e : TypeId} {x : Operand} {lo hi : Option Operand} {d de : TD} {c c' : C} {n : Nat} {l h : Int} (ho : o.op = .slice T x lo hi none) (hT : E.tt T = some d) (hk : d.kind = .slc e)
    (he : E.tt e = some de) (hx : (ev x).bind one? = some c) (hn : lenOf (lookO ob) c = some n) (hl : bound ev 0 lo = some l) (hh : bound ev n hi = some h) (hsl : sliceC (lookO ob) de.sz c l h = some c')
    (hr : rcc (0 ≤ l ∧ l ≤ h ∧ h ≤ n) c' = some r) (hc : ∀ q ∈ r.cs, q) : StepOk E.P o a w (Post w0 B ob nx ρ H r) := by
  obtain ⟨k1, k2⟩ := hv.one hx
  obtain ⟨h0, h1, h2⟩ := rcc_holds hr hc
  have hu := (hE.tt T d hT).slc e hk
  have hs : ∀ w, (sizeOf e).run E.P w = .ok de.sz w := fun w => run_sizeOf (hE.tt e de he)
  obtain ⟨aa, cap, hval, hcap⟩ := lenOf_ok I hn k1
  have hb := run_bounds (P := E.P) (w := w) (isSlice := true) (len := n) (cap := cap) (bound_ok hv hl) (bound_ok hv hh) h0 h1 (by omega)
  have run : (execOp a.eval o).run E.P w = .ok (.value (.slice (if cap = l.toNat then aa else aa.map (·.add (l.toNat * de.sz))) (h.toNat - l.toNat) (cap - l.toNat))) w := by
    simp [execOp, ho, Instr.sliceAt, Instr.slice, run_underlying hu, hval, hb, hs]
  refine ok_rcc I hr run ?_ ?_
  · unfold sliceC at hsl
    split at hsl
    · rename_i t xs
      split at hsl
      · rename_i hz
        cases hsl
        simp only [lenOf, rowOf, Option.map_some, Option.some.injEq] at hn
        subst hn
        obtain ⟨a2, cap2, q1, q2, q3⟩ := k1
        rw [hval] at q1
        simp only [List.cons.injEq, Value.slice.injEq, and_true] at q1
        obtain ⟨rfl, _, rfl⟩ := q1
        have hln : ((List.drop l.toNat xs).take (h.toNat - l.toNat)).length = h.toNat - l.toNat := by simp; omega
        refine ⟨_, cap - l.toNat, by rw [hln], by rw [hln]; omega, ?_⟩
        by_cases e0 : h.toNat - l.toNat = 0
        · exact .inl (by rw [hln]; exact e0)
        · rcases q3 with q3 | ⟨b, off, cc, ee, fr, rfl, g2, g3⟩
          · omega
          · refine .inr ⟨b, off + l.toNat * de.sz, cc, ee, fr, ?_, g2, fun i hi => ?_⟩
            · rw [if_neg (by omega)]; simp [addr_add]
            · rw [hln] at hi
              have hrd := g3 (l.toNat + i) (by omega)
              simp only [List.getElem_take, List.getElem_drop]
              rw [← hz, Nat.add_assoc, ← Nat.add_mul]
              exact hrd
      · cases hsl
    · cases hsl
      simp only [lenOf, Option.some.injEq] at hn
      subst hn
      have hv0 : a.eval x = .slice none 0 0 := k1
      rw [hval] at hv0
      cases hv0
      show _ = _
      have e1 : l.toNat = 0 := by omega
      have e2 : h.toNat = 0 := by omega
      simp [e1, e2]
    · rename_i id
      split at hsl
      · rename_i t xs hrow
        split at hsl
        · rename_i hz
          cases hsl
          simp only [lenOf, rowOf, hrow, Option.map_some, Option.some.injEq] at hn
          subst hn
          have hv0 : a.eval x = ρ id := k1
          by_cases hcl : cap = l.toNat
          · exact .inr ⟨by omega, _, _, by rw [show h.toNat - l.toNat = 0 by omega]⟩
          · rcases (I.objs _ _ hrow).2.2 with ⟨g1, g2⟩ | ⟨g, cap', cur, ee, g1, g2, g3, g4, g5, g6, g7, g8⟩
            · rw [hval, g1] at hv0
              simp only [Value.slice.injEq] at hv0
              omega
            · rw [hval, g1] at hv0
              cases hv0
              refine .inl ⟨g, cap - l.toNat, .inr (.inl ⟨_, _, g1⟩), ?_, by omega⟩
              rw [if_neg hcl]; simp [addr_add]
        · cases hsl
      · cases hsl
    · rename_i id off z lo' n'
      split at hsl
      · rename_i hz
        subst hz
        cases hsl
        simp only [lenOf, Option.some.injEq] at hn
        subst hn
        by_cases hcl : cap = l.toNat
        · exact .inr ⟨by omega, _, _, by rw [show h.toNat - l.toNat = 0 by omega]⟩
        · rcases k1 with ⟨b, cap', q1, q2, q3⟩ | ⟨q1, a3, cap3, q2⟩
          · rw [hval] at q2
            cases q2
            refine .inl ⟨b, cap - l.toNat, q1, ?_, by omega⟩
            rw [if_neg hcl]
            simp [addr_add, Nat.add_mul, Nat.add_assoc]
          · exact .inr ⟨by omega, _, _, by rw [show h.toNat - l.toNat = 0 by omega]⟩
      · cases hsl
    · cases hsl
  · unfold sliceC at hsl
    split at hsl
    · split at hsl <;> cases hsl; trivial
    · cases hsl; trivial
    · split at hsl
      · split at hsl <;> cases hsl; exact k2
      · cases hsl
    · split at hsl <;> cases hsl; exact k2
    · cases hsl
end
end Go.Sx

namespace Go.Sx.U
open Ieee
def valD : Datum → Int
  | .number s m e => signed s m (e + 149).toNat
  | _ => 0
def isNum : Datum → Bool
  | .number .. => true
  | _ => false
def vW (b : Nat) : Int := valD (single.read b)
def numW (b : Nat) : Bool := isNum (single.read b)
theorem signed_eq (s : Bool) (m up : Nat) : signed s m up = (if s then -1 else 1) * ((m * 2 ^ up : Nat) : Int) := by
  unfold signed
  rw [Nat.shiftLeft_eq]
  cases s <;> simp
theorem single_binade : single.binade = 8388608 := by decide
theorem single_inf : single.infRung = 2139095040 := by decide
theorem single_sign : single.signWeight = 2147483648 := by decide
theorem single_least : single.leastPlace = -149 := by decide
theorem single_frac : single.fractionBits = 23 := rfl
theorem read_num {b : Nat} {s : Bool} {m : Nat} {e : Int} (h : single.read b = .number s m e) : -149 ≤ e ∧ m < 16777216 := by
  unfold Format.read at h
  simp only [single_binade, single_inf, single_sign, single_least] at h
  split at h
  · cases h; omega
  · split at h
    · cases h; omega
    · split at h <;> cases h
theorem read_top {b : Nat} {s : Bool} {m : Nat} {e : Int} (h : single.read b = .number s m e) : e ≤ 104 := by
  unfold Format.read at h
  simp only [single_binade, single_inf, single_sign, single_least] at h
  split at h
  · cases h; omega
  · split at h
    · cases h; omega
    · split at h <;> cases h
theorem log2_shift {c k : Nat} (h : c ≠ 0) : (c * 2 ^ k).log2 = c.log2 + k := by
  have h1 := Nat.log2_self_le h
  have h2 := Nat.lt_log2_self (n := c)
  have hp : 0 < 2 ^ k := Nat.two_pow_pos k
  rw [Nat.log2_eq_iff (Nat.mul_ne_zero h (by omega))]
  constructor
  · rw [Nat.pow_add]; exact Nat.mul_le_mul_right _ h1
  · have : 2 ^ (c.log2 + k + 1) = 2 ^ (c.log2 + 1) * 2 ^ k := by rw [← Nat.pow_add]; congr 1; omega
    rw [this]
    exact Nat.mul_lt_mul_of_pos_right h2 hp
theorem cut_exact {neg : Bool} {n q d : Nat} (h : n = q * 2 ^ d) (hq : q ≠ 0) : Toward.even.cut neg n d = q := by
  have hl : n.log2 = q.log2 + d := by rw [h, log2_shift hq]
  have hm : min d (n.log2 + 2) = d := by omega
  have hp : 0 < 2 ^ d := Nat.two_pow_pos d
  unfold Toward.cut
  simp only [hm, Nat.shiftLeft_eq, Nat.one_mul]
  have h1 : n / 2 ^ d = q := by rw [h, Nat.mul_div_cancel _ hp]
  have h2 : n % 2 ^ d = 0 := by rw [h, Nat.mul_mod_left]
  rw [h1, h2]
  have h3 : ¬ 2 ^ d < 2 * 0 := by omega
  have h4 : (2 ^ d == 2 * 0) = false := by simp
  simp [h4]
theorem word_read {neg : Bool} {m : Nat} {last : Int} (h1 : -149 ≤ last) (h2 : last ≤ 104) (h3 : m < 16777216) (h4 : -149 < last → 8388608 ≤ m) :
    single.read (single.word neg (min ((last - -149).toNat * 8388608 + m) 2139095040)) = .number neg m last := by
  have hr : min ((last - -149).toNat * 8388608 + m) 2139095040 = (last - -149).toNat * 8388608 + m := by omega
  rw [hr]
  have hlt : (last - -149).toNat * 8388608 + m < 2139095040 := by omega
  unfold Format.read Format.word
  simp only [single_binade, single_inf, single_sign, single_least]
  have e1 : (if neg then 2147483648 + ((last - -149).toNat * 8388608 + m) else ((last - -149).toNat * 8388608 + m)) % 2147483648 = (last - -149).toNat * 8388608 + m := by split <;> omega
  have e2 : ((if neg then 2147483648 + ((last - -149).toNat * 8388608 + m) else ((last - -149).toNat * 8388608 + m)) / 2147483648 % 2 == 1) = neg := by
    cases neg
    · have : ((last - -149).toNat * 8388608 + m) / 2147483648 = 0 := by omega
      simp only [Bool.false_eq_true, if_false, this]; rfl
    · have : (2147483648 + ((last - -149).toNat * 8388608 + m)) / 2147483648 = 1 := by omega
      simp only [if_true, this]; rfl
  rw [e1, e2]
  by_cases hl : (last - -149).toNat * 8388608 + m < 8388608
  · rw [if_pos hl]
    have : last = -149 := by omega
    subst this
    have e3 : ((-149 : Int) - -149).toNat * 8388608 + m = m := by omega
    rw [e3]
  · rw [if_neg hl, if_pos hlt]
    have hm : 8388608 ≤ m := by
      by_cases h : -149 < last
      · exact h4 h
      · omega
    have q1 : ((last - -149).toNat * 8388608 + m) % 8388608 = m - 8388608 := by omega
    have q2 : ((last - -149).toNat * 8388608 + m) / 8388608 = (last - -149).toNat + 1 := by omega
    have q3 : 8388608 + (m - 8388608) = m := by omega
    have q4 : (-149 : Int) + (((last - -149).toNat + 1 - 1 : Nat) : Int) = last := by omega
    rw [q1, q2, q3, q4]
theorem nearest_exact {neg : Bool} {mag c k : Nat} {place : Int} (hm : mag = c * 2 ^ k) (hc : c ≠ 0) (h24 : c < 16777216) (hp : -149 ≤ place + k) (ht : place + mag.log2 ≤ 127) :
    ∃ m last, single.read (single.nearest neg mag place) = .number neg m last ∧ m * 2 ^ (last + 149).toNat = c * 2 ^ (place + k + 149).toNat := by
  have hk : 0 < 2 ^ k := Nat.two_pow_pos k
  have hne : mag ≠ 0 := by rw [hm]; exact Nat.mul_ne_zero hc (by omega)
  have hL : mag.log2 = c.log2 + k := by rw [hm, log2_shift hc]
  have hc2 : c.log2 ≤ 23 := by
    have := (Nat.log2_lt hc (k := 24)).2 (by omega)
    omega
  unfold Format.nearest
  rw [if_neg hne]
  simp only [single_frac, single_least, single_binade, single_inf]
  generalize hlast : max (place + mag.log2 - (23 : Nat)) (-149 : Int) = last
  have hl1 : -149 ≤ last := by omega
  have hl2 : last ≤ place + k := by omega
  have hl3 : place + mag.log2 - 23 ≤ last := by omega
  have hl4 : last ≤ 104 := by omega
  obtain ⟨q, hq⟩ : ∃ q, q = c * 2 ^ (place + k - last).toNat := ⟨_, rfl⟩
  have hq0 : q ≠ 0 := by rw [hq]; exact Nat.mul_ne_zero hc (by have := Nat.two_pow_pos (place + k - last).toNat; omega)
  have hcut : Toward.even.cut neg (mag <<< (place - last).toNat) (last - place).toNat = q := by
    apply cut_exact _ hq0
    rw [Nat.shiftLeft_eq, hm, hq, Nat.mul_assoc, Nat.mul_assoc, ← Nat.pow_add, ← Nat.pow_add]
    congr 2
    omega
  rw [hcut]
  have hqL : q.log2 = c.log2 + (place + k - last).toNat := by rw [hq, log2_shift hc]
  have hq24 : q < 16777216 := by
    have : q.log2 < 24 := by omega
    have := (Nat.log2_lt hq0 (k := 24)).1 this
    omega
  have hqge : -149 < last → 8388608 ≤ q := by
    intro h
    have h1 : q.log2 = 23 := by omega
    have := Nat.log2_self_le hq0
    rw [h1] at this
    exact this
  refine ⟨q, last, word_read hl1 hl4 hq24 hqge, ?_⟩
  rw [hq, Nat.mul_assoc, ← Nat.pow_add]
  congr 2
  omega
theorem vW_num {b : Nat} {s : Bool} {m : Nat} {e : Int} (h : single.read b = .number s m e) : vW b = signed s m (e + 149).toNat := by
  unfold vW; rw [h]; rfl
theorem num_of {b : Nat} (h : numW b = true) : ∃ s m e, single.read b = .number s m e := by
  unfold numW isNum at h
  split at h
  · exact ⟨_, _, _, by assumption⟩
  · cases h
theorem numW_of {b : Nat} {s : Bool} {m : Nat} {e : Int} (h : single.read b = .number s m e) : numW b = true := by
  unfold numW; rw [h]; rfl
theorem compare_scale {a b p : Int} (hp : 0 < p) : compare (a * p) (b * p) = compare a b := by
  rcases Int.lt_trichotomy a b with h | h | h
  · rw [Int.compare_eq_lt.2 h, Int.compare_eq_lt.2 (Int.mul_lt_mul_of_pos_right h hp)]
  · subst h; simp
  · rw [Int.compare_eq_gt.2 h, Int.compare_eq_gt.2 (Int.mul_lt_mul_of_pos_right h hp)]
theorem signed_add (s : Bool) (m u v : Nat) : signed s m (u + v) = signed s m u * ((2 ^ v : Nat) : Int) := by
  rw [signed_eq, signed_eq, Nat.pow_add, ← Nat.mul_assoc, Int.natCast_mul, Int.mul_assoc]
theorem order_val {a b : Nat} (ha : numW a = true) (hb : numW b = true) : single.order a b = some (compare (vW a) (vW b)) := by
  obtain ⟨s, m, i, e1⟩ := num_of ha
  obtain ⟨t, n, j, e2⟩ := num_of hb
  have h1 := (read_num e1).1
  have h2 := (read_num e2).1
  rw [vW_num e1, vW_num e2]
  unfold Format.order
  rw [e1, e2]
  simp only [Datum.order]
  congr 1
  have q1 : (i + 149).toNat = (i - min i j).toNat + (min i j + 149).toNat := by omega
  have q2 : (j + 149).toNat = (j - min i j).toNat + (min i j + 149).toNat := by omega
  rw [q1, q2, signed_add, signed_add, compare_scale]
  exact Int.natCast_pos.2 (Nat.two_pow_pos _)
theorem sub_self {b : Nat} (h : numW b = true) : single.sub b b = some 0 := by
  obtain ⟨s, m, i, e1⟩ := num_of h
  unfold Format.sub
  rw [e1]
  simp only [Datum.opposite, Datum.sum, signed_eq]
  have h0 : (if s = true then -1 else 1) * ((m * 2 ^ (i - min i i).toNat : Nat) : Int) + (if (!s) = true then -1 else 1) * ((m * 2 ^ (i - min i i).toNat : Nat) : Int) = 0 := by
    cases s <;> simp <;> omega
  rw [h0]
  simp [Format.write, Format.nearest, Format.word]
theorem read_16 : single.read 1098907648 = .number false 8388608 (-19) := by decide
theorem read_0 : single.read 0 = .number false 0 (-149) := by decide
theorem nearest_0 (s : Bool) (e : Int) : single.read (single.nearest s 0 e) = .number s 0 (-149) := by
  unfold Format.nearest
  rw [if_pos rfl]
  cases s <;> decide
theorem natAbs_signed (s : Bool) (m u : Nat) : (signed s m u).natAbs = m * 2 ^ u := by
  rw [signed_eq]
  generalize m * 2 ^ u = q
  cases s <;> simp
theorem log_le {m : Nat} {e : Int} (hm : m ≠ 0) (he : -149 ≤ e) (L T : Nat) (hT : T ≤ L + 1 + 149) (h : m * 2 ^ (e + 149).toNat < 2 ^ T) : m.log2 + e ≤ L := by
  have h1 := Nat.log2_self_le hm
  have h2 : 2 ^ (m.log2 + (e + 149).toNat) < 2 ^ T := by
    rw [Nat.pow_add]
    exact Nat.lt_of_le_of_lt (Nat.mul_le_mul_right _ h1) h
  have := (Nat.pow_lt_pow_iff_right (a := 2) (by omega)).1 h2
  omega
theorem mul_16 {b T : Nat} (h : numW b = true) (hT : T ≤ 160) (hv : (vW b).natAbs < 2 ^ T) : ∃ y, single.mul 1098907648 b = some y ∧ numW y = true ∧ vW y = 16 * vW b := by
  obtain ⟨s, m, e, e1⟩ := num_of h
  obtain ⟨h1, h2⟩ := read_num e1
  rw [vW_num e1, natAbs_signed] at hv
  unfold Format.mul
  rw [read_16, e1]
  simp only [Datum.product, Option.map_some, Format.write, Bool.false_xor]
  refine ⟨_, rfl, ?_⟩
  by_cases hm : m = 0
  · subst hm
    rw [Nat.mul_zero]
    have := nearest_0 s (-19 + e)
    refine ⟨numW_of this, ?_⟩
    rw [vW_num this, vW_num e1, signed_eq, signed_eq]
    simp
  · obtain ⟨q, last, r1, r2⟩ := nearest_exact (neg := s) (mag := 8388608 * m) (c := m) (k := 23) (place := -19 + e) (by rw [Nat.mul_comm]) hm h2 (by omega) (by
      have : (8388608 * m).log2 = m.log2 + 23 := by rw [Nat.mul_comm]; exact log2_shift (k := 23) hm
      have := log_le hm h1 10 T hT hv
      omega)
    refine ⟨numW_of r1, ?_⟩
    rw [vW_num r1, vW_num e1, signed_eq, signed_eq, r2]
    have : (-19 + e + ((23 : Nat) : Int) + 149).toNat = (e + 149).toNat + 4 := by omega
    have e2 : m * (2 ^ (e + 149).toNat * 2 ^ 4) = 16 * (m * 2 ^ (e + 149).toNat) := by rw [← Nat.mul_assoc, Nat.mul_comm]
    rw [this, Nat.pow_add, e2]
    generalize m * 2 ^ (e + 149).toNat = q
    cases s <;> simp <;> omega
theorem toInt_val {y : Nat} (h : numW y = true) : (single.read y).toInt .zero = some ((vW y).tdiv ((2 ^ 149 : Nat) : Int)) := by
  obtain ⟨s, m, e, e1⟩ := num_of h
  obtain ⟨h1, h2⟩ := read_num e1
  rw [vW_num e1, e1]
  simp only [Datum.toInt, Datum.integral]
  congr 1
  have key : Toward.zero.cut s (m <<< e.toNat) (-e).toNat = m * 2 ^ (e + 149).toNat / 2 ^ 149 := by
    unfold Toward.cut
    simp only [Nat.shiftLeft_eq, Nat.one_mul, Bool.toNat_false, Nat.add_zero]
    by_cases he : 0 ≤ e
    · have z : (-e).toNat = 0 := by omega
      have z2 : (e + 149).toNat = e.toNat + 149 := by omega
      rw [z, z2, Nat.zero_min, Nat.pow_zero, Nat.div_one, Nat.pow_add, ← Nat.mul_assoc, Nat.mul_div_cancel _ (Nat.two_pow_pos _)]
    · have z : e.toNat = 0 := by omega
      have z2 : 149 = (e + 149).toNat + (-e).toNat := by omega
      rw [z, Nat.pow_zero, Nat.mul_one]
      have z3 : (2 : Nat) ^ 149 = 2 ^ (e + 149).toNat * 2 ^ (-e).toNat := by rw [← Nat.pow_add, ← z2]
      rw [z3, Nat.mul_comm m, Nat.mul_div_mul_left _ _ (Nat.two_pow_pos _)]
      by_cases hd : (-e).toNat ≤ m.log2 + 2
      · rw [Nat.min_eq_left hd]
      · rw [Nat.min_eq_right (by omega)]
        have l1 : m < 2 ^ (m.log2 + 2) := Nat.lt_of_lt_of_le (Nat.lt_log2_self (n := m)) (Nat.pow_le_pow_right (by omega) (by omega))
        have l2 : m < 2 ^ (-e).toNat := Nat.lt_of_lt_of_le l1 (Nat.pow_le_pow_right (by omega) (by omega))
        rw [Nat.div_eq_of_lt l1, Nat.div_eq_of_lt l2]
  rw [key, signed_eq, signed_eq, Nat.pow_zero, Nat.mul_one]
  cases s
  · simp only [Bool.false_eq_true, if_false, Int.one_mul]
    rw [← Int.ofNat_tdiv]
  · simp only [if_true, Int.neg_mul, Int.one_mul]
    rw [Int.neg_tdiv, ← Int.ofNat_tdiv]
theorem nearest_int {n : Int} (h : n.natAbs < 16777216) : numW (single.nearest (n < 0) n.natAbs 0) = true ∧ vW (single.nearest (n < 0) n.natAbs 0) = n * ((2 ^ 149 : Nat) : Int) := by
  by_cases h0 : n = 0
  · subst h0
    have : single.read (single.nearest (decide ((0 : Int) < 0)) (Int.natAbs 0) 0) = _ := nearest_0 (decide ((0 : Int) < 0)) 0
    refine ⟨numW_of this, ?_⟩
    rw [vW_num this, signed_eq]
    simp
  · obtain ⟨m, last, r1, r2⟩ := nearest_exact (neg := decide (n < 0)) (mag := n.natAbs) (c := n.natAbs) (k := 0) (place := 0) (by simp) (by omega) h (by omega) (by
      have := (Nat.log2_lt (n := n.natAbs) (by omega) (k := 24)).2 h
      omega)
    refine ⟨numW_of r1, ?_⟩
    rw [vW_num r1, signed_eq, r2]
    have e : ((0 : Int) + ((0 : Nat) : Int) + 149).toNat = 149 := by decide
    rw [e]
    generalize 2 ^ 149 = q
    rw [Int.natCast_mul, ← Int.mul_assoc]
    congr 1
    by_cases hn : n < 0
    · simp [hn]; omega
    · simp [hn]; omega
theorem vW_small {x : Nat} (L : Nat) {n : Int} (hv : (vW x) = n * ((2 ^ 149 : Nat) : Int)) (hn : n.natAbs < 2 ^ L) {s : Bool} {m : Nat} {e : Int} (hx : single.read x = .number s m e) (hm : m ≠ 0) : m.log2 + e < L ∧ 0 ≤ m.log2 + e := by
  obtain ⟨h1, h2⟩ := read_num hx
  have ha : m * 2 ^ (e + 149).toNat = n.natAbs * 2 ^ 149 := by
    rw [← natAbs_signed s, ← vW_num hx, hv, Int.natAbs_mul, Int.natAbs_natCast]
  have hn0 : n.natAbs ≠ 0 := by
    intro h
    rw [h, Nat.zero_mul] at ha
    have := Nat.two_pow_pos (e + 149).toNat
    rcases Nat.mul_eq_zero.1 ha with h | h <;> omega
  have hl : (m * 2 ^ (e + 149).toNat).log2 = (n.natAbs * 2 ^ 149).log2 := by rw [ha]
  rw [log2_shift hm, log2_shift hn0] at hl
  have := (Nat.log2_lt hn0 (k := L)).2 hn
  omega
theorem div_16 {x : Nat} {n : Int} (h : numW x = true) (hv : vW x = n * ((2 ^ 149 : Nat) : Int)) (hn : n.natAbs < 16777216) :
    ∃ y, single.div x 1098907648 = some y ∧ numW y = true ∧ 16 * vW y = n * ((2 ^ 149 : Nat) : Int) := by
  obtain ⟨s, m, e, e1⟩ := num_of h
  obtain ⟨h1, h2⟩ := read_num e1
  unfold Format.div
  rw [read_16, e1]
  simp only [Datum.quotient, single_frac]
  rw [if_neg (by omega)]
  simp only [Option.map_some, Format.write, Bool.xor_false]
  refine ⟨_, rfl, ?_⟩
  by_cases hm : m = 0
  · subst hm
    have hz : (0 : Nat) <<< (23 + 2 + Nat.log2 8388608 - Nat.log2 0) = 0 := by simp
    rw [hz]
    have := nearest_0 s (e - -19 - ((23 + 2 + Nat.log2 8388608 - Nat.log2 0 : Nat) : Int) - 1)
    rw [show 2 * (0 / 8388608) + (0 % 8388608 != 0).toNat = 0 from rfl]
    refine ⟨numW_of this, ?_⟩
    rw [← hv, vW_num this, vW_num e1, signed_eq, signed_eq]
    simp
  · have hl2 : Nat.log2 8388608 = 23 := by decide
    have hlm : m.log2 < 24 := (Nat.log2_lt hm (k := 24)).2 h2
    obtain ⟨s1, s2⟩ := vW_small 24 hv hn e1 hm
    rw [hl2]
    obtain ⟨d, hd⟩ : ∃ d, 23 + 2 + 23 - m.log2 = 23 + d := ⟨25 - m.log2, by omega⟩
    rw [hd, Nat.shiftLeft_eq]
    have q1 : m * 2 ^ (23 + d) = m * 2 ^ d * 8388608 := by rw [Nat.add_comm, Nat.pow_add, ← Nat.mul_assoc]
    have q2 : m * 2 ^ (23 + d) / 8388608 = m * 2 ^ d := by rw [q1, Nat.mul_div_cancel _ (by omega)]
    have q3 : m * 2 ^ (23 + d) % 8388608 = 0 := by rw [q1, Nat.mul_mod_left]
    rw [q2, q3]
    have q4 : 2 * (m * 2 ^ d) + ((0 : Nat) != 0).toNat = m * 2 ^ (d + 1) := by
      rw [Nat.pow_succ, ← Nat.mul_assoc m]
      show 2 * (m * 2 ^ d) + 0 = _
      omega
    rw [q4]
    obtain ⟨q, last, r1, r2⟩ := nearest_exact (neg := s) (mag := m * 2 ^ (d + 1)) (c := m) (k := d + 1) (place := e - -19 - ((23 + d : Nat) : Int) - 1) rfl hm h2 (by omega) (by
      rw [log2_shift hm]
      omega)
    refine ⟨numW_of r1, ?_⟩
    rw [← hv, vW_num r1, vW_num e1, signed_eq, signed_eq, r2]
    have e4 : (e + 149).toNat = (e - -19 - ((23 + d : Nat) : Int) - 1 + ((d + 1 : Nat) : Int) + 149).toNat + 4 := by omega
    rw [e4, Nat.pow_add]
    generalize (e - -19 - ((23 + d : Nat) : Int) - 1 + ((d + 1 : Nat) : Int) + 149).toNat = u
    have e2 : m * (2 ^ u * 2 ^ 4) = 16 * (m * 2 ^ u) := by rw [← Nat.mul_assoc, Nat.mul_comm]
    rw [e2]
    generalize m * 2 ^ u = q
    cases s <;> simp <;> omega
def six (b : Nat) : Int := (16 * vW b).tdiv ((2 ^ 149 : Nat) : Int)
def chkS (b : Nat) : Int := if numW b = true then (if 1024 * ((2 ^ 149 : Nat) : Int) < vW b ∨ vW b < -1024 * ((2 ^ 149 : Nat) : Int) then 3 else if 16 * vW b = six b * ((2 ^ 149 : Nat) : Int) then 0 else 3) else 1
def smp (n : Int) : Nat := (single.div (single.nearest (n < 0) n.natAbs 0) 1098907648).getD 0
theorem chkS_zero {b : Nat} : chkS b = 0 ↔ numW b = true ∧ 16 * vW b = six b * ((2 ^ 149 : Nat) : Int) ∧ -16384 ≤ six b ∧ six b ≤ 16384 := by
  have hq : (0 : Int) < ((2 ^ 149 : Nat) : Int) := Int.natCast_pos.2 (Nat.two_pow_pos _)
  unfold chkS
  generalize six b = t
  generalize ((2 ^ 149 : Nat) : Int) = q at *
  generalize vW b = v
  constructor
  · intro h
    split at h
    · rename_i hn
      split at h
      · cases h
      · rename_i hr
        split at h
        · rename_i he
          refine ⟨hn, he, ?_, ?_⟩
          · exact Int.le_of_mul_le_mul_right (b := -16384) (c := t) (a := q) (by omega) hq
          · exact Int.le_of_mul_le_mul_right (b := t) (c := 16384) (a := q) (by omega) hq
        · cases h
    · cases h
  · rintro ⟨h1, h2, h3, h4⟩
    have g1 : -16384 * q ≤ t * q := Int.mul_le_mul_of_nonneg_right h3 (Int.le_of_lt hq)
    have g2 : t * q ≤ 16384 * q := Int.mul_le_mul_of_nonneg_right h4 (Int.le_of_lt hq)
    rw [if_pos h1, if_neg (by omega), if_pos h2]
theorem smp_num {n : Int} (h : n.natAbs < 16777216) : single.div (single.nearest (n < 0) n.natAbs 0) 1098907648 = some (smp n) ∧ numW (smp n) = true ∧ 16 * vW (smp n) = n * ((2 ^ 149 : Nat) : Int) := by
  obtain ⟨h1, h2⟩ := nearest_int h
  obtain ⟨y, e1, e2, e3⟩ := div_16 h1 h2 h
  have : smp n = y := by unfold smp; rw [e1]; rfl
  rw [this]
  exact ⟨e1, e2, e3⟩
theorem six_smp {n : Int} (h : n.natAbs < 16777216) : six (smp n) = n := by
  obtain ⟨_, h1, h2⟩ := smp_num h
  unfold six
  rw [h2]
  exact Int.mul_tdiv_cancel _ (Int.ne_of_gt (Int.natCast_pos.2 (Nat.two_pow_pos _)))
theorem chk_smp {n : Int} (h1 : -16384 ≤ n) (h2 : n ≤ 16384) : chkS (smp n) = 0 := by
  have h : n.natAbs < 16777216 := by omega
  obtain ⟨_, h3, h4⟩ := smp_num h
  rw [chkS_zero, six_smp h]
  exact ⟨h3, h4, h1, h2⟩
theorem ord_six {a b : Nat} {m n : Int} (ha : numW a = true) (hb : numW b = true) (h1 : 16 * vW a = m * ((2 ^ 149 : Nat) : Int)) (h2 : 16 * vW b = n * ((2 ^ 149 : Nat) : Int)) : single.order a b = some (compare m n) := by
  have hq : (0 : Int) < ((2 ^ 149 : Nat) : Int) := Int.natCast_pos.2 (Nat.two_pow_pos _)
  rw [order_val ha hb, ← compare_scale (p := 16) (by decide), Int.mul_comm (vW a), Int.mul_comm (vW b), h1, h2, compare_scale hq]
theorem eq_six {a b : Nat} (ha : chkS a = 0) (hb : chkS b = 0) : Op.floatEq .f32 a b = decide (six a = six b) := by
  obtain ⟨a1, a2, _⟩ := chkS_zero.1 ha
  obtain ⟨b1, b2, _⟩ := chkS_zero.1 hb
  unfold Op.floatEq
  rw [show FloatKind.format .f32 = single from rfl, ord_six a1 b1 a2 b2]
  by_cases h : six a = six b
  · rw [h]; simp
  · have : compare (six a) (six b) ≠ .eq := fun e => h (Int.compare_eq_eq.1 e)
    simp [h, this]
end Go.Sx.U

namespace Go.Sx.U
open Ieee
def valDD : Datum → Int
  | .number s m e => signed s m (e + 1074).toNat
  | _ => 0
def vWD (b : Nat) : Int := valDD (double.read b)
def numWD (b : Nat) : Bool := isNum (double.read b)
theorem double_binadeD : double.binade = 4503599627370496 := by decide
theorem double_infD : double.infRung = 9218868437227405312 := by decide
theorem double_signD : double.signWeight = 9223372036854775808 := by decide
theorem double_leastD : double.leastPlace = -1074 := by decide
theorem double_fracD : double.fractionBits = 52 := rfl
theorem read_numD {b : Nat} {s : Bool} {m : Nat} {e : Int} (h : double.read b = .number s m e) : -1074 ≤ e ∧ m < 9007199254740992 := by
  unfold Format.read at h
  simp only [double_binadeD, double_infD, double_signD, double_leastD] at h
  split at h
  · cases h; omega
  · split at h
    · cases h; omega
    · split at h <;> cases h
theorem word_readD {neg : Bool} {m : Nat} {last : Int} (h1 : -1074 ≤ last) (h2 : last ≤ 971) (h3 : m < 9007199254740992) (h4 : -1074 < last → 4503599627370496 ≤ m) :
    double.read (double.word neg (min ((last - -1074).toNat * 4503599627370496 + m) 9218868437227405312)) = .number neg m last := by
  have hr : min ((last - -1074).toNat * 4503599627370496 + m) 9218868437227405312 = (last - -1074).toNat * 4503599627370496 + m := by omega
  rw [hr]
  have hlt : (last - -1074).toNat * 4503599627370496 + m < 9218868437227405312 := by omega
  unfold Format.read Format.word
  simp only [double_binadeD, double_infD, double_signD, double_leastD]
  have e1 : (if neg then 9223372036854775808 + ((last - -1074).toNat * 4503599627370496 + m) else ((last - -1074).toNat * 4503599627370496 + m)) % 9223372036854775808 = (last - -1074).toNat * 4503599627370496 + m := by split <;> omega
  have e2 : ((if neg then 9223372036854775808 + ((last - -1074).toNat * 4503599627370496 + m) else ((last - -1074).toNat * 4503599627370496 + m)) / 9223372036854775808 % 2 == 1) = neg := by
    cases neg
    · have : ((last - -1074).toNat * 4503599627370496 + m) / 9223372036854775808 = 0 := by omega
      simp only [Bool.false_eq_true, if_false, this]; rfl
    · have : (9223372036854775808 + ((last - -1074).toNat * 4503599627370496 + m)) / 9223372036854775808 = 1 := by omega
      simp only [if_true, this]; rfl
  rw [e1, e2]
  by_cases hl : (last - -1074).toNat * 4503599627370496 + m < 4503599627370496
  · rw [if_pos hl]
    have : last = -1074 := by omega
    subst this
    have e3 : ((-1074 : Int) - -1074).toNat * 4503599627370496 + m = m := by omega
    rw [e3]
  · rw [if_neg hl, if_pos hlt]
    have hm : 4503599627370496 ≤ m := by
      by_cases h : -1074 < last
      · exact h4 h
      · omega
    have q1 : ((last - -1074).toNat * 4503599627370496 + m) % 4503599627370496 = m - 4503599627370496 := by omega
    have q2 : ((last - -1074).toNat * 4503599627370496 + m) / 4503599627370496 = (last - -1074).toNat + 1 := by omega
    have q3 : 4503599627370496 + (m - 4503599627370496) = m := by omega
    have q4 : (-1074 : Int) + (((last - -1074).toNat + 1 - 1 : Nat) : Int) = last := by omega
    rw [q1, q2, q3, q4]
theorem nearest_exactD {neg : Bool} {mag c k : Nat} {place : Int} (hm : mag = c * 2 ^ k) (hc : c ≠ 0) (h53 : c < 9007199254740992) (hp : -1074 ≤ place + k) (ht : place + mag.log2 ≤ 1023) :
    ∃ m last, double.read (double.nearest neg mag place) = .number neg m last ∧ m * 2 ^ (last + 1074).toNat = c * 2 ^ (place + k + 1074).toNat := by
  have hk : 0 < 2 ^ k := Nat.two_pow_pos k
  have hne : mag ≠ 0 := by rw [hm]; exact Nat.mul_ne_zero hc (by omega)
  have hL : mag.log2 = c.log2 + k := by rw [hm, log2_shift hc]
  have hc2 : c.log2 ≤ 52 := by
    have := (Nat.log2_lt hc (k := 53)).2 (by omega)
    omega
  unfold Format.nearest
  rw [if_neg hne]
  simp only [double_fracD, double_leastD, double_binadeD, double_infD]
  generalize hlast : max (place + mag.log2 - (52 : Nat)) (-1074 : Int) = last
  have hl1 : -1074 ≤ last := by omega
  have hl2 : last ≤ place + k := by omega
  have hl3 : place + mag.log2 - 52 ≤ last := by omega
  have hl4 : last ≤ 971 := by omega
  obtain ⟨q, hq⟩ : ∃ q, q = c * 2 ^ (place + k - last).toNat := ⟨_, rfl⟩
  have hq0 : q ≠ 0 := by rw [hq]; exact Nat.mul_ne_zero hc (by have := Nat.two_pow_pos (place + k - last).toNat; omega)
  have hcut : Toward.even.cut neg (mag <<< (place - last).toNat) (last - place).toNat = q := by
    apply cut_exact _ hq0
    rw [Nat.shiftLeft_eq, hm, hq, Nat.mul_assoc, Nat.mul_assoc, ← Nat.pow_add, ← Nat.pow_add]
    congr 2
    omega
  rw [hcut]
  have hqL : q.log2 = c.log2 + (place + k - last).toNat := by rw [hq, log2_shift hc]
  have hq53 : q < 9007199254740992 := by
    have : q.log2 < 53 := by omega
    have := (Nat.log2_lt hq0 (k := 53)).1 this
    omega
  have hqge : -1074 < last → 4503599627370496 ≤ q := by
    intro h
    have h1 : q.log2 = 52 := by omega
    have := Nat.log2_self_le hq0
    rw [h1] at this
    exact this
  refine ⟨q, last, word_readD hl1 hl4 hq53 hqge, ?_⟩
  rw [hq, Nat.mul_assoc, ← Nat.pow_add]
  congr 2
  omega
theorem vW_numD {b : Nat} {s : Bool} {m : Nat} {e : Int} (h : double.read b = .number s m e) : vWD b = signed s m (e + 1074).toNat := by
  unfold vWD; rw [h]; rfl
theorem num_ofD {b : Nat} (h : numWD b = true) : ∃ s m e, double.read b = .number s m e := by
  unfold numWD isNum at h
  split at h
  · exact ⟨_, _, _, by assumption⟩
  · cases h
theorem numW_ofD {b : Nat} {s : Bool} {m : Nat} {e : Int} (h : double.read b = .number s m e) : numWD b = true := by
  unfold numWD; rw [h]; rfl
theorem order_valD {a b : Nat} (ha : numWD a = true) (hb : numWD b = true) : double.order a b = some (compare (vWD a) (vWD b)) := by
  obtain ⟨s, m, i, e1⟩ := num_ofD ha
  obtain ⟨t, n, j, e2⟩ := num_ofD hb
  have h1 := (read_numD e1).1
  have h2 := (read_numD e2).1
  rw [vW_numD e1, vW_numD e2]
  unfold Format.order
  rw [e1, e2]
  simp only [Datum.order]
  congr 1
  have q1 : (i + 1074).toNat = (i - min i j).toNat + (min i j + 1074).toNat := by omega
  have q2 : (j + 1074).toNat = (j - min i j).toNat + (min i j + 1074).toNat := by omega
  rw [q1, q2, signed_add, signed_add, compare_scale]
  exact Int.natCast_pos.2 (Nat.two_pow_pos _)
theorem read_16D : double.read 4625196817309499392 = .number false 4503599627370496 (-48) := by decide
theorem nearest_0D (s : Bool) (e : Int) : double.read (double.nearest s 0 e) = .number s 0 (-1074) := by
  unfold Format.nearest
  rw [if_pos rfl]
  cases s <;> decide
theorem log_leD {m : Nat} {e : Int} (hm : m ≠ 0) (he : -1074 ≤ e) (L T : Nat) (hT : T ≤ L + 1 + 1074) (h : m * 2 ^ (e + 1074).toNat < 2 ^ T) : m.log2 + e ≤ L := by
  have h1 := Nat.log2_self_le hm
  have h2 : 2 ^ (m.log2 + (e + 1074).toNat) < 2 ^ T := by
    rw [Nat.pow_add]
    exact Nat.lt_of_le_of_lt (Nat.mul_le_mul_right _ h1) h
  have := (Nat.pow_lt_pow_iff_right (a := 2) (by omega)).1 h2
  omega
theorem mul_16D {b T : Nat} (h : numWD b = true) (hT : T ≤ 1085) (hv : (vWD b).natAbs < 2 ^ T) : ∃ y, double.mul 4625196817309499392 b = some y ∧ numWD y = true ∧ vWD y = 16 * vWD b := by
  obtain ⟨s, m, e, e1⟩ := num_ofD h
  obtain ⟨h1, h2⟩ := read_numD e1
  rw [vW_numD e1, natAbs_signed] at hv
  unfold Format.mul
  rw [read_16D, e1]
  simp only [Datum.product, Option.map_some, Format.write, Bool.false_xor]
  refine ⟨_, rfl, ?_⟩
  by_cases hm : m = 0
  · subst hm
    rw [Nat.mul_zero]
    have := nearest_0D s (-48 + e)
    refine ⟨numW_ofD this, ?_⟩
    rw [vW_numD this, vW_numD e1, signed_eq, signed_eq]
    simp
  · obtain ⟨q, last, r1, r2⟩ := nearest_exactD (neg := s) (mag := 4503599627370496 * m) (c := m) (k := 52) (place := -48 + e) (by rw [Nat.mul_comm]) hm h2 (by omega) (by
      have : (4503599627370496 * m).log2 = m.log2 + 52 := by rw [Nat.mul_comm]; exact log2_shift (k := 52) hm
      have := log_leD hm h1 10 T hT hv
      omega)
    refine ⟨numW_ofD r1, ?_⟩
    rw [vW_numD r1, vW_numD e1, signed_eq, signed_eq, r2]
    have : (-48 + e + ((52 : Nat) : Int) + 1074).toNat = (e + 1074).toNat + 4 := by omega
    have e2 : m * (2 ^ (e + 1074).toNat * 2 ^ 4) = 16 * (m * 2 ^ (e + 1074).toNat) := by rw [← Nat.mul_assoc, Nat.mul_comm]
    rw [this, Nat.pow_add, e2]
    generalize m * 2 ^ (e + 1074).toNat = q
    cases s <;> simp <;> omega
def U : Nat := 1074
def U2 : Nat := 925
theorem U_eq : U = 1074 := rfl
theorem U2_eq : U2 = 925 := rfl
theorem conv_num {b : Nat} (h : numW b = true) : ∃ y, double.write (single.read b) = y ∧ (double.read y).isInfinity = false ∧ numWD y = true ∧ vWD y = vW b * ((2 ^ U2 : Nat) : Int) := by
  obtain ⟨s, m, e, e1⟩ := num_of h
  obtain ⟨h1, h2⟩ := read_num e1
  rw [vW_num e1, e1]
  refine ⟨_, rfl, ?_⟩
  simp only [Format.write]
  by_cases hm : m = 0
  · subst hm
    have := nearest_0D s e
    refine ⟨by rw [this]; rfl, numW_ofD this, ?_⟩
    rw [vW_numD this, signed_eq, signed_eq]
    simp
  · have he : e ≤ 104 := read_top e1
    have hl := (Nat.log2_lt hm (k := 24)).2 h2
    obtain ⟨q, last, r1, r2⟩ := nearest_exactD (neg := s) (mag := m) (c := m) (k := 0) (place := e) (by simp) hm (by omega) (by omega) (by omega)
    refine ⟨by rw [r1]; rfl, numW_ofD r1, ?_⟩
    rw [vW_numD r1, signed_eq, signed_eq, r2]
    have e2 : (e + ((0 : Nat) : Int) + 1074).toNat = (e + 149).toNat + U2 := by rw [U2_eq]; omega
    rw [e2, Nat.pow_add, ← Nat.mul_assoc, Int.natCast_mul (m * _), Int.mul_assoc]
def flo (y : Nat) : Nat := double.write ((double.read y).integral .down)
theorem floor_val {y T : Nat} (h : numWD y = true) (hT : T ≤ 20 + 1 + 1074) (hv : (vWD y).natAbs < 2 ^ T) :
    numWD (flo y) = true ∧ (∃ t : Int, vWD (flo y) = t * ((2 ^ U : Nat) : Int)) ∧ ∀ t : Int, vWD y = t * ((2 ^ U : Nat) : Int) → vWD (flo y) = vWD y := by
  obtain ⟨s, m, e, e1⟩ := num_ofD h
  obtain ⟨h1, h2⟩ := read_numD e1
  rw [vW_numD e1, natAbs_signed] at hv
  rw [vW_numD e1]
  unfold flo
  rw [e1]
  simp only [Datum.integral, Format.write]
  generalize hk : Toward.down.cut s (m <<< e.toNat) (-e).toNat = q
  unfold Toward.cut at hk
  simp only [Nat.shiftLeft_eq, Nat.one_mul] at hk
  have wr : ∀ q : Nat, q < 9007199254740992 → numWD (double.nearest s q 0) = true ∧ vWD (double.nearest s q 0) = signed s q U := by
    intro q hq
    by_cases h0 : q = 0
    · subst h0
      have := nearest_0D s 0
      refine ⟨numW_ofD this, ?_⟩
      rw [vW_numD this, signed_eq, signed_eq]; simp
    · obtain ⟨q', last, r1, r2⟩ := nearest_exactD (neg := s) (mag := q) (c := q) (k := 0) (place := 0) (by simp) h0 hq (by omega) (by
        have := (Nat.log2_lt h0 (k := 53)).2 hq
        omega)
      refine ⟨numW_ofD r1, ?_⟩
      rw [vW_numD r1, signed_eq, signed_eq, r2]
      have e5 : ((0 : Int) + ((0 : Nat) : Int) + 1074).toNat = U := by rw [U_eq]; decide
      rw [e5]
  by_cases he : 0 ≤ e
  · have z : (-e).toNat = 0 := by omega
    have z2 : (e + 1074).toNat = e.toNat + U := by rw [U_eq]; omega
    rw [z, Nat.zero_min, Nat.pow_zero, Nat.mod_one] at hk
    simp only [Nat.div_one, bne_self_eq_false, Bool.and_false, Bool.toNat_false, Nat.add_zero] at hk
    subst hk
    have hs : m * 2 ^ e.toNat < 9007199254740992 := by
      have hv' : m * 2 ^ (e + 1074).toNat < 2 ^ 21 * 2 ^ U := Nat.lt_of_lt_of_le hv (by rw [← Nat.pow_add]; exact Nat.pow_le_pow_right (by decide) (by rw [U_eq]; omega))
      rw [z2, Nat.pow_add, ← Nat.mul_assoc] at hv'
      have := Nat.lt_of_mul_lt_mul_right hv'
      omega
    obtain ⟨w1, w2⟩ := wr _ hs
    have q1 : vWD (double.nearest s (m * 2 ^ e.toNat) 0) = signed s m (e + 1074).toNat := by
      rw [w2, signed_eq, signed_eq, z2, Nat.pow_add, ← Nat.mul_assoc]
    refine ⟨w1, ⟨(if s then -1 else 1) * ((m * 2 ^ e.toNat : Nat) : Int), ?_⟩, fun _ _ => q1⟩
    rw [w2, signed_eq, Int.natCast_mul _ (2 ^ U), Int.mul_assoc]
  · have z : e.toNat = 0 := by omega
    rw [z, Nat.pow_zero, Nat.mul_one] at hk
    obtain ⟨d, hd⟩ : ∃ d, min (-e).toNat (m.log2 + 2) = d := ⟨_, rfl⟩
    have hd0 : 0 < d := by omega
    rw [hd] at hk
    have hp := Nat.two_pow_pos d
    have hp2 : 2 ≤ 2 ^ d := by
      have := Nat.pow_le_pow_right (n := 2) (by omega) hd0
      omega
    have hdm := Nat.div_add_mod m (2 ^ d)
    have hlow : m / 2 ^ d * 2 ≤ m := Nat.le_trans (Nat.mul_le_mul_left _ hp2) (Nat.div_mul_le_self m _)
    have hq : q < 9007199254740992 := by
      have : (s && m % 2 ^ d != 0).toNat ≤ 1 := by cases (s && m % 2 ^ d != 0) <;> decide
      omega
    obtain ⟨w1, w2⟩ := wr _ hq
    refine ⟨w1, ⟨(if s then -1 else 1) * ((q : Nat) : Int), ?_⟩, ?_⟩
    · rw [w2, signed_eq, Int.natCast_mul q, Int.mul_assoc]
    · intro t ht
      rw [w2, ht]
      have hm : m = t.natAbs * 2 ^ (-e).toNat := by
        have := congrArg Int.natAbs ht
        rw [natAbs_signed, Int.natAbs_mul, Int.natAbs_natCast] at this
        have e3 : (2 : Nat) ^ U = 2 ^ (-e).toNat * 2 ^ (e + 1074).toNat := by rw [← Nat.pow_add]; congr 1; rw [U_eq]; omega
        rw [e3, ← Nat.mul_assoc] at this
        exact Nat.eq_of_mul_eq_mul_right (Nat.two_pow_pos _) this
      have hmd : m = m / 2 ^ d * 2 ^ d ∧ m % 2 ^ d = 0 ∧ m / 2 ^ d * 2 ^ U = m * 2 ^ (e + 1074).toNat := by
        by_cases hc : (-e).toNat ≤ m.log2 + 2
        · have : d = (-e).toNat := by omega
          subst this
          have q1 : m / 2 ^ (-e).toNat = t.natAbs := by
            conv => lhs; rw [hm]
            exact Nat.mul_div_cancel _ (Nat.two_pow_pos _)
          have q2 : m % 2 ^ (-e).toNat = 0 := by
            conv => lhs; rw [hm]
            exact Nat.mul_mod_left _ _
          refine ⟨by rw [q1]; exact hm, q2, ?_⟩
          rw [q1]
          have e3 : (2 : Nat) ^ U = 2 ^ (-e).toNat * 2 ^ (e + 1074).toNat := by rw [← Nat.pow_add]; congr 1; rw [U_eq]; omega
          rw [e3, ← Nat.mul_assoc, ← hm]
        · have l1 : m < 2 ^ (-e).toNat := Nat.lt_of_lt_of_le (Nat.lt_log2_self (n := m)) (Nat.pow_le_pow_right (by omega) (by omega))
          have : t.natAbs = 0 := by
            rcases Nat.eq_zero_or_pos t.natAbs with h | h
            · exact h
            · have := Nat.mul_le_mul_right (2 ^ (-e).toNat) h
              omega
          have m0 : m = 0 := by rw [hm, this, Nat.zero_mul]
          subst m0
          simp
      have hq2 : q = m / 2 ^ d := by
        rw [← hk, hmd.2.1]; simp
      rw [← ht, signed_eq, signed_eq, hq2, hmd.2.2]
end Go.Sx.U
