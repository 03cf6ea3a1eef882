/- A verified symbolic run of functions, part 7: lemmas, no claim of their own. -/
import Derived.Test.YtpfngnmgipnmlaaDoorS6
import Derived.Laws.BytesArg
import Derived.Laws.BytesString
import Derived.WalkSpells
/- The engine's steps are right: equality of data. -/
namespace Go.Sx
open Go.RowKit

section
variable {P : Program} {tt : TypeId → Option TD} {H : IH} {w : World}

/-- The value of data. -/
def VRd (H : IH) (d : TD) (t : Ty) (x : t.T) (v : Value) : Prop := (d.agg = true ∧ ∃ cs : Array Value, v = .agg cs ∧ Rd H t x cs.toList) ∨ (d.agg = false ∧ Rd H t x [v])

theorem part_vrd {T : TypeId} {d : TD} (hT : TDok P T d) {t : Ty} {x : t.T} {vals : Array Value} {off : Nat} (hd : t.sz = d.sz) (hs : d.agg = false → t.sz = 1) (hr : Rd H t x (seg vals off t.sz)) : ∃ u, (part T vals off).run P w = .ok u w ∧ VRd H d t x u := by
  cases hagg : d.agg with
  | true =>
    refine ⟨.agg (vals.extract off (off + d.sz)), by simp [part, run_isAgg hT, hagg, run_sizeOf hT], .inl ⟨hagg, _, rfl, ?_⟩⟩
    rw [hd] at hr
    simpa [seg, List.extract_eq_take_drop] using hr
  | false =>
    have hl := Rd.len _ _ _ hr
    rw [hs hagg] at hl
    obtain ⟨u, hu⟩ := List.length_eq_one_iff.1 hl
    rw [hs hagg] at hr
    have h0 := seg_get (c := vals) (o := off) (n := 1) (j := 0) (v := u) (by rw [hu]; rfl)
    rw [Nat.add_zero] at h0
    rw [hu] at hr
    exact ⟨u, by simp [part, run_isAgg hT, hagg, h0], .inr ⟨hagg, hr⟩⟩

theorem run_forIn_all {α : Type} (f : α → Option Bool × Unit → Sem (ForInStep (Option Bool × Unit))) (q : α → Bool) : ∀ (l : List α), (∀ a ∈ l, (f a (none, ())).run P w = .ok (if q a then .yield (none, ()) else .done (some false, ())) w) →
    (forIn l ((none, ()) : Option Bool × Unit) f).run P w = .ok (if l.all q then (none, ()) else (some false, ())) w
  | [], _ => by simp
  | a :: l, h => by
    rw [List.forIn_cons, Sem.run_bind, h a (by simp)]
    cases hq : q a with
    | true =>
      simp only [if_true, Result.andThen_ok, List.all_cons, hq, Bool.true_and]
      exact run_forIn_all f q l (fun b hb => h b (by simp [hb]))
    | false => simp [hq]

theorem eqChk_sz {n : Nat} {t : TypeId} {u : Ty} {d : TD} (hok : ∀ t d, tt t = some d → TDok P t d) (h : eqChk P tt n t u = true) (hd : tt t = some d) : u.sz = d.sz ∧ (d.agg = false → u.sz = 1) ∧ d.ty = some u := by
  cases n with
  | zero => simp [eqChk] at h
  | succ n =>
    simp only [eqChk, hd, Bool.and_eq_true, decide_eq_true_eq] at h
    have hT := hok t d hd
    refine ⟨(hT.ty u h.1).2, fun hag => ?_, h.1⟩
    have ha := hT.agg
    rw [hag] at ha
    unfold aggOf at ha
    obtain ⟨_, h2⟩ := h
    split at h2 <;> simp_all [Ty.sz]

theorem eq_ok (hok : ∀ t d, tt t = some d → TDok P t d) : ∀ n, (∀ t u, eqChk P tt n t u = true → ∀ d (x y : u.T) vx vy k, tt t = some d → VRd H d u x vx → VRd H d u y vy → (Op.equalIn (n + k) t vx vy).run P w = .ok (eqT u x y) w) ∧
    (∀ off fs u, eqFs P tt n off fs u = true → ∀ (xs ys : Array Value) (x y : u.T) k, Rd H u x (xs.toList.drop off) → Rd H u y (ys.toList.drop off) →
      (forIn fs ((none, ()) : Option Bool × Unit) (fun (f : Field) (_ : Option Bool × Unit) => (if f.name = "_" then pure (ForInStep.yield (none, ()))
            else do
              let p ← part f.type xs f.offset
              let q ← part f.type ys f.offset
              let e ← Op.equalIn (n + k) f.type p q
              if e = false then pure (ForInStep.done (some false, ())) else pure (ForInStep.yield (none, ())) : Sem (ForInStep (Option Bool × Unit))))).run P w = .ok (if eqT u x y then (none, ()) else (some false, ())) w)
  | 0 => ⟨fun t u h => by simp [eqChk] at h, fun off fs u h => by simp [eqFs] at h⟩
  | n + 1 => by
    obtain ⟨ih1, ih2⟩ := eq_ok hok n
    constructor
    · intro t u h d x y vx vy k hd hx hy
      have hT := hok t d hd
      simp only [eqChk, hd, Bool.and_eq_true, decide_eq_true_eq] at h
      obtain ⟨hty, h⟩ := h
      have hagg := hT.agg
      unfold aggOf at hagg
      have sc : ∀ {u : Ty} {x : u.T} {v : Value}, d.agg = false → VRd H d u x v → Rd H u x [v] := by
        rintro u x v hf (⟨h1, _⟩ | ⟨_, h2⟩)
        · rw [hf] at h1; cases h1
        · exact h2
      have ag : ∀ {u : Ty} {x : u.T} {v : Value}, d.agg = true → VRd H d u x v → ∃ cs : Array Value, v = .agg cs ∧ Rd H u x cs.toList := by
        rintro u x v hf (⟨_, h1⟩ | ⟨h2, _⟩)
        · exact h1
        · rw [hf] at h2; cases h2
      rw [show n + 1 + k = (n + k) + 1 by omega]
      split at h
      · rename_i k' hu
        simp only [decide_eq_true_eq] at h
        subst h
        rw [hu] at hagg
        have e1 := sc hagg.symm hx
        have e2 := sc hagg.symm hy
        simp only [Rd, List.cons.injEq, and_true] at e1 e2
        subst e1 e2
        simp [Op.equalIn, run_underlying hu, eqT]
      · rename_i hu
        simp only [decide_eq_true_eq] at h
        subst h
        rw [hu] at hagg
        have e1 := sc hagg.symm hx
        have e2 := sc hagg.symm hy
        simp only [Rd, List.cons.injEq, and_true] at e1 e2
        subst e1 e2
        simp [Op.equalIn, run_underlying hu, eqT]
      · rename_i hu
        simp only [decide_eq_true_eq] at h
        subst h
        rw [hu] at hagg
        have e1 := sc hagg.symm hx
        have e2 := sc hagg.symm hy
        simp only [Rd, List.cons.injEq, and_true] at e1 e2
        subst e1 e2
        have hb : ((⟨⟨x⟩⟩ : ByteArray) == ⟨⟨y⟩⟩) = (x == y) := by
          show ((⟨x⟩ : Array UInt8) == ⟨y⟩) = _
          simp
        simp [Op.equalIn, run_underlying hu, eqT, hb]
      · rename_i k' hu
        simp only [decide_eq_true_eq] at h
        subst h
        rw [hu] at hagg
        have e1 := sc hagg.symm hx
        have e2 := sc hagg.symm hy
        simp only [Rd, List.cons.injEq, and_true] at e1 e2
        subst e1 e2
        simp [Op.equalIn, run_underlying hu, eqT]
      · rename_i k' hu
        simp only [decide_eq_true_eq] at h
        subst h
        rw [hu] at hagg
        have e1 := sc hagg.symm hx
        have e2 := sc hagg.symm hy
        simp only [Rd, List.cons.injEq, and_true] at e1 e2
        subst e1 e2
        simp [Op.equalIn, run_underlying hu, eqT]
      · rename_i fs hu
        simp only [Bool.and_eq_true, Bool.not_eq_true'] at h
        rw [hu] at hagg
        obtain ⟨cx, rfl, hx'⟩ := ag hagg.symm hx
        obtain ⟨cy, rfl, hy'⟩ := ag hagg.symm hy
        have := ih2 0 fs.toList u h.2 cx cy x y k (by simpa using hx') (by simpa using hy')
        simp only [Op.equalIn, Sem.run_bind, run_underlying hu, Result.andThen_ok]
        simp only [run_program, Result.andThen_ok, h.1, Bool.false_eq_true, if_false, ne_eq, ite_not, Bool.not_eq_true']
        rw [← Array.forIn_toList, Sem.run_bind, this]
        cases eqT u x y <;> simp
      · rename_i m e hu
        rw [hu] at hagg
        split at h
        · rename_i m' v
          simp only [Bool.and_eq_true, decide_eq_true_eq] at h
          obtain ⟨rfl, h⟩ := h
          obtain ⟨cx, rfl, hx'⟩ := ag hagg.symm hx
          obtain ⟨cy, rfl, hy'⟩ := ag hagg.symm hy
          obtain ⟨de, hde⟩ : ∃ de, tt e = some de := by
            cases n with
            | zero => simp [eqChk] at h
            | succ n =>
              cases hh : tt e with
              | none => simp [eqChk, hh] at h
              | some de => exact ⟨de, rfl⟩
          have hTe := hok e de hde
          obtain ⟨s1, s2, _⟩ := eqChk_sz hok h hde
          obtain ⟨x1, x2, x3⟩ := hx'
          obtain ⟨y1, y2, y3⟩ := hy'
          simp only [Op.equalIn, Sem.run_bind, run_underlying hu, Result.andThen_ok, run_sizeOf hTe]
          rw [Std.Legacy.Range.forIn_eq_forIn_range']
          rw [run_forIn_all _ (fun i => eqT v (List.getD x i v.d) (List.getD y i v.d))]
          · simp only [Std.Legacy.Range.size, Nat.sub_zero, Nat.add_sub_cancel, Nat.div_one, eqT, List.range_eq_range']
            cases (List.range' 0 m).all fun i => eqT v (List.getD x i v.d) (List.getD y i v.d) <;> simp
          · intro i hi
            simp only [List.mem_range'_1, Std.Legacy.Range.size, Nat.sub_zero, Nat.add_sub_cancel, Nat.div_one, Nat.zero_add] at hi
            have hi' : i < m := hi.2
            have hm : (i + 1) * v.sz ≤ m * v.sz := Nat.mul_le_mul_right _ (by omega)
            rw [Nat.succ_mul] at hm
            obtain ⟨ux, a1, a2⟩ := part_vrd (w := w) hTe (x := x[i]'(by omega)) (vals := cx) (off := i * v.sz) s1 s2 (x3 i (by omega))
            obtain ⟨uy, b1, b2⟩ := part_vrd (w := w) hTe (x := y[i]'(by omega)) (vals := cy) (off := i * v.sz) s1 s2 (y3 i (by omega))
            have := ih1 e v h de _ _ ux uy k hde a2 b2
            rw [← s1]
            rw [getD_get (show i < List.length x by omega), getD_get (show i < List.length y by omega)]
            simp only [Sem.run_bind, a1, b1, this, Result.andThen_ok]
            cases eqT v (x[i]'(by omega)) (y[i]'(by omega)) <;> simp
        · cases h
      · cases h
    · intro off fs u h xs ys x y k hx hy
      have onef : ∀ (f : Field) (a : Ty) (p q : a.T), f.name ≠ "_" → f.offset = off → eqChk P tt n f.type a = true → Rd H a p (seg xs off a.sz) → Rd H a q (seg ys off a.sz) →
          ((if f.name = "_" then pure (ForInStep.yield (none, ()))
            else do
              let p ← part f.type xs f.offset
              let q ← part f.type ys f.offset
              let e ← Op.equalIn (n + 1 + k) f.type p q
              if e = false then pure (ForInStep.done (some false, ())) else pure (ForInStep.yield (none, ())) : Sem (ForInStep (Option Bool × Unit)))).run P w = .ok (if eqT a p q then .yield (none, ()) else .done (some false, ())) w := by
        intro f a p q h1 h2 h3 h4 h5
        obtain ⟨df, hdf⟩ : ∃ de, tt f.type = some de := by
          cases n with
          | zero => simp [eqChk] at h3
          | succ n =>
            cases hh : tt f.type with
            | none => simp [eqChk, hh] at h3
            | some de => exact ⟨de, rfl⟩
        obtain ⟨s1, s2, _⟩ := eqChk_sz hok h3 hdf
        obtain ⟨ux, a1, a2⟩ := part_vrd (w := w) (hok _ _ hdf) s1 s2 h4
        obtain ⟨uy, b1, b2⟩ := part_vrd (w := w) (hok _ _ hdf) s1 s2 h5
        have := ih1 f.type a h3 df p q ux uy (k + 1) hdf a2 b2
        rw [show n + (k + 1) = n + 1 + k by omega] at this
        rw [if_neg h1, h2]
        simp only [Sem.run_bind, a1, b1, this, Result.andThen_ok]
        cases eqT a p q <;> simp
      have whole : ∀ (vs : Array Value) (a : Ty) (p : a.T), Rd H a p (vs.toList.drop off) → Rd H a p (seg vs off a.sz) := by
        intro vs a p h
        unfold seg
        rw [List.take_of_length_le (by rw [Rd.len _ _ _ h]; exact Nat.le_refl _)]
        exact h
      match fs, u, x, y, h, hx, hy with
      | [], u, x, y, h, hx, hy => simp [eqFs] at h
      | [f], u, x, y, h, hx, hy =>
        simp only [eqFs, Bool.and_eq_true, decide_eq_true_eq] at h
        have := onef f u x y h.1.1 h.1.2 h.2 (whole _ _ _ hx) (whole _ _ _ hy)
        rw [List.forIn_cons, Sem.run_bind, this]
        cases eqT u x y <;> simp
      | f :: f2 :: r, .pair a b, x, y, h, hx, hy =>
        simp only [eqFs, Bool.and_eq_true, decide_eq_true_eq] at h
        have := onef f a x.1 y.1 h.1.1.1 h.1.1.2 h.1.2 hx.1 hy.1
        rw [List.forIn_cons, Sem.run_bind, this]
        have hx2 := hx.2
        have hy2 := hy.2
        rw [List.drop_drop] at hx2 hy2
        have tl := ih2 (off + a.sz) (f2 :: r) b h.2 xs ys x.2 y.2 (k + 1) hx2 hy2
        rw [show n + (k + 1) = n + 1 + k by omega] at tl
        cases he : eqT a x.1 y.1 with
        | true =>
          simp only [if_true, Result.andThen_ok, eqT, he, Bool.true_and]
          exact tl
        | false => simp [eqT, he]
      | f :: f2 :: r, .int _, x, y, h, hx, hy => simp [eqFs] at h
      | f :: f2 :: r, .bool, x, y, h, hx, hy => simp [eqFs] at h
      | f :: f2 :: r, .str, x, y, h, hx, hy => simp [eqFs] at h
      | f :: f2 :: r, .flt _, x, y, h, hx, hy => simp [eqFs] at h
      | f :: f2 :: r, .cpx _, x, y, h, hx, hy => simp [eqFs] at h
      | f :: f2 :: r, .sl _, x, y, h, hx, hy => simp [eqFs] at h
      | f :: f2 :: r, .arr _ _, x, y, h, hx, hy => simp [eqFs] at h
end

section
variable {E : Env} {w0 : Base} {B : Nat} {ρ : Nat → Value} {H : IH} {ob : List (Nat × Option AObj)} {nx : Nat} {w : World} {ev : Operand → Option SV} {a : Act} {o : Oper} {r : Res}

theorem sound_eq_agg (hE : EnvOk E) (I : Inv w0 B ρ H ob nx w) (hv : EvOk ρ H nx ev a) {op : BinOp} {T T' : TypeId} {x y : Operand} {d : TD} {u : Ty} {xs ys : List Ch} {p q : u.T} (ho : o.op = .binOp op T x y T') (hx : (ev x).bind val? = some (.agg xs)) (hy : (ev y).bind val? = some (.agg ys))
    (hT : E.tt T = some d) (hag : d.agg = true) (hu : d.ty = some u) (heq : E.eq T = true) (hp : ofV u (.agg xs) = some p) (hq : ofV u (.agg ys) = some q)
    (hop : (op = .eql ∧ rc (.bool (eqT u p q)) = some r) ∨ (op = .neq ∧ rc (.bool (!eqT u p q)) = some r)) : StepOk E.P o a w (Post w0 B ob nx ρ H r) := by
  obtain ⟨k1, _⟩ := hv.val hx
  obtain ⟨k2, _⟩ := hv.val hy
  obtain ⟨c1, c2⟩ := hE.eq T d u heq hT hu
  have rx := ofV_den I.one hp k1
  have ry := ofV_den I.one hq k2
  obtain ⟨vx, ex, _⟩ := k1
  obtain ⟨vy, ey, _⟩ := k2
  rw [ex] at rx
  rw [ey] at ry
  have hrun : (Op.equal T (.agg ⟨vx⟩) (.agg ⟨vy⟩)).run E.P w = .ok (eqT u p q) w :=
    (eq_ok (H := H) (w := w) hE.tt 16).1 T u c1 d p q _ _ 9984 hT (.inl ⟨hag, _, rfl, rx⟩) (.inl ⟨hag, _, rfl, ry⟩)
  have hg : ∀ op, (eqGuard op T x y (.agg ⟨vx⟩) (.agg ⟨vy⟩)).run E.P w = .ok () w := by
    intro op
    cases op <;> simp [eqGuard, c2]
  rcases hop with ⟨rfl, hr⟩ | ⟨rfl, hr⟩
  · exact ok_rc I hr (v := .bool (eqT u p q)) (run_bin ho ex ey (hg _) (by simp [binOp, hrun])) rfl trivial
  · exact ok_rc I hr (v := .bool (!eqT u p q)) (run_bin ho ex ey (hg _) (by simp [binOp, hrun])) rfl trivial

theorem sc_u8 {P : Program} {t : TypeId} {d : TD} (h : TDok P t d) (h1 : d.kind = .sc) (h2 : d.ty = some (.int .u8)) : P.underlying t = some (.int .u8) := by
  have := h.sc _ h1 h2
  unfold scOk at this
  split at this <;> simp_all

theorem sound_bytes_str (hE : EnvOk E) (I : Inv w0 B ρ H ob nx w) (hv : EvOk ρ H nx ev a) {S T e : TypeId} {x : Operand} {d d' de : TD} {c : C} {xs : List Int} (ho : o.op = .convert S T x) (hS : E.tt S = some d) (hk : d.kind = .slc e) (hT : E.tt T = some d') (hk' : d'.kind = .sc) (ht' : d'.ty = some .str)
    (he : E.tt e = some de) (hke : de.kind = .sc) (hte : de.ty = some (.int .u8)) (hx : (ev x).bind one? = some c) (hrow : rowAs (lookO ob) (.int .u8) c = some xs) (hr : r = ⟨rowP (lookO ob) c, some (.val (.one (.str (bytesOf xs)))), []⟩) (hc : ∀ q ∈ r.cs, q) : StepOk E.P o a w (Post w0 B ob nx ρ H r) := by
  subst hr
  obtain ⟨k1, _⟩ := hv.one hx
  have hu1 := (hE.tt S d hS).slc e hk
  have hu2 := sc_u8 (hE.tt e de he) hke hte
  have hu3 := sc_str (hE.tt T d' hT) hk' ht'
  obtain ⟨aa, cap, q1, q2, q3⟩ := rowAs_shows I hrow (by simp [Ty.sz]) k1 hc
  refine .inl ⟨.string ⟨⟨bytesOf xs⟩⟩, w, ?_, post_same I rfl trivial⟩
  have hconv : (convert S T (a.eval x)).run E.P w = .ok (.string ⟨⟨bytesOf xs⟩⟩) w := by
    rw [q1]
    cases aa with
    | none =>
      rcases q3 with q3 | ⟨_, _, _, _, _, q3, _⟩
      · have : xs = [] := List.length_eq_zero_iff.1 q3
        subst this
        exact run_convert_bytes_nil w S e hu1 hu2 _ _ T hu3
      · cases q3
    | some ad =>
      rcases q3 with q3 | ⟨b, off, cc, ee, fr, q4, q5, q6, q7⟩
      · have : xs = [] := List.length_eq_zero_iff.1 q3
        subst this
        rw [run_convert_bytes_string w S T e _ _ cap hu1 hu2 hu3]
        have hl : (loadCells ad 0).run E.P w = .ok (([] : List Int).map (Value.int .u8)).toArray w := by
          have := run_loadCells_list (P := E.P) w ad [] (by simp)
          simpa using this
        rw [show (List.length ([] : List Int)) = 0 from rfl, run_bytesToString w ad 0 cap [] hl]
        rfl
      · cases q4
        have := run_convert_bytes_arg (P := E.P) w S e hu1 hu2 b off xs.length cap xs rfl (fun i hi => by
          have h7 := q7 i hi
          simp only [Rd, Ty.sz, Nat.mul_one] at h7
          have h8 := cell_seg q5 (o := off + i) (n := 1) 0 _ (by rw [h7]; rfl)
          rw [addr_add, Nat.add_zero] at h8
          rw [h8, getD_get hi]) T hu3
        rw [this]
        rfl
  simp [execOp, ho, hconv]

/-! ### Parts of a row of one's own, written anew. -/

theorem row_write (I : Inv w0 B ρ H ob nx w) {id : Nat} {t : Ty} {xs ys : List t.T} {lo : Nat} {us : List Value} (hrow : lookO ob id = some (.row t xs)) (hle : lo + ys.length ≤ xs.length) (hpos : 0 < ys.length) (hul : us.length = ys.length * t.sz)
    (hr : ∀ i (h : i < ys.length), Rd H t ys[i] ((us.drop (i * t.sz)).take t.sz)) :
    ∃ g cur e, HB (ρ id) g ∧ w.heap[g]? = some (.cells cur e (0, 0)) ∧ lo * t.sz + us.length ≤ cur.size ∧
      Inv w0 B ρ H ((id, some (.row t (xs.take lo ++ ys ++ xs.drop (lo + ys.length)))) :: ob) nx (w.setRow g (cur.toList.take (lo * t.sz) ++ us ++ cur.toList.drop (lo * t.sz + us.length)).toArray) := by
  rcases (I.objs id _ hrow).2.2 with ⟨_, h⟩ | ⟨g, cap, cur, e, k1, k2, k3, k4, k5, k6, k7, k8⟩
  · subst h; simp only [List.length_nil] at hle; omega
  · have hcap : xs.length * t.sz ≤ cap * t.sz := Nat.mul_le_mul_right _ k5
    have hlm : (lo + ys.length) * t.sz ≤ xs.length * t.sz := Nat.mul_le_mul_right _ hle
    rw [Nat.add_mul] at hlm
    have hfit : lo * t.sz + us.length ≤ cur.size := by omega
    refine ⟨g, cur, e, .inr (.inl ⟨_, _, k1⟩), k4, hfit, I.put hrow (.inr (.inl ⟨_, _, k1⟩)) k4 trivial ?_⟩
    have hlen : (xs.take lo ++ ys ++ xs.drop (lo + ys.length)).length = xs.length := by simp; omega
    refine .inr ⟨g, cap, _, e, by rw [hlen]; exact k1, k2, k3, heap_setRow_at k4, by rw [hlen]; exact k5, k6, ?_, fun i hi => ?_⟩
    · rw [splice_size cur _ _ us rfl hfit]; exact k7
    · have hi' : i < xs.length := by rw [hlen] at hi; exact hi
      by_cases h1 : i < lo
      · have e1 : (xs.take lo ++ ys ++ xs.drop (lo + ys.length))[i] = xs[i] := by
          rw [List.getElem_append_left (by simp; omega), List.getElem_append_left (by simp; omega)]
          simp
        rw [e1, splice_seg cur _ _ us rfl hfit (i * t.sz) t.sz (.inl (by
          have : (i + 1) * t.sz ≤ lo * t.sz := Nat.mul_le_mul_right _ (by omega)
          rw [Nat.succ_mul] at this; omega))]
        exact k8 i hi'
      · by_cases h2 : i < lo + ys.length
        · have e1 : (xs.take lo ++ ys ++ xs.drop (lo + ys.length))[i] = ys[i - lo]'(by omega) := by
            rw [List.getElem_append_left (by simp; omega), List.getElem_append_right (by simp; omega)]
            congr 1
            simp; omega
          rw [e1]
          have hs := splice_same cur (lo * t.sz) us.length us rfl hfit
          have hm : (i - lo + 1) * t.sz ≤ ys.length * t.sz := Nat.mul_le_mul_right _ (by omega)
          rw [Nat.succ_mul] at hm
          have hi2 : i * t.sz = lo * t.sz + (i - lo) * t.sz := by rw [← Nat.add_mul]; congr 1; omega
          have := seg_seg (c := (cur.toList.take (lo * t.sz) ++ us ++ cur.toList.drop (lo * t.sz + us.length)).toArray) (o := lo * t.sz) (n := us.length) (p := (i - lo) * t.sz) (m := t.sz) (by omega)
          rw [hs, ← hi2] at this
          rw [← this]
          exact hr (i - lo) (by omega)
        · have e1 : (xs.take lo ++ ys ++ xs.drop (lo + ys.length))[i] = xs[i] := by
            rw [List.getElem_append_right (by simp; omega)]
            simp only [List.getElem_drop]
            congr 1
            simp; omega
          rw [e1, splice_seg cur _ _ us rfl hfit (i * t.sz) t.sz (.inr (by
            have : (lo + ys.length) * t.sz ≤ i * t.sz := Nat.mul_le_mul_right _ (by omega)
            rw [Nat.add_mul] at this; omega))]
          exact k8 i hi'

theorem partOf_ok (I : Inv w0 B ρ H ob nx w) {t : Ty} {c : C} {v : Value} {id lo n : Nat} {xs : List t.T} (h : partOf (lookO ob) t c = some (id, lo, n, xs)) (hd : DenC ρ H c v) (hle : lo + n ≤ xs.length) :
    lookO ob id = some (.row t xs) ∧ ∃ ad cap, v = .slice ad n cap ∧ (n ≠ 0 → ∃ g, HB (ρ id) g ∧ ad = some ⟨g, lo * t.sz, none⟩) := by
  unfold partOf at h
  split at h
  · rename_i id'
    split at h
    · rename_i t' xs' hrow
      split at h
      · rename_i e
        subst e
        cases h
        refine ⟨hrow, ?_⟩
        have hv : v = ρ id := hd
        rcases (I.objs _ _ hrow).2.2 with ⟨q1, q2⟩ | ⟨g, cap, cur, e, q1, _⟩
        · refine ⟨none, 0, by rw [hv, q1, q2]; rfl, fun hn => ?_⟩
          rw [q2] at hn; exact absurd rfl hn
        · exact ⟨_, cap, by rw [hv, q1], fun _ => ⟨g, .inr (.inl ⟨_, _, q1⟩), by simp⟩⟩
      · cases h
    · cases h
  · rename_i id' sz lo' n'
    split at h
    · rename_i t' xs' hrow
      split at h
      · rename_i e
        obtain ⟨rfl, rfl⟩ := e
        cases h
        refine ⟨hrow, ?_⟩
        rcases hd with ⟨b, cap, q1, q2, _⟩ | ⟨q1, ad, cap, q2⟩
        · exact ⟨_, cap, q2, fun _ => ⟨b, q1, by simp⟩⟩
        · exact ⟨ad, cap, by rw [q2, q1], fun hn => absurd q1 hn⟩
      · cases h
    · cases h
  · cases h

theorem Inv.again (I : Inv w0 B ρ H ob nx w) {id : Nat} {p : AObj} (h : lookO ob id = some p) : Inv w0 B ρ H ((id, some p) :: ob) nx w := by
  have key : ∀ j q, lookO ((id, some p) :: ob) j = some q → lookO ob j = some q := by
    intro j q hq
    rw [lookO_cons] at hq
    split at hq
    · rename_i e; rw [← e, h]; exact hq
    · exact hq
  exact ⟨I.below, I.bsz, I.one, I.agree, fun j q hq => I.objs j q (key j q hq), fun i j q q' hij h1 h2 => I.sep i j q q' hij (key _ _ h1) (key _ _ h2), fun k hk => let ⟨k1, k2, k3, k4⟩ := I.kp k hk; ⟨k1, k2, k3, fun j q hq => k4 j q (key _ _ hq)⟩⟩

theorem post_put {w' : World} {id : Nat} {p : AObj} {cs : List Prop} {sv : Option SV} {v : Value} (I' : Inv w0 B ρ H ((id, some p) :: ob) nx w') (hs : ∀ x, sv = some x → DenSV ρ H x v ∧ x.lt nx) : Post w0 B ob nx ρ H ⟨cs, sv, [(id, some p)]⟩ v w' :=
  ⟨ρ, H, I'.more (Nat.le_add_right _ _), HLe.refl _, REq.refl _ _, fun x hx => ⟨(hs x hx).1, (hs x hx).2.mono (Nat.le_add_right _ _)⟩⟩

theorem sound_clear (hE : EnvOk E) (I : Inv w0 B ρ H ob nx w) {T e : TypeId} {x : Operand} {d de : TD} {t : Ty} {c : C} {id lo n : Nat} {xs : List t.T} (ho : o.op = .call ⟨.builtin .clear, #[x], #[T]⟩) (hT : E.tt T = some d) (hk : d.kind = .slc e) (he : E.tt e = some de) (ht : de.ty = some t)
    (hx : DenC ρ H c (a.eval x)) (hp : partOf (lookO ob) t c = some (id, lo, n, xs)) (hr : r = ⟨[lo + n ≤ xs.length], none, [(id, some (.row t (xs.take lo ++ List.replicate n t.d ++ xs.drop (lo + n))))]⟩) (hc : ∀ q ∈ r.cs, q) : StepOk E.P o a w (Post w0 B ob nx ρ H r) := by
  subst hr
  have hle : lo + n ≤ xs.length := hc _ (by simp)
  obtain ⟨hrow, ad, cap, hv, hg⟩ := partOf_ok I hp hx hle
  have hu := (hE.tt T d hT).slc e hk
  by_cases hn : n = 0
  · subst hn
    refine .inl ⟨.tuple #[], w, by cases ad <;> simp [execOp, ho, resolve, invoke, builtin, Builtin.clear_, run_underlying hu, hv], post_put ?_ (by simp)⟩
    have : xs.take lo ++ List.replicate 0 t.d ++ xs.drop (lo + 0) = xs := by simp
    rw [this]
    exact I.again hrow
  · obtain ⟨g, hg1, rfl⟩ := hg hn
    obtain ⟨i, z, g1, g2, g3, g4, g5, g6⟩ := (hE.tt e de he).info
    have hzr := g6 t ht H
    have hzs : z.cells.size = t.sz := by simpa using Rd.len _ _ _ hzr
    have hus : (Builtin.zeroCells z.cells n).toList.length = (List.replicate n t.d).length * t.sz := by simp [Builtin.zeroCells, hzs]
    obtain ⟨g', cur, e', q1, q2, q3, q4⟩ := row_write I (lo := lo) (ys := List.replicate n t.d) (us := (Builtin.zeroCells z.cells n).toList) hrow (by simpa using hle) (by simp; omega) hus (fun j hj => by
      have hj' : j < n := by simpa using hj
      have hm := made_seg z.cells n j hj'
      unfold seg at hm
      rw [List.getElem_replicate, ← hzs]
      have e1 : Builtin.zeroCells z.cells n = madeCells z.cells (n * z.cells.size) := rfl
      rw [e1, hm]
      exact hzr)
    have := HB.uniq hg1 q1
    subst this
    have hone : ∀ v ∈ (Builtin.zeroCells z.cells n).toList, v.oneCell' = true := by
      intro v hv
      simp only [Builtin.zeroCells, Array.toList_map, List.mem_map, Array.mem_toList_iff, Array.mem_range] at hv
      obtain ⟨j, hj, rfl⟩ := hv
      have hz0 : 0 < z.cells.size := by
        rcases Nat.eq_zero_or_pos z.cells.size with h | h
        · rw [h] at hj; simp at hj
        · exact h
      have hlt := Nat.mod_lt j hz0
      rw [getElem!_pos z.cells (j % z.cells.size) hlt]
      exact Rd.one _ _ _ hzr _ (by simp)
    have hst := run_storeCells_at (P := E.P) g (lo * t.sz) e' (Builtin.zeroCells z.cells n).toList 0 cur w q2 (by simpa using q3) hone
    simp only [Nat.add_zero] at hst
    simp only [List.length_replicate] at q4
    refine .inl ⟨.tuple #[], _, ?_, post_put q4 (by simp)⟩
    have hz : (zeroValue e).run E.P w = .ok z w := by simp [zeroValue, typeInfo, g1, g4]
    cases n with
    | zero => exact absurd rfl hn
    | succ n => simp [execOp, ho, resolve, invoke, builtin, Builtin.clear_, run_underlying hu, hv, hz, hst]

theorem sound_copy (hE : EnvOk E) (I : Inv w0 B ρ H ob nx w) {T e : TypeId} {x y : Operand} {d de : TD} {t : Ty} {c s : C} {id lo n : Nat} {xs ys : List t.T} (ho : o.op = .call ⟨.builtin .copy, #[x, y], #[T, T]⟩) (hT : E.tt T = some d) (hk : d.kind = .slc e) (he : E.tt e = some de) (ht : de.ty = some t)
    (hx : DenC ρ H c (a.eval x)) (hy : DenC ρ H s (a.eval y)) (hp : partOf (lookO ob) t c = some (id, lo, n, xs)) (hs : rowAs (lookO ob) t s = some ys)
    (hr : r = ⟨rowP (lookO ob) s ++ [lo + n ≤ xs.length], some (.val (.one (.int .i64 ((min ys.length n : Nat) : Int)))), [(id, some (.row t (xs.take lo ++ ys.take n ++ xs.drop (lo + min ys.length n))))]⟩) (hc : ∀ q ∈ r.cs, q) : StepOk E.P o a w (Post w0 B ob nx ρ H r) := by
  subst hr
  simp only [List.mem_append, List.mem_singleton] at hc
  have hle : lo + n ≤ xs.length := hc _ (.inr rfl)
  obtain ⟨hrow, ad, cap, hv, hg⟩ := partOf_ok I hp hx hle
  have hu := (hE.tt T d hT).slc e hk
  have hz : t.sz ≠ 0 := by rw [((hE.tt e de he).ty t ht).2]; exact (hE.tt e de he).pos
  obtain ⟨aa, cap', s1, s2, s3⟩ := rowAs_shows I hs hz hy (fun p hp => hc p (.inl hp))
  have hsz := run_sizeOf (w := w) (hE.tt e de he)
  have hd := ((hE.tt e de he).ty t ht).2
  rw [← hd] at hsz
  have hint : goInt ((min ys.length n : Nat) : Int) = .int .i64 ((min ys.length n : Nat) : Int) := rfl
  by_cases hn : min ys.length n = 0
  · have hrun : (Builtin.copy_ #[T, T] o.type #[a.eval x, a.eval y]).run E.P w = .ok (goInt 0) w := by
      have hmin : Nat.min ys.length n = 0 := hn
      cases aa with
      | none => cases ad <;> simp [Builtin.copy_, run_underlying hu, hv, s1, Builtin.lenOf, hsz, Builtin.firstCells, storeCells, hmin]
      | some b =>
        have hl : (loadCells b 0).run E.P w = .ok #[] w := by
          have := run_loadCells_list (P := E.P) w b [] (by simp)
          simpa using this
        cases ad <;> simp [Builtin.copy_, run_underlying hu, hv, s1, Builtin.lenOf, hsz, Builtin.firstCells, storeCells, hmin, hl]
    refine .inl ⟨goInt 0, w, by simp [execOp, ho, resolve, invoke, builtin, hrun], post_put ?_ (by intro x hx; cases hx; rw [hn]; exact ⟨rfl, trivial⟩)⟩
    have : xs.take lo ++ ys.take n ++ xs.drop (lo + min ys.length n) = xs := by
      have h0 : ys.take n = [] := List.length_eq_zero_iff.1 (by rw [List.length_take, Nat.min_comm]; exact hn)
      rw [hn, h0]; simp
    rw [this]
    exact I.again hrow
  · obtain ⟨g, hg1, rfl⟩ := hg (by omega)
    rcases s3 with s3 | ⟨b, off, cc, ee, fr, rfl, s4, s5, s6⟩
    · omega
    · have hm : min ys.length n * t.sz ≤ ys.length * t.sz := Nat.mul_le_mul_right _ (Nat.min_le_left _ _)
      have hfit : off + min ys.length n * t.sz ≤ cc.size := by omega
      have hul : (seg cc off (min ys.length n * t.sz)).length = (ys.take n).length * t.sz := by rw [seg_len hfit]; simp [Nat.min_comm]
      obtain ⟨g', cur, e', q1, q2, q3, q4⟩ := row_write I (lo := lo) (ys := ys.take n) (us := seg cc off (min ys.length n * t.sz)) hrow (by simp; omega) (by simp; omega) hul (fun j hj => by
        have hj' : j < min ys.length n := by simp at hj; omega
        have hjm : (j + 1) * t.sz ≤ min ys.length n * t.sz := Nat.mul_le_mul_right _ (by omega)
        rw [Nat.succ_mul] at hjm
        rw [seg_seg (by omega), List.getElem_take]
        exact s6 j (by omega))
      have := HB.uniq hg1 q1
      subst this
      have hone : ∀ v ∈ seg cc off (min ys.length n * t.sz), v.oneCell' = true := by
        refine row_one (t := t) (ys := ys.take n) hul (H := H) (fun j hj => ?_)
        have hj' : j < min ys.length n := by simp at hj; omega
        have hjm : (j + 1) * t.sz ≤ min ys.length n * t.sz := Nat.mul_le_mul_right _ (by omega)
        rw [Nat.succ_mul] at hjm
        rw [seg_seg (by omega), List.getElem_take]
        exact s6 j (by omega)
      have hst := run_storeCells_at (P := E.P) g (lo * t.sz) e' (seg cc off (min ys.length n * t.sz)) 0 cur w q2 (by simpa using q3) hone
      simp only [Nat.add_zero] at hst
      have hl : (loadCells ⟨b, off, none⟩ (min ys.length n * t.sz)).run E.P w = .ok (seg cc off (min ys.length n * t.sz)).toArray w := by
        have := run_loadCells_list (P := E.P) w ⟨b, off, none⟩ (seg cc off (min ys.length n * t.sz)) (fun j v hj => cell_seg s4 j v hj)
        rw [seg_len hfit] at this
        exact this
      have hlen : (ys.take n).length = min ys.length n := by simp [Nat.min_comm]
      rw [hlen] at q4
      have hmin : Nat.min ys.length n = min ys.length n := rfl
      refine .inl ⟨goInt ((min ys.length n : Nat) : Int), _, ?_, post_put q4 (by intro x hx; cases hx; exact ⟨hint, trivial⟩)⟩
      simp [execOp, ho, resolve, invoke, builtin, Builtin.copy_, run_underlying hu, hv, s1, Builtin.lenOf, hsz, Builtin.firstCells, hmin, hl, hst]
end
end Go.Sx
