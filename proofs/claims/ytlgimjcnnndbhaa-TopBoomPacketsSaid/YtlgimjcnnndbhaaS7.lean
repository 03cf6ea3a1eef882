/- A verified symbolic run of functions, part 7: lemmas, no claim of their own. -/
import Derived.Test.YtlgimjcnnndbhaaS6
import Derived.Laws.BytesArg
import Derived.Laws.BytesString
import Derived.Laws.IdiomStrings
import Derived.WalkSpells
import Derived.MapKept
namespace Go.Sx
open Go.RowKit
section
variable {P : Program} {tt : TypeId → Option TD} {H : IH} {w : World}
def VRd (H : IH) (d : TD) (t : Ty) (x : t.T) (v : Value) : Prop := (d.agg = true ∧ ∃ cs : Array Value, v = .agg cs ∧ Rd H t x cs.toList) ∨ (d.agg = false ∧ Rd H t x [v])
theorem part_vrd {T : TypeId} {d : TD} (hT : TDok P T d) {t : Ty} {x : t.T} {vals : Array Value} {off : Nat} (hd : t.sz = d.sz) (hs : d.agg = false → t.sz = 1) (hr : Rd H t x (seg vals off t.sz)) : ∃ u, (part T vals off).run P w = .ok u w ∧ VRd H d t x u := by
  cases hagg : d.agg with
  | true =>
    refine ⟨.agg (vals.extract off (off + d.sz)), by simp [part, run_isAgg hT, hagg, run_sizeOf hT], .inl ⟨hagg, _, rfl, ?_⟩⟩
    rw [hd] at hr
    simpa [seg, List.extract_eq_take_drop] using hr
  | false =>
    have hl := Rd.len _ _ _ hr
    rw [hs hagg] at hl
    obtain ⟨u, hu⟩ := List.length_eq_one_iff.1 hl
    rw [hs hagg] at hr
    have h0 := seg_get (c := vals) (o := off) (n := 1) (j := 0) (v := u) (by rw [hu]; rfl)
    rw [Nat.add_zero] at h0
    rw [hu] at hr
    exact ⟨u, by simp [part, run_isAgg hT, hagg, h0], .inr ⟨hagg, hr⟩⟩
theorem run_forIn_all {α : Type} (f : α → Option Bool × Unit → Sem (ForInStep (Option Bool × Unit))) (q : α → Bool) : ∀ (l : List α), (∀ a ∈ l, (f a (none, ())).run P w = .ok (if q a then .yield (none, ()) else .done (some false, ())) w) →
    (forIn l ((none, ()) : Option Bool × Unit) f).run P w = .ok (if l.all q then (none, ()) else (some false, ())) w
  | [], _ => by simp
  | a :: l, h => by
    rw [List.forIn_cons, Sem.run_bind, h a (by simp)]
    cases hq : q a with
    | true =>
      simp only [if_true, Result.andThen_ok, List.all_cons, hq, Bool.true_and]
      exact run_forIn_all f q l (fun b hb => h b (by simp [hb]))
    | false => simp [hq]
theorem eqChk_sz {n : Nat} {t : TypeId} {u : Ty} {d : TD} (hok : ∀ t d, tt t = some d → TDok P t d) (h : eqChk P tt n t u = true) (hd : tt t = some d) : u.sz = d.sz ∧ (d.agg = false → u.sz = 1) ∧ d.ty = some u := by
  cases n with
  | zero => simp [eqChk] at h
  | succ n =>
    simp only [eqChk, hd, Bool.and_eq_true, decide_eq_true_eq] at h
    have hT := hok t d hd
    refine ⟨(hT.ty u h.1).2, fun hag => ?_, h.1⟩
    have ha := hT.agg
    rw [hag] at ha
    unfold aggOf at ha
    obtain ⟨_, h2⟩ := h
    split at h2 <;> simp_all [Ty.sz]
theorem eq_ok (hok : ∀ t d, tt t = some d → TDok P t d) : ∀ n, (∀ t u, eqChk P tt n t u = true → ∀ d (x y : u.T) vx vy k, tt t = some d → VRd H d u x vx → VRd H d u y vy → (Op.equalIn (n + k) t vx vy).run P w = .ok (eqT u x y) w) ∧
    (∀ off fs u, eqFs P tt n off fs u = true → ∀ (xs ys : Array Value) (x y : u.T) k, Rd H u x (xs.toList.drop off) → Rd H u y (ys.toList.drop off) →
      (forIn fs ((none, ()) : Option Bool × Unit) (fun (f : Field) (_ : Option Bool × Unit) => (if f.name = "_" then pure (ForInStep.yield (none, ()))
            else do
              let p ← part f.type xs f.offset
              let q ← part f.type ys f.offset
              let e ← Op.equalIn (n + k) f.type p q
              if e = false then pure (ForInStep.done (some false, ())) else pure (ForInStep.yield (none, ())) : Sem (ForInStep (Option Bool × Unit))))).run P w = .ok (if eqT u x y then (none, ()) else (some false, ())) w)
  | 0 => ⟨fun t u h => by simp [eqChk] at h, fun off fs u h => by simp [eqFs] at h⟩
  | n + 1 => by
    obtain ⟨ih1, ih2⟩ := eq_ok hok n
    constructor
    · intro t u h d x y vx vy k hd hx hy
      have hT := hok t d hd
      simp only [eqChk, hd, Bool.and_eq_true, decide_eq_true_eq] at h
      obtain ⟨hty, h⟩ := h
      have hagg := hT.agg
      unfold aggOf at hagg
      have sc : ∀ {u : Ty} {x : u.T} {v : Value}, d.agg = false → VRd H d u x v → Rd H u x [v] := by
        rintro u x v hf (⟨h1, _⟩ | ⟨_, h2⟩)
        · rw [hf] at h1; cases h1
        · exact h2
      have ag : ∀ {u : Ty} {x : u.T} {v : Value}, d.agg = true → VRd H d u x v → ∃ cs : Array Value, v = .agg cs ∧ Rd H u x cs.toList := by
        rintro u x v hf (⟨_, h1⟩ | ⟨h2, _⟩)
        · exact h1
        · rw [hf] at h2; cases h2
      rw [show n + 1 + k = (n + k) + 1 by omega]
      split at h
      · rename_i k' hu
        simp only [decide_eq_true_eq] at h
        subst h
        rw [hu] at hagg
        have e1 := sc hagg.symm hx
        have e2 := sc hagg.symm hy
        simp only [Rd, List.cons.injEq, and_true] at e1 e2
        subst e1 e2
        simp [Op.equalIn, run_underlying hu, eqT]
      · rename_i hu
        simp only [decide_eq_true_eq] at h
        subst h
        rw [hu] at hagg
        have e1 := sc hagg.symm hx
        have e2 := sc hagg.symm hy
        simp only [Rd, List.cons.injEq, and_true] at e1 e2
        subst e1 e2
        simp [Op.equalIn, run_underlying hu, eqT]
      · rename_i hu
        simp only [decide_eq_true_eq] at h
        subst h
        rw [hu] at hagg
        have e1 := sc hagg.symm hx
        have e2 := sc hagg.symm hy
        simp only [Rd, List.cons.injEq, and_true] at e1 e2
        subst e1 e2
        have hb : ((⟨⟨x⟩⟩ : ByteArray) == ⟨⟨y⟩⟩) = (x == y) := by
          show ((⟨x⟩ : Array UInt8) == ⟨y⟩) = _
          simp
        simp [Op.equalIn, run_underlying hu, eqT, hb]
      · rename_i k' hu
        simp only [decide_eq_true_eq] at h
        subst h
        rw [hu] at hagg
        have e1 := sc hagg.symm hx
        have e2 := sc hagg.symm hy
        simp only [Rd, List.cons.injEq, and_true] at e1 e2
        subst e1 e2
        simp [Op.equalIn, run_underlying hu, eqT]
      · rename_i k' hu
        simp only [decide_eq_true_eq] at h
        subst h
        rw [hu] at hagg
        have e1 := sc hagg.symm hx
        have e2 := sc hagg.symm hy
        simp only [Rd, List.cons.injEq, and_true] at e1 e2
        subst e1 e2
        simp [Op.equalIn, run_underlying hu, eqT]
      · rename_i fs hu
        simp only [Bool.and_eq_true, Bool.not_eq_true'] at h
        rw [hu] at hagg
        obtain ⟨cx, rfl, hx'⟩ := ag hagg.symm hx
        obtain ⟨cy, rfl, hy'⟩ := ag hagg.symm hy
        have := ih2 0 fs.toList u h.2 cx cy x y k (by simpa using hx') (by simpa using hy')
        simp only [Op.equalIn, Sem.run_bind, run_underlying hu, Result.andThen_ok]
        simp only [run_program, Result.andThen_ok, h.1, Bool.false_eq_true, if_false, ne_eq, ite_not, Bool.not_eq_true']
        rw [← Array.forIn_toList, Sem.run_bind, this]
        cases eqT u x y <;> simp
      · rename_i m e hu
        rw [hu] at hagg
        split at h
        · rename_i m' v
          simp only [Bool.and_eq_true, decide_eq_true_eq] at h
          obtain ⟨rfl, h⟩ := h
          obtain ⟨cx, rfl, hx'⟩ := ag hagg.symm hx
          obtain ⟨cy, rfl, hy'⟩ := ag hagg.symm hy
          obtain ⟨de, hde⟩ : ∃ de, tt e = some de := by
            cases n with
            | zero => simp [eqChk] at h
            | succ n =>
              cases hh : tt e with
              | none => simp [eqChk, hh] at h
              | some de => exact ⟨de, rfl⟩
          have hTe := hok e de hde
          obtain ⟨s1, s2, _⟩ := eqChk_sz hok h hde
          obtain ⟨x1, x2, x3⟩ := hx'
          obtain ⟨y1, y2, y3⟩ := hy'
          simp only [Op.equalIn, Sem.run_bind, run_underlying hu, Result.andThen_ok, run_sizeOf hTe]
          rw [Std.Legacy.Range.forIn_eq_forIn_range']
          rw [run_forIn_all _ (fun i => eqT v (List.getD x i v.d) (List.getD y i v.d))]
          · simp only [Std.Legacy.Range.size, Nat.sub_zero, Nat.add_sub_cancel, Nat.div_one, eqT, List.range_eq_range']
            cases (List.range' 0 m).all fun i => eqT v (List.getD x i v.d) (List.getD y i v.d) <;> simp
          · intro i hi
            simp only [List.mem_range'_1, Std.Legacy.Range.size, Nat.sub_zero, Nat.add_sub_cancel, Nat.div_one, Nat.zero_add] at hi
            have hi' : i < m := hi.2
            have hm : (i + 1) * v.sz ≤ m * v.sz := Nat.mul_le_mul_right _ (by omega)
            rw [Nat.succ_mul] at hm
            obtain ⟨ux, a1, a2⟩ := part_vrd (w := w) hTe (x := x[i]'(by omega)) (vals := cx) (off := i * v.sz) s1 s2 (x3 i (by omega))
            obtain ⟨uy, b1, b2⟩ := part_vrd (w := w) hTe (x := y[i]'(by omega)) (vals := cy) (off := i * v.sz) s1 s2 (y3 i (by omega))
            have := ih1 e v h de _ _ ux uy k hde a2 b2
            rw [← s1]
            rw [getD_get (show i < List.length x by omega), getD_get (show i < List.length y by omega)]
            simp only [Sem.run_bind, a1, b1, this, Result.andThen_ok]
            cases eqT v (x[i]'(by omega)) (y[i]'(by omega)) <;> simp
        · cases h
      · cases h
    · intro off fs u h xs ys x y k hx hy
      have onef : ∀ (f : Field) (a : Ty) (p q : a.T), f.name ≠ "_" → f.offset = off → eqChk P tt n f.type a = true → Rd H a p (seg xs off a.sz) → Rd H a q (seg ys off a.sz) →
          ((if f.name = "_" then pure (ForInStep.yield (none, ()))
            else do
              let p ← part f.type xs f.offset
              let q ← part f.type ys f.offset
              let e ← Op.equalIn (n + 1 + k) f.type p q
              if e = false then pure (ForInStep.done (some false, ())) else pure (ForInStep.yield (none, ())) : Sem (ForInStep (Option Bool × Unit)))).run P w = .ok (if eqT a p q then .yield (none, ()) else .done (some false, ())) w := by
        intro f a p q h1 h2 h3 h4 h5
        obtain ⟨df, hdf⟩ : ∃ de, tt f.type = some de := by
          cases n with
          | zero => simp [eqChk] at h3
          | succ n =>
            cases hh : tt f.type with
            | none => simp [eqChk, hh] at h3
            | some de => exact ⟨de, rfl⟩
        obtain ⟨s1, s2, _⟩ := eqChk_sz hok h3 hdf
        obtain ⟨ux, a1, a2⟩ := part_vrd (w := w) (hok _ _ hdf) s1 s2 h4
        obtain ⟨uy, b1, b2⟩ := part_vrd (w := w) (hok _ _ hdf) s1 s2 h5
        have := ih1 f.type a h3 df p q ux uy (k + 1) hdf a2 b2
        rw [show n + (k + 1) = n + 1 + k by omega] at this
        rw [if_neg h1, h2]
        simp only [Sem.run_bind, a1, b1, this, Result.andThen_ok]
        cases eqT a p q <;> simp
      have whole : ∀ (vs : Array Value) (a : Ty) (p : a.T), Rd H a p (vs.toList.drop off) → Rd H a p (seg vs off a.sz) := by
        intro vs a p h
        unfold seg
        rw [List.take_of_length_le (by rw [Rd.len _ _ _ h]; exact Nat.le_refl _)]
        exact h
      match fs, u, x, y, h, hx, hy with
      | [], u, x, y, h, hx, hy => simp [eqFs] at h
      | [f], u, x, y, h, hx, hy =>
        simp only [eqFs, Bool.and_eq_true, decide_eq_true_eq] at h
        have := onef f u x y h.1.1 h.1.2 h.2 (whole _ _ _ hx) (whole _ _ _ hy)
        rw [List.forIn_cons, Sem.run_bind, this]
        cases eqT u x y <;> simp
      | f :: f2 :: r, .pair a b, x, y, h, hx, hy =>
        simp only [eqFs, Bool.and_eq_true, decide_eq_true_eq] at h
        have := onef f a x.1 y.1 h.1.1.1 h.1.1.2 h.1.2 hx.1 hy.1
        rw [List.forIn_cons, Sem.run_bind, this]
        have hx2 := hx.2
        have hy2 := hy.2
        rw [List.drop_drop] at hx2 hy2
        have tl := ih2 (off + a.sz) (f2 :: r) b h.2 xs ys x.2 y.2 (k + 1) hx2 hy2
        rw [show n + (k + 1) = n + 1 + k by omega] at tl
        cases he : eqT a x.1 y.1 with
        | true =>
          simp only [if_true, Result.andThen_ok, eqT, he, Bool.true_and]
          exact tl
        | false => simp [eqT, he]
      | f :: f2 :: r, .int _, x, y, h, hx, hy => simp [eqFs] at h
      | f :: f2 :: r, .bool, x, y, h, hx, hy => simp [eqFs] at h
      | f :: f2 :: r, .str, x, y, h, hx, hy => simp [eqFs] at h
      | f :: f2 :: r, .flt _, x, y, h, hx, hy => simp [eqFs] at h
      | f :: f2 :: r, .cpx _, x, y, h, hx, hy => simp [eqFs] at h
      | f :: f2 :: r, .sl _, x, y, h, hx, hy => simp [eqFs] at h
      | f :: f2 :: r, .arr _ _, x, y, h, hx, hy => simp [eqFs] at h
end
section
variable {E : Env} {w0 : Base} {B : Nat} {ρ : Nat → Value} {H : IH} {ob : List (Nat × Option AObj)} {nx : Nat} {w : World} {ev : Operand → Option SV} {a : Act} {o : Oper} {r : Res}
theorem sound_eq_agg (hE : EnvOk E) (I : Inv w0 B ρ H ob nx w) (hv : EvOk ρ H nx ev a) {op : BinOp} {T T' : TypeId} {x y : Operand} {d : TD} {u : Ty} {xs ys : List Ch} {p q : u.T} (ho : o.op = .binOp op T x y T') (hx : (ev x).bind val? = some (.agg xs)) (hy : (ev y).bind val? = some (.agg ys))
    (hT : E.tt T = some d) (hag : d.agg = true) (hu : d.ty = some u) (heq : E.eq T = true) (hp : ofV u (.agg xs) = some p) (hq : ofV u (.agg ys) = some q)
    (hop : (op = .eql ∧ rc (.bool (eqT u p q)) = some r) ∨ (op = .neq ∧ rc (.bool (!eqT u p q)) = some r)) : StepOk E.P o a w (Post w0 B ob nx ρ H r) := by
  obtain ⟨k1, _⟩ := hv.val hx
  obtain ⟨k2, _⟩ := hv.val hy
  obtain ⟨c1, c2⟩ := hE.eq T d u heq hT hu
  have rx := ofV_den I.one hp k1
  have ry := ofV_den I.one hq k2
  obtain ⟨vx, ex, _⟩ := k1
  obtain ⟨vy, ey, _⟩ := k2
  rw [ex] at rx
  rw [ey] at ry
  have hrun : (Op.equal T (.agg ⟨vx⟩) (.agg ⟨vy⟩)).run E.P w = .ok (eqT u p q) w :=
    (eq_ok (H := H) (w := w) hE.tt 16).1 T u c1 d p q _ _ 9984 hT (.inl ⟨hag, _, rfl, rx⟩) (.inl ⟨hag, _, rfl, ry⟩)
  have hg : ∀ op, (eqGuard op T x y (.agg ⟨vx⟩) (.agg ⟨vy⟩)).run E.P w = .ok () w := by
    intro op
    cases op <;> simp [eqGuard, c2]
  rcases hop with ⟨rfl, hr⟩ | ⟨rfl, hr⟩
  · exact ok_rc I hr (v := .bool (eqT u p q)) (run_bin ho ex ey (hg _) (by simp [binOp, hrun])) rfl trivial
  · exact ok_rc I hr (v := .bool (!eqT u p q)) (run_bin ho ex ey (hg _) (by simp [binOp, hrun])) rfl trivial
theorem sc_u8 {P : Program} {t : TypeId} {d : TD} (h : TDok P t d) (h1 : d.kind = .sc) (h2 : d.ty = some (.int .u8)) : P.underlying t = some (.int .u8) := by
  have := h.sc _ h1 h2
  unfold scOk at this
  split at this <;> simp_all
theorem sound_bytes_str (hE : EnvOk E) (I : Inv w0 B ρ H ob nx w) (hv : EvOk ρ H nx ev a) {S T e : TypeId} {x : Operand} {d d' de : TD} {c : C} {xs : List Int} (ho : o.op = .convert S T x) (hS : E.tt S = some d) (hk : d.kind = .slc e) (hT : E.tt T = some d') (hk' : d'.kind = .sc) (ht' : d'.ty = some .str)
    (he : E.tt e = some de) (hke : de.kind = .sc) (hte : de.ty = some (.int .u8)) (hx : (ev x).bind one? = some c) (hrow : rowAs (lookO ob) (.int .u8) c = some xs) (hr : r = ⟨rowP (lookO ob) c, some (.val (.one (.str (bytesOf xs)))), []⟩) (hc : ∀ q ∈ r.cs, q) : StepOk E.P o a w (Post w0 B ob nx ρ H r) := by
  subst hr
  obtain ⟨k1, _⟩ := hv.one hx
  have hu1 := (hE.tt S d hS).slc e hk
  have hu2 := sc_u8 (hE.tt e de he) hke hte
  have hu3 := sc_str (hE.tt T d' hT) hk' ht'
  obtain ⟨aa, cap, q1, q2, q3⟩ := rowAs_shows I hrow (by simp [Ty.sz]) k1 hc
  refine .inl ⟨.string ⟨⟨bytesOf xs⟩⟩, w, ?_, post_same I rfl trivial⟩
  have hconv : (convert S T (a.eval x)).run E.P w = .ok (.string ⟨⟨bytesOf xs⟩⟩) w := by
    rw [q1]
    cases aa with
    | none =>
      rcases q3 with q3 | ⟨_, _, _, _, _, q3, _⟩
      · have : xs = [] := List.length_eq_zero_iff.1 q3
        subst this
        exact run_convert_bytes_nil w S e hu1 hu2 _ _ T hu3
      · cases q3
    | some ad =>
      rcases q3 with q3 | ⟨b, off, cc, ee, fr, q4, q5, q6, q7⟩
      · have : xs = [] := List.length_eq_zero_iff.1 q3
        subst this
        rw [run_convert_bytes_string w S T e _ _ cap hu1 hu2 hu3]
        have hl : (loadCells ad 0).run E.P w = .ok (([] : List Int).map (Value.int .u8)).toArray w := by
          have := run_loadCells_list (P := E.P) w ad [] (by simp)
          simpa using this
        rw [show (List.length ([] : List Int)) = 0 from rfl, run_bytesToString w ad 0 cap [] hl]
        rfl
      · cases q4
        have := run_convert_bytes_arg (P := E.P) w S e hu1 hu2 b off xs.length cap xs rfl (fun i hi => by
          have h7 := q7 i hi
          simp only [Rd, Ty.sz, Nat.mul_one] at h7
          have h8 := cell_seg q5 (o := off + i) (n := 1) 0 _ (by rw [h7]; rfl)
          rw [addr_add, Nat.add_zero] at h8
          rw [h8, getD_get hi]) T hu3
        rw [this]
        rfl
  simp [execOp, ho, hconv]
theorem post_frozen (I : Inv w0 B ρ H ob nx w) {w' : World} {H' : IH} {x : V} {v : Value} (hb : Below w.heap.size w w') (hag : Agree H' w') (hlow : ∀ b, b < w.heap.size → H' b = none) (hp : pureV x = true) (hd : DenV ρ0 H' x v) :
    Post w0 B ob nx ρ H ⟨[], some (.val x), []⟩ v w' := by
  have I1 := I.grow hb
  have hle1 : HLe H (fun b => if b < w.heap.size then H b else H' b) := by
    intro b o ho
    have := lt_of_some (I.agree b o ho)
    simp [this, ho]
  have hle2 : HLe H' (fun b => if b < w.heap.size then H b else H' b) := by
    intro b o ho
    show (if b < w.heap.size then H b else H' b) = some o
    split
    · rename_i hlt
      rw [hlow b hlt] at ho; cases ho
    · exact ho
  have I2 : Inv w0 B ρ (fun b => if b < w.heap.size then H b else H' b) ob nx w' := by
    refine I1.ext hle1 ?_ ?_ ?_
    · intro b o ho
      simp only [] at ho
      split at ho
      · rename_i hlt; rw [hb.block b hlt]; exact I.agree b o ho
      · exact hag b o ho
    · intro id p hp b hhb
      obtain ⟨_, k2, k3⟩ := I.hb hp hhb
      simp [k3, k2]
    · intro b hk
      have k3 := I.kLt hk
      simp [k3, (I.kp b hk).2.2.1]
  refine ⟨ρ, _, I2.more (by simp [W]), hle1, REq.refl _ _, fun sv e => ?_⟩
  cases e
  exact ⟨DenV.mono (ρ' := ρ) (n := 0) (REq.refl 0 ρ) hle2 (pureV_lt hp 0) (pureV_den (ρ' := ρ) hp hd), pureV_lt hp _⟩
theorem sound_str_bytes (hE : EnvOk E) (I : Inv w0 B ρ H ob nx w) (hv : EvOk ρ H nx ev a) {S T e : TypeId} {x : Operand} {d d' de : TD} {l : List UInt8} (ho : o.op = .convert S T x) (hS : E.tt S = some d) (hk : d.kind = .sc) (hst : d.ty = some .str) (hT : E.tt T = some d') (hk' : d'.kind = .slc e)
    (he : E.tt e = some de) (hke : de.kind = .sc) (hte : de.ty = some (.int .u8)) (hx : (ev x).bind one? = some (.str l)) (hr : r = ⟨[], some (.val (.one (.sl (.int .u8) (strNs l)))), []⟩) : StepOk E.P o a w (Post w0 B ob nx ρ H r) := by
  subst hr
  obtain ⟨k1, _⟩ := hv.one hx
  have k1 : a.eval x = .string ⟨⟨l⟩⟩ := k1
  have hrun := run_bytes_of_string (P := E.P) w S T e ⟨⟨l⟩⟩ (sc_str (hE.tt S d hS) hk hst) ((hE.tt T d' hT).slc e hk') (sc_u8 (hE.tt e de he) hke hte)
  generalize hcap : grownCap w (ByteArray.size ⟨⟨l⟩⟩) 0 e = cap at hrun
  have hge : l.length ≤ cap := by have := grownCap_ge w (ByteArray.size ⟨⟨l⟩⟩) 0 e; rw [hcap] at this; exact this
  generalize hobj : Obj.cells (bytesRow ⟨⟨l⟩⟩ cap) e ((bytesRow ⟨⟨l⟩⟩ cap).size, (bytesRow ⟨⟨l⟩⟩ cap).size + 1) = obj at hrun
  have hconv : (convert S T (a.eval x)).run E.P w = .ok (.slice (some ⟨w.heap.size, 0, none⟩) (ByteArray.size ⟨⟨l⟩⟩) cap) (w.drew.alloc obj) := by rw [k1]; exact hrun
  refine .inl ⟨.slice (some ⟨w.heap.size, 0, none⟩) (ByteArray.size ⟨⟨l⟩⟩) cap, w.drew.alloc obj, by simp [execOp, ho, hconv], post_frozen I (H' := fun b => if b = w.heap.size then some obj else none) (Below.alloc (Below.drew (Below.refl _ w)) (Nat.le_refl _) obj) ?_ (fun b hb => if_neg (by omega)) rfl ?_⟩
  · intro b q hq
    simp only [] at hq
    split at hq
    · rename_i e1
      cases hq
      subst e1
      show (w.heap.push obj)[w.heap.size]? = some obj
      simp
    · cases hq
  · refine ⟨some ⟨w.heap.size, 0, none⟩, cap, ?_, by simpa [strNs] using hge, .inr ⟨w.heap.size, 0, bytesRow ⟨⟨l⟩⟩ cap, e, _, rfl, (if_pos rfl).trans (congrArg some hobj.symm), fun i hi => ?_⟩⟩
    · simp [strNs, ByteArray.size]
    · have hi' : i < l.length := by simpa [strNs] using hi
      show seg (bytesRow ⟨⟨l⟩⟩ cap) (0 + i * 1) 1 = [Value.int .u8 (strNs l)[i]]
      unfold seg bytesRow
      simp only [Nat.zero_add, Nat.mul_one, Array.toList_append, Array.toList_map]
      rw [List.drop_append_of_le_length (by simp; omega), List.drop_eq_getElem_cons (by simpa using hi')]
      simp [strNs]
theorem row_write (I : Inv w0 B ρ H ob nx w) {id : Nat} {t : Ty} {xs ys : List t.T} {lo : Nat} {us : List Value} (hrow : lookO ob id = some (.row t xs)) (hle : lo + ys.length ≤ xs.length) (hpos : 0 < ys.length) (hul : us.length = ys.length * t.sz)
    (hr : ∀ i (h : i < ys.length), Rd H t ys[i] ((us.drop (i * t.sz)).take t.sz)) :
    ∃ g cur e, HB (ρ id) g ∧ Cells w g cur e ∧ lo * t.sz + us.length ≤ cur.size ∧
      Inv w0 B ρ H ((id, some (.row t (xs.take lo ++ ys ++ xs.drop (lo + ys.length)))) :: ob) nx (w.setRow g (cur.toList.take (lo * t.sz) ++ us ++ cur.toList.drop (lo * t.sz + us.length)).toArray) := by
  rcases (I.objs id _ hrow).2.2 with ⟨_, h⟩ | ⟨g, cap, cur, e, k1, k2, k3, k4, k5, k6, k7, k8⟩
  · subst h; simp only [List.length_nil] at hle; omega
  · have hcap : xs.length * t.sz ≤ cap * t.sz := Nat.mul_le_mul_right _ k5
    have hlm : (lo + ys.length) * t.sz ≤ xs.length * t.sz := Nat.mul_le_mul_right _ hle
    rw [Nat.add_mul] at hlm
    have hfit : lo * t.sz + us.length ≤ cur.size := by omega
    refine ⟨g, cur, e, .inr (.inl ⟨_, _, k1⟩), k4, hfit, I.put hrow (.inr (.inl ⟨_, _, k1⟩)) k4.choose_spec.2 trivial ?_⟩
    have hlen : (xs.take lo ++ ys ++ xs.drop (lo + ys.length)).length = xs.length := by simp; omega
    refine .inr ⟨g, cap, _, e, by rw [hlen]; exact k1, k2, k3, k4.set (splice_size cur _ _ us rfl hfit), by rw [hlen]; exact k5, k6, ?_, fun i hi => ?_⟩
    · rw [splice_size cur _ _ us rfl hfit]; exact k7
    · have hi' : i < xs.length := by rw [hlen] at hi; exact hi
      by_cases h1 : i < lo
      · have e1 : (xs.take lo ++ ys ++ xs.drop (lo + ys.length))[i] = xs[i] := by
          rw [List.getElem_append_left (by simp; omega), List.getElem_append_left (by simp; omega)]
          simp
        rw [e1, splice_seg cur _ _ us rfl hfit (i * t.sz) t.sz (.inl (by
          have : (i + 1) * t.sz ≤ lo * t.sz := Nat.mul_le_mul_right _ (by omega)
          rw [Nat.succ_mul] at this; omega))]
        exact k8 i hi'
      · by_cases h2 : i < lo + ys.length
        · have e1 : (xs.take lo ++ ys ++ xs.drop (lo + ys.length))[i] = ys[i - lo]'(by omega) := by
            rw [List.getElem_append_left (by simp; omega), List.getElem_append_right (by simp; omega)]
            congr 1
            simp; omega
          rw [e1]
          have hs := splice_same cur (lo * t.sz) us.length us rfl hfit
          have hm : (i - lo + 1) * t.sz ≤ ys.length * t.sz := Nat.mul_le_mul_right _ (by omega)
          rw [Nat.succ_mul] at hm
          have hi2 : i * t.sz = lo * t.sz + (i - lo) * t.sz := by rw [← Nat.add_mul]; congr 1; omega
          have := seg_seg (c := (cur.toList.take (lo * t.sz) ++ us ++ cur.toList.drop (lo * t.sz + us.length)).toArray) (o := lo * t.sz) (n := us.length) (p := (i - lo) * t.sz) (m := t.sz) (by omega)
          rw [hs, ← hi2] at this
          rw [← this]
          exact hr (i - lo) (by omega)
        · have e1 : (xs.take lo ++ ys ++ xs.drop (lo + ys.length))[i] = xs[i] := by
            rw [List.getElem_append_right (by simp; omega)]
            simp only [List.getElem_drop]
            congr 1
            simp; omega
          rw [e1, splice_seg cur _ _ us rfl hfit (i * t.sz) t.sz (.inr (by
            have : (lo + ys.length) * t.sz ≤ i * t.sz := Nat.mul_le_mul_right _ (by omega)
            rw [Nat.add_mul] at this; omega))]
          exact k8 i hi'
theorem partOf_ok (I : Inv w0 B ρ H ob nx w) {t : Ty} {c : C} {v : Value} {id lo n : Nat} {xs : List t.T} (h : partOf (lookO ob) t c = some (id, lo, n, xs)) (hd : DenC ρ H c v) (hle : lo + n ≤ xs.length) :
    lookO ob id = some (.row t xs) ∧ ∃ ad cap, v = .slice ad n cap ∧ (n ≠ 0 → ∃ g, HB (ρ id) g ∧ ad = some ⟨g, lo * t.sz, none⟩) := by
  unfold partOf at h
  split at h
  · rename_i id'
    split at h
    · rename_i t' xs' hrow
      split at h
      · rename_i e
        subst e
        cases h
        refine ⟨hrow, ?_⟩
        have hv : v = ρ id := hd
        rcases (I.objs _ _ hrow).2.2 with ⟨q1, q2⟩ | ⟨g, cap, cur, e, q1, _⟩
        · refine ⟨none, 0, by rw [hv, q1, q2]; rfl, fun hn => ?_⟩
          rw [q2] at hn; exact absurd rfl hn
        · exact ⟨_, cap, by rw [hv, q1], fun _ => ⟨g, .inr (.inl ⟨_, _, q1⟩), by simp⟩⟩
      · cases h
    · cases h
  · rename_i id' sz lo' n'
    split at h
    · rename_i t' xs' hrow
      split at h
      · rename_i e
        obtain ⟨rfl, rfl⟩ := e
        cases h
        refine ⟨hrow, ?_⟩
        rcases hd with ⟨b, cap, q1, q2, _⟩ | ⟨q1, ad, cap, q2⟩
        · exact ⟨_, cap, q2, fun _ => ⟨b, q1, by simp⟩⟩
        · exact ⟨ad, cap, by rw [q2, q1], fun hn => absurd q1 hn⟩
      · cases h
    · cases h
  · cases h
theorem Inv.again (I : Inv w0 B ρ H ob nx w) {id : Nat} {p : AObj} (h : lookO ob id = some p) : Inv w0 B ρ H ((id, some p) :: ob) nx w := by
  have key : ∀ j q, lookO ((id, some p) :: ob) j = some q → lookO ob j = some q := by
    intro j q hq
    rw [lookO_cons] at hq
    split at hq
    · rename_i e; rw [← e, h]; exact hq
    · exact hq
  exact ⟨I.below, I.bsz, I.one, I.agree, fun j q hq => I.objs j q (key j q hq), fun i j q q' hij h1 h2 => I.sep i j q q' hij (key _ _ h1) (key _ _ h2), fun k hk => let ⟨k1, k2, k3, k4⟩ := I.kp k hk; ⟨k1, k2, k3, fun j q hq => k4 j q (key _ _ hq)⟩⟩
theorem post_put {w' : World} {id : Nat} {p : AObj} {cs : List Prop} {sv : Option SV} {v : Value} (I' : Inv w0 B ρ H ((id, some p) :: ob) nx w') (hs : ∀ x, sv = some x → DenSV ρ H x v ∧ x.lt nx) : Post w0 B ob nx ρ H ⟨cs, sv, [(id, some p)]⟩ v w' :=
  ⟨ρ, H, I'.more (Nat.le_add_right _ _), HLe.refl _, REq.refl _ _, fun x hx => ⟨(hs x hx).1, (hs x hx).2.mono (Nat.le_add_right _ _)⟩⟩
theorem sound_mark (hE : EnvOk E) (I : Inv w0 B ρ H ob nx w) (hv : EvOk ρ H nx ev a) {T e : TypeId} {x : Operand} {d de : TD} {id : Nat} {xs : List Int} (ho : o.op = .convert T T x) (hT : E.tt T = some d) (hk : d.kind = .slc e)
    (he : E.tt e = some de) (hke : de.kind = .sc) (hte : de.ty = some (.int .u8)) (hx : (ev x).bind one? = some (.own id)) (hrow : lookO ob id = some (.row (.int .u8) xs)) (hr : r = ⟨[0 < xs.length], some (.val (.one (.own id))), [(id, some (.row (.int .u8) xs))]⟩) (hc : ∀ q ∈ r.cs, q) : StepOk E.P o a w (Post w0 B ob nx ρ H r) := by
  subst hr
  have hpos : 0 < xs.length := hc _ (by simp)
  obtain ⟨k1, k2⟩ := hv.one hx
  have hval : a.eval x = ρ id := k1
  have hu1 := (hE.tt T d hT).slc e hk
  have hu2 := sc_u8 (hE.tt e de he) hke hte
  rcases (I.objs id _ hrow).2.2 with ⟨_, q2⟩ | ⟨g, cap, cur, e', q1, q2, q3, ⟨fz, f1, q4⟩, q5, q6, q7, q8⟩
  · subst q2; simp at hpos
  · have hsh : w.shape? g = some (e', cur.size) := by
      unfold World.shape?
      rw [q4]
    have hconv : (convert T T (a.eval x)).run E.P w = .ok (a.eval x) (w.freeze ⟨g, cur.size, none⟩ 1) := by
      rw [hval, q1]
      simp [convert, run_underlying hu1, run_underlying hu2, markStringish, hsh]
    have hnew : ∃ fz', (fz' = (0, 0) ∨ cur.size ≤ fz'.1) ∧ (w.freeze ⟨g, cur.size, none⟩ 1).heap[g]? = some (.cells cur e' fz') := by
      obtain ⟨lo, hi⟩ := fz
      refine ⟨if lo == hi then (cur.size, cur.size + 1) else (min lo cur.size, max hi (cur.size + 1)), ?_, ?_⟩
      · right
        split
        · exact Nat.le_refl _
        · rename_i hne
          rcases f1 with f1 | f1
          · cases f1; simp at hne
          · simp only at f1 ⊢; omega
      · unfold World.freeze
        rw [if_neg (by decide)]
        simp only [Array.getElem?_modify, if_pos, q4, Option.map_some]
    have hoth : ∀ i, i ≠ g → (w.freeze ⟨g, cur.size, none⟩ 1).heap[i]? = w.heap[i]? := by
      intro i hi
      unfold World.freeze
      rw [if_neg (by decide)]
      simp only [Array.getElem?_modify, if_neg (Ne.symm hi)]
    have hbw : Below B w (w.freeze ⟨g, cur.size, none⟩ 1) := by
      refine ⟨rfl, rfl, rfl, ?_, fun i hi => hoth i (by omega)⟩
      unfold World.freeze
      rw [if_neg (by decide)]
      simp
    refine .inl ⟨a.eval x, w.freeze ⟨g, cur.size, none⟩ 1, by simp [execOp, ho, hconv], post_put (I.putW hrow (.inr (.inl ⟨_, _, q1⟩)) hbw hoth trivial (.inr ⟨g, cap, cur, e', q1, q2, q3, hnew, q5, q6, q7, q8⟩)) (by intro x hx; cases hx; exact ⟨k1, k2⟩)⟩
theorem sound_clear (hE : EnvOk E) (I : Inv w0 B ρ H ob nx w) {T e : TypeId} {x : Operand} {d de : TD} {t : Ty} {c : C} {id lo n : Nat} {xs : List t.T} (ho : o.op = .call ⟨.builtin .clear, #[x], #[T]⟩) (hT : E.tt T = some d) (hk : d.kind = .slc e) (he : E.tt e = some de) (ht : de.ty = some t)
    (hx : DenC ρ H c (a.eval x)) (hp : partOf (lookO ob) t c = some (id, lo, n, xs)) (hr : r = ⟨[lo + n ≤ xs.length], none, [(id, some (.row t (xs.take lo ++ List.replicate n t.d ++ xs.drop (lo + n))))]⟩) (hc : ∀ q ∈ r.cs, q) : StepOk E.P o a w (Post w0 B ob nx ρ H r) := by
  subst hr
  have hle : lo + n ≤ xs.length := hc _ (by simp)
  obtain ⟨hrow, ad, cap, hv, hg⟩ := partOf_ok I hp hx hle
  have hu := (hE.tt T d hT).slc e hk
  by_cases hn : n = 0
  · subst hn
    refine .inl ⟨.tuple #[], w, by cases ad <;> simp [execOp, ho, resolve, invoke, builtin, Builtin.clear_, run_underlying hu, hv], post_put ?_ (by simp)⟩
    have : xs.take lo ++ List.replicate 0 t.d ++ xs.drop (lo + 0) = xs := by simp
    rw [this]
    exact I.again hrow
  · obtain ⟨g, hg1, rfl⟩ := hg hn
    obtain ⟨i, z, g1, g2, g3, g4, g5, g6⟩ := (hE.tt e de he).info
    have hzr := g6 t ht H
    have hzs : z.cells.size = t.sz := by simpa using Rd.len _ _ _ hzr
    have hus : (Builtin.zeroCells z.cells n).toList.length = (List.replicate n t.d).length * t.sz := by simp [Builtin.zeroCells, hzs]
    obtain ⟨g', cur, e', q1, q2, q3, q4⟩ := row_write I (lo := lo) (ys := List.replicate n t.d) (us := (Builtin.zeroCells z.cells n).toList) hrow (by simpa using hle) (by simp; omega) hus (fun j hj => by
      have hj' : j < n := by simpa using hj
      have hm := made_seg z.cells n j hj'
      unfold seg at hm
      rw [List.getElem_replicate, ← hzs]
      have e1 : Builtin.zeroCells z.cells n = madeCells z.cells (n * z.cells.size) := rfl
      rw [e1, hm]
      exact hzr)
    have := HB.uniq hg1 q1
    subst this
    have hone : ∀ v ∈ (Builtin.zeroCells z.cells n).toList, v.oneCell' = true := by
      intro v hv
      simp only [Builtin.zeroCells, Array.toList_map, List.mem_map, Array.mem_toList_iff, Array.mem_range] at hv
      obtain ⟨j, hj, rfl⟩ := hv
      have hz0 : 0 < z.cells.size := by
        rcases Nat.eq_zero_or_pos z.cells.size with h | h
        · rw [h] at hj; simp at hj
        · exact h
      have hlt := Nat.mod_lt j hz0
      rw [getElem!_pos z.cells (j % z.cells.size) hlt]
      exact Rd.one _ _ _ hzr _ (by simp)
    have hst := storeCells_own (P := E.P) q2 (by simpa using q3) hone
    simp only [List.length_replicate] at q4
    refine .inl ⟨.tuple #[], _, ?_, post_put q4 (by simp)⟩
    have hz : (zeroValue e).run E.P w = .ok z w := by simp [zeroValue, typeInfo, g1, g4]
    cases n with
    | zero => exact absurd rfl hn
    | succ n => simp [execOp, ho, resolve, invoke, builtin, Builtin.clear_, run_underlying hu, hv, hz, hst]
theorem sound_copy (hE : EnvOk E) (I : Inv w0 B ρ H ob nx w) {T e : TypeId} {x y : Operand} {d de : TD} {t : Ty} {c s : C} {id lo n : Nat} {xs ys : List t.T} (ho : o.op = .call ⟨.builtin .copy, #[x, y], #[T, T]⟩) (hT : E.tt T = some d) (hk : d.kind = .slc e) (he : E.tt e = some de) (ht : de.ty = some t)
    (hx : DenC ρ H c (a.eval x)) (hy : DenC ρ H s (a.eval y)) (hp : partOf (lookO ob) t c = some (id, lo, n, xs)) (hs : rowAs (lookO ob) t s = some ys)
    (hr : r = ⟨rowP (lookO ob) s ++ [lo + n ≤ xs.length], some (.val (.one (.int .i64 ((min ys.length n : Nat) : Int)))), [(id, some (.row t (xs.take lo ++ ys.take n ++ xs.drop (lo + min ys.length n))))]⟩) (hc : ∀ q ∈ r.cs, q) : StepOk E.P o a w (Post w0 B ob nx ρ H r) := by
  subst hr
  simp only [List.mem_append, List.mem_singleton] at hc
  have hle : lo + n ≤ xs.length := hc _ (.inr rfl)
  obtain ⟨hrow, ad, cap, hv, hg⟩ := partOf_ok I hp hx hle
  have hu := (hE.tt T d hT).slc e hk
  have hz : t.sz ≠ 0 := by rw [((hE.tt e de he).ty t ht).2]; exact (hE.tt e de he).pos
  obtain ⟨aa, cap', s1, s2, s3⟩ := rowAs_shows I hs hz hy (fun p hp => hc p (.inl hp))
  have hsz := run_sizeOf (w := w) (hE.tt e de he)
  have hd := ((hE.tt e de he).ty t ht).2
  rw [← hd] at hsz
  have hint : goInt ((min ys.length n : Nat) : Int) = .int .i64 ((min ys.length n : Nat) : Int) := rfl
  by_cases hn : min ys.length n = 0
  · have hrun : (Builtin.copy_ #[T, T] o.type #[a.eval x, a.eval y]).run E.P w = .ok (goInt 0) w := by
      have hmin : Nat.min ys.length n = 0 := hn
      cases aa with
      | none => cases ad <;> simp [Builtin.copy_, run_underlying hu, hv, s1, Builtin.lenOf, hsz, Builtin.firstCells, storeCells, hmin]
      | some b =>
        have hl : (loadCells b 0).run E.P w = .ok #[] w := by
          have := run_loadCells_list (P := E.P) w b [] (by simp)
          simpa using this
        cases ad <;> simp [Builtin.copy_, run_underlying hu, hv, s1, Builtin.lenOf, hsz, Builtin.firstCells, storeCells, hmin, hl]
    refine .inl ⟨goInt 0, w, by simp [execOp, ho, resolve, invoke, builtin, hrun], post_put ?_ (by intro x hx; cases hx; rw [hn]; exact ⟨rfl, trivial⟩)⟩
    have : xs.take lo ++ ys.take n ++ xs.drop (lo + min ys.length n) = xs := by
      have h0 : ys.take n = [] := List.length_eq_zero_iff.1 (by rw [List.length_take, Nat.min_comm]; exact hn)
      rw [hn, h0]; simp
    rw [this]
    exact I.again hrow
  · obtain ⟨g, hg1, rfl⟩ := hg (by omega)
    rcases s3 with s3 | ⟨b, off, cc, ee, fr, rfl, s4, s5, s6⟩
    · omega
    · have hm : min ys.length n * t.sz ≤ ys.length * t.sz := Nat.mul_le_mul_right _ (Nat.min_le_left _ _)
      have hfit : off + min ys.length n * t.sz ≤ cc.size := by omega
      have hul : (seg cc off (min ys.length n * t.sz)).length = (ys.take n).length * t.sz := by rw [seg_len hfit]; simp [Nat.min_comm]
      obtain ⟨g', cur, e', q1, q2, q3, q4⟩ := row_write I (lo := lo) (ys := ys.take n) (us := seg cc off (min ys.length n * t.sz)) hrow (by simp; omega) (by simp; omega) hul (fun j hj => by
        have hj' : j < min ys.length n := by simp at hj; omega
        have hjm : (j + 1) * t.sz ≤ min ys.length n * t.sz := Nat.mul_le_mul_right _ (by omega)
        rw [Nat.succ_mul] at hjm
        rw [seg_seg (by omega), List.getElem_take]
        exact s6 j (by omega))
      have := HB.uniq hg1 q1
      subst this
      have hone : ∀ v ∈ seg cc off (min ys.length n * t.sz), v.oneCell' = true := by
        refine row_one (t := t) (ys := ys.take n) hul (H := H) (fun j hj => ?_)
        have hj' : j < min ys.length n := by simp at hj; omega
        have hjm : (j + 1) * t.sz ≤ min ys.length n * t.sz := Nat.mul_le_mul_right _ (by omega)
        rw [Nat.succ_mul] at hjm
        rw [seg_seg (by omega), List.getElem_take]
        exact s6 j (by omega)
      have hst := storeCells_own (P := E.P) q2 (by simpa using q3) hone
      have hl : (loadCells ⟨b, off, none⟩ (min ys.length n * t.sz)).run E.P w = .ok (seg cc off (min ys.length n * t.sz)).toArray w := by
        have := run_loadCells_list (P := E.P) w ⟨b, off, none⟩ (seg cc off (min ys.length n * t.sz)) (fun j v hj => cell_seg s4 j v hj)
        rw [seg_len hfit] at this
        exact this
      have hlen : (ys.take n).length = min ys.length n := by simp [Nat.min_comm]
      rw [hlen] at q4
      have hmin : Nat.min ys.length n = min ys.length n := rfl
      refine .inl ⟨goInt ((min ys.length n : Nat) : Int), _, ?_, post_put q4 (by intro x hx; cases hx; exact ⟨hint, trivial⟩)⟩
      simp [execOp, ho, resolve, invoke, builtin, Builtin.copy_, run_underlying hu, hv, s1, Builtin.lenOf, hsz, Builtin.firstCells, hmin, hl, hst]
theorem splice_list (cur : Array Value) (base sz sub n : Nat) (us : List Value) (hu : us.length = n) (hsub : sub + n ≤ sz) (hle : base + sz ≤ cur.size) :
    cur.toList.take base ++ (seg (cur.toList.take (base + sub) ++ us ++ cur.toList.drop (base + sub + n)).toArray base sz ++ cur.toList.drop (base + sz)) = cur.toList.take (base + sub) ++ us ++ cur.toList.drop (base + sub + n) := by
  rw [splice_part cur base sz sub n us hu hsub hle]
  have e1 : cur.toList.take (base + sub) = cur.toList.take base ++ (seg cur base sz).take sub := by
    unfold seg
    rw [List.take_take, Nat.min_eq_left (by omega), List.take_add]
  have e2 : cur.toList.drop (base + sub + n) = (seg cur base sz).drop (sub + n) ++ cur.toList.drop (base + sz) := by
    unfold seg
    rw [List.drop_take, List.drop_drop]
    have : cur.toList.drop (base + sz) = (cur.toList.drop (base + (sub + n))).drop (sz - (sub + n)) := by
      rw [List.drop_drop]; congr 1; omega
    rw [this, List.take_append_drop]
    congr 1; omega
  rw [e1, e2]
  simp only [List.append_assoc]
theorem box_write (I : Inv w0 B ρ H ob nx w) {id off m : Nat} {t : Ty} {cs rest z : List Ch} {xs ys : List t.T} {lo : Nat} {us : List Value} (hb : lookO ob id = some (.box cs)) (hdr : dropCh cs off = some (.arr m t xs :: rest))
    (hput : putCh cs off (m * t.sz) [.arr m t (xs.take lo ++ ys ++ xs.drop (lo + ys.length))] = some z) (hle : lo + ys.length ≤ xs.length) (hul : us.length = ys.length * t.sz)
    (hr : ∀ i (h : i < ys.length), Rd H t ys[i] ((us.drop (i * t.sz)).take t.sz)) :
    ∃ g cur e, HB (ρ id) g ∧ Cells w g cur e ∧ off + lo * t.sz + us.length ≤ cur.size ∧
      Inv w0 B ρ H ((id, some (.box z)) :: ob) nx (w.setRow g (cur.toList.take (off + lo * t.sz) ++ us ++ cur.toList.drop (off + lo * t.sz + us.length)).toArray) := by
  obtain ⟨g, cur, e, k1, k2, k3, k4⟩ := box_den I hb
  obtain ⟨a, hcs, ha⟩ := dropCh_spec hdr
  have hsp := k3
  rw [hcs] at hsp
  obtain ⟨_, h2⟩ := hsp.split
  rw [ha] at h2
  obtain ⟨h3, _⟩ := h2
  obtain ⟨h4, h5, h6⟩ := h3
  have hfit0 : off + m * t.sz ≤ cur.size := by
    have hl := k3.len
    rw [hcs, chsSz_append, ha] at hl
    simp only [chsSz, Ch.sz, Array.length_toList] at hl
    omega
  have hlm : (lo + ys.length) * t.sz ≤ m * t.sz := Nat.mul_le_mul_right _ (by omega)
  rw [Nat.add_mul] at hlm
  have hfit : off + lo * t.sz + us.length ≤ cur.size := by omega
  refine ⟨g, cur, e, .inl k1, ⟨_, .inl rfl, k2⟩, hfit, ?_⟩
  generalize hA : (cur.toList.take (off + lo * t.sz) ++ us ++ cur.toList.drop (off + lo * t.sz + us.length)).toArray = A
  have hlen : (xs.take lo ++ ys ++ xs.drop (lo + ys.length)).length = xs.length := by simp; omega
  have hAs : A.size = cur.size := by rw [← hA]; exact splice_size cur _ _ us rfl hfit
  have hold : ∀ i (h : i < xs.length), Rd H t xs[i] (seg cur (off + i * t.sz) t.sz) := fun i hi => (arr_elem k3 hdr hi).1
  have hel : ∀ i (h : i < (xs.take lo ++ ys ++ xs.drop (lo + ys.length)).length), Rd H t (xs.take lo ++ ys ++ xs.drop (lo + ys.length))[i] (seg A (off + i * t.sz) t.sz) := by
    intro i hi
    have hi' : i < xs.length := by rw [hlen] at hi; exact hi
    by_cases h1 : i < lo
    · have e1 : (xs.take lo ++ ys ++ xs.drop (lo + ys.length))[i] = xs[i] := by
        rw [List.getElem_append_left (by simp; omega), List.getElem_append_left (by simp; omega)]
        simp
      rw [e1, ← hA, splice_seg cur _ _ us rfl hfit (off + i * t.sz) t.sz (.inl (by
        have : (i + 1) * t.sz ≤ lo * t.sz := Nat.mul_le_mul_right _ (by omega)
        rw [Nat.succ_mul] at this; omega))]
      exact hold i hi'
    · by_cases h2 : i < lo + ys.length
      · have e1 : (xs.take lo ++ ys ++ xs.drop (lo + ys.length))[i] = ys[i - lo]'(by omega) := by
          rw [List.getElem_append_left (by simp; omega), List.getElem_append_right (by simp; omega)]
          congr 1
          simp; omega
        rw [e1]
        have hs := splice_same cur (off + lo * t.sz) us.length us rfl hfit
        have hm : (i - lo + 1) * t.sz ≤ ys.length * t.sz := Nat.mul_le_mul_right _ (by omega)
        rw [Nat.succ_mul] at hm
        have hi2 : off + i * t.sz = off + lo * t.sz + (i - lo) * t.sz := by rw [Nat.add_assoc, ← Nat.add_mul]; congr 2; omega
        rw [hA] at hs
        have := seg_seg (c := A) (o := off + lo * t.sz) (n := us.length) (p := (i - lo) * t.sz) (m := t.sz) (by omega)
        rw [hs, ← hi2] at this
        rw [← this]
        exact hr (i - lo) (by omega)
      · have e1 : (xs.take lo ++ ys ++ xs.drop (lo + ys.length))[i] = xs[i] := by
          rw [List.getElem_append_right (by simp; omega)]
          simp only [List.getElem_drop]
          congr 1
          simp; omega
        rw [e1, ← hA, splice_seg cur _ _ us rfl hfit (off + i * t.sz) t.sz (.inr (by
          have : (lo + ys.length) * t.sz ≤ i * t.sz := Nat.mul_le_mul_right _ (by omega)
          rw [Nat.add_mul] at this; omega))]
        exact hold i hi'
  have hnew : DenChs ρ H [.arr m t (xs.take lo ++ ys ++ xs.drop (lo + ys.length))] (seg A off (m * t.sz)) := by
    have hsl : (seg A off (m * t.sz)).length = m * t.sz := seg_len (by omega)
    refine ⟨?_, ?_⟩
    · rw [show (seg A off (m * t.sz)).take (m * t.sz) = seg A off (m * t.sz) from List.take_of_length_le (by omega)]
      refine ⟨by rw [hlen, h4], hsl, fun i hi => ?_⟩
      have hi' : i < xs.length := by rw [hlen] at hi; exact hi
      have hm : (i + 1) * t.sz ≤ m * t.sz := Nat.mul_le_mul_right _ (by omega)
      rw [Nat.succ_mul] at hm
      rw [seg_seg (by omega)]
      exact hel i hi
    · rw [List.drop_of_length_le (by omega)]; rfl
  obtain ⟨m1, _⟩ := putCh_den hput k3 hnew
  have hAl : cur.toList.take off ++ (seg A off (m * t.sz) ++ cur.toList.drop (off + m * t.sz)) = A.toList := by
    rw [← hA]
    exact splice_list cur off (m * t.sz) (lo * t.sz) us.length us rfl (by omega) hfit0
  rw [hAl] at m1
  refine I.put hb (.inl k1) k2 (box_lt hput k4 (fun c hc => ?_)) ⟨g, _, e, k1, (I.hb hb (.inl k1)).1, (I.hb hb (.inl k1)).2.1, heap_setRow_at k2, m1⟩
  rw [List.mem_singleton.1 hc]; trivial
theorem putCh_same {cs rest z : List Ch} {off m : Nat} {t : Ty} {xs : List t.T} (hput : putCh cs off (m * t.sz) [.arr m t xs] = some z) (hdr : dropCh cs off = some (.arr m t xs :: rest)) (hz : m * t.sz ≠ 0) : z = cs := by
  obtain ⟨a, ha, h2⟩ := Option.bind_eq_some_iff.1 hput
  obtain ⟨b, hb, rfl⟩ := Option.map_eq_some_iff.1 h2
  rw [hdr] at hb
  have hcs := takeCh_dropCh ha hdr
  have hb : dropCh (.arr m t xs :: rest) (m * t.sz) = some b := hb
  have : b = rest := by
    obtain ⟨k, hk⟩ : ∃ k, m * t.sz = k + 1 := ⟨m * t.sz - 1, by omega⟩
    have hsz : (Ch.arr m t xs).sz = k + 1 := hk
    rw [hk] at hb
    simp only [dropCh, hsz, Nat.le_refl, if_true, Nat.sub_self] at hb
    cases rest <;> simp [dropCh] at hb <;> simp [hb]
  rw [hcs, this]; rfl
theorem sound_copyBox (hE : EnvOk E) (I : Inv w0 B ρ H ob nx w) {T e : TypeId} {x y : Operand} {d de : TD} {t : Ty} {c s : C} {ys : List t.T} (ho : o.op = .call ⟨.builtin .copy, #[x, y], #[T, T]⟩) (hT : E.tt T = some d) (hk : d.kind = .slc e) (he : E.tt e = some de) (ht : de.ty = some t)
    (hx : DenC ρ H c (a.eval x)) (hy : DenC ρ H s (a.eval y)) (hs : rowAs (lookO ob) t s = some ys)
    (h : copyBox (lookO ob) t c s ys = some r) (hc : ∀ q ∈ r.cs, q) : StepOk E.P o a w (Post w0 B ob nx ρ H r) := by
  unfold copyBox at h
  split at h
  · rename_i id off sz lo n
    split at h
    · rename_i bs hb
      split at h
      · rename_i m t' xs rest hdr
        split at h
        · rename_i hk2
          obtain ⟨rfl, rfl, hm'⟩ := hk2
          obtain ⟨z, hput, rfl⟩ := Option.map_eq_some_iff.1 h
          simp only [List.mem_append, List.mem_singleton] at hc
          have hle : lo + n ≤ List.length xs := hc _ (.inr rfl)
          have hput : putCh bs off (m * t'.sz) [.arr m t' (xs.take lo ++ ys.take n ++ xs.drop (lo + min ys.length n))] = some z := hput
          have hu := (hE.tt T d hT).slc e hk
          have hz : t'.sz ≠ 0 := by rw [((hE.tt e de he).ty t' ht).2]; exact (hE.tt e de he).pos
          obtain ⟨aa, cap', s1, s2, s3⟩ := rowAs_shows I hs hz hy (fun p hp => hc p (.inl hp))
          have hsz := run_sizeOf (w := w) (hE.tt e de he)
          have hd := ((hE.tt e de he).ty t' ht).2
          rw [← hd] at hsz
          have hint : goInt ((min ys.length n : Nat) : Int) = .int .i64 ((min ys.length n : Nat) : Int) := rfl
          have hv : ∃ ad cap, a.eval x = .slice ad n cap ∧ (n ≠ 0 → ∃ g, HB (ρ id) g ∧ ad = some ⟨g, off + lo * t'.sz, none⟩) := by
            rcases hx with ⟨b, cap, q1, q2, _⟩ | ⟨q1, ad, cap, q2⟩
            · exact ⟨_, cap, q2, fun _ => ⟨b, q1, rfl⟩⟩
            · exact ⟨ad, cap, by rw [q2, q1], fun hn => absurd q1 hn⟩
          obtain ⟨ad, cap, hv, hg⟩ := hv
          by_cases hn : min ys.length n = 0
          · have hrun : (Builtin.copy_ #[T, T] o.type #[a.eval x, a.eval y]).run E.P w = .ok (goInt 0) w := by
              have hmin : Nat.min ys.length n = 0 := hn
              cases aa with
              | none => cases ad <;> simp [Builtin.copy_, run_underlying hu, hv, s1, Builtin.lenOf, hsz, Builtin.firstCells, storeCells, hmin]
              | some b =>
                have hl : (loadCells b 0).run E.P w = .ok #[] w := by
                  have := run_loadCells_list (P := E.P) w b [] (by simp)
                  simpa using this
                cases ad <;> simp [Builtin.copy_, run_underlying hu, hv, s1, Builtin.lenOf, hsz, Builtin.firstCells, storeCells, hmin, hl]
            refine .inl ⟨goInt 0, w, by simp [execOp, ho, resolve, invoke, builtin, hrun], post_put ?_ (by intro x hx; cases hx; rw [hn]; exact ⟨rfl, trivial⟩)⟩
            have h0 : ys.take n = [] := List.length_eq_zero_iff.1 (by rw [List.length_take, Nat.min_comm]; exact hn)
            rw [hn, h0] at hput
            have hsame : xs.take lo ++ [] ++ xs.drop (lo + 0) = xs := by simp
            rw [hsame] at hput
            have : z = bs := by
              exact putCh_same hput hdr (Nat.mul_ne_zero hm' hz)
            rw [this]
            exact I.again hb
          · obtain ⟨g, hg1, rfl⟩ := hg (by omega)
            rcases s3 with s3 | ⟨b, off', cc, ee, fr, rfl, s4, s5, s6⟩
            · omega
            · have hm : min ys.length n * t'.sz ≤ ys.length * t'.sz := Nat.mul_le_mul_right _ (Nat.min_le_left _ _)
              have hfit : off' + min ys.length n * t'.sz ≤ cc.size := by omega
              have hlen : (ys.take n).length = min ys.length n := by simp [Nat.min_comm]
              have hul : (seg cc off' (min ys.length n * t'.sz)).length = (ys.take n).length * t'.sz := by rw [seg_len hfit, hlen]
              have hrd : ∀ j (h : j < (ys.take n).length), Rd H t' (ys.take n)[j] (((seg cc off' (min ys.length n * t'.sz)).drop (j * t'.sz)).take t'.sz) := by
                intro j hj
                have hj' : j < min ys.length n := by omega
                have hjm : (j + 1) * t'.sz ≤ min ys.length n * t'.sz := Nat.mul_le_mul_right _ (by omega)
                rw [Nat.succ_mul] at hjm
                rw [seg_seg (by omega), List.getElem_take]
                exact s6 j (by omega)
              rw [← hlen] at hput
              obtain ⟨g', cur, e', q1, q2, q3, q4⟩ := box_write I hb hdr hput (by rw [hlen]; omega) hul hrd
              have := HB.uniq hg1 q1
              subst this
              have hone : ∀ v ∈ seg cc off' (min ys.length n * t'.sz), v.oneCell' = true := row_one (t := t') (ys := ys.take n) hul (H := H) hrd
              have hst := storeCells_own (P := E.P) q2 (by simpa using q3) hone
              have hl : (loadCells ⟨b, off', none⟩ (min ys.length n * t'.sz)).run E.P w = .ok (seg cc off' (min ys.length n * t'.sz)).toArray w := by
                have := run_loadCells_list (P := E.P) w ⟨b, off', none⟩ (seg cc off' (min ys.length n * t'.sz)) (fun j v hj => cell_seg s4 j v hj)
                rw [seg_len hfit] at this
                exact this
              have hmin : Nat.min ys.length n = min ys.length n := rfl
              refine .inl ⟨goInt ((min ys.length n : Nat) : Int), _, ?_, post_put q4 (by intro x hx; cases hx; exact ⟨hint, trivial⟩)⟩
              simp [execOp, ho, resolve, invoke, builtin, Builtin.copy_, run_underlying hu, hv, s1, Builtin.lenOf, hsz, Builtin.firstCells, hmin, hl, hst]
        · cases h
      · cases h
    · cases h
  · cases h
end
end Go.Sx

namespace Go.Sx
open Go.RowKit
theorem key_cells {H : IH} : ∀ {k : Ty}, keyTy k = true → ∀ {x y : k.T} {vs ws : List Value}, Rd H k x vs → Rd H k y ws → (eqT k x y = true → vs = ws ∧ x = y) ∧ (x = y → eqT k x y = true)
  | .int _, _, x, y, vs, ws, h1, h2 => by
    rw [show vs = _ from h1, show ws = _ from h2]
    refine ⟨fun h => ?_, fun h => ?_⟩
    · have : x = y := by simpa [eqT] using h
      subst this; exact ⟨rfl, rfl⟩
    · subst h; simp [eqT]
  | .bool, _, x, y, vs, ws, h1, h2 => by
    rw [show vs = _ from h1, show ws = _ from h2]
    refine ⟨fun h => ?_, fun h => ?_⟩
    · have : x = y := by simpa [eqT] using h
      subst this; exact ⟨rfl, rfl⟩
    · subst h; simp [eqT]
  | .str, _, x, y, vs, ws, h1, h2 => by
    rw [show vs = _ from h1, show ws = _ from h2]
    refine ⟨fun h => ?_, fun h => ?_⟩
    · have : x = y := by simpa [eqT] using h
      subst this; exact ⟨rfl, rfl⟩
    · subst h; simp [eqT]
  | .pair a b, hk, x, y, vs, ws, h1, h2 => by
    simp only [keyTy, Bool.and_eq_true] at hk
    have ka := key_cells hk.1 h1.1 h2.1
    have kb := key_cells hk.2 h1.2 h2.2
    refine ⟨fun h => ?_, fun h => ?_⟩
    · simp only [eqT, Bool.and_eq_true] at h
      obtain ⟨p1, p2⟩ := ka.1 h.1
      obtain ⟨q1, q2⟩ := kb.1 h.2
      refine ⟨?_, Prod.ext p2 q2⟩
      rw [← List.take_append_drop a.sz vs, ← List.take_append_drop a.sz ws, p1, q1]
    · subst h
      simp only [eqT, Bool.and_eq_true]
      exact ⟨ka.2 rfl, kb.2 rfl⟩
  | .flt _, hk, _, _, _, _, _, _ => by simp [keyTy] at hk
  | .cpx _, hk, _, _, _, _, _, _ => by simp [keyTy] at hk
  | .sl _, hk, _, _, _, _, _, _ => by simp [keyTy] at hk
  | .arr _ _, hk, _, _, _, _, _, _ => by simp [keyTy] at hk
theorem key_bits {H : IH} (n : Nat) : ∀ {k : Ty}, keyTy k = true → ∀ {x : k.T} {vs : List Value}, Rd H k x vs → ∀ v ∈ vs, Instr.sameBits n v v = true
  | .int _, _, x, vs, h1, v, hv => by
    rw [show vs = _ from h1] at hv
    simp only [List.mem_singleton] at hv
    subst hv
    cases n <;> simp [Instr.sameBits]
  | .bool, _, x, vs, h1, v, hv => by
    rw [show vs = _ from h1] at hv
    simp only [List.mem_singleton] at hv
    subst hv
    cases n <;> simp [Instr.sameBits]
  | .str, _, x, vs, h1, v, hv => by
    rw [show vs = _ from h1] at hv
    simp only [List.mem_singleton] at hv
    subst hv
    have hb : ((⟨⟨x⟩⟩ : ByteArray) == ⟨⟨x⟩⟩) = true := by
      show ((⟨x⟩ : Array UInt8) == ⟨x⟩) = true
      simp
    cases n <;> simp [Instr.sameBits, hb]
  | .pair a b, hk, x, vs, h1, v, hv => by
    simp only [keyTy, Bool.and_eq_true] at hk
    rw [← List.take_append_drop a.sz vs] at hv
    rcases List.mem_append.1 hv with hv | hv
    · exact key_bits n hk.1 h1.1 v hv
    · exact key_bits n hk.2 h1.2 v hv
  | .flt _, hk, _, _, _, _, _ => by simp [keyTy] at hk
  | .cpx _, hk, _, _, _, _, _ => by simp [keyTy] at hk
  | .sl _, hk, _, _, _, _, _ => by simp [keyTy] at hk
  | .arr _ _, hk, _, _, _, _, _ => by simp [keyTy] at hk
theorem key_vals {H : IH} {g : Bool} {k : Ty} (hk : keyTy k = true) {x y : k.T} {v u : Value} (h1 : VR H g k x v) (h2 : VR H g k y u) (he : eqT k x y = true) : v = u := by
  rcases h1 with ⟨g1, cs, rfl, r1⟩ | ⟨g1, r1⟩ <;> rcases h2 with ⟨g2, ds, rfl, r2⟩ | ⟨g2, r2⟩
  · have := ((key_cells hk r1 r2).1 he).1
    rw [Array.toList_inj] at this
    rw [this]
  · rw [g1] at g2; cases g2
  · rw [g1] at g2; cases g2
  · have := ((key_cells hk r1 r2).1 he).1
    simpa using this
theorem key_stays {P : Program} {w : World} {H : IH} {g : Bool} {k : Ty} (hk : keyTy k = true) {x : k.T} {v : Value} (h1 : VR H g k x v) : (Instr.keyThatStays v v).run P w = .ok v w := by
  have : Instr.sameBits 10000 v v = true := by
    rcases h1 with ⟨_, cs, rfl, r1⟩ | ⟨_, r1⟩
    · have hb := key_bits (H := H) 9999 hk r1
      show (cs.size == cs.size && (cs.toList.zip cs.toList).all fun (x, y) => Instr.sameBits 9999 x y) = true
      simp only [beq_self_eq_true, Bool.true_and, List.all_eq_true]
      intro p hp
      obtain ⟨a, b⟩ := p
      have zz : ∀ l : List Value, (a, b) ∈ l.zip l → a = b ∧ a ∈ l := by
        intro l
        induction l with
        | nil => intro h; cases h
        | cons c r ih =>
          intro h
          rw [List.zip_cons_cons] at h
          rcases List.mem_cons.1 h with h | h
          · cases h; exact ⟨rfl, List.mem_cons_self ..⟩
          · exact ⟨(ih h).1, List.mem_cons_of_mem _ (ih h).2⟩
      have h3 := zz _ hp
      obtain ⟨rfl, h3⟩ := h3
      exact hb a h3
    · exact key_bits (H := H) 10000 hk r1 v (by simp)
  simp [Instr.keyThatStays, this]
section
variable {P : Program} {tt : TypeId → Option TD} {H : IH} {w : World}
theorem run_forIn_unit {α : Type} (f : α → Unit → Sem (ForInStep Unit)) : ∀ (l : List α), (∀ a ∈ l, (f a ()).run P w = .ok (.yield ()) w) → (forIn l () f).run P w = .ok () w
  | [], _ => by simp
  | a :: l, h => by
    rw [List.forIn_cons, Sem.run_bind, h a (by simp)]
    simp only [Result.andThen_ok]
    exact run_forIn_unit f l (fun b hb => h b (by simp [hb]))
theorem check_ok (em : Bool) (hok : ∀ t d, tt t = some d → TDok P t d) : ∀ n, (∀ t u, eqChk P tt n t u = true → keyTy u = true → ∀ d (x : u.T) v k, tt t = some d → VRd H d u x v → (Instr.checkKey em (n + k) t v).run P w = .ok () w) ∧
    (∀ off fs u, eqFs P tt n off fs u = true → keyTy u = true → ∀ (xs : Array Value) (x : u.T) k, Rd H u x (xs.toList.drop off) →
      ∀ f ∈ fs, (do let p ← part f.type xs f.offset; Instr.checkKey em (n + k) f.type p : Sem Unit).run P w = .ok () w)
  | 0 => ⟨fun t u h => by simp [eqChk] at h, fun off fs u h => by simp [eqFs] at h⟩
  | n + 1 => by
    obtain ⟨ih1, ih2⟩ := check_ok em hok n
    constructor
    · intro t u h hk d x v k hd hx
      have hT := hok t d hd
      simp only [eqChk, hd, Bool.and_eq_true, decide_eq_true_eq] at h
      obtain ⟨hty, h⟩ := h
      have hagg := hT.agg
      unfold aggOf at hagg
      rw [show n + 1 + k = (n + k) + 1 by omega]
      have sc : ∀ {u : Ty} {x : u.T} {v : Value}, d.agg = false → VRd H d u x v → Rd H u x [v] := by
        rintro u x v hf (⟨h1, _⟩ | ⟨_, h2⟩)
        · rw [hf] at h1; cases h1
        · exact h2
      split at h
      · rename_i k' hu
        rw [hu] at hagg
        simp only [decide_eq_true_eq] at h
        subst h
        have e1 := sc hagg.symm hx
        simp only [Rd, List.cons.injEq, and_true] at e1
        subst e1
        simp [Instr.checkKey, run_underlying hu]
      · rename_i hu
        rw [hu] at hagg
        simp only [decide_eq_true_eq] at h
        subst h
        have e1 := sc hagg.symm hx
        simp only [Rd, List.cons.injEq, and_true] at e1
        subst e1
        simp [Instr.checkKey, run_underlying hu]
      · rename_i hu
        rw [hu] at hagg
        simp only [decide_eq_true_eq] at h
        subst h
        have e1 := sc hagg.symm hx
        simp only [Rd, List.cons.injEq, and_true] at e1
        subst e1
        simp [Instr.checkKey, run_underlying hu]
      · simp only [decide_eq_true_eq] at h; subst h; simp [keyTy] at hk
      · simp only [decide_eq_true_eq] at h; subst h; simp [keyTy] at hk
      · rename_i fs hu
        simp only [Bool.and_eq_true, Bool.not_eq_true'] at h
        rw [hu] at hagg
        rcases hx with ⟨_, cx, rfl, hx'⟩ | ⟨h1, _⟩
        · have := ih2 0 fs.toList u h.2 hk cx x k (by simpa using hx')
          simp only [Instr.checkKey, Sem.run_bind, run_underlying hu, Result.andThen_ok]
          rw [← Array.forIn_toList]
          rw [run_forIn_unit]
          · simp
          · intro f hf
            have hf' := this f hf
            split
            · rw [Sem.run_bind] at hf' ⊢
              cases hp : (part f.type cx f.offset).run P w with
              | ok p w1 =>
                rw [hp] at hf'
                simp only [Result.andThen_ok] at hf' ⊢
                rw [Sem.run_bind, hf']
                simp
              | _ => rw [hp] at hf'; simp [Result.andThen] at hf'
            · simp
        · rw [h1] at hagg; cases hagg
      · split at h
        · simp [keyTy] at hk
        · cases h
      · cases h
    · intro off fs u h hk xs x k hx
      have onef : ∀ (f : Field) (a : Ty) (p : a.T), keyTy a = true → f.offset = off → eqChk P tt n f.type a = true → Rd H a p (seg xs off a.sz) →
          (do let p ← part f.type xs f.offset; Instr.checkKey em (n + 1 + k) f.type p : Sem Unit).run P w = .ok () w := by
        intro f a p hka h2 h3 h4
        obtain ⟨df, hdf⟩ : ∃ de, tt f.type = some de := by
          cases n with
          | zero => simp [eqChk] at h3
          | succ n =>
            cases hh : tt f.type with
            | none => simp [eqChk, hh] at h3
            | some de => exact ⟨de, rfl⟩
        obtain ⟨s1, s2, _⟩ := eqChk_sz hok h3 hdf
        obtain ⟨ux, a1, a2⟩ := part_vrd (w := w) (hok _ _ hdf) s1 s2 h4
        have := ih1 f.type a h3 hka df p ux (k + 1) hdf a2
        rw [show n + (k + 1) = n + 1 + k by omega] at this
        rw [h2]
        simp only [Sem.run_bind, a1, Result.andThen_ok, this]
      have whole : ∀ (vs : Array Value) (a : Ty) (p : a.T), Rd H a p (vs.toList.drop off) → Rd H a p (seg vs off a.sz) := by
        intro vs a p h
        unfold seg
        rw [List.take_of_length_le (by rw [Rd.len _ _ _ h]; exact Nat.le_refl _)]
        exact h
      match fs, u, x, h, hx, hk with
      | [], u, x, h, hx, hk => simp [eqFs] at h
      | [f], u, x, h, hx, hk =>
        simp only [eqFs, Bool.and_eq_true, decide_eq_true_eq] at h
        intro f' hf'
        simp only [List.mem_singleton] at hf'
        subst hf'
        exact onef _ u x hk h.1.2 h.2 (whole _ _ _ hx)
      | f :: f2 :: r, .pair a b, x, h, hx, hk =>
        simp only [eqFs, Bool.and_eq_true, decide_eq_true_eq] at h
        simp only [keyTy, Bool.and_eq_true] at hk
        have hx2 := hx.2
        rw [List.drop_drop] at hx2
        have tl := ih2 (off + a.sz) (f2 :: r) b h.2 hk.2 xs x.2 (k + 1) hx2
        rw [show n + (k + 1) = n + 1 + k by omega] at tl
        intro f' hf'
        rcases List.mem_cons.1 hf' with rfl | hf'
        · exact onef _ a x.1 hk.1 h.1.1.2 h.1.2 hx.1
        · exact tl f' hf'
      | f :: f2 :: r, .int _, x, h, hx, hk => simp [eqFs] at h
      | f :: f2 :: r, .bool, x, h, hx, hk => simp [eqFs] at h
      | f :: f2 :: r, .str, x, h, hx, hk => simp [eqFs] at h
      | f :: f2 :: r, .flt _, x, h, hx, hk => simp [eqFs] at h
      | f :: f2 :: r, .cpx _, x, h, hx, hk => simp [eqFs] at h
      | f :: f2 :: r, .sl _, x, h, hx, hk => simp [eqFs] at h
      | f :: f2 :: r, .arr _ _, x, h, hx, hk => simp [eqFs] at h
def idxOf (k : Ty) (x : k.T) {t : Ty} : List (k.T × t.T) → Nat → Option Nat
  | [], _ => none
  | p :: r, i => if eqT k x p.1 = true then some i else idxOf k x r (i + 1)
theorem find_ok (hok : ∀ t d, tt t = some d → TDok P t d) {kT : TypeId} {k t : Ty} {d : TD} {gt : Bool} (hc : eqChk P tt 16 kT k = true) (hk : keyTy k = true) (hd : tt kT = some d) {x : k.T} {v : Value} (hv : VRd H d k x v) {l : List (k.T × t.T)} {es : List MapEntry} (he : MEnt H d.agg gt k t l es) :
    ∃ r, (Instr.findKey kT v es).run P w = .ok r w ∧ ((r = none ∧ U.mapGet k t l x = none) ∨ ∃ i u y, r = some (i, u) ∧ idxOf k x l 0 = some i ∧ U.mapGet k t l x = some y ∧ VR H gt t y u) := by
  have key : ∀ (ask : List MapEntry → Nat → Sem (Option (Nat × Value))), (∀ i, (ask [] i).run P w = .ok none w) →
      (∀ (e : MapEntry) (es : List MapEntry) (i : Nat) (y : k.T), VR H d.agg k y e.key → (eqT k x y = true → (ask (e :: es) i).run P w = .ok (some (i, e.val)) w) ∧ (eqT k x y = false → (ask (e :: es) i).run P w = (ask es (i + 1)).run P w)) →
      ∀ (l : List (k.T × t.T)) (es : List MapEntry) (i : Nat), MEnt H d.agg gt k t l es →
      ∃ r, (ask es i).run P w = .ok r w ∧ ((r = none ∧ U.mapGet k t l x = none) ∨ ∃ j u y, r = some (j, u) ∧ idxOf k x l i = some j ∧ U.mapGet k t l x = some y ∧ VR H gt t y u) := by
    intro ask h0 h1 l
    induction l with
    | nil =>
      intro es i he
      rw [show es = [] from he]
      exact ⟨none, h0 i, .inl ⟨rfl, rfl⟩⟩
    | cons p r ih =>
      intro es i he
      obtain ⟨e, es', rfl, e1, e2, e3⟩ := he
      obtain ⟨a1, a2⟩ := h1 e es' i p.1 e1
      cases hq : eqT k x p.1 with
      | true => exact ⟨_, a1 hq, .inr ⟨i, e.val, p.2, rfl, by simp [idxOf, hq], by simp [U.mapGet, hq], e2⟩⟩
      | false =>
        rw [a2 hq]
        obtain ⟨r', b1, b2⟩ := ih es' (i + 1) e3
        refine ⟨r', b1, ?_⟩
        simpa only [idxOf, U.mapGet, hq, Bool.false_eq_true, if_false] using b2
  have asking := key (fun es i => Instr.findAsking kT v es i) (fun i => by simp [Instr.findAsking]) (fun e es i y hy => by
    have := (eq_ok (H := H) (w := w) hok 16).1 kT k hc d x y v e.key 9984 hd hv hy
    have heq : (Op.equal kT v e.key).run P w = .ok (eqT k x y) w := this
    refine ⟨fun h => ?_, fun h => ?_⟩ <;> simp [Instr.findAsking, heq, h]) l es 0 he
  have hT := hok kT d hd
  have hagg := hT.agg
  unfold aggOf at hagg
  simp only [eqChk, hd, Bool.and_eq_true, decide_eq_true_eq] at hc
  obtain ⟨hty, hc⟩ := hc
  have sc : ∀ {u : Ty} {x : u.T} {v : Value}, d.agg = false → VR H d.agg u x v → Rd H u x [v] := by
    rintro u x v hf (⟨h1, _⟩ | ⟨_, h2⟩)
    · rw [hf] at h1; cases h1
    · exact h2
  have scal : ∀ (kd : TypeDesc), P.underlying kT = some kd → (∀ (e : MapEntry) (y : k.T), VR H d.agg k y e.key → Instr.sameNow kd v e.key = some (eqT k x y)) →
      ∃ r, (Instr.findKey kT v es).run P w = .ok r w ∧ ((r = none ∧ U.mapGet k t l x = none) ∨ ∃ i u y, r = some (i, u) ∧ idxOf k x l 0 = some i ∧ U.mapGet k t l x = some y ∧ VR H gt t y u) := by
    intro kd hu hs
    have now : ∀ (l : List (k.T × t.T)) (es : List MapEntry) (i : Nat), MEnt H d.agg gt k t l es → ∃ r, Instr.findNow kd v es i = some r ∧ ((r = none ∧ U.mapGet k t l x = none) ∨ ∃ j u y, r = some (j, u) ∧ idxOf k x l i = some j ∧ U.mapGet k t l x = some y ∧ VR H gt t y u) := by
      intro l
      induction l with
      | nil =>
        intro es i he
        rw [show es = [] from he]
        exact ⟨none, rfl, .inl ⟨rfl, rfl⟩⟩
      | cons p r ih =>
        intro es i he
        obtain ⟨e, es', rfl, e1, e2, e3⟩ := he
        have h1 := hs e p.1 e1
        cases hq : eqT k x p.1 with
        | true => exact ⟨_, by simp only [Instr.findNow, h1, hq], .inr ⟨i, e.val, p.2, rfl, by simp [idxOf, hq], by simp [U.mapGet, hq], e2⟩⟩
        | false =>
          obtain ⟨r', b1, b2⟩ := ih es' (i + 1) e3
          refine ⟨r', by simp only [Instr.findNow, h1, hq]; exact b1, ?_⟩
          simpa only [idxOf, U.mapGet, hq, Bool.false_eq_true, if_false] using b2
    obtain ⟨r, h1, h2⟩ := now l es 0 he
    exact ⟨r, by simp [Instr.findKey, run_underlying hu, h1], h2⟩
  have wide : (match P.underlying kT with | some (.array _ _) | some (.struct _) => true | _ => false) = true → ∃ r, (Instr.findKey kT v es).run P w = .ok r w ∧ ((r = none ∧ U.mapGet k t l x = none) ∨ ∃ i u y, r = some (i, u) ∧ idxOf k x l 0 = some i ∧ U.mapGet k t l x = some y ∧ VR H gt t y u) := by
    intro hw
    have : (Instr.findKey kT v es).run P w = (Instr.findAsking kT v es 0).run P w := by
      cases hu : P.underlying kT with
      | none => simp [hu] at hw
      | some kd =>
        have sn : ∀ e : MapEntry, (match kd with | .array _ _ | .struct _ => true | _ => false) = true → Instr.sameNow kd v e.key = none := by
          intro e hkd
          cases kd <;> simp at hkd <;> cases v <;> simp [Instr.sameNow]
        rw [hu] at hw
        cases es with
        | nil => simp [Instr.findKey, run_underlying hu, Instr.findNow, Instr.findAsking]
        | cons e es => simp [Instr.findKey, run_underlying hu, Instr.findNow, sn e (by cases kd <;> simp_all)]
    rw [this]
    exact asking
  split at hc
  · rename_i k' hu
    simp only [decide_eq_true_eq] at hc
    subst hc
    rw [hu] at hagg
    refine scal _ hu fun e y hy => ?_
    have e1 := sc hagg.symm hv
    have e2 := sc hagg.symm hy
    simp only [Rd, List.cons.injEq, and_true] at e1 e2
    rw [e1, e2]
    simp [Instr.sameNow, eqT]
  · rename_i hu
    simp only [decide_eq_true_eq] at hc
    subst hc
    rw [hu] at hagg
    refine scal _ hu fun e y hy => ?_
    have e1 := sc hagg.symm hv
    have e2 := sc hagg.symm hy
    simp only [Rd, List.cons.injEq, and_true] at e1 e2
    rw [e1, e2]
    simp [Instr.sameNow, eqT]
  · rename_i hu
    simp only [decide_eq_true_eq] at hc
    subst hc
    rw [hu] at hagg
    refine scal _ hu fun e y hy => ?_
    have e1 := sc hagg.symm hv
    have e2 := sc hagg.symm hy
    simp only [Rd, List.cons.injEq, and_true] at e1 e2
    rw [e1, e2]
    have hb : ((⟨⟨x⟩⟩ : ByteArray) == ⟨⟨y⟩⟩) = ((show List UInt8 from x) == y) := by
      show ((⟨x⟩ : Array UInt8) == ⟨y⟩) = _
      simp
    simp [Instr.sameNow, eqT, hb]
  · simp only [decide_eq_true_eq] at hc; subst hc; simp [keyTy] at hk
  · simp only [decide_eq_true_eq] at hc; subst hc; simp [keyTy] at hk
  · rename_i fs hu
    exact wide (by rw [hu])
  · rename_i m e hu
    exact wide (by rw [hu])
  · cases hc
theorem mapPut_ent {k t : Ty} {gk gt : Bool} {x : k.T} {y : t.T} {v u : Value} (hx : VR H gk k x v) (hy : VR H gt t y u) (born : Nat) : ∀ {l : List (k.T × t.T)} {es : List MapEntry}, MEnt H gk gt k t l es → U.mapGet k t l x = none → MEnt H gk gt k t (U.mapPut k t l x y) (es ++ [{ key := v, val := u, born := born }])
  | [], es, he, _ => by
    rw [show es = [] from he]
    exact ⟨_, [], rfl, hx, hy, rfl⟩
  | p :: r, es, he, hn => by
    obtain ⟨e, es', rfl, e1, e2, e3⟩ := he
    unfold U.mapGet at hn
    split at hn
    · cases hn
    · rename_i hq
      unfold U.mapPut
      rw [if_neg hq]
      exact ⟨e, _, rfl, e1, e2, mapPut_ent hx hy born e3 hn⟩
theorem mapPut_set {k t : Ty} {gk gt : Bool} {x : k.T} {y : t.T} {u : Value} (hy : VR H gt t y u) : ∀ {l : List (k.T × t.T)} {es : List MapEntry} (i j : Nat), MEnt H gk gt k t l es → idxOf k x l j = some (j + i) → MEnt H gk gt k t (U.mapPut k t l x y) (es.modify i fun e => { e with val := u })
  | [], es, i, j, he, hn => by simp [idxOf] at hn
  | p :: r, es, i, j, he, hn => by
    obtain ⟨e, es', rfl, e1, e2, e3⟩ := he
    unfold idxOf at hn
    unfold U.mapPut
    split at hn
    · rename_i hq
      rw [if_pos hq]
      have : i = 0 := by have := Option.some.inj hn; omega
      subst this
      exact ⟨_, es', rfl, e1, hy, e3⟩
    · rename_i hq
      rw [if_neg hq]
      cases i with
      | zero =>
        exfalso
        have lb : ∀ (l : List (k.T × t.T)) (j m : Nat), idxOf k x l j = some m → j ≤ m := by
          intro l
          induction l with
          | nil => intro j m h; simp [idxOf] at h
          | cons p r ih =>
            intro j m h
            unfold idxOf at h
            split at h
            · cases h; exact Nat.le_refl _
            · have := ih _ _ h; omega
        have := lb _ _ _ hn
        omega
      | succ i =>
        refine ⟨e, _, rfl, e1, e2, mapPut_set hy i (j + 1) e3 ?_⟩
        rw [hn]; congr 1; omega
theorem idx_key {k t : Ty} {gk gt : Bool} {x : k.T} : ∀ {l : List (k.T × t.T)} {es : List MapEntry} (i j : Nat), MEnt H gk gt k t l es → idxOf k x l j = some (j + i) → ∃ e y, es[i]? = some e ∧ VR H gk k y e.key ∧ eqT k x y = true
  | [], es, i, j, he, hn => by simp [idxOf] at hn
  | p :: r, es, i, j, he, hn => by
    obtain ⟨e, es', rfl, e1, e2, e3⟩ := he
    unfold idxOf at hn
    split at hn
    · rename_i hq
      have : i = 0 := by have := Option.some.inj hn; omega
      subst this
      exact ⟨e, p.1, rfl, e1, hq⟩
    · cases i with
      | zero =>
        exfalso
        have lb : ∀ (l : List (k.T × t.T)) (j m : Nat), idxOf k x l j = some m → j ≤ m := by
          intro l
          induction l with
          | nil => intro j m h; simp [idxOf] at h
          | cons p r ih =>
            intro j m h
            unfold idxOf at h
            split at h
            · cases h; exact Nat.le_refl _
            · have := ih _ _ h; omega
        have := lb _ _ _ hn
        omega
      | succ i =>
        obtain ⟨e', y, h1, h2, h3⟩ := idx_key i (j + 1) e3 (by rw [hn]; congr 1; omega)
        exact ⟨e', y, h1, h2, h3⟩
end
section
variable {E : Env} {w0 : Base} {B : Nat} {ρ : Nat → Value} {H : IH} {ob : List (Nat × Option AObj)} {nx : Nat} {w : World} {ev : Operand → Option SV} {a : Act} {o : Oper} {r : Res}
theorem ofVg_den {g : Bool} {t : Ty} {v : V} {x : t.T} {u : Value} (hρ : ∀ id, (ρ id).oneCell' = true) (h : ofVg g t v = some x) (hd : DenV ρ H v u) : VR H g t x u := by
  unfold ofVg at h
  split at h
  · rename_i c
    cases g with
    | true => simp at h
    | false =>
      simp only [cond_false] at h
      have := ofV_den hρ h hd
      have h1 : u.oneCell' = true := DenC.one hρ hd
      refine .inr ⟨rfl, ?_⟩
      have hc : u.cells.toList = [u] := by cases u <;> simp_all [Value.cells, Value.oneCell']
      rw [hc] at this
      exact this
  · rename_i cs
    cases g with
    | false => simp at h
    | true =>
      simp only [cond_true] at h
      have := ofV_den hρ h hd
      obtain ⟨vs, rfl, _⟩ := hd
      exact .inl ⟨rfl, ⟨vs⟩, rfl, this⟩
theorem keyAs_den (hE : EnvOk E) (I : Inv w0 B ρ H ob nx w) {kT : TypeId} {g : Bool} {k : Ty} {v : V} {x : k.T} {u : Value} (h : keyAs E kT g k v = some x) (hd : DenV ρ H v u) :
    ∃ d, E.tt kT = some d ∧ d.agg = g ∧ keyTy k = true ∧ eqChk E.P E.tt 16 kT k = true ∧ VR H g k x u := by
  unfold keyAs at h
  split at h
  · rename_i d hT
    split at h
    · rename_i hh
      obtain ⟨h1, h2, h3, h4⟩ := hh
      exact ⟨d, hT, h1, h4, (hE.eq kT d k h3 hT h2).1, ofVg_den I.one h hd⟩
    · cases h
  · cases h
theorem sound_makeMap (I : Inv w0 B ρ H ob nx w) {T : TypeId} {gk gt : Bool} {k t : Ty} (ho : o.op = .makeMap T none)
    (hr : r = ⟨[], some (.val (.one (.own nx))), [(nx, some (.map gk gt k t []))]⟩) : StepOk E.P o a w (Post w0 B ob nx ρ H r) := by
  subst hr
  have hb : Below w.heap.size w (w.alloc (.map #[] 0)) := (Below.refl _ _).alloc (Nat.le_refl _) _
  have hB : B ≤ w.heap.size := Nat.le_trans I.bsz I.below.size
  have hr : REq nx ρ (upd ρ nx (.map (some w.heap.size))) := REq.upd _ _ _ (Nat.le_refl _)
  refine .inl ⟨.map (some w.heap.size), w.alloc (.map #[] 0), ?_, upd ρ nx (.map (some w.heap.size)), H, ?_, HLe.refl _, hr, ?_⟩
  · simp [execOp, ho, Instr.makeMap]
  · refine (I.grow hb).add (Nat.le_refl _) (by simp [W]) rfl trivial ?_ ?_ ?_
    · exact ⟨w.heap.size, #[], 0, upd_same _ _ _, hB, I.hnew, heap_alloc_new _ _, rfl⟩
    · intro b hb' id p hp
      rcases hb' with hb' | ⟨_, _, hb'⟩ | hb' <;> cases hb'
      exact DenO.fresh I id p hp _ (Nat.le_refl _)
    · intro b hb' hk
      rcases hb' with hb' | ⟨_, _, hb'⟩ | hb' <;> cases hb'
      exact absurd (I.kLt hk) (by omega)
  · intro sv e; cases e
    exact ⟨(upd_same _ _ _).symm, by simp [SV.lt, V.lt, C.lt, W]⟩
theorem sound_mapUpdate (hE : EnvOk E) (I : Inv w0 B ρ H ob nx w) (hv : EvOk ρ H nx ev a) {T kT eT : TypeId} {m x y : Operand} {d : TD} {id : Nat} {gk gt : Bool} {k t : Ty} {l : List (k.T × t.T)} {kv xv : V} {p : k.T} {q : t.T} (ho : o.op = .mapUpdate T m x y ∨ o.op = .insert T m x y) (hT : E.tt T = some d) (hk : d.kind = .map kT eT)
    (hm : (ev m).bind one? = some (.own id)) (hx : (ev x).bind val? = some kv) (hy : (ev y).bind val? = some xv) (hob : lookO ob id = some (.map gk gt k t l)) (hp : keyAs E kT gk k kv = some p) (hq : ofVg gt t xv = some q)
    (hr : r = ⟨[], none, [(id, some (.map gk gt k t (U.mapPut k t l p q)))]⟩) : StepOk E.P o a w (Post w0 B ob nx ρ H r) := by
  subst hr
  obtain ⟨_, _, g, es, cl, d1, d2, d3, d4, d5⟩ := I.objs _ _ hob
  have hu := (hE.tt T d hT).map _ _ hk
  have m1 : a.eval m = .map (some g) := by rw [show a.eval m = ρ id from (hv.one hm).1]; exact d1
  obtain ⟨dk, k1, k2, k3, k4, k5⟩ := keyAs_den hE I hp (hv.val hx).1
  have x1 := ofVg_den I.one hq (hv.val hy).1
  subst k2
  have hchk : (Instr.checkKey false 10000 kT (a.eval x)).run E.P w = .ok () w := (check_ok (H := H) (w := w) false hE.tt 16).1 kT k k4 k3 dk p (a.eval x) 9984 k1 k5
  obtain ⟨rr, f1, f2⟩ := find_ok (w := w) hE.tt k4 k3 k1 k5 d5
  have fin : ∀ (es' : Array MapEntry) (cl' : Nat), MEnt H dk.agg gt k t (U.mapPut k t l p q) es'.toList → (execOp a.eval o).run E.P w = .ok .skip { w with heap := w.heap.setIfInBounds g (.map es' cl') } →
      StepOk E.P o a w (Post w0 B ob nx ρ H ⟨[], none, [(id, some (.map dk.agg gt k t (U.mapPut k t l p q)))]⟩) := by
    intro es' cl' he hrun
    have hlt : g < w.heap.size := lt_of_some d4
    refine .inr (.inl ⟨{ w with heap := w.heap.setIfInBounds g (.map es' cl') }, hrun, ρ, H, ?_, HLe.refl _, REq.refl _ _, by simp⟩)
    refine (I.putW (w' := { w with heap := w.heap.setIfInBounds g (.map es' cl') }) (p := .map dk.agg gt k t (U.mapPut k t l p q)) hob (g := g) (.inr (.inr d1)) ⟨rfl, rfl, rfl, by simp, fun i hi => ?_⟩ (fun i hi => by simp [Ne.symm hi]) trivial ⟨g, es', cl', d1, d2, d3, by simp [hlt], he⟩).more (by omega)
    have : i ≠ g := by omega
    simp [Ne.symm this]
  rcases f2 with ⟨rfl, g2⟩ | ⟨i, u, y', rfl, g2, g3, g4⟩
  · refine fin (es.push { key := a.eval x, val := a.eval y, born := cl }) (cl + 1) ?_ ?_
    · rw [Array.toList_push]
      exact mapPut_ent k5 x1 cl d5 g2
    · rcases ho with ho | ho <;> simp [execOp, ho, Instr.mapUpdate, m1, run_underlying hu, MapKept.run_getObj_map d4, hchk, f1, MapKept.run_setObj_map _ d4]
  · obtain ⟨e, z, h1, h2, h3⟩ := idx_key i 0 d5 (by rw [g2]; congr 1; omega)
    have hkey : a.eval x = e.key := key_vals k3 k5 h2 h3
    have hes : es[i]? = some e := by rw [← Array.getElem?_toList]; exact h1
    refine fin (es.modify i fun e => { e with key := a.eval x, val := a.eval y }) cl ?_ ?_
    · have hmod : (es.modify i fun e => { e with key := a.eval x, val := a.eval y }).toList = es.toList.modify i fun e => { e with val := a.eval y } := by
        rw [Array.toList_modify]
        apply List.ext_getElem?
        intro j
        rw [List.getElem?_modify, List.getElem?_modify]
        split
        · rename_i hij
          subst hij
          rw [h1]
          simp [hkey]
        · rfl
      rw [hmod]
      exact mapPut_set x1 i 0 d5 (by rw [g2]; congr 1; omega)
    · have hst : (Instr.keyThatStays e.key (a.eval x)).run E.P w = .ok (a.eval x) w := by
        rw [← hkey]
        exact key_stays k3 k5
      rcases ho with ho | ho <;> simp [execOp, ho, Instr.mapUpdate, m1, run_underlying hu, MapKept.run_getObj_map d4, hchk, f1, hes, hst, MapKept.run_setObj_map _ d4]
theorem sound_lookup (hE : EnvOk E) (I : Inv w0 B ρ H ob nx w) (hv : EvOk ρ H nx ev a) {T kT eT : TypeId} {m x : Operand} {ok : Bool} {d de : TD} {c : C} {M : MapD} {kv v : V} {p : M.k.T} (ho : o.op = .lookup T m x ok) (hT : E.tt T = some d) (hk : d.kind = .map kT eT)
    (hm : (ev m).bind one? = some c) (hx : (ev x).bind val? = some kv) (hob : mapOf (lookO ob) c = some M) (he : E.tt eT = some de) (hg : de.agg = M.gt) (ht : de.ty = some M.t) (hp : keyAs E kT M.gk M.k kv = some p)
    (hmk : mkV de (toChs M.t ((U.mapGet M.k M.t M.l p).getD M.t.d)) = some v) (hr : rv (bif ok then .tup [v, .one (.bool (U.mapGet M.k M.t M.l p).isSome)] else .val v) = some r) : StepOk E.P o a w (Post w0 B ob nx ρ H r) := by
  obtain ⟨g, es, cl, d1, d4, d5⟩ := map_den I hob (hv.one hm).1
  have hu := (hE.tt T d hT).map _ _ hk
  obtain ⟨dk, k1, k2, k3, k4, k5⟩ := keyAs_den hE I hp (hv.val hx).1
  rw [← k2] at k5 d5
  have hchk : (Instr.checkKey es.isEmpty 10000 kT (a.eval x)).run E.P w = .ok () w := (check_ok (H := H) (w := w) es.isEmpty hE.tt 16).1 kT M.k k4 k3 dk p (a.eval x) 9984 k1 k5
  obtain ⟨rr, f1, f2⟩ := find_ok (w := w) hE.tt k4 k3 k1 k5 d5
  have hTe := hE.tt eT de he
  have denV : ∀ {y : M.t.T} {u : Value}, VR H M.gt M.t y u → mkV de (toChs M.t y) = some v → DenV ρ H v u := by
    intro y u hy hmk
    unfold mkV at hmk
    rw [hg] at hmk
    rcases hy with ⟨h1, cs, rfl, h3⟩ | ⟨h1, h3⟩
    · rw [h1] at hmk
      simp only [cond_true] at hmk
      cases hmk
      exact ⟨cs.toList, rfl, toChs_den _ _ _ h3⟩
    · rw [h1] at hmk
      simp only [cond_false] at hmk
      split at hmk
      · rename_i c' hc'
        cases hmk
        have := toChs_den (ρ := ρ) _ _ _ h3
        rw [hc'] at this
        obtain ⟨v', vs', e1, e2, e3⟩ := this
        cases e1
        exact e2
      · cases hmk
  have hlt : v.lt nx := by
    have := toChs_lt nx M.t ((U.mapGet M.k M.t M.l p).getD M.t.d)
    unfold mkV at hmk
    cases hag : de.agg with
    | true => rw [hag] at hmk; simp only [cond_true] at hmk; cases hmk; exact this
    | false =>
      rw [hag] at hmk
      simp only [cond_false] at hmk
      split at hmk
      · rename_i c' hc'
        cases hmk
        exact this (.one c') (by rw [hc']; simp)
      · cases hmk
  have zero : ∃ z, (zeroValue eT).run E.P w = .ok z w ∧ VR H M.gt M.t M.t.d z := by
    obtain ⟨i, z, i1, i2, i3, i4, i5, i6⟩ := hTe.info
    have hrd := i6 M.t ht H
    refine ⟨z, by simp [zeroValue, run_typeInfo w i1, i4], ?_⟩
    rw [← hg]
    have hz := hTe.zag i z i1 i4
    cases hag : de.agg with
    | true =>
      rw [hag] at hz
      cases z <;> simp only [isAggV, Bool.false_eq_true] at hz
      exact .inl ⟨rfl, _, rfl, hrd⟩
    | false =>
      rw [hag] at hz
      refine .inr ⟨rfl, ?_⟩
      have hc : z.cells.toList = [z] := by cases z <;> simp_all [Value.cells, isAggV]
      rw [hc] at hrd
      exact hrd
  have main : ∀ (u : Value) (y : M.t.T) (b : Bool), (U.mapGet M.k M.t M.l p).getD M.t.d = y → (U.mapGet M.k M.t M.l p).isSome = b → VR H M.gt M.t y u → (execOp a.eval o).run E.P w = .ok (.value (if ok then .tuple #[u, .bool b] else u)) w → StepOk E.P o a w (Post w0 B ob nx ρ H r) := by
    intro u y b e1 e2 hy hrun
    rw [e1] at hmk
    have hd := denV hy hmk
    rw [e2] at hr
    cases ok with
    | true => exact ok_same I (sv := .tup [v, .one (.bool b)]) hrun ⟨[u, .bool b], rfl, u, _, rfl, hd, _, _, rfl, rfl, rfl⟩ (by intro z hz; simp only [List.mem_cons, List.not_mem_nil, or_false] at hz; rcases hz with rfl | rfl; exact hlt; exact trivial) (rv_eq hr)
    | false => exact ok_same I (sv := .val v) hrun hd hlt (rv_eq hr)
  rcases f2 with ⟨rfl, g2⟩ | ⟨i, u, y', rfl, g2, g3, g4⟩
  · obtain ⟨z, z1, z2⟩ := zero
    refine main z M.t.d false (by rw [g2]; rfl) (by rw [g2]; rfl) z2 ?_
    simp [execOp, ho, Instr.lookup, d1, run_underlying hu, MapKept.run_getObj_map d4, hchk, f1, z1]
  · refine main u y' true (by rw [g3]; rfl) (by rw [g3]; rfl) g4 ?_
    simp [execOp, ho, Instr.lookup, d1, run_underlying hu, MapKept.run_getObj_map d4, hchk, f1]
theorem sound_len_map (hE : EnvOk E) (I : Inv w0 B ρ H ob nx w) (hv : EvOk ρ H nx ev a) {T kT eT : TypeId} {x : Operand} {d : TD} {c : C} {M : MapD} (ho : o.op = .call ⟨.builtin .len, ⟨[x]⟩, ⟨[T]⟩⟩) (hT : E.tt T = some d) (hk : d.kind = .map kT eT)
    (hx : (ev x).bind one? = some c) (hob : mapOf (lookO ob) c = some M) (hr : rc (.int .i64 M.l.length) = some r) : StepOk E.P o a w (Post w0 B ob nx ρ H r) := by
  obtain ⟨g, es, cl, d1, d4, d5⟩ := map_den I hob (hv.one hx).1
  have hu := (hE.tt T d hT).map _ _ hk
  have hlen : es.size = M.l.length := by
    have : ∀ {k t : Ty} {gk gt : Bool} (l : List (k.T × t.T)) (es : List MapEntry), MEnt H gk gt k t l es → es.length = l.length := by
      intro k t gk gt l
      induction l with
      | nil => intro es h; rw [show es = [] from h]; rfl
      | cons p r ih =>
        intro es h
        obtain ⟨e, es', rfl, _, _, h3⟩ := h
        simp [ih es' h3]
    rw [← Array.length_toList]
    exact this _ _ d5
  refine ok_rc I hr (v := .int .i64 M.l.length) ?_ rfl trivial
  simp [execOp, ho, resolve, invoke, builtin, Builtin.len_, d1, run_underlying hu, MapKept.run_getObj_map d4, goInt, hlen]
end
end Go.Sx
