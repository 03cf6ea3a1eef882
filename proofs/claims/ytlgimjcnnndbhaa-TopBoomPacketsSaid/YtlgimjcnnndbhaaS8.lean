/- A verified symbolic run of functions, part 8: lemmas, no claim of their own. -/
import Derived.Test.YtlgimjcnnndbhaaS7
import Derived.OrdersIn
import Derived.Lib.OthersKept
import Derived.RangeFuncNested
namespace Go.Sx
open Go.RowKit
section
variable {E : Env} {w0 : Base} {B : Nat} {ρ : Nat → Value} {H : IH} {ob : List (Nat × Option AObj)} {nx : Nat} {w : World} {ev : Operand → Option SV} {a : Act} {o : Oper} {r : Res}
theorem sc_bool {P : Program} {t : TypeId} {d : TD} (h : TDok P t d) (h1 : d.kind = .sc) (h2 : d.ty = some .bool) : P.underlying t = some .bool := by
  have := h.sc _ h1 h2
  unfold scOk at this
  split at this <;> simp_all
theorem sound_bin (hE : EnvOk E) (I : Inv w0 B ρ H ob nx w) (hv : EvOk ρ H nx ev a) {op : BinOp} {T T' : TypeId} {x y : Operand} (ho : o.op = .binOp op T x y T') (h : stepOp E ev (lookO ob) nx (.binOp op T x y T') = some r) (hc : ∀ q ∈ r.cs, q) :
    StepOk E.P o a w (Post w0 B ob nx ρ H r) := by
  simp only [stepOp] at h
  split at h
  · rename_i k m k' n hx hy
    have k1 : a.eval x = .int k m := (hv.val hx).1
    have k2 : a.eval y = .int k' n := (hv.val hy).1
    have sh : ∀ op, o.op = .binOp op T x y T' → shInt op k m n = some r → StepOk E.P o a w (Post w0 B ob nx ρ H r) := by
      intro op ho h
      obtain ⟨v, c, cs, e1, e2, e3, e4⟩ := shInt_run (P := E.P) (T := T) (k' := k') h hc
      exact ok_same I (sv := .val (.one c)) (run_bin ho k1 k2 guard_int (e2 w)) (e3 ρ H) (e4 nx) e1
    split at h
    · exact sh _ ho h
    · exact sh _ ho h
    · split at h
      · rename_i e
        subst e
        obtain ⟨v, c, cs, e1, e2, e3, e4⟩ := binInt_run (P := E.P) (T := T) h hc
        exact ok_same I (sv := .val (.one c)) (run_bin ho k1 k2 guard_int (e2 w)) (e3 ρ H) (e4 nx) e1
      · cases h
  · rename_i k m k' n hx hy
    have k1 : a.eval x = .float k m := (hv.val hx).1
    have k2 : a.eval y = .float k' n := (hv.val hy).1
    split at h
    · rename_i e
      subst e
      obtain ⟨v, c, cs, e1, e2, e3, e4⟩ := binFlt_run (P := E.P) (T := T) h hc
      exact ok_same I (sv := .val (.one c)) (run_bin ho k1 k2 guard_flt (e2 w)) (e3 ρ H) (e4 nx) e1
    · cases h
  · rename_i k m k' n hx hy
    split at h
    · rename_i e
      subst e
      exact sound_odd I hv ho hx hy h
    · cases h
  · rename_i b hx hy
    split at h
    · rename_i z hk
      obtain ⟨d, hd, hk⟩ := Option.map_eq_some_iff.1 hk
      exact sound_err hE I hv ho hd hk hx hy (.inl ⟨rfl, h⟩)
    · rename_i z hk
      obtain ⟨d, hd, hk⟩ := Option.map_eq_some_iff.1 hk
      exact sound_err hE I hv ho hd hk hx hy (.inr ⟨rfl, h⟩)
    · cases h
  · rename_i k k' n hx hy
    split at h
    · split at h
      · rename_i e
        subst e
        exact sound_odd_ne I hv ho hx hy h
      · cases h
    · cases h
  · rename_i k p q k' m n hx hy
    split at h
    · rename_i e
      subst e
      split at h
      · exact sound_eq_cpx I hv ho hx hy (.inl ⟨rfl, h⟩)
      · exact sound_eq_cpx I hv ho hx hy (.inr ⟨rfl, h⟩)
      · split at h
        · rename_i e
          subst e
          exact sound_cmul I hv ho hx hy h hc
        · cases h
      · cases h
    · cases h
  · rename_i p q hx hy
    have k1 : a.eval x = .bool p := (hv.val hx).1
    have k2 : a.eval y = .bool q := (hv.val hy).1
    split at h
    · rename_i hT
      have hu := sc_bool (hE.tt T _ hT) rfl rfl
      exact ok_rc I h (v := .bool (p == q)) (run_bin ho k1 k2 guard_bool (by simp [binOp, Op.equal, Op.maxDepth, run_equalIn_bool w 9999 T p q hu])) rfl trivial
    · rename_i hT
      have hu := sc_bool (hE.tt T _ hT) rfl rfl
      exact ok_rc I h (v := .bool (p != q)) (run_bin ho k1 k2 guard_bool (by simp [binOp, Op.equal, Op.maxDepth, run_equalIn_bool w 9999 T p q hu, bne])) rfl trivial
    · cases h
  · rename_i p q hx hy
    have k1 : a.eval x = .string ⟨⟨p⟩⟩ := (hv.val hx).1
    have k2 : a.eval y = .string ⟨⟨q⟩⟩ := (hv.val hy).1
    split at h
    · exact ok_rc I h (v := .bool (p == q)) (run_bin ho k1 k2 guard_str (by simp [binOp, Op.stringOp])) rfl trivial
    · exact ok_rc I h (v := .bool (p != q)) (run_bin ho k1 k2 guard_str (by simp [binOp, Op.stringOp, bne])) rfl trivial
    · have hle := rcc_holds h hc
      refine ok_rcc I h (v := .string ⟨⟨p ++ q⟩⟩) (run_bin ho k1 k2 guard_str ?_) rfl trivial
      have hs : (⟨⟨p⟩⟩ : ByteArray) ++ ⟨⟨q⟩⟩ = ⟨⟨p ++ q⟩⟩ := by
        apply ByteArray.ext
        rw [ByteArray.data_append]
        apply Array.ext'
        simp
      have h1 : (⟨⟨p⟩⟩ : ByteArray).size = p.length := rfl
      have h2 : (⟨⟨q⟩⟩ : ByteArray).size = q.length := rfl
      have hm : IntKind.i64.max = 9223372036854775807 := by decide
      have hno : ¬ (((p.length + q.length : Nat) : Int) > 9223372036854775807) := by omega
      simp only [binOp, Op.stringOp, hs, h1, h2, hm]
      rw [if_neg hno]
      rfl
    · cases h
  · rename_i hx hy
    have k1 : a.eval x = .slice none 0 0 := (hv.val hx).1
    have k2 : a.eval y = .slice none 0 0 := (hv.val hy).1
    have hg : ∀ op, (eqGuard op T x y (.slice none 0 0) (.slice none 0 0)).run E.P w = .ok () w := by
      intro op
      cases op <;> simp [eqGuard]
    split at h
    · rename_i e _ _ hT
      have hu := (hE.tt T _ hT).slc e rfl
      exact ok_rc I h (v := .bool true) (run_bin ho k1 k2 (hg _) (by rw [Lib.run_eql_slice_nil w T e none 0 0 0 0 hu]; rfl)) rfl trivial
    · rename_i e _ _ hT
      have hu := (hE.tt T _ hT).slc e rfl
      exact ok_rc I h (v := .bool false) (run_bin ho k1 k2 (hg _) (by rw [run_neq_slice_nil_any w T e none 0 0 0 0 hu]; rfl)) rfl trivial
    · cases h
  · rename_i xs ys hx hy
    split at h
    · rename_i u _ hT
      split at h
      · rename_i heq
        split at h
        · rename_i p q hp hq
          split at h
          · exact sound_eq_agg hE I hv ho hx hy hT rfl rfl heq hp hq (.inl ⟨rfl, h⟩)
          · exact sound_eq_agg hE I hv ho hx hy hT rfl rfl heq hp hq (.inr ⟨rfl, h⟩)
          · cases h
        · cases h
      · cases h
    · cases h
  · cases h
theorem sound_range (hE : EnvOk E) (I : Inv w0 B ρ H ob nx w) (hv : EvOk ρ H nx ev a) {T : TypeId} {x : Operand} {d : TD} {l : List UInt8} (ho : o.op = .range T x) (hT : E.tt T = some d) (hk : d.kind = .sc) (ht : d.ty = some .str)
    (hx : (ev x).bind one? = some (.str l)) (hr : r = ⟨[], some (.val (.one (.ptr nx 0))), [(nx, some (.sit l 0))]⟩) : StepOk E.P o a w (Post w0 B ob nx ρ H r) := by
  subst hr
  have k1 : a.eval x = .string ⟨⟨l⟩⟩ := (hv.one hx).1
  have hu := sc_str (hE.tt T d hT) hk ht
  have hb : Below w.heap.size w (w.alloc (.stringIter ⟨⟨l⟩⟩ 0)) := (Below.refl _ _).alloc (Nat.le_refl _) _
  have hB : B ≤ w.heap.size := Nat.le_trans I.bsz I.below.size
  have hH : H w.heap.size = none := by
    cases hh : H w.heap.size with
    | none => rfl
    | some o => have := lt_of_some (I.agree _ _ hh); omega
  have hr : REq nx ρ (upd ρ nx (.pointer (some ⟨w.heap.size, 0, none⟩))) := REq.upd _ _ _ (Nat.le_refl _)
  refine .inl ⟨.pointer (some ⟨w.heap.size, 0, none⟩), w.alloc (.stringIter ⟨⟨l⟩⟩ 0), ?_, upd ρ nx (.pointer (some ⟨w.heap.size, 0, none⟩)), H, ?_, HLe.refl _, hr, ?_⟩
  · simp [execOp, ho, Instr.range, k1, run_underlying hu]
  · refine (I.grow hb).add (Nat.le_refl _) (by simp [W]) rfl trivial ?_ ?_ ?_
    · exact ⟨w.heap.size, upd_same _ _ _, hB, hH, heap_alloc_new _ _⟩
    · intro b hb' id p hp
      rcases hb' with hb' | ⟨_, _, hb'⟩ | hb' <;> cases hb'
      exact DenO.fresh I id p hp _ (Nat.le_refl _)
    · intro b hb' hk
      rcases hb' with hb' | ⟨_, _, hb'⟩ | hb' <;> cases hb'
      exact absurd (I.kLt hk) (by omega)
  · intro sv e; cases e
    exact ⟨⟨w.heap.size, upd_same _ _ _, rfl⟩, by simp [SV.lt, V.lt, C.lt, W]⟩
theorem sound_builtin (hE : EnvOk E) (I : Inv w0 B ρ H ob nx w) (hv : EvOk ρ H nx ev a) {b : Builtin} {args : Array Operand} {ts : Array TypeId} {vs : List V} (ho : o.op = .call ⟨.builtin b, args, ts⟩) (hvs : evs ev args.toList = some vs)
    (h : builtinR E (lookO ob) nx b ts.toList vs = some r) (hc : ∀ q ∈ r.cs, q) : StepOk E.P o a w (Post w0 B ob nx ρ H r) := by
  have one : ∀ {x : Operand} {l : List Operand} {v : V} {us : List V}, evs ev (x :: l) = some (v :: us) → (ev x).bind val? = some v ∧ evs ev l = some us := by
    intro x l v us h
    simp only [evs] at h
    split at h
    · rename_i v' hx
      obtain ⟨qs, h1, h2⟩ := Option.map_eq_some_iff.1 h
      cases h2
      exact ⟨hx, h1⟩
    · cases h
  have toOne : ∀ {x : Operand} {c : C}, (ev x).bind val? = some (.one c) → (ev x).bind one? = some c := by
    intro x c h
    cases hx : ev x with
    | none => rw [hx] at h; cases h
    | some sv => cases sv with
      | val v => rw [hx] at h; simp only [Option.bind_some, val?] at h ⊢; cases h; rfl
      | tup vs => rw [hx] at h; simp [val?] at h
  have two : ∀ {l : List Operand} {u v : V}, evs ev l = some [u, v] → ∃ x y, l = [x, y] ∧ (ev x).bind val? = some u ∧ (ev y).bind val? = some v := by
    intro l u v h
    cases l with
    | nil => simp [evs] at h
    | cons x l =>
      obtain ⟨h1, h2⟩ := one h
      cases l with
      | nil => simp [evs] at h2
      | cons y l =>
        obtain ⟨h3, h4⟩ := one h2
        cases l with
        | nil => exact ⟨x, y, rfl, h1, h3⟩
        | cons => simp only [evs] at h4; split at h4 <;> simp at h4
  obtain ⟨args⟩ := args
  obtain ⟨ts⟩ := ts
  simp only [] at hvs h
  unfold builtinR at h
  split at h
  · rename_i c
    split at h
    · rename_i T
      obtain ⟨x, rfl⟩ : ∃ x, args = [x] := by
        cases args with
        | nil => simp [evs] at hvs
        | cons x l => obtain ⟨_, h2⟩ := one hvs; cases l with
          | nil => exact ⟨x, rfl⟩
          | cons => simp only [evs] at h2; split at h2 <;> simp at h2
      have hx := toOne (one hvs).1
      split at h
      · rename_i e _ _ _ hT
        split at h
        · rename_i n hn
          exact sound_len_slice hE I hv ho hT rfl hx hn h
        · cases h
      · rename_i l hT
        exact sound_len_str hE I hv ho hT rfl rfl hx h
      · rename_i kT eT _ _ hT
        split at h
        · rename_i m hm
          exact sound_len_map hE I hv ho hT rfl hx hm h
        · cases h
      · cases h
    · cases h
  · rename_i k m k' n
    split at h
    · rename_i e
      subst e
      obtain ⟨x, y, rfl, hx, hy⟩ := two hvs
      exact sound_minmax I ho (hv.val hx).1 (hv.val hy).1 (.inl ⟨rfl, h⟩)
    · cases h
  · rename_i k m k' n
    split at h
    · rename_i e
      subst e
      obtain ⟨x, y, rfl, hx, hy⟩ := two hvs
      exact sound_minmax I ho (hv.val hx).1 (hv.val hy).1 (.inr ⟨rfl, h⟩)
    · cases h
  · split at h
    · rename_i l hl
      exact sound_maxl I hv ho hvs hl h
    · cases h
  · split at h
    · rename_i l hl
      exact sound_maxF I hv ho hvs hl h hc
    · cases h
  · rename_i k m k' n
    split at h
    · rename_i e
      subst e
      obtain ⟨x, y, rfl, hx, hy⟩ := two hvs
      exact sound_cpx I hv ho (hv.val hx).1 (hv.val hy).1 h
    · cases h
  · rename_i k m n
    obtain ⟨x, rfl⟩ : ∃ x, args = [x] := by
      cases args with
      | nil => simp [evs] at hvs
      | cons x l => obtain ⟨_, h2⟩ := one hvs; cases l with
        | nil => exact ⟨x, rfl⟩
        | cons => simp only [evs] at h2; split at h2 <;> simp at h2
    exact sound_part I hv ho (hv.val (one hvs).1).1 (.inl ⟨rfl, h⟩)
  · rename_i k m n
    obtain ⟨x, rfl⟩ : ∃ x, args = [x] := by
      cases args with
      | nil => simp [evs] at hvs
      | cons x l => obtain ⟨_, h2⟩ := one hvs; cases l with
        | nil => exact ⟨x, rfl⟩
        | cons => simp only [evs] at h2; split at h2 <;> simp at h2
    exact sound_part I hv ho (hv.val (one hvs).1).1 (.inr ⟨rfl, h⟩)
  · rename_i s c
    split at h
    · rename_i T T'
      split at h
      · rename_i e
        subst e
        obtain ⟨x, y, rfl, hx, hy⟩ := two hvs
        exact sound_append hE I ho (hv.val hx).1 (hv.val hy).1 h hc
      · obtain ⟨x, y, rfl, hx, hy⟩ := two hvs
        exact sound_append_str hE I ho (hv.val hx).1 (hv.val hy).1 h hc
    · cases h
  · rename_i c
    split at h
    · rename_i T
      split at h
      · rename_i e _ _ hT
        split at h
        · rename_i t _ he
          split at h
          · rename_i id lo n xs hp
            obtain ⟨x, rfl⟩ : ∃ x, args = [x] := by
              cases args with
              | nil => simp [evs] at hvs
              | cons x l => obtain ⟨_, h2⟩ := one hvs; cases l with
                | nil => exact ⟨x, rfl⟩
                | cons => simp only [evs] at h2; split at h2 <;> simp at h2
            exact sound_clear hE I ho hT rfl he rfl (hv.val (one hvs).1).1 hp (Option.some.inj h).symm hc
          · cases h
        · cases h
      · cases h
    · cases h
  · rename_i c s
    split at h
    · rename_i T T'
      split at h
      · rename_i e _ _ hT
        split at h
        · rename_i t _ he
          split at h
          · rename_i id lo n xs ys hp hs
            split at h
            · rename_i e
              subst e
              obtain ⟨x, y, rfl, hx, hy⟩ := two hvs
              exact sound_copy hE I ho hT rfl he rfl (hv.val hx).1 (hv.val hy).1 hp hs (Option.some.inj h).symm hc
            · cases h
          · rename_i ys _ hs
            split at h
            · rename_i e
              subst e
              obtain ⟨x, y, rfl, hx, hy⟩ := two hvs
              exact sound_copyBox hE I ho hT rfl he rfl (hv.val hx).1 (hv.val hy).1 hs h hc
            · cases h
          · cases h
        · cases h
      · cases h
    · cases h
  · cases h
theorem stepOp_sound (hE : EnvOk E) (I : Inv w0 B ρ H ob nx w) (G : GlobOk E.gl H) (hv : EvOk ρ H nx ev a) (h : stepOp E ev (lookO ob) nx o.op = some r) (hc : ∀ q ∈ r.cs, q) : StepOk E.P o a w (Post w0 B ob nx ρ H r) := by
  cases ho : o.op with
  | move x => rw [ho] at h; exact sound_move I hv (.inl ho) h
  | assign x => rw [ho] at h; exact sound_move I hv (.inr ho) h
  | pick c x y =>
    rw [ho] at h
    simp only [stepOp] at h
    split at h
    · rename_i b p q h1 h2 h3
      exact sound_pick I ho (hv.one h1).1 (fun _ => (hv.one h2).1) (fun _ => (hv.one h3).1) h
    · cases h
  | alloc T =>
    rw [ho] at h
    simp only [stepOp] at h
    split at h
    · rename_i d hT
      exact sound_alloc hE I ho hT (Option.some.inj h).symm
    · cases h
  | box T x =>
    rw [ho] at h
    simp only [stepOp] at h
    split at h
    · rename_i v hx
      exact sound_box I hv ho hx (Option.some.inj h).symm
    · cases h
  | build T ps =>
    rw [ho] at h
    simp only [stepOp] at h
    split at h
    · rename_i d vs hT hp
      split at h
      · rename_i fs hk
        obtain ⟨cs, h1, h2⟩ := Option.bind_eq_some_iff.1 h
        exact sound_build hE I hv ho hT hp (.inl ⟨fs, hk, h1⟩) (rv_eq h2)
      · rename_i n e hk
        split at h
        · rename_i de m t xs he hz
          split at h
          · rename_i hm
            obtain ⟨ys, h1, h2⟩ := Option.bind_eq_some_iff.1 h
            obtain ⟨rfl, hm2⟩ := hm
            exact sound_build hE I hv ho hT hp (.inr (.inl ⟨m, e, de, t, xs, ys, hk, he, hz, hm2, h1, rfl⟩)) (rv_eq h2)
          · cases h
        · rename_i de he _
          obtain ⟨ys, h1, h2⟩ := Option.bind_eq_some_iff.1 h
          exact sound_build hE I hv ho hT hp (.inr (.inr ⟨n, e, de, hk, he, h1⟩)) (rv_eq h2)
        · cases h
      · cases h
    · cases h
  | buildSlice T n ps =>
    rw [ho] at h
    simp only [stepOp] at h
    split at h
    · rename_i e _ _ vs hT hp
      split at h
      · rename_i t _ he
        split at h
        · rename_i xs hf
          split at h
          · rename_i hn
            exact sound_buildSlice hE I hv ho hT rfl he rfl hp hf hn (Option.some.inj h).symm
          · cases h
        · split at h
          · rename_i xs hf
            split at h
            · rename_i hn
              exact sound_buildSlice_fz hE I hv ho hT rfl he rfl hp hf hn (Option.some.inj h).symm
            · cases h
          · cases h
      · cases h
    · cases h
  | load T x =>
    rw [ho] at h
    simp only [stepOp] at h
    split at h
    · rename_i d id off sz lo n hT hx
      split at h
      · rename_i t xs hrow
        split at h
        · rename_i hh
          obtain ⟨v, h1, h2⟩ := Option.map_eq_some_iff.1 h
          exact sound_load_vp hE I hv ho hT hx hrow hh.1 h1 h2.symm hc
        · cases h
      · cases h
    · rename_i d c _ hT hx
      split at h
      · rename_i ps cs hl
        exact sound_load hE I hv ho hT hx hl h hc
      · cases h
    · cases h
  | store T x y =>
    rw [ho] at h
    simp only [stepOp] at h
    split at h
    · rename_i d c v hT hx hy
      split at h
      · rename_i hs
        split at h
        · rename_i ps id p hl
          exact sound_store hE I hv ho hT hx hy hs hl (Option.some.inj h).symm hc
        · split at h
          · rename_i j hnone
            split at h
            · rename_i t xs hj
              split at h
              · rename_i ps id p hl
                exact sound_store_fz hE I hv ho hT hx hy hs hj hl (Option.some.inj h).symm hc
              · cases h
            · cases h
          · cases h
      · cases h
    · cases h
  | nilCheck x =>
    rw [ho] at h
    simp only [stepOp] at h
    split at h
    · rename_i hx; exact sound_nilCheck I hv ho hx (.inl ⟨_, _, rfl⟩) h
    · rename_i hx; exact sound_nilCheck I hv ho hx (.inr (.inl ⟨_, _, _, _, _, rfl⟩)) h
    · rename_i hx; exact sound_nilCheck I hv ho hx (.inr (.inr (.inl ⟨_, _, rfl⟩))) h
    · rename_i hx; exact sound_nilCheck I hv ho hx (.inr (.inr (.inr ⟨_, _, _, rfl⟩))) h
    · cases h
  | binOp op T x y T' => rw [ho] at h; exact sound_bin hE I hv ho h hc
  | unOp op T x =>
    rw [ho] at h
    simp only [stepOp] at h
    split at h
    · rename_i hx; exact sound_not I hv ho hx h
    · rename_i hx; exact sound_neg I hv ho hx h hc
    · rename_i hx; exact sound_negf I hv ho hx h
    · cases h
  | convert S T x =>
    rw [ho] at h
    simp only [stepOp] at h
    split at h
    · rename_i d' _ _ _ k _ k' n hS hT hx
      split at h
      · refine sound_convert_int hE I hv ho hS hT rfl rfl hx ?_ (rc_eq h)
        simp [IntKind.wrap, IntKind.bits, IntKind.signed]
      · exact sound_convert_int hE I hv ho hS hT rfl rfl hx (fits_wrap (rcc_holds h hc)) (rcc_eq h)
    · rename_i hS hT hx
      exact sound_convert_str hE I hv ho hS rfl rfl hT rfl rfl hx h
    · rename_i hS hT hx
      exact sound_int_flt hE I hv ho hS hT rfl rfl hx h
    · rename_i hS hT hx
      exact sound_flt_int hE I hv ho hS hT rfl rfl hx rfl h hc
    · rename_i hS hT hx
      exact sound_flt_flt hE I hv ho hS hT rfl rfl hx h hc
    · rename_i hS hT hx
      exact sound_odd_conv hE I hv ho hS hT rfl rfl hx h
    · rename_i hS hT hx
      exact sound_cpx_cpx hE I hv ho hS hT rfl rfl hx h hc
    · rename_i hS hT hx
      split at h
      · rename_i he
        split at h
        · rename_i xs hrow
          exact sound_bytes_str hE I hv ho hS rfl hT rfl rfl he rfl rfl hx hrow (Option.some.inj h).symm hc
        · cases h
      · cases h
    · rename_i hS hT hx
      split at h
      · rename_i he
        exact sound_str_bytes hE I hv ho hS rfl rfl hT rfl he rfl rfl hx (Option.some.inj h).symm
      · cases h
    · rename_i hS hT hx
      split at h
      · rename_i hST
        subst hST
        split at h
        · rename_i he
          split at h
          · rename_i xs hrow
            exact sound_mark hE I hv ho hS rfl he rfl rfl hx (own_row hrow) (Option.some.inj h).symm hc
          · cases h
        · cases h
      · cases h
    · cases h
  | sliceToArrayPointer T x =>
    rw [ho] at h
    simp only [stepOp] at h
    split at h
    · rename_i n e _ _ c hT hx
      split at h
      · rename_i t _ he
        split at h
        · rename_i t' xs
          split at h
          · rename_i hh
            obtain ⟨rfl, hn⟩ := hh
            exact sound_toArr hE I hv ho hT rfl he rfl hx hn h hc
          · cases h
        · rename_i id
          split at h
          · rename_i t' xs hrow
            split at h
            · rename_i hh
              obtain ⟨rfl, hn⟩ := hh
              exact sound_toArr_own hE I hv ho hT rfl hx hrow hn h hc
            · cases h
          · cases h
        · split at h
          · rename_i hh
            obtain ⟨rfl, hn⟩ := hh
            exact sound_toArr_view hE I hv ho hT rfl hx hn h hc
          · cases h
        · cases h
      · cases h
    · cases h
  | makeFunc f x y =>
    rw [ho] at h
    cases f with
    | func f =>
      simp only [stepOp] at h
      split at h
      · rename_i p q hx hy
        exact sound_makeFunc I hv ho hx hy h
      · split at h
        · rename_i z hx hy
          split at h
          · rename_i t xs hz
            exact sound_makeFunc1 I hv ho hx hy hz h
          · cases h
        · cases h
    | _ => simp [stepOp] at h
  | makeMap T rsv =>
    rw [ho] at h
    cases rsv with
    | some _ => simp [stepOp] at h
    | none =>
      simp only [stepOp] at h
      split at h
      · split at h
        · split at h
          · exact sound_makeMap I ho (Option.some.inj h).symm
          · cases h
        · cases h
      · cases h
  | mapUpdate T m x y =>
    rw [ho] at h
    simp only [stepOp] at h
    split at h
    · rename_i kT eT _ _ id kv xv hT hm hx hy
      split at h
      · rename_i gk gt kt t l hob
        split at h
        · rename_i p q hp hq
          exact sound_mapUpdate hE I hv (.inl ho) hT rfl hm hx hy hob hp hq (Option.some.inj h).symm
        · cases h
      · cases h
    · cases h
  | insert T m x y =>
    rw [ho] at h
    simp only [stepOp] at h
    split at h
    · rename_i kT eT _ _ id kv xv hT hm hx hy
      split at h
      · rename_i gk gt kt t l hob
        split at h
        · rename_i p q hp hq
          exact sound_mapUpdate hE I hv (.inr ho) hT rfl hm hx hy hob hp hq (Option.some.inj h).symm
        · cases h
      · cases h
    · cases h
  | lookup T m x ok =>
    rw [ho] at h
    simp only [stepOp] at h
    split at h
    · rename_i kT eT _ _ c kv hT hm hx
      split at h
      · rename_i M de hob he
        split at h
        · rename_i hh
          split at h
          · rename_i p hp
            obtain ⟨v, h1, h2⟩ := Option.bind_eq_some_iff.1 h
            exact sound_lookup hE I hv ho hT rfl hm hx hob he hh.1 hh.2 hp h1 h2
          · cases h
        · cases h
      · cases h
    · cases h
  | makeSlice T x y =>
    rw [ho] at h
    cases x <;> cases y <;> try (simp [stepOp] at h; done)
    simp only [stepOp] at h
    split at h
    · rename_i e _ _ n hT hx
      split at h
      · rename_i by_ _ _ t _ he
        split at h
        · rename_i hl
          subst hl
          exact sound_makeSlice hE I hv ho hT rfl he rfl hx (Option.some.inj h).symm hc
        · cases h
      · cases h
    · cases h
  | slice T x lo hi mx =>
    rw [ho] at h
    cases mx with
    | some mx =>
      cases lo with
      | none => simp [stepOp] at h
      | some lo =>
        cases hi with
        | none => simp [stepOp] at h
        | some hi =>
          simp only [stepOp] at h
          split at h
          · rename_i e _ _ t xs hT hx
            split at h
            · rename_i de l hh m he hl hhi hm
              split at h
              · rename_i hz
                exact sound_slice3 hE I hv ho hT rfl he hx hl hhi hm hz h hc
              · cases h
            · cases h
          · cases h
    | none =>
      simp only [stepOp] at h
      split at h
      · rename_i n e _ _ c hT hx
        split at h
        · rename_i de l hh he hl hhi
          split at h
          · exact sound_slice_arr hE I hv ho hT rfl he hx hl hhi (.inl ⟨_, _, rfl, rfl⟩) (Option.some.inj h).symm (by have := (Option.some.inj h).symm; subst this; exact hc _ (by simp))
          · split at h
            · rename_i hm
              obtain ⟨hm1, rfl⟩ := hm
              exact sound_slice_arr hE I hv ho hT rfl he hx hl hhi (.inr ⟨_, _, rfl, hm1, rfl⟩) (Option.some.inj h).symm (by have := (Option.some.inj h).symm; subst this; exact hc _ (by simp))
            · cases h
          · cases h
        · cases h
      · rename_i e _ _ c hT hx
        split at h
        · rename_i de n he hn
          split at h
          · rename_i l hh hl hhi
            split at h
            · rename_i c' hsl
              rw [dropSl_eq hn hhi hsl] at h
              exact sound_slice_slc hE I hv ho hT rfl he hx hn hl hhi hsl h hc
            · cases h
          · cases h
        · cases h
      · rename_i s hT hx
        split at h
        · rename_i l hh hl hhi
          exact sound_slice_str hE I hv ho hT rfl rfl hx hl hhi h hc
        · cases h
      · cases h
  | fieldAddr T x i =>
    rw [ho] at h
    simp only [stepOp] at h
    split at h
    · rename_i fs _ _ c hT hx
      split at h
      · rename_i off n ag hi
        split at h
        · exact sound_fieldAddr hE I hv ho hT rfl hx hi (.inl ⟨_, _, rfl, rfl⟩) h
        · exact sound_fieldAddr hE I hv ho hT rfl hx hi (.inr (.inl ⟨_, _, _, _, _, rfl, rfl⟩)) h
        · obtain ⟨u, h1, h2⟩ := Option.bind_eq_some_iff.1 h
          exact sound_fieldAddr hE I hv ho hT rfl hx hi (.inr (.inr ⟨_, _, u, rfl, h1, rfl⟩)) h2
        · cases h
      · cases h
    · cases h
  | field T x i =>
    rw [ho] at h
    simp only [stepOp] at h
    split at h
    · rename_i fs _ _ cs hT hx
      split at h
      · rename_i off n hi
        split at h
        · rename_i c hcut
          exact sound_field hE I hv ho hT rfl hx hi hcut (.inl ⟨rfl, c, rfl, rfl⟩) (rc_eq h)
        · cases h
      · rename_i off n hi
        split at h
        · rename_i y hcut
          exact sound_field hE I hv ho hT rfl hx hi hcut (.inr ⟨rfl, rfl⟩) (rv_eq h)
        · cases h
      · cases h
    · cases h
  | indexAddr T x y =>
    rw [ho] at h
    simp only [stepOp] at h
    split at h
    · rename_i n e _ _ c k i hT hx hy
      split at h
      · rename_i de he
        split at h
        · exact sound_indexAddr_arr hE I hv ho hT rfl he hx hy (.inl ⟨_, _, rfl, rfl⟩) h hc
        · split at h
          · rename_i hm
            obtain ⟨hm1, rfl⟩ := hm
            exact sound_indexAddr_arr hE I hv ho hT rfl he hx hy (.inr ⟨_, _, rfl, hm1, rfl⟩) h hc
          · cases h
        · exact sound_indexAddr_el hE I hv ho hT rfl he hx hy h hc
        · cases h
      · cases h
    · rename_i e _ _ c k i hT hx hy
      split at h
      · rename_i de he
        split at h
        · split at h
          · rename_i hm
            exact sound_indexAddr_slc hE I hv ho hT rfl he hx hy (.inl ⟨_, _, rfl, hm, rfl, rfl⟩) h hc
          · cases h
        · split at h
          · rename_i hrow
            split at h
            · rename_i hm
              exact sound_indexAddr_slc hE I hv ho hT rfl he hx hy (.inr (.inl ⟨_, _, _, rfl, hrow, hm, rfl, rfl⟩)) h hc
            · cases h
          · rename_i hbox
            split at h
            · rename_i hm
              exact sound_indexAddr_sbox hE I hv ho hT rfl he hx hy hbox hm h hc
            · cases h
          · cases h
        · split at h
          · rename_i hm
            exact sound_indexAddr_slc hE I hv ho hT rfl he hx hy (.inr (.inr ⟨_, _, _, _, rfl, hm, rfl⟩)) h hc
          · cases h
        · cases h
      · cases h
    · cases h
  | index T x y =>
    rw [ho] at h
    simp only [stepOp] at h
    split at h
    · rename_i n e _ _ m t xs k i hT hx hy
      split at h
      · rename_i de he
        split at h
        · rename_i hm
          obtain ⟨hm1, rfl⟩ := hm
          obtain ⟨v, h1, h2⟩ := Option.map_eq_some_iff.1 h
          exact sound_index_arr hE I hv ho hT rfl he hx hy hm1 h1 h2.symm (by subst h2; exact hc _ (by simp))
        · cases h
      · cases h
    · rename_i n e _ _ cs k i hT hx hy
      split at h
      · rename_i de he
        obtain ⟨y', h0, h⟩ := Option.bind_eq_some_iff.1 h
        obtain ⟨v, h1, h2⟩ := Option.map_eq_some_iff.1 h
        exact sound_index_cut hE I hv ho hT rfl he hx hy h0 h1 h2.symm (by subst h2; exact hc _ (by simp))
      · cases h
    · rename_i hT hx hy
      exact sound_index_str hE I hv ho hT rfl rfl hx hy h hc
    · cases h
  | extract x i =>
    rw [ho] at h
    simp only [stepOp] at h
    split at h
    · rename_i vs hx
      obtain ⟨v, h1, h2⟩ := Option.bind_eq_some_iff.1 h
      exact sound_extract I hv ho hx h1 h2
    · cases h
  | call c =>
    rw [ho] at h
    obtain ⟨callee, args, ts⟩ := c
    cases callee with
    | builtin b =>
      simp only [stepOp] at h
      split at h
      · rename_i vs hvs
        exact sound_builtin hE I hv ho hvs h hc
      · cases h
    | value f =>
      simp only [stepOp] at h
      split at h
      · rename_i f vs hf hvs
        exact sound_call hE I G hv ho hf hvs h hc
      · rename_i f p q vs _ hf hvs
        exact sound_callF hE I G hv ho hf hvs h hc
      · rename_i f c t y vs hf hvs
        split at h
        · rename_i p q hpq
          exact sound_callD hE I G hv ho hf hpq hvs h hc
        · cases h
      · cases h
    | _ => simp [stepOp] at h
  | range T x =>
    rw [ho] at h
    simp only [stepOp] at h
    split at h
    · rename_i hT hx
      exact sound_range hE I hv ho hT rfl rfl hx (Option.some.inj h).symm
    · cases h
  | _ => rw [ho] at h; simp [stepOp] at h
theorem stepOp_noDefer {ob : Nat → Option AObj} {op : Op} (h : stepOp E ev ob nx op = some r) : ∀ c, op ≠ .defer c := by
  intro c e
  subst e
  simp [stepOp] at h
end
end Go.Sx

namespace Go.Sx
open Go.RowKit
theorem conj_iff : ∀ (ps : List Prop) (q : Prop), conj ps q ↔ (∀ p ∈ ps, p) ∧ q
  | [], q => by simp [conj]
  | p :: r, q => by
    simp only [conj, conj_iff r q, List.mem_cons]
    constructor
    · rintro ⟨h1, h2, h3⟩
      exact ⟨fun x hx => by rcases hx with rfl | hx; exact h1; exact h2 x hx, h3⟩
    · rintro ⟨h1, h2⟩
      exact ⟨h1 p (.inl rfl), fun x hx => h1 x (.inr hx), h2⟩
def GvOk (ρ : Nat → Value) (H : IH) (nx : Nat) (tmps : Array Value) (x : GV) : Prop :=
  x.d < tmps.size ∧ ((tmps.getD x.g undef = .bool x.w ∧ x.v.lt nx ∧ DenSV ρ H x.v (tmps.getD x.d undef)) ∨ (tmps.getD x.g undef ≠ .bool x.w ∧ tmps.getD x.d undef = undef))
def jumpOf : Ex → Option Code
  | .nrm => none
  | .ret => some .ret
  | .ext id => some (.exit id)
  | .gto l => some (.goto l)
def recAt (r : Loop) : Option Ex → Loop
  | none => { r with state := .ready, pending := none }
  | some e => { r with state := if (jumpOf e).isNone then .ready else .done, pending := jumpOf e }
def markAt (r : Nat) : Deferred := { target := .collected r, args := #[] }
structure GlB (E : Env) (w0 b : Base) (B : Nat) (ρ : Nat → Value) (H : IH) (nx : Nat) (lr : LR) (ds : List Deferred) : Prop where
  gl : GlobOk E.gl H
  hle : HLe w0.H0 H
  fl : w0.fl ≤ nx
  re : REq w0.fl w0.ρ ρ
  bel : Below B w0.w b.w
  kp : ∀ k, w0.K k → b.K k ∧ k < w0.w.heap.size ∧ b.w.heap[k]? = w0.w.heap[k]?
  df : ∀ d ∈ ds, ∃ r, d = markAt r ∧ (B ≤ r ∧ ¬ w0.K r) ∧ b.K r ∧ b.w.heap[r]? = some (.deferred (some []))
  dn : ds.Nodup
  rd : ∀ l, w0.rd = some l → b.K l ∧ ∃ r, b.w.heap[l]? = some (.loop r)
  lrK : ∀ id st, lookL lr id = some st → ∃ g r, w0.lt id = some (g, r) ∧ B ≤ g ∧ b.K g ∧ b.w.heap[g]? = some (.loop (recAt r st)) ∧ ¬ w0.K g ∧ w0.rd ≠ some g
  lrI : ∀ i j s t g p q, lookL lr i = some s → lookL lr j = some t → w0.lt i = some (g, p) → w0.lt j = some (g, q) → i = j
  lo : ∀ i, w0.fl ≤ i → w0.lt i = none
theorem GlB.mono {E : Env} {w0 b : Base} {B : Nat} {ρ ρ' : Nat → Value} {H H' : IH} {nx nx' : Nat} {lr : LR} {ds : List Deferred} (h : GlB E w0 b B ρ H nx lr ds) (hh : HLe H H') (hr : REq nx ρ ρ') (hn : nx ≤ nx') : GlB E w0 b B ρ' H' nx' lr ds :=
  { h with gl := h.gl.mono hh, hle := h.hle.trans hh, fl := Nat.le_trans h.fl hn, re := fun i hi => by rw [hr i (Nat.lt_of_lt_of_le hi h.fl)]; exact h.re i hi }
def Sat (E : Env) (w0 : Base) (B n : Nat) (s : St) (gs : List GV) (a : Act) (w : World) : Prop :=
  ∃ ρ H b ds, Inv b B ρ H s.ob s.nx w ∧ GlB E w0 b B ρ H s.nx s.lr ds ∧ TmOk ρ H s.tm s.nx a.tmps ∧ (∀ x ∈ gs, GvOk ρ H s.nx a.tmps x) ∧ a.defers = ds ∧ a.tmps.size = n
section
variable {E : Env} {w0 : Base} {B : Nat} {ρ : Nat → Value} {H : IH} {ob : List (Nat × Option AObj)} {nx : Nat} {w : World} {tm : List (Nat × SV)} {gs : List GV} {a : Act} {o : Oper} {r : Res}
theorem gvOf_mem : ∀ {gs : List GV} {t : Nat} {x : GV}, gvOf gs t = some x → x ∈ gs ∧ x.d = t
  | [], _, _, h => by simp [gvOf] at h
  | y :: r, t, x, h => by
    simp only [gvOf] at h
    split at h
    · rename_i e; cases h; exact ⟨by simp, by simpa using e⟩
    · obtain ⟨h1, h2⟩ := gvOf_mem h; exact ⟨by simp [h1], h2⟩
theorem undef_bool {b : Bool} : undef ≠ .bool b := by simp [undef]
theorem brings_ok {tmps : Array Value} (hG : ∀ x ∈ gs, GvOk ρ H nx tmps x) : ∀ (n : Nat) (ctx : List (Nat × Bool)) (g : Nat) (v : Bool), (∀ p ∈ ctx, tmps.getD p.1 undef = .bool p.2) → brings gs n ctx g v = true → tmps.getD g undef = .bool v
  | 0, _, _, _, _, h => by simp [brings] at h
  | n + 1, ctx, g, v, hc, h => by
    simp only [brings, List.any_eq_true] at h
    obtain ⟨p, hp, h⟩ := h
    have hpc := hc p hp
    simp only [Bool.or_eq_true, Bool.and_eq_true, beq_iff_eq] at h
    rcases h with ⟨h1, h2⟩ | h
    · rw [← h1, ← h2]; exact hpc
    · split at h
      · rename_i x hx
        obtain ⟨k1, k2⟩ := gvOf_mem hx
        obtain ⟨_, k3⟩ := hG x k1
        rcases k3 with ⟨k3, _⟩ | ⟨_, k3⟩
        · exact brings_ok hG n _ g v (fun q hq => by simp only [List.mem_singleton] at hq; subst hq; exact k3) h
        · rw [k2, hpc] at k3; exact absurd k3.symm undef_bool
      · cases h
theorem ofVal_den {v : Value} {c : C} (h : ofVal v = some c) : DenC ρ H c v ∧ c.lt nx := by
  unfold ofVal at h
  split at h <;> first | (cases h; exact ⟨rfl, trivial⟩) | cases h
theorem evalO_ok (G : GlobOk E.gl H) {ev : Nat → Option SV} (ht : ∀ t sv, ev t = some sv → DenSV ρ H sv (a.tmps.getD t undef) ∧ sv.lt nx) : EvOk ρ H nx (evalO E ev) a := by
  intro x sv h
  cases x with
  | tmp t => exact ht t sv h
  | const v =>
    simp only [evalO] at h
    obtain ⟨c, h1, rfl⟩ := Option.map_eq_some_iff.1 h
    exact ofVal_den h1
  | global g =>
    simp only [evalO] at h
    obtain ⟨x, h1, rfl⟩ := Option.map_eq_some_iff.1 h
    obtain ⟨c, e, fr, k1, k2, _⟩ := G g x h1
    exact ⟨⟨g, 0, c, e, fr, rfl, k1, k2⟩, trivial⟩
  | func f => cases h; exact ⟨⟨[], [], rfl, rfl, rfl⟩, by simp [SV.lt, V.lt, C.lt]⟩
theorem evG_ok (G : GlobOk E.gl H) (hT : TmOk ρ H tm nx a.tmps) (hG : ∀ x ∈ gs, GvOk ρ H nx a.tmps x) {ctx : List (Nat × Bool)} (hc : ∀ p ∈ ctx, a.tmps.getD p.1 undef = .bool p.2) : EvOk ρ H nx (evG E tm gs ctx) a := by
  have he := evalO_ok (E := E) (a := a) (nx := nx) (ρ := ρ) G (ev := lookT tm) (fun t sv h => ⟨(hT t sv h).2.2, (hT t sv h).2.1⟩)
  intro x sv h
  cases x with
  | tmp t =>
    simp only [evG] at h
    split at h
    · rename_i x hx
      obtain ⟨k1, k2⟩ := gvOf_mem hx
      cases hb : brings gs 8 ctx x.g x.w with
      | false => rw [hb] at h; cases h
      | true =>
        rw [hb] at h
        have hg := brings_ok hG 8 ctx x.g x.w hc hb
        cases h
        obtain ⟨_, m2⟩ := hG x k1
        rcases m2 with ⟨_, m1, m2⟩ | ⟨m2, _⟩
        · rw [← k2]; exact ⟨m2, m1⟩
        · exact absurd hg m2
    · exact ⟨(hT t sv h).2.2, (hT t sv h).2.1⟩
  | const v => exact he (.const v) sv h
  | global g => exact he (.global g) sv h
  | func f => exact he (.func f) sv h
theorem hyps_ok {tmps : Array Value} (hT : TmOk ρ H tm nx tmps) (hG : ∀ x ∈ gs, GvOk ρ H nx tmps x) : ∀ (n g : Nat) (v : Bool) (p : Prop), tmps.getD g undef = .bool v → hyps tm gs n g v p → p
  | 0, _, _, _, _, h => h
  | n + 1, g, v, p, hg, h => by
    simp only [hyps] at h
    split at h
    · rename_i d g' v' e hx
      obtain ⟨k1, k2⟩ := gvOf_mem hx
      obtain ⟨_, k3⟩ := hG _ k1
      simp only [] at k2 k3
      rcases k3 with ⟨k3, _, k4⟩ | ⟨_, k3⟩
      · have k5 : tmps.getD d undef = .bool e := k4
        rw [k2, hg] at k5
        have he : e = v := by cases k5; rfl
        exact hyps_ok hT hG n g' v' _ k3 h he
      · rw [k2, hg] at k3; exact absurd k3.symm undef_bool
    · exact h
    · split at h
      · rename_i e hl
        have k5 : tmps.getD g undef = .bool e := (hT g _ hl).2.2
        rw [hg] at k5
        exact h (by cases k5; rfl)
      · exact h
theorem stepG_sound (hE : EnvOk E) (I : Inv w0 B ρ H ob nx w) (G : GlobOk E.gl H) (hT : TmOk ρ H tm nx a.tmps) (hG : ∀ x ∈ gs, GvOk ρ H nx a.tmps x) {ctx : List (Nat × Bool)} (hc : ∀ p ∈ ctx, a.tmps.getD p.1 undef = .bool p.2)
    (h : stepG E tm gs ob nx ctx o.op = some r) (hp : ∀ q ∈ r.cs, q) : StepOk E.P o a w (Post w0 B ob nx ρ H r) ∧ ∀ c, o.op ≠ .defer c := by
  unfold stepG at h
  split at h
  · rename_i c x y ho
    split at h
    · rename_i b p q h1 h2 h3
      have hcv : a.eval (.tmp c) = .bool b := ((evG_ok G hT hG hc).one h1).1
      refine ⟨sound_pick I ho hcv ?_ ?_ h, by rw [ho]; simp⟩
      · intro e
        subst e
        exact ((evG_ok (a := a) (ctx := (c, true) :: ctx) G hT hG (fun t ht => by rcases List.mem_cons.1 ht with rfl | ht; exact hcv; exact hc t ht)).one h2).1
      · intro e
        subst e
        exact ((evG_ok (a := a) (ctx := (c, false) :: ctx) G hT hG (fun t ht => by rcases List.mem_cons.1 ht with rfl | ht; exact hcv; exact hc t ht)).one h3).1
    · cases h
  · exact ⟨stepOp_sound hE I G (evG_ok G hT hG hc) h hp, stepOp_noDefer h⟩
end
section
variable {E : Env} {w0 b b' : Base} {B : Nat} {ρ : Nat → Value} {H : IH} {ob : List (Nat × Option AObj)} {nx : Nat} {w : World} {lr : LR} {ds : List Deferred}
theorem Inv.kAll (I : Inv b B ρ H ob nx w) {k : Nat} (h : b.K k) : k < w.heap.size ∧ H k = none ∧ ∀ id o, lookO ob id = some o → ¬ HB (ρ id) k :=
  ⟨I.kLt h, (I.kp k h).2.2.1, (I.kp k h).2.2.2⟩
theorem Inv.kSame (I : Inv b B ρ H ob nx w) {k : Nat} (h : b.K k) : w.heap[k]? = b.w.heap[k]? := (I.kp k h).2.1
theorem GlB.to (G : GlB E w0 b B ρ H nx lr ds) (hb : Below B b.w b'.w) (hK : ∀ k, b.K k → b'.K k ∧ b'.w.heap[k]? = b.w.heap[k]?) : GlB E w0 b' B ρ H nx lr ds :=
  { G with
    bel := G.bel.trans hb
    kp := fun k hk => let ⟨h1, h2, h3⟩ := G.kp k hk; ⟨(hK k h1).1, h2, (hK k h1).2.trans h3⟩
    df := fun d hd => let ⟨r, h1, h2, h3, h4⟩ := G.df d hd; ⟨r, h1, h2, (hK r h3).1, (hK r h3).2.trans h4⟩
    rd := fun l hl => let ⟨h1, r, h2⟩ := G.rd l hl; ⟨(hK l h1).1, r, (hK l h1).2.trans h2⟩
    lrK := fun id st h => let ⟨g, r, h1, h2, h3, h4, h5, h6⟩ := G.lrK id st h; ⟨g, r, h1, h2, (hK g h3).1, (hK g h3).2.trans h4, h5, h6⟩ }
end
section
variable {E : Env} {w0 : Base} {B : Nat} {ρ : Nat → Value} {H : IH} {ob : List (Nat × Option AObj)} {nx : Nat} {w : World} {tm : List (Nat × SV)} {gs : List GV} {a : Act} {o : Oper} {r : Res}
theorem stepH_sound (hE : EnvOk E) (I : Inv w0 B ρ H ob nx w) (G : GlobOk E.gl H) (hT : TmOk ρ H tm nx a.tmps) (hG : ∀ x ∈ gs, GvOk ρ H nx a.tmps x) {fl : Bool}
    (h : stepH fl E tm gs ob nx o.op = some r) (hp : ∀ q ∈ r.cs, q) : StepOk E.P o a w (Post w0 B ob nx ρ H r) ∧ ∀ c, o.op ≠ .defer c := by
  unfold stepH at h
  split at h
  · rename_i T ho
    split at h
    · rename_i e _ _ hT'
      split at h
      · rename_i t _ he
        cases h
        exact ⟨sound_empty hE I ho hT' rfl he rfl, by rw [ho]; simp⟩
      · cases h
    · cases h
  · exact stepG_sound hE I G hT hG (ctx := []) (by simp) h hp
end
end Go.Sx

namespace Go.Sx
open Go.RowKit
section
variable {E : Env} {w0 : Base} {B n : Nat} {ρ : Nat → Value} {H : IH} {ob : List (Nat × Option AObj)} {nx : Nat} {w : World} {tm : List (Nat × SV)} {gs : List GV} {a : Act} {o : Oper} {r : Res}
theorem still_cs {r' : Res} (h : still nx r = some r') : r'.cs = r.cs ∧ r'.up = [] := by
  unfold still at h
  split at h
  · rename_i hu; cases h; exact ⟨rfl, hu⟩
  · split at h
    · split at h
      · cases h; exact ⟨rfl, rfl⟩
      · cases h
    · cases h
  · cases h
theorem put_size (d : Option Nat) (v : Value) : (a.put d v).tmps.size = a.tmps.size := by
  cases d <;> simp [Act.put]
theorem put_defers (d : Option Nat) (v : Value) : (a.put d v).defers = a.defers := by
  cases d <;> simp [Act.put]
theorem put_getD {d t : Nat} {v : Value} (h : d < a.tmps.size) : (a.put (some d) v).tmps.getD t undef = if t = d then v else a.tmps.getD t undef := by
  simp only [Act.put, Array.getD_eq_getD_getElem?, Array.getElem?_setIfInBounds]
  by_cases e : t = d
  · subst e; simp [h]
  · rw [if_neg e, if_neg (fun x => e x.symm)]
theorem lookT_cons (k : Nat) (v : SV) (l : List (Nat × SV)) (t : Nat) : lookT ((k, v) :: l) t = if k = t then some v else lookT l t := by
  simp [lookT]
theorem lookT_delT {d t : Nat} : lookT (delT d tm) t = if t = d then none else lookT tm t := by
  induction tm with
  | nil => simp [delT, lookT]
  | cons x r ih =>
    obtain ⟨k, v⟩ := x
    unfold delT at ih ⊢
    rw [List.filter_cons]
    by_cases h1 : k = d
    · subst h1
      simp only [bne_self_eq_false, Bool.false_eq_true, if_false, ih, lookT_cons]
      by_cases h2 : t = k
      · simp [h2]
      · simp [h2, Ne.symm h2]
    · have : (k != d) = true := by simpa using h1
      simp only [this, if_true, lookT_cons, ih]
      by_cases h2 : k = t
      · subst h2; simp [h1]
      · simp [h2]
theorem TmOk.put {ρ' : Nat → Value} {H' : IH} {nx' d : Nat} {sv : SV} {v : Value} (hT : TmOk ρ H tm nx a.tmps) (hr : REq nx ρ ρ') (hh : HLe H H') (hn : nx ≤ nx') (hd : d < a.tmps.size) (h1 : DenSV ρ' H' sv v) (h2 : sv.lt nx') :
    TmOk ρ' H' ((d, sv) :: tm) nx' (a.put (some d) v).tmps := by
  intro t x hx
  rw [lookT_cons] at hx
  rw [put_size, put_getD hd]
  split at hx
  · rename_i e; subst e; cases hx; simp only [if_true]; exact ⟨hd, h2, h1⟩
  · rename_i e
    obtain ⟨k1, k2, k3⟩ := hT t x hx
    rw [if_neg (fun h => e h.symm)]
    exact ⟨k1, k2.mono hn, k3.mono hr hh k2⟩
theorem TmOk.mono {ρ' : Nat → Value} {H' : IH} {nx' : Nat} {tmps : Array Value} (hT : TmOk ρ H tm nx tmps) (hr : REq nx ρ ρ') (hh : HLe H H') (hn : nx ≤ nx') : TmOk ρ' H' tm nx' tmps :=
  fun t x hx => let ⟨k1, k2, k3⟩ := hT t x hx; ⟨k1, k2.mono hn, k3.mono hr hh k2⟩
theorem TmOk.del {d : Nat} {v : Value} (hT : TmOk ρ H tm nx a.tmps) (hd : d < a.tmps.size) : TmOk ρ H (delT d tm) nx (a.put (some d) v).tmps := by
  intro t x hx
  rw [lookT_delT] at hx
  split at hx
  · cases hx
  · rename_i e
    rw [put_size, put_getD hd, if_neg e]
    exact hT t x hx
theorem GvOk.mono {ρ' : Nat → Value} {H' : IH} {nx' : Nat} {tmps : Array Value} {x : GV} (h : GvOk ρ H nx tmps x) (hr : REq nx ρ ρ') (hh : HLe H H') (hn : nx ≤ nx') : GvOk ρ' H' nx' tmps x := by
  obtain ⟨k1, k3⟩ := h
  refine ⟨k1, ?_⟩
  rcases k3 with ⟨k3, k2, k4⟩ | k3
  · exact .inl ⟨k3, k2.mono hn, k4.mono hr hh k2⟩
  · exact .inr k3
theorem GvOk.put {x : GV} {d : Nat} {v : Value} (h : GvOk ρ H nx a.tmps x) (h1 : x.d ≠ d) (h2 : x.g ≠ d) (hd : d < a.tmps.size) : GvOk ρ H nx (a.put (some d) v).tmps x := by
  obtain ⟨k1, k3⟩ := h
  refine ⟨by rw [put_size]; exact k1, ?_⟩
  rw [put_getD hd, put_getD hd, if_neg h1, if_neg h2]
  exact k3
theorem gsFree_spec {d : Nat} (h : gsFree gs d = true) : ∀ x ∈ gs, x.d ≠ d ∧ x.g ≠ d := by
  intro x hx
  simp only [gsFree, List.all_eq_true, Bool.and_eq_true, bne_iff_ne] at h
  exact h x hx
theorem getD_bool {tmps : Array Value} {g : Nat} {b : Bool} : tmps.getD g undef = .bool b ↔ tmps[g]? = some (.bool b) := by
  rw [Array.getD_eq_getD_getElem?]
  cases h : tmps[g]? with
  | none => simp [undef]
  | some v => simp
theorem wanted_iff {ops : Array Oper} {j g : Nat} {want : Bool} (hg : o.guard = some (j, want)) (hj : (ops[j]?).bind (·.dst) = some g) : Region.wanted o (yielded ops a.tmps) = true ↔ a.tmps.getD g undef = .bool want := by
  rw [getD_bool]
  simp only [Region.wanted, hg, yielded, hj, Option.bind_some, beq_iff_eq]
  constructor
  · intro h
    split at h
    · rename_i b hb; cases h; exact hb
    · cases h
  · intro h; rw [h]
def AfterOk (E : Env) (w0 : Base) (B : Nat) (ρ : Nat → Value) (H : IH) (nx : Nat) (ds : List Deferred) (k : Cont) (v : Value) (w' : World) : Prop :=
  ∃ sv ob' nx' lr' ρ' H' b', k sv ob' nx' lr' ∧ Inv b' B ρ' H' ob' nx' w' ∧ GlB E w0 b' B ρ' H' nx' lr' ds ∧ HLe H H' ∧ REq nx ρ ρ' ∧ nx ≤ nx' ∧ DenSV ρ' H' sv v ∧ sv.lt nx'
def YSem (E : Env) (B id g : Nat) (r : Loop) (ρ0 : Nat → Value) (H0 : IH) (nx0 : Nat) (lt0 : Nat → Option (Nat × Loop)) (y : YF) : Prop :=
  ∀ (vs : List V) (ob : List (Nat × Option AObj)) (nx : Nat) (lr : LR) (k : Cont), y vs ob nx lr k → ∀ (w0 b : Base) (ρ : Nat → Value) (H : IH) (ds : List Deferred) (us : List Value) (w : World), Inv b B ρ H ob nx w → GlB E w0 b B ρ H nx lr ds →
    w0.lt id = some (g, r) → (∀ i x, lt0 i = some x → w0.lt i = some x) → HLe H0 H → REq nx0 ρ0 ρ → nx0 ≤ nx → DenVs ρ H vs us → (∀ v ∈ vs, v.lt nx) →
    ∃ r', w.heap[g]? = some (.loop r') ∧ us.length = r'.params.size ∧
      RoundIn (Fw none) 0 E.P g r'.fn ((r'.params.zip us.toArray).foldl (fun tmps (t, a) => tmps.setIfInBounds t a) r'.tmps) r'.assign r'.body w fun e w' => ∃ v, e = .returned v ∧ AfterOk E w0 B ρ H nx ds k v w'
def YtOk (E : Env) (w0 : Base) (B : Nat) (yt : YT) : Prop :=
  ∀ id y, yt id = some y → id < w0.fl ∧ ∃ g r, w0.lt id = some (g, r) ∧ w0.ρ id = .func (.yield g) #[] #[] ∧ YSem E B id g r w0.ρ w0.H0 w0.fl w0.lt y
def InlOk (E : Env) (inl : Inl) : Prop :=
  ∀ (f : FuncId) (vs : List V) (yt : YT) (ob : List (Nat × Option AObj)) (nx : Nat) (lr : LR) (k : Cont), inl f vs yt ob nx lr k →
    ∀ (w0 b : Base) (B : Nat) (ρ : Nat → Value) (H : IH) (ds : List Deferred) (us : List Value) (w : World), Inv b B ρ H ob nx w → GlB E w0 b B ρ H nx lr ds → YtOk E w0 B yt → DenVs ρ H vs us → (∀ v ∈ vs, v.lt nx) →
      Calls E.P f ⟨us⟩ w fun e w' => ∃ v, e = .returned v ∧ AfterOk E w0 B ρ H nx ds k v w'
theorem DenVs.append : ∀ {xs ys : List V} {us vs : List Value}, DenVs ρ H xs us → DenVs ρ H ys vs → DenVs ρ H (xs ++ ys) (us ++ vs)
  | [], ys, us, vs, h, k => by rw [show us = [] from h]; exact k
  | x :: xs, ys, us, vs, h, k => by
    obtain ⟨u, us', rfl, h1, h2⟩ := h
    exact ⟨u, us' ++ vs, rfl, h1, DenVs.append h2 k⟩
theorem ptrVs_den : ∀ {ps : List (Nat × Nat)} {us : List Value}, ptrsOf ρ ps us → DenVs ρ H (ptrVs ps) us
  | [], us, h => h
  | p :: ps, us, h => by
    obtain ⟨u, us', rfl, h1, h2⟩ := h
    exact ⟨u, us', rfl, h1, ptrVs_den h2⟩
theorem ptrVs_lt {ps : List (Nat × Nat)} (h : ∀ p ∈ ps, p.1 < nx) : ∀ v ∈ ptrVs ps, v.lt nx := by
  intro v hv
  obtain ⟨p, hp, rfl⟩ := List.mem_map.1 hv
  exact h p hp
theorem callOf_spec {ev : Operand → Option SV} {op : Op} {c : C} {vs : List V} (h : callOf ev op = some (c, vs)) : ∃ x args ts, op = .call ⟨.value x, args, ts⟩ ∧ (ev x).bind one? = some c ∧ evs ev args.toList = some vs := by
  unfold callOf at h
  split at h
  · rename_i x args ts
    split at h
    · rename_i c' vs' h1 h2
      cases h
      exact ⟨x, args, ts, rfl, h1, h2⟩
    · cases h
  · cases h
theorem sub_sound {inl : Inl} {yt : YT} {b : Base} {ds : List Deferred} {lr : LR} {rd : Option Nat} {m : Nat} {ev : Operand → Option SV} {x : C × List V} {q : Cont → Prop} {k : Cont} {next : Act → World → Prop} {Q : Exit → Act → World → Prop}
    (hE : EnvOk E) (hI : InlOk E inl) (hY : YtOk E w0 B yt) (I : Inv b B ρ H ob nx w) (G : GlB E w0 b B ρ H nx lr ds) (hv : EvOk ρ H nx ev a) (hc : callOf ev o.op = some x) (hs : subOf E inl yt ob nx lr x = some q) (h : q k)
    (hn : ∀ v w', AfterOk E w0 B ρ H nx ds k v w' → next (a.put o.dst v) w') : o.wpIn (Fw rd) m E.P a w next Q := by
  obtain ⟨c, vs⟩ := x
  obtain ⟨x, args, ts, ho, hx, hvs⟩ := callOf_spec hc
  obtain ⟨k1, k2⟩ := hv.one hx
  obtain ⟨m1, m2⟩ := evs_ok hv hvs
  refine ⟨fun _ _ => trivial, ?_⟩
  rw [Oper.semAt_eq _ _ _ (by rw [ho]; simp)]
  unfold subOf at hs
  split at hs
  · rename_i f p r vs' hcv
    cases hcv
    split at hs
    · rename_i fn hfn
      cases hs
      obtain ⟨hf, hnm, hbd⟩ := hE.fb f fn hfn
      obtain ⟨us, vs1, l1, l2, l3⟩ := k1
      have hcall := hI _ _ _ _ _ _ _ h w0 b B ρ H ds (us ++ args.toList.map a.eval ++ vs1) w I G hY (((ptrVs_den l2).append m1).append (ptrVs_den l3)) (by
        intro v hv
        rcases List.mem_append.1 hv with hv | hv
        · rcases List.mem_append.1 hv with hv | hv
          · exact ptrVs_lt k2.1 v hv
          · exact m2 v hv
        · exact ptrVs_lt k2.2 v hv)
      obtain ⟨_, hb, _⟩ := hbd
      have hn' : ¬ fn.name = "runtime.NumGoroutine" := by simpa using hnm
      have hargs : ((⟨us⟩ : Array Value) ++ args.map a.eval ++ (⟨vs1⟩ : Array Value)) = ⟨us ++ args.toList.map a.eval ++ vs1⟩ := by apply Array.ext'; simp
      have hrun : (execOp a.eval o).run E.P w = .ok (.enter f ⟨us ++ args.toList.map a.eval ++ vs1⟩) w := by
        rw [← hargs]
        simp [execOp, ho, resolve, l1, Deferred.ofValue, invoke, callFunc, hf, hb, hn']
      rw [hrun]
      refine ⟨fun h => by simp [Fw, Fence.wide] at h, callsIn_Fw (hcall.mono fun e w' he => ?_)⟩
      obtain ⟨v, rfl, hv⟩ := he
      exact hn _ _ hv
    · cases hs
  · rename_i id vs' hcv
    cases hcv
    split at hs
    · rename_i y hy
      cases hs
      obtain ⟨y1, g, r, y2, y3, y4⟩ := hY id y hy
      have hval : a.eval x = .func (.yield g) #[] #[] := by rw [← y3, ← G.re id y1]; exact k1
      obtain ⟨r', z1, z2, z3⟩ := y4 _ _ _ _ _ h w0 b ρ H ds _ w I G y2 (fun _ _ h => h) G.hle G.re G.fl m1 m2
      have hsz : (args.map a.eval).size = r'.params.size := by simpa using z2
      have hz := run_yield (P := E.P) z1 hsz
      have e1 : (args.toList.map a.eval).toArray = args.map a.eval := by apply Array.ext'; simp
      rw [e1] at z3
      have hrun : (execOp a.eval o).run E.P w = .ok (.round g r'.fn ((r'.params.zip (args.map a.eval)).foldl (fun tmps (t, a) => tmps.setIfInBounds t a) r'.tmps) r'.assign r'.body) w := by
        simp [execOp, ho, resolve, hval, Deferred.ofValue, invoke, hz]
      rw [hrun]
      refine ⟨fun h => by simp [Fw, Fence.wide] at h, ?_⟩
      refine ⟨trivial, fun c cs hr => ?_⟩
      obtain ⟨e, w', he, hs⟩ := z3.2 c cs (by intro _ h; simp [Fw, Fence.wide] at h)
      obtain ⟨v, rfl, hv⟩ := he
      exact ⟨.returned v, w', hn _ _ hv, hs⟩
    · cases hs
  · cases hs
theorem nil_sound (hE : EnvOk E) {b : Base} (I : Inv b B ρ H ob nx w) {ev : Operand → Option SV} (hv : EvOk ρ H nx ev a) {neg : Bool} {k : Nat} (h : nilOf E (lookO ob) ev o.op = some (neg, k)) :
    ∃ q : Bool, (q = true → k = 0) ∧ (execOp a.eval o).run E.P w = .ok (.value (.bool (q != neg))) w ∧ ∀ c, o.op ≠ .defer c := by
  unfold nilOf at h
  split at h
  · rename_i op T x T' hop
    split at h
    · rename_i e _ _ c hT hx
      have hu := (hE.tt T _ hT).slc e rfl
      obtain ⟨k1, _⟩ := hv.one hx
      have hcst : a.eval (.const (.slice none 0 0)) = .slice none 0 0 := rfl
      have hnd : ∀ c, o.op ≠ .defer c := by rw [hop]; simp
      have hg : ∀ op (u : Value), (∃ aa n c, u = .slice aa n c) → (eqGuard op T x (.const (.slice none 0 0)) u (.slice none 0 0)).run E.P w = .ok () w := by
        rintro op u ⟨aa, n, c, rfl⟩
        cases op <;> simp [eqGuard]
      split at h
      · cases h
      · obtain ⟨n, h1, h2⟩ := Option.map_eq_some_iff.1 h
        cases h2
        obtain ⟨aa, cap, q1, q2⟩ := lenOf_nil I h1 k1
        refine ⟨aa.isNone, fun hh => q2 (by simpa using hh), ?_, hnd⟩
        rw [run_bin hop q1 hcst (hg _ _ ⟨_, _, _, rfl⟩) (Lib.run_eql_slice_nil w T e aa _ cap 0 0 hu)]
        simp
      · obtain ⟨n, h1, h2⟩ := Option.map_eq_some_iff.1 h
        cases h2
        obtain ⟨aa, cap, q1, q2⟩ := lenOf_nil I h1 k1
        refine ⟨aa.isNone, fun hh => q2 (by simpa using hh), ?_, hnd⟩
        rw [run_bin hop q1 hcst (hg _ _ ⟨_, _, _, rfl⟩) (run_neq_slice_nil_any w T e aa _ cap 0 0 hu)]
        cases aa.isNone <;> rfl
      · cases h
    · cases h
  · cases h
theorem decode_known (l : List UInt8) (pos : Nat) (h : pos < l.length) : runeOk l pos (Utf8.decode ⟨⟨l⟩⟩ pos).1 (Utf8.decode ⟨⟨l⟩⟩ pos).2 := by
  have hg : ((⟨⟨l⟩⟩ : ByteArray).get! (pos + 0)).toNat = (l.getD pos 0).toNat := by
    simp only [Nat.add_zero, ByteArray.get!, getD_get h]
    simp [h]
  refine ⟨h, fun h1 => ?_, fun h1 => ?_⟩
  · unfold Utf8.decode
    simp only [hg]
    rw [if_pos h1]
    exact ⟨rfl, rfl⟩
  · unfold Utf8.decode
    simp only [hg]
    rw [if_neg (by omega)]
    split
    · split
      · rename_i h2; exact ⟨h2, by simp⟩
      · exact ⟨by decide, by decide⟩
    · split
      · split
        · rename_i h2
          simp only [ge_iff_le, Bool.and_eq_true, decide_eq_true_eq] at h2
          exact ⟨by simp only []; omega, by simp⟩
        · exact ⟨by decide, by decide⟩
      · split
        · split
          · rename_i h2
            simp only [ge_iff_le, Bool.and_eq_true, decide_eq_true_eq] at h2
            exact ⟨by simp only []; omega, by simp⟩
          · exact ⟨by decide, by decide⟩
        · exact ⟨by decide, by decide⟩
theorem next_sound {b : Base} (I : Inv b B ρ H ob nx w) {ev : Operand → Option SV} (hv : EvOk ρ H nx ev a) {id pos : Nat} {l : List UInt8} (h : nextOf (lookO ob) ev o.op = some (id, l, pos)) :
    (∀ c, o.op ≠ .defer c) ∧ ((l.length ≤ pos ∧ (execOp a.eval o).run E.P w = .ok (.value (.tuple #[.bool false])) w) ∨
    ∃ c k w', runeOk l pos c k ∧ (execOp a.eval o).run E.P w = .ok (.value (.tuple #[.bool true, .int .i64 pos, .int .i32 c])) w' ∧ Inv b B ρ H ((id, some (.sit l (pos + k))) :: ob) nx w') := by
  unfold nextOf at h
  split at h
  · rename_i _ T hop
    split at h
    · rename_i id' hx
      split at h
      · rename_i l' pos' ho
        cases h
        obtain ⟨k1, _⟩ := hv.one hx
        obtain ⟨_, _, g, d1, d2, d3, d4⟩ := I.objs _ _ ho
        obtain ⟨g', e1, e2⟩ := k1
        rw [d1] at e1
        cases e1
        refine ⟨by rw [hop]; simp, ?_⟩
        by_cases hp : pos < l.length
        · refine .inr ⟨_, _, w.iterAt g ⟨⟨l⟩⟩ (pos + (Utf8.decode ⟨⟨l⟩⟩ pos).2), decode_known l pos hp, ?_, ?_⟩
          · have := Lib.run_next_any_at (P := E.P) w g ⟨⟨l⟩⟩ pos o.type d4 hp
            simp [execOp, hop, e2, this]
          · refine I.putW ho (g := g) (.inl (by rw [d1])) (Lib.below_iterAt (Below.refl _ _) d2 _ _) (fun i hi => Lib.iterAt_other _ _ _ _ _ hi) trivial ⟨g, d1, d2, d3, Lib.iterAt_heap _ _ _ _ _ d4⟩
        · refine .inl ⟨by omega, ?_⟩
          have := Lib.run_next_end_at (P := E.P) w g ⟨⟨l⟩⟩ pos o.type d4 hp
          simp [execOp, hop, e2, this]
      · cases h
    · cases h
  · cases h
theorem nhyps_ok {tmps : Array Value} {nx : Nat} (hT : TmOk ρ H tm nx tmps) {g : Nat} {w : Bool} {p : Prop} (hg : tmps.getD g undef ≠ .bool w) (h : nhyps tm gs g w p) : p := by
  unfold nhyps at h
  split at h
  · exact h
  · split at h
    · rename_i e he
      refine h ?_
      have := (hT _ _ he).2.2
      rw [show tmps.getD g undef = .bool e from this] at hg
      cases e <;> cases w <;> simp_all
    · exact h
theorem seq_step {rd : Option Nat} {m : Nat} {inl : Inl} {yt : YT} (hE : EnvOk E) (hI : InlOk E inl) (hY : YtOk E w0 B yt) {ops : Array Oper} {i : Nat} {l : List Oper} {s : St} {k : St → Prop} {K : Act → World → Prop} {Q : Exit → Act → World → Prop} (hi : ops[i]? = some o) (hd : ∀ d, o.dst = some d → d < n)
    (h : runSeq E inl yt ops (o :: l) s gs k) (hs : Sat E w0 B n s gs a w) (hK : ∀ s' gs' a' w', runSeq E inl yt ops l s' gs' k → Sat E w0 B n s' gs' a' w' → K a' w') : wpOpIn (Fw rd) m E.P ops Q i K a w := by
  obtain ⟨ρ, H, b, ds, I, G, hT, hG, hdf, hsz⟩ := hs
  unfold wpOpIn
  simp only [hi]
  simp only [runSeq] at h
  split at h
  · rename_i hg
    have hw : Region.wanted o (yielded ops a.tmps) = true := by simp [Region.wanted, hg]
    rw [if_pos hw]
    split at h
    · rename_i q hq
      obtain ⟨x, hq1, hq2⟩ := Option.bind_eq_some_iff.1 hq
      refine sub_sound hE hI hY I G (evG_ok G.gl hT hG (ctx := []) (by simp)) hq1 hq2 h ?_
      rintro v w' ⟨sv, ob', nx', lr', ρ', H', b', hk, I', G', hle, hre, hn, d1, d2⟩
      split at hk
      · rename_i d hdst
        split at hk
        · rename_i hfree
          rw [frcSV_eq] at hk
          have hdlt : d < a.tmps.size := by rw [hsz]; exact hd d hdst
          rw [hdst]
          refine hK _ _ _ _ hk ⟨ρ', H', b', ds, I', G', hT.put hre hle hn hdlt d1 d2, ?_, by rw [put_defers]; exact hdf, by rw [put_size]; exact hsz⟩
          intro x hx
          obtain ⟨f1, f2⟩ := gsFree_spec hfree x hx
          exact ((hG x hx).put f1 f2 hdlt).mono hre hle hn
        · exact hk.elim
      · rename_i hdst
        rw [hdst]
        exact hK _ _ _ _ hk ⟨ρ', H', b', ds, I', G', hT.mono hre hle hn, fun x hx => (hG x hx).mono hre hle hn, hdf, hsz⟩
    · split at h
      · rename_i neg k d hnil hdst
        split at h
        · rename_i hfree
          obtain ⟨q, q1, q2, q3⟩ := nil_sound hE I (evG_ok G.gl hT hG (ctx := []) (by simp)) hnil
          have hdlt : d < a.tmps.size := by rw [hsz]; exact hd d hdst
          refine ⟨fun _ _ => trivial, ?_⟩
          rw [Oper.semAt_eq _ _ _ q3, q2]
          show K (a.put o.dst _) w
          rw [hdst]
          refine hK _ _ _ _ (h q q1) ⟨ρ, H, b, ds, I, G, hT.put (REq.refl _ _) (HLe.refl _) (Nat.le_refl _) hdlt rfl trivial, ?_, by rw [put_defers]; exact hdf, by rw [put_size]; exact hsz⟩
          intro x hx
          obtain ⟨f1, f2⟩ := gsFree_spec hfree x hx
          exact (hG x hx).put f1 f2 hdlt
        · exact h.elim
      split at h
      · rename_i id l pos d hnx hdst
        split at h
        · rename_i hfree
          have hdlt : d < a.tmps.size := by rw [hsz]; exact hd d hdst
          obtain ⟨q3, hq⟩ := next_sound (E := E) I (evG_ok G.gl hT hG (ctx := []) (by simp)) hnx
          refine ⟨fun _ _ => trivial, ?_⟩
          rcases hq with ⟨q1, q2⟩ | ⟨c, k, w', q1, q2, I'⟩
          · rw [Oper.semAt_eq _ _ _ q3, q2]
            show K (a.put o.dst _) w
            rw [hdst]
            refine hK _ _ _ _ (h.1 q1) ⟨ρ, H, b, ds, I, G, hT.put (REq.refl _ _) (HLe.refl _) (Nat.le_refl _) hdlt ⟨[.bool false], rfl, _, _, rfl, rfl, rfl⟩ (by simp [SV.lt, V.lt, C.lt]), ?_, by rw [put_defers]; exact hdf, by rw [put_size]; exact hsz⟩
            intro x hx
            obtain ⟨f1, f2⟩ := gsFree_spec hfree x hx
            exact (hG x hx).put f1 f2 hdlt
          · rw [Oper.semAt_eq _ _ _ q3, q2]
            show K (a.put o.dst _) w'
            rw [hdst]
            refine hK _ _ _ _ (h.2 c k q1) ⟨ρ, H, b, ds, I', G, hT.put (REq.refl _ _) (HLe.refl _) (Nat.le_refl _) hdlt ⟨[.bool true, .int .i64 pos, .int .i32 c], rfl, _, _, rfl, rfl, _, _, rfl, rfl, _, _, rfl, rfl, rfl⟩ (by simp [SV.lt, V.lt, C.lt]), ?_, by rw [put_defers]; exact hdf, by rw [put_size]; exact hsz⟩
            intro x hx
            obtain ⟨f1, f2⟩ := gsFree_spec hfree x hx
            exact (hG x hx).put f1 f2 hdlt
        · exact h.elim
      split at h
      · rename_i res hres
        rw [conj_iff] at h
        obtain ⟨hc, h⟩ := h
        obtain ⟨hok, hnd⟩ := stepG_sound hE I G.gl hT hG (ctx := []) (by simp) hres hc
        refine hok.wpIn hnd ?_
        intro v w' hp
        obtain ⟨ρ', H', I', hle, hre, hden⟩ := hp
        split at h
        · rename_i d sv hdst hrv
          split at h
          · rename_i hfree
            rw [frcSV_eq, frcUp_eq] at h
            obtain ⟨d1, d2⟩ := hden sv hrv
            have hdlt : d < a.tmps.size := by rw [hsz]; exact hd d hdst
            rw [hdst]
            refine hK _ _ _ _ h ⟨ρ', H', b, ds, I', G.mono hle hre (Nat.le_add_right _ _), hT.put hre hle (Nat.le_add_right _ _) hdlt d1 d2, ?_, by rw [put_defers]; exact hdf, by rw [put_size]; exact hsz⟩
            intro x hx
            obtain ⟨f1, f2⟩ := gsFree_spec hfree x hx
            exact ((hG x hx).put f1 f2 hdlt).mono hre hle (Nat.le_add_right _ _)
          · exact h.elim
        · rename_i hdst
          rw [frcUp_eq] at h
          rw [hdst]
          exact hK _ _ _ _ h ⟨ρ', H', b, ds, I', G.mono hle hre (Nat.le_add_right _ _), hT.mono hre hle (Nat.le_add_right _ _), fun x hx => (hG x hx).mono hre hle (Nat.le_add_right _ _), hdf, hsz⟩
        · exact h.elim
      · exact h.elim
  · rename_i j want hg
    split at h
    · rename_i g d hgd hdst
      have hdlt : d < a.tmps.size := by rw [hsz]; exact hd d hdst
      have hiff := wanted_iff (a := a) (ops := ops) hg hgd
      split at h
      · rename_i q hq
        obtain ⟨x, hq1, hq2⟩ := Option.bind_eq_some_iff.1 hq
        split at h
        · rename_i hfree
          simp only [Bool.and_eq_true, bne_iff_ne] at hfree
          obtain ⟨h1, h2⟩ := h
          by_cases hw : Region.wanted o (yielded ops a.tmps) = true
          · rw [if_pos hw]
            have hgv := hiff.1 hw
            have h1' := hyps_ok hT hG 8 g want _ hgv h1
            refine sub_sound hE hI hY I G (evG_ok G.gl hT hG (ctx := [(g, want)]) (by simpa using hgv)) hq1 hq2 h1' ?_
            rintro v w' ⟨sv, ob', nx', lr', ρ', H', b', hk, I', G', hle, hre, hn, d1, d2⟩
            rw [frcSV_eq] at hk
            rw [hdst]
            refine hK _ _ _ _ hk ⟨ρ', H', b', ds, I', G', (hT.del hdlt).mono hre hle hn, ?_, by rw [put_defers]; exact hdf, by rw [put_size]; exact hsz⟩
            intro x hx
            rcases List.mem_cons.1 hx with rfl | hx
            · refine ⟨by rw [put_size]; exact hdlt, .inl ⟨?_, d2, ?_⟩⟩
              · rw [put_getD hdlt, if_neg (fun e => hfree.2 e.symm)]; exact hgv
              · rw [put_getD hdlt, if_pos rfl]; exact d1
            · obtain ⟨f1, f2⟩ := gsFree_spec hfree.1 x hx
              exact ((hG x hx).put f1 f2 hdlt).mono hre hle hn
          · rw [if_neg hw]
            have hgv : a.tmps.getD g undef ≠ .bool want := fun e => hw (hiff.2 e)
            have h2' := nhyps_ok hT hgv h2
            refine ⟨fun _ _ => trivial, ?_⟩
            rw [hdst]
            refine hK _ _ _ _ h2' ⟨ρ, H, b, ds, I, G, hT.del hdlt, ?_, by rw [put_defers]; exact hdf, by rw [put_size]; exact hsz⟩
            intro x hx
            rcases List.mem_cons.1 hx with rfl | hx
            · refine ⟨by rw [put_size]; exact hdlt, .inr ⟨?_, ?_⟩⟩
              · rw [put_getD hdlt, if_neg (fun e => hfree.2 e.symm)]; exact hgv
              · rw [put_getD hdlt, if_pos rfl]
            · obtain ⟨f1, f2⟩ := gsFree_spec hfree.1 x hx
              exact (hG x hx).put f1 f2 hdlt
        · exact h.elim
      · split at h
        · rename_i res hres
          split at h
          · rename_i sv hrv
            split at h
            · rename_i hfree
              simp only [Bool.and_eq_true, bne_iff_ne] at hfree
              rw [conj_iff, frcSV_eq] at h
              obtain ⟨hc, h⟩ := h
              obtain ⟨res0, hres0, hstill⟩ := Option.bind_eq_some_iff.1 hres
              by_cases hw : Region.wanted o (yielded ops a.tmps) = true
              · rw [if_pos hw]
                have hgv := hiff.1 hw
                have hc0 : ∀ q ∈ res0.cs, q := by
                  intro q hq
                  rw [← (still_cs hstill).1] at hq
                  exact hyps_ok hT hG 8 g want q hgv (hc _ (List.mem_map.2 ⟨q, hq, rfl⟩))
                obtain ⟨hok, hnd⟩ := stepG_sound hE I G.gl hT hG (ctx := [(g, want)]) (by simpa using hgv) hres0 hc0
                refine hok.wpIn hnd ?_
                intro v w' hp
                obtain ⟨hp', _, hup⟩ := still_ok (fun id p h => (I.objs id p h).1) hstill hp
                obtain ⟨ρ', H', I', hle, hre, hden⟩ := hp'
                rw [hup] at I'
                obtain ⟨d1, d2⟩ := hden sv hrv
                rw [hdst]
                refine hK _ _ _ _ h ⟨ρ', H', b, ds, I', G.mono hle hre (Nat.le_add_right _ _), (hT.del hdlt).mono hre hle (Nat.le_add_right _ _), ?_, by rw [put_defers]; exact hdf, by rw [put_size]; exact hsz⟩
                intro x hx
                rcases List.mem_cons.1 hx with rfl | hx
                · refine ⟨by rw [put_size]; exact hdlt, .inl ⟨?_, d2, ?_⟩⟩
                  · rw [put_getD hdlt, if_neg (fun e => hfree.2 e.symm)]; exact hgv
                  · rw [put_getD hdlt, if_pos rfl]; exact d1
                · obtain ⟨f1, f2⟩ := gsFree_spec hfree.1 x hx
                  exact ((hG x hx).put f1 f2 hdlt).mono hre hle (Nat.le_add_right _ _)
              · rw [if_neg hw]
                have hgv : a.tmps.getD g undef ≠ .bool want := fun e => hw (hiff.2 e)
                refine ⟨fun _ _ => trivial, ?_⟩
                rw [hdst]
                refine hK _ _ _ _ h ⟨ρ, H, b, ds, I.more (Nat.le_add_right _ _), G.mono (HLe.refl _) (REq.refl _ _) (Nat.le_add_right _ _), (hT.del hdlt).mono (REq.refl _ _) (HLe.refl _) (Nat.le_add_right _ _), ?_, by rw [put_defers]; exact hdf, by rw [put_size]; exact hsz⟩
                intro x hx
                rcases List.mem_cons.1 hx with rfl | hx
                · refine ⟨by rw [put_size]; exact hdlt, .inr ⟨?_, ?_⟩⟩
                  · rw [put_getD hdlt, if_neg (fun e => hfree.2 e.symm)]; exact hgv
                  · rw [put_getD hdlt, if_pos rfl]
                · obtain ⟨f1, f2⟩ := gsFree_spec hfree.1 x hx
                  exact ((hG x hx).put f1 f2 hdlt).mono (REq.refl _ _) (HLe.refl _) (Nat.le_add_right _ _)
            · exact h.elim
          · exact h.elim
        · exact h.elim
    · exact h.elim
end
end Go.Sx

namespace Go.Sx
open Go.RowKit
section
variable {E : Env} {w0 : Base} {B n : Nat} {ρ : Nat → Value} {H : IH} {ob : List (Nat × Option AObj)} {nx : Nat} {w : World} {tm : List (Nat × SV)} {gs : List GV} {a : Act} {o : Oper} {r : Res}
variable {ops : Array Oper} {Q : Exit → Act → World → Prop} {rd : Option Nat} {m : Nat}
theorem Sat.less {s : St} (h : Sat E w0 B n s gs a w) : Sat E w0 B n s [] a w := by
  obtain ⟨ρ, H, b, ds, h1, h2, h3, _, h5⟩ := h
  exact ⟨ρ, H, b, ds, h1, h2, h3, by simp, h5⟩
theorem seq_sound {inl : Inl} {yt : YT} (hE : EnvOk E) (hI : InlOk E inl) (hY : YtOk E w0 B yt) (hd : ∀ o ∈ ops.toList, ∀ d, o.dst = some d → d < n) {k : St → Prop} (hk : ∀ s' a' w', k s' → Sat E w0 B n s' [] a' w' → Q .normal a' w') :
    ∀ (l : List Oper) (idxs : List Nat) (s : St) (gs : List GV) (a : Act) (w : World), idxs.map (ops[·]?) = l.map some → runSeq E inl yt ops l s gs k → Sat E w0 B n s gs a w → wpOpsIn (Fw rd) m E.P ops Q idxs a w
  | [], idxs, s, gs, a, w, hi, h, hs => by
    have : idxs = [] := by simpa using hi
    subst this
    exact hk s a w h hs.less
  | o :: l, idxs, s, gs, a, w, hi, h, hs => by
    cases idxs with
    | nil => simp at hi
    | cons i idxs =>
      simp only [List.map_cons, List.cons.injEq] at hi
      rw [wpOpsIn_cons]
      have hmem : o ∈ ops.toList := by
        have := (Array.getElem?_eq_some_iff.1 hi.1)
        obtain ⟨h1, h2⟩ := this
        rw [← h2]; simp
      exact seq_step hE hI hY hi.1 (hd o hmem) h hs (fun s' gs' a' w' h' hs' => seq_sound hE hI hY hd hk l idxs s' gs' a' w' hi.2 h' hs')
theorem recTm_same {α β : Nat → Bool} {t : Nat} : ∀ {rs : List Rec}, (∀ x ∈ rs, x.d = some t → α x.i = β x.i) → lookT (recTm α rs tm) t = lookT (recTm β rs tm) t
  | [], _ => rfl
  | ⟨i, none, g, v, u⟩ :: r, h => by
    simp only [recTm]
    exact recTm_same fun x hx => h x (by simp [hx])
  | ⟨i, some d, none, v, u⟩ :: r, h => by
    have ih := recTm_same (α := α) (β := β) (t := t) (rs := r) fun x hx => h x (by simp [hx])
    simp only [recTm]
    by_cases e : d = t
    · subst e
      have hh := h ⟨i, some d, none, v, u⟩ (by simp) rfl
      simp only [] at hh
      rw [hh]
      cases β i <;> simp [lookT_cons, ih]
    · have : ∀ b : Bool, lookT (bif b then (d, v) :: recTm α r tm else recTm α r tm) t = lookT (recTm α r tm) t := by
        intro b; cases b <;> simp [lookT_cons, e]
      rw [this, ih]
      have : ∀ b : Bool, lookT (bif b then (d, v) :: recTm β r tm else recTm β r tm) t = lookT (recTm β r tm) t := by
        intro b; cases b <;> simp [lookT_cons, e]
      rw [this]
  | ⟨i, some d, some g, v, u⟩ :: r, h => by
    have ih := recTm_same (α := α) (β := β) (t := t) (rs := r) fun x hx => h x (by simp [hx])
    simp only [recTm]
    by_cases e : d = t
    · subst e
      have hh := h ⟨i, some d, some g, v, u⟩ (by simp) rfl
      simp only [] at hh
      rw [hh]
      cases β i <;> simp [lookT_delT, ih]
    · have : ∀ b : Bool, lookT (bif b then delT d (recTm α r tm) else recTm α r tm) t = lookT (recTm α r tm) t := by
        intro b; cases b <;> simp [lookT_delT, Ne.symm e]
      rw [this, ih]
      have : ∀ b : Bool, lookT (bif b then delT d (recTm β r tm) else recTm β r tm) t = lookT (recTm β r tm) t := by
        intro b; cases b <;> simp [lookT_delT, Ne.symm e]
      rw [this]
theorem recTm_only {α : Nat → Bool} {d : Nat} {y : Rec} (hy : α y.i = true) (hyd : y.d = some d) : ∀ {rs : List Rec}, y ∈ rs → (∀ x ∈ rs, x.d = some d → x = y) → lookT (recTm α rs tm) d = (match y.g with | none => some y.v | some _ => none)
  | [], h, _ => by simp at h
  | x :: r, h, ho => by
    by_cases e : x = y
    · subst e
      obtain ⟨i, xd, g, v, u⟩ := x
      simp only [] at hy hyd
      subst hyd
      cases g with
      | none => simp [recTm, hy, lookT_cons]
      | some g => simp [recTm, hy, lookT_delT]
    · have hr : y ∈ r := by rcases List.mem_cons.1 h with h | h; exact absurd h.symm e; exact h
      have ih := recTm_only (α := α) hy hyd hr (fun z hz => ho z (by simp [hz]))
      have hxd : x.d ≠ some d := fun h => e (ho x (by simp) h)
      obtain ⟨i, xd, g, v, u⟩ := x
      cases xd with
      | none => simp only [recTm]; exact ih
      | some d' =>
        have hne : d' ≠ d := fun h => hxd (by rw [h])
        cases g with
        | none => simp only [recTm]; cases α i <;> simp [lookT_cons, hne, ih]
        | some g => simp only [recTm]; cases α i <;> simp [lookT_delT, Ne.symm hne, ih]
theorem recGs_mem {α : Nat → Bool} {x : GV} : ∀ {rs : List Rec}, x ∈ recGs α rs ↔ ∃ i u, ⟨i, some x.d, some (x.g, x.w), x.v, u⟩ ∈ rs ∧ α i = true
  | [] => by simp [recGs]
  | ⟨i, none, g, v, u⟩ :: r => by
    simp only [recGs, recGs_mem (rs := r), List.mem_cons, Rec.mk.injEq]
    constructor
    · rintro ⟨j, u', h1, h2⟩; exact ⟨j, u', .inr h1, h2⟩
    · rintro ⟨j, u', h1, h2⟩
      rcases h1 with h1 | h1
      · simp at h1
      · exact ⟨j, u', h1, h2⟩
  | ⟨i, some d, none, v, u⟩ :: r => by
    simp only [recGs, recGs_mem (rs := r), List.mem_cons, Rec.mk.injEq]
    constructor
    · rintro ⟨j, u', h1, h2⟩; exact ⟨j, u', .inr h1, h2⟩
    · rintro ⟨j, u', h1, h2⟩
      rcases h1 with h1 | h1
      · simp at h1
      · exact ⟨j, u', h1, h2⟩
  | ⟨i, some d, some (g, b), v, u⟩ :: r => by
    simp only [recGs]
    constructor
    · intro h
      cases hα : α i with
      | false =>
        rw [hα] at h
        obtain ⟨j, u', h1, h2⟩ := recGs_mem.1 h
        exact ⟨j, u', by simp [h1], h2⟩
      | true =>
        rw [hα] at h
        rcases List.mem_cons.1 h with rfl | h
        · exact ⟨i, u, by simp, hα⟩
        · obtain ⟨j, u', h1, h2⟩ := recGs_mem.1 h
          exact ⟨j, u', by simp [h1], h2⟩
    · rintro ⟨j, u', h1, h2⟩
      rcases List.mem_cons.1 h1 with h1 | h1
      · simp only [Rec.mk.injEq, Option.some.injEq, Prod.mk.injEq] at h1
        obtain ⟨rfl, rfl, ⟨rfl, rfl⟩, rfl, rfl⟩ := h1
        rw [h2]; simp
      · have := recGs_mem.2 ⟨j, u', h1, h2⟩
        cases α i <;> simp [this]
theorem recOb_pre {α : Nat → Bool} {rs : List Rec} : ∀ {pre : List Rec}, (∀ x ∈ pre, α x.i = false) → recOb α (pre ++ rs) = recOb α rs
  | [], _ => rfl
  | x :: r, h => by
    have ih := recOb_pre (α := α) (rs := rs) (pre := r) fun x hx => h x (by simp [hx])
    simp [recOb, h x (by simp), ih]
theorem recTm_pre {α : Nat → Bool} {rs : List Rec} : ∀ {pre : List Rec}, (∀ x ∈ pre, α x.i = false) → recTm α (pre ++ rs) tm = recTm α rs tm
  | [], _ => rfl
  | ⟨i, d, g, v, u⟩ :: r, h => by
    have ih := recTm_pre (α := α) (rs := rs) (pre := r) fun x hx => h x (by simp [hx])
    have hi : α i = false := h ⟨i, d, g, v, u⟩ (by simp)
    cases d <;> cases g <;> simp [recTm, hi, ih]
theorem recGs_pre {α : Nat → Bool} {rs : List Rec} : ∀ {pre : List Rec}, (∀ x ∈ pre, α x.i = false) → recGs α (pre ++ rs) = recGs α rs
  | [], _ => rfl
  | ⟨i, d, g, v, u⟩ :: r, h => by
    have ih := recGs_pre (α := α) (rs := rs) (pre := r) fun x hx => h x (by simp [hx])
    have hi : α i = false := h ⟨i, d, g, v, u⟩ (by simp)
    cases d with
    | none => simp [recGs, ih]
    | some d => cases g with
      | none => simp [recGs, ih]
      | some g => obtain ⟨g, b⟩ := g; simp [recGs, hi, ih]
theorem lookT_keepT {l : List Nat} {t : Nat} : lookT (keepT l tm) t = if t ∈ l then lookT tm t else none := by
  induction tm with
  | nil => simp [keepT, lookT]
  | cons x r ih =>
    obtain ⟨k, v⟩ := x
    unfold keepT at ih ⊢
    rw [List.filter_cons]
    by_cases h1 : k ∈ l
    · have : l.contains k = true := by simpa using h1
      simp only [this, if_true, lookT_cons, ih]
      by_cases h2 : k = t
      · subst h2; simp [h1]
      · simp [h2]
    · have : l.contains k = false := by simpa using h1
      simp only [this, Bool.false_eq_true, if_false, ih, lookT_cons]
      by_cases h2 : k = t
      · subst h2; simp [h1]
      · simp [h2]
def HeadOk (E : Env) (ops : Array Oper) (s : St) (hd : List (Nat × Nat)) (rs : List Rec) (r : List (Oper × Nat)) (o : Oper) (i m : Nat) : Prop :=
  m < 2 ^ i ∧
  ((o.guard = none ∧ ∃ res v fl, stepH fl E (keepT (looks ops o) (recTm (Nat.testBit m) rs s.tm)) (recGs (Nat.testBit m) rs) (obAt (hidAt r i) s.nx hd (recOb (Nat.testBit m) rs) s.ob) (s.nx + W * i) o.op = some res ∧ valOr o.dst res.v = some v ∧ (∀ p ∈ res.cs, p) ∧
      recOk hd s.nx i (slotOf s.nx i (keepU res.up)) ((keepU res.up ++ recOb (Nat.testBit m) rs).map (·.1)) v (keepU res.up) = true ∧ (slotOf s.nx i (keepU res.up) = i ∨ Nat.testBit m (slotOf s.nx i (keepU res.up)) = true) ∧ eatOk s.nx i hd res.up = true ∧ ⟨i, o.dst, none, v, keepU res.up⟩ ∈ rs) ∨
   (∃ j b g d res v, o.guard = some (j, b) ∧ (ops[j]?).bind (·.dst) = some g ∧ o.dst = some d ∧ Nat.testBit m j = true ∧
      (stepG E (keepT (looks ops o) (recTm (Nat.testBit m) rs s.tm)) (recGs (Nat.testBit m) rs) (obAt (hidAt r i) s.nx hd (recOb (Nat.testBit m) rs) s.ob) (s.nx + W * i) [(g, b)] o.op).bind (still (s.nx + W * i)) = some res ∧ res.v = some v ∧
      (∀ p ∈ res.cs, hyps (keepT (looks ops o) (recTm (Nat.testBit m) rs s.tm)) (recGs (Nat.testBit m) rs) 8 g b p) ∧ recOk hd s.nx i i ((recOb (Nat.testBit m) rs).map (·.1)) v [] = true ∧ ⟨i, some d, some (g, b), v, []⟩ ∈ rs))
theorem HeadOk.pre {s : St} {hd : List (Nat × Nat)} {pre rs : List Rec} {q : List (Oper × Nat)} {i mk : Nat} (h : HeadOk E ops s hd rs q o i mk) (hp : ∀ x ∈ pre, i ≤ x.i) : HeadOk E ops s hd (pre ++ rs) q o i mk := by
  obtain ⟨h0, h⟩ := h
  have hf : ∀ x ∈ pre, Nat.testBit mk x.i = false := fun x hx => Nat.testBit_lt_two_pow (Nat.lt_of_lt_of_le h0 (Nat.pow_le_pow_right (by omega) (hp x hx)))
  refine ⟨h0, ?_⟩
  rw [recTm_pre hf, recGs_pre hf, recOb_pre hf]
  rcases h with ⟨h1, res, v, fl, h2, h3, h4, h5, h5', h5'', h6⟩ | ⟨j, b, g, d, res, v, h1, h2, h3, h4, h5, h6, h7, h8, h9⟩
  · exact .inl ⟨h1, res, v, fl, h2, h3, h4, h5, h5', h5'', by simp [h6]⟩
  · exact .inr ⟨j, b, g, d, res, v, h1, h2, h3, h4, h5, h6, h7, h8, by simp [h9]⟩
theorem draw_facts {s : St} {hd : List (Nat × Nat)} {k : List Rec → Prop} : ∀ (l : List (Oper × Nat)) (i : Nat) (rs : List Rec), runDraw E ops s hd l i rs k →
    ∃ pre, k (pre ++ rs) ∧ pre.map (·.i) = (List.range' i l.length).reverse ∧ (∀ j o mk, l[j]? = some (o, mk) → HeadOk E ops s hd (pre ++ rs) (l.drop (j + 1)) o (i + j) mk)
  | [], i, rs, h => ⟨[], h, rfl, by simp⟩
  | (o, mk) :: l, i, rs, h => by
    have fin : ∀ x : Rec, x.i = i → HeadOk E ops s hd (x :: rs) l o i mk → runDraw E ops s hd l (i + 1) (x :: rs) k →
        ∃ pre, k (pre ++ rs) ∧ pre.map (·.i) = (List.range' i ((o, mk) :: l).length).reverse ∧ (∀ j o' mk', ((o, mk) :: l)[j]? = some (o', mk') → HeadOk E ops s hd (pre ++ rs) (((o, mk) :: l).drop (j + 1)) o' (i + j) mk') := by
      intro x hxi hx hr
      obtain ⟨pre, k1, k2, k3⟩ := draw_facts l (i + 1) (x :: rs) hr
      refine ⟨pre ++ [x], by simpa using k1, ?_, ?_⟩
      · rw [List.map_append, k2, List.length_cons, List.range'_succ, List.reverse_cons]
        simp [hxi]
      · intro j o' mk' hj
        have he : pre ++ [x] ++ rs = pre ++ x :: rs := by simp
        rw [he]
        cases j with
        | zero =>
          simp only [List.getElem?_cons_zero, Option.some.injEq, Prod.mk.injEq] at hj
          obtain ⟨rfl, rfl⟩ := hj
          refine HeadOk.pre hx fun y hy => ?_
          have : y.i ∈ pre.map (·.i) := List.mem_map.2 ⟨y, hy, rfl⟩
          rw [k2] at this
          simp only [List.mem_reverse, List.mem_range'_1] at this
          omega
        | succ j =>
          have := k3 j o' mk' (by simpa using hj)
          rw [show i + 1 + j = i + (j + 1) by omega] at this
          exact this
    simp only [runDraw, frcL_eq, frcTm_eq, frcGs_eq] at h
    split at h
    · rename_i hm
      have hf : ∀ x : Rec, x.i = i → ∀ y ∈ [x], Nat.testBit mk y.i = false := by
        intro x hx y hy
        simp only [List.mem_singleton] at hy
        subst hy
        rw [hx]
        exact Nat.testBit_lt_two_pow hm
      split at h
      · rename_i hg
        split at h
        · rename_i res hres
          split at h
          · rename_i v hv
            rw [conj_iff, frcSV_eq, frcUp_eq] at h
            obtain ⟨hc, h⟩ := h
            split at h
            · rename_i hid
              simp only [Bool.and_eq_true, Bool.or_eq_true, beq_iff_eq] at hid
              have e1 := recTm_pre (tm := s.tm) (rs := rs) (hf ⟨i, o.dst, none, v, keepU res.up⟩ rfl)
              have e2 := recGs_pre (rs := rs) (hf ⟨i, o.dst, none, v, keepU res.up⟩ rfl)
              have e3 := recOb_pre (rs := rs) (hf ⟨i, o.dst, none, v, keepU res.up⟩ rfl)
              simp only [List.singleton_append] at e1 e2 e3
              refine fin ⟨i, o.dst, none, v, keepU res.up⟩ rfl ⟨hm, .inl ⟨hg, res, v, appTo o.dst l && !(hd.any fun y => y.2 == s.nx + W * i), ?_, hv, hc, ?_, hid.1.2, hid.2, by simp⟩⟩ h
              · rw [e1, e2, e3]; exact hres
              · rw [e3]; exact hid.1.1
            · exact h.elim
          · exact h.elim
        · exact h.elim
      · rename_i j b hg
        split at h
        · rename_i g d hgd hdst
          split at h
          · rename_i res hres
            split at h
            · rename_i v hv
              split at h
              · rename_i hbit
                rw [conj_iff, frcSV_eq] at h
                obtain ⟨hc, h⟩ := h
                split at h
                · rename_i hid
                  have e1 := recTm_pre (tm := s.tm) (rs := rs) (hf ⟨i, some d, some (g, b), v, []⟩ rfl)
                  have e2 := recGs_pre (rs := rs) (hf ⟨i, some d, some (g, b), v, []⟩ rfl)
                  have e3 := recOb_pre (rs := rs) (hf ⟨i, some d, some (g, b), v, []⟩ rfl)
                  simp only [List.singleton_append] at e1 e2 e3
                  refine fin ⟨i, some d, some (g, b), v, []⟩ rfl ⟨hm, .inr ⟨j, b, g, d, res, v, hg, hgd, hdst, hbit, ?_, hv, ?_, ?_, by simp⟩⟩ h
                  · rw [e1, e2, e3]; exact hres
                  · rw [e1, e2]
                    intro p hp
                    exact hc _ (List.mem_map.2 ⟨p, hp, rfl⟩)
                  · rw [e3]; exact hid
                · exact h.elim
              · exact h.elim
            · exact h.elim
          · exact h.elim
        · exact h.elim
    · exact h.elim
end
end Go.Sx
