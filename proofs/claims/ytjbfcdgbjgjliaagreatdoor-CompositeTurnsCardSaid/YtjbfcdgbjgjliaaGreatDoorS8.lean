/- A verified symbolic run of functions, part 8: lemmas, no claim of their own. -/
import Derived.Test.YtjbfcdgbjgjliaaGreatDoorS7
import Derived.Lib.OthersKept
import Derived.RangeFuncNested
/- The engine's runs are right: operations one after the other. -/
namespace Go.Sx
open Go.RowKit
section
variable {E : Env} {w0 : Base} {B n : Nat} {ρ : Nat → Value} {H : IH} {ob : List (Nat × Option AObj)} {nx : Nat} {w : World} {tm : List (Nat × SV)} {gs : List GV} {a : Act} {o : Oper} {r : Res}
theorem still_cs {r' : Res} (h : still nx r = some r') : r'.cs = r.cs ∧ r'.up = [] := by
  unfold still at h
  split at h
  · rename_i hu; cases h; exact ⟨rfl, hu⟩
  · split at h
    · split at h
      · cases h; exact ⟨rfl, rfl⟩
      · cases h
    · cases h
  · cases h
theorem put_size (d : Option Nat) (v : Value) : (a.put d v).tmps.size = a.tmps.size := by
  cases d <;> simp [Act.put]
theorem put_defers (d : Option Nat) (v : Value) : (a.put d v).defers = a.defers := by
  cases d <;> simp [Act.put]
theorem put_getD {d t : Nat} {v : Value} (h : d < a.tmps.size) : (a.put (some d) v).tmps.getD t undef = if t = d then v else a.tmps.getD t undef := by
  simp only [Act.put, Array.getD_eq_getD_getElem?, Array.getElem?_setIfInBounds]
  by_cases e : t = d
  · subst e; simp [h]
  · rw [if_neg e, if_neg (fun x => e x.symm)]
theorem lookT_cons (k : Nat) (v : SV) (l : List (Nat × SV)) (t : Nat) : lookT ((k, v) :: l) t = if k = t then some v else lookT l t := by
  simp [lookT]
theorem lookT_delT {d t : Nat} : lookT (delT d tm) t = if t = d then none else lookT tm t := by
  induction tm with
  | nil => simp [delT, lookT]
  | cons x r ih =>
    obtain ⟨k, v⟩ := x
    unfold delT at ih ⊢
    rw [List.filter_cons]
    by_cases h1 : k = d
    · subst h1
      simp only [bne_self_eq_false, Bool.false_eq_true, if_false, ih, lookT_cons]
      by_cases h2 : t = k
      · simp [h2]
      · simp [h2, Ne.symm h2]
    · have : (k != d) = true := by simpa using h1
      simp only [this, if_true, lookT_cons, ih]
      by_cases h2 : k = t
      · subst h2; simp [h1]
      · simp [h2]
theorem TmOk.put {ρ' : Nat → Value} {H' : IH} {nx' d : Nat} {sv : SV} {v : Value} (hT : TmOk ρ H tm nx a.tmps) (hr : REq nx ρ ρ') (hh : HLe H H') (hn : nx ≤ nx') (hd : d < a.tmps.size) (h1 : DenSV ρ' H' sv v) (h2 : sv.lt nx') :
    TmOk ρ' H' ((d, sv) :: tm) nx' (a.put (some d) v).tmps := by
  intro t x hx
  rw [lookT_cons] at hx
  rw [put_size, put_getD hd]
  split at hx
  · rename_i e; subst e; cases hx; simp only [if_true]; exact ⟨hd, h2, h1⟩
  · rename_i e
    obtain ⟨k1, k2, k3⟩ := hT t x hx
    rw [if_neg (fun h => e h.symm)]
    exact ⟨k1, k2.mono hn, k3.mono hr hh k2⟩
theorem TmOk.mono {ρ' : Nat → Value} {H' : IH} {nx' : Nat} {tmps : Array Value} (hT : TmOk ρ H tm nx tmps) (hr : REq nx ρ ρ') (hh : HLe H H') (hn : nx ≤ nx') : TmOk ρ' H' tm nx' tmps :=
  fun t x hx => let ⟨k1, k2, k3⟩ := hT t x hx; ⟨k1, k2.mono hn, k3.mono hr hh k2⟩
theorem TmOk.del {d : Nat} {v : Value} (hT : TmOk ρ H tm nx a.tmps) (hd : d < a.tmps.size) : TmOk ρ H (delT d tm) nx (a.put (some d) v).tmps := by
  intro t x hx
  rw [lookT_delT] at hx
  split at hx
  · cases hx
  · rename_i e
    rw [put_size, put_getD hd, if_neg e]
    exact hT t x hx
theorem GvOk.mono {ρ' : Nat → Value} {H' : IH} {nx' : Nat} {tmps : Array Value} {x : GV} (h : GvOk ρ H nx tmps x) (hr : REq nx ρ ρ') (hh : HLe H H') (hn : nx ≤ nx') : GvOk ρ' H' nx' tmps x := by
  obtain ⟨k1, k3⟩ := h
  refine ⟨k1, ?_⟩
  rcases k3 with ⟨k3, k2, k4⟩ | k3
  · exact .inl ⟨k3, k2.mono hn, k4.mono hr hh k2⟩
  · exact .inr k3
theorem GvOk.put {x : GV} {d : Nat} {v : Value} (h : GvOk ρ H nx a.tmps x) (h1 : x.d ≠ d) (h2 : x.g ≠ d) (hd : d < a.tmps.size) : GvOk ρ H nx (a.put (some d) v).tmps x := by
  obtain ⟨k1, k3⟩ := h
  refine ⟨by rw [put_size]; exact k1, ?_⟩
  rw [put_getD hd, put_getD hd, if_neg h1, if_neg h2]
  exact k3
theorem gsFree_spec {d : Nat} (h : gsFree gs d = true) : ∀ x ∈ gs, x.d ≠ d ∧ x.g ≠ d := by
  intro x hx
  simp only [gsFree, List.all_eq_true, Bool.and_eq_true, bne_iff_ne] at h
  exact h x hx
theorem getD_bool {tmps : Array Value} {g : Nat} {b : Bool} : tmps.getD g undef = .bool b ↔ tmps[g]? = some (.bool b) := by
  rw [Array.getD_eq_getD_getElem?]
  cases h : tmps[g]? with
  | none => simp [undef]
  | some v => simp
theorem wanted_iff {ops : Array Oper} {j g : Nat} {want : Bool} (hg : o.guard = some (j, want)) (hj : (ops[j]?).bind (·.dst) = some g) : Region.wanted o (yielded ops a.tmps) = true ↔ a.tmps.getD g undef = .bool want := by
  rw [getD_bool]
  simp only [Region.wanted, hg, yielded, hj, Option.bind_some, beq_iff_eq]
  constructor
  · intro h
    split at h
    · rename_i b hb; cases h; exact hb
    · cases h
  · intro h; rw [h]
def AfterOk (E : Env) (w0 : Base) (B : Nat) (ρ : Nat → Value) (H : IH) (nx : Nat) (ds : List Deferred) (k : Cont) (v : Value) (w' : World) : Prop :=
  ∃ sv ob' nx' lr' ρ' H' b', k sv ob' nx' lr' ∧ Inv b' B ρ' H' ob' nx' w' ∧ GlB E w0 b' B ρ' H' nx' lr' ds ∧ HLe H H' ∧ REq nx ρ ρ' ∧ nx ≤ nx' ∧ DenSV ρ' H' sv v ∧ sv.lt nx'
def YSem (E : Env) (B id g : Nat) (r : Loop) (ρ0 : Nat → Value) (H0 : IH) (nx0 : Nat) (lt0 : Nat → Option (Nat × Loop)) (y : YF) : Prop :=
  ∀ (vs : List V) (ob : List (Nat × Option AObj)) (nx : Nat) (lr : LR) (k : Cont), y vs ob nx lr k → ∀ (w0 b : Base) (ρ : Nat → Value) (H : IH) (ds : List Deferred) (us : List Value) (w : World), Inv b B ρ H ob nx w → GlB E w0 b B ρ H nx lr ds →
    w0.lt id = some (g, r) → (∀ i x, lt0 i = some x → w0.lt i = some x) → HLe H0 H → REq nx0 ρ0 ρ → nx0 ≤ nx → DenVs ρ H vs us → (∀ v ∈ vs, v.lt nx) →
    ∃ r', w.heap[g]? = some (.loop r') ∧ us.length = r'.params.size ∧
      RoundIn (Fw none) 0 E.P g r'.fn ((r'.params.zip us.toArray).foldl (fun tmps (t, a) => tmps.setIfInBounds t a) r'.tmps) r'.assign r'.body w fun e w' => ∃ v, e = .returned v ∧ AfterOk E w0 B ρ H nx ds k v w'
def YtOk (E : Env) (w0 : Base) (B : Nat) (yt : YT) : Prop :=
  ∀ id y, yt id = some y → id < w0.fl ∧ ∃ g r, w0.lt id = some (g, r) ∧ w0.ρ id = .func (.yield g) #[] #[] ∧ YSem E B id g r w0.ρ w0.H0 w0.fl w0.lt y
def InlOk (E : Env) (inl : Inl) : Prop :=
  ∀ (f : FuncId) (vs : List V) (yt : YT) (ob : List (Nat × Option AObj)) (nx : Nat) (lr : LR) (k : Cont), inl f vs yt ob nx lr k →
    ∀ (w0 b : Base) (B : Nat) (ρ : Nat → Value) (H : IH) (ds : List Deferred) (us : List Value) (w : World), Inv b B ρ H ob nx w → GlB E w0 b B ρ H nx lr ds → YtOk E w0 B yt → DenVs ρ H vs us → (∀ v ∈ vs, v.lt nx) →
      Calls E.P f ⟨us⟩ w fun e w' => ∃ v, e = .returned v ∧ AfterOk E w0 B ρ H nx ds k v w'
theorem DenVs.append : ∀ {xs ys : List V} {us vs : List Value}, DenVs ρ H xs us → DenVs ρ H ys vs → DenVs ρ H (xs ++ ys) (us ++ vs)
  | [], ys, us, vs, h, k => by rw [show us = [] from h]; exact k
  | x :: xs, ys, us, vs, h, k => by
    obtain ⟨u, us', rfl, h1, h2⟩ := h
    exact ⟨u, us' ++ vs, rfl, h1, DenVs.append h2 k⟩
theorem ptrVs_den : ∀ {ps : List (Nat × Nat)} {us : List Value}, ptrsOf ρ ps us → DenVs ρ H (ptrVs ps) us
  | [], us, h => h
  | p :: ps, us, h => by
    obtain ⟨u, us', rfl, h1, h2⟩ := h
    exact ⟨u, us', rfl, h1, ptrVs_den h2⟩
theorem ptrVs_lt {ps : List (Nat × Nat)} (h : ∀ p ∈ ps, p.1 < nx) : ∀ v ∈ ptrVs ps, v.lt nx := by
  intro v hv
  obtain ⟨p, hp, rfl⟩ := List.mem_map.1 hv
  exact h p hp
theorem callOf_spec {ev : Operand → Option SV} {op : Op} {c : C} {vs : List V} (h : callOf ev op = some (c, vs)) : ∃ x args ts, op = .call ⟨.value x, args, ts⟩ ∧ (ev x).bind one? = some c ∧ evs ev args.toList = some vs := by
  unfold callOf at h
  split at h
  · rename_i x args ts
    split at h
    · rename_i c' vs' h1 h2
      cases h
      exact ⟨x, args, ts, rfl, h1, h2⟩
    · cases h
  · cases h
theorem sub_sound {inl : Inl} {yt : YT} {b : Base} {ds : List Deferred} {lr : LR} {rd : Option Nat} {m : Nat} {ev : Operand → Option SV} {x : C × List V} {q : Cont → Prop} {k : Cont} {next : Act → World → Prop} {Q : Exit → Act → World → Prop}
    (hE : EnvOk E) (hI : InlOk E inl) (hY : YtOk E w0 B yt) (I : Inv b B ρ H ob nx w) (G : GlB E w0 b B ρ H nx lr ds) (hv : EvOk ρ H nx ev a) (hc : callOf ev o.op = some x) (hs : subOf E inl yt ob nx lr x = some q) (h : q k)
    (hn : ∀ v w', AfterOk E w0 B ρ H nx ds k v w' → next (a.put o.dst v) w') : o.wpIn (Fw rd) m E.P a w next Q := by
  obtain ⟨c, vs⟩ := x
  obtain ⟨x, args, ts, ho, hx, hvs⟩ := callOf_spec hc
  obtain ⟨k1, k2⟩ := hv.one hx
  obtain ⟨m1, m2⟩ := evs_ok hv hvs
  refine ⟨fun _ _ => trivial, ?_⟩
  rw [Oper.semAt_eq _ _ _ (by rw [ho]; simp)]
  unfold subOf at hs
  split at hs
  · rename_i f p r vs' hcv
    cases hcv
    split at hs
    · rename_i fn hfn
      cases hs
      obtain ⟨hf, hnm, hbd⟩ := hE.fb f fn hfn
      obtain ⟨us, vs1, l1, l2, l3⟩ := k1
      have hcall := hI _ _ _ _ _ _ _ h w0 b B ρ H ds (us ++ args.toList.map a.eval ++ vs1) w I G hY (((ptrVs_den l2).append m1).append (ptrVs_den l3)) (by
        intro v hv
        rcases List.mem_append.1 hv with hv | hv
        · rcases List.mem_append.1 hv with hv | hv
          · exact ptrVs_lt k2.1 v hv
          · exact m2 v hv
        · exact ptrVs_lt k2.2 v hv)
      obtain ⟨_, hb, _⟩ := hbd
      have hn' : ¬ fn.name = "runtime.NumGoroutine" := by simpa using hnm
      have hargs : ((⟨us⟩ : Array Value) ++ args.map a.eval ++ (⟨vs1⟩ : Array Value)) = ⟨us ++ args.toList.map a.eval ++ vs1⟩ := by apply Array.ext'; simp
      have hrun : (execOp a.eval o).run E.P w = .ok (.enter f ⟨us ++ args.toList.map a.eval ++ vs1⟩) w := by
        rw [← hargs]
        simp [execOp, ho, resolve, l1, Deferred.ofValue, invoke, callFunc, hf, hb, hn']
      rw [hrun]
      refine ⟨fun h => by simp [Fw, Fence.wide] at h, callsIn_Fw (hcall.mono fun e w' he => ?_)⟩
      obtain ⟨v, rfl, hv⟩ := he
      exact hn _ _ hv
    · cases hs
  · rename_i id vs' hcv
    cases hcv
    split at hs
    · rename_i y hy
      cases hs
      obtain ⟨y1, g, r, y2, y3, y4⟩ := hY id y hy
      have hval : a.eval x = .func (.yield g) #[] #[] := by rw [← y3, ← G.re id y1]; exact k1
      obtain ⟨r', z1, z2, z3⟩ := y4 _ _ _ _ _ h w0 b ρ H ds _ w I G y2 (fun _ _ h => h) G.hle G.re G.fl m1 m2
      have hsz : (args.map a.eval).size = r'.params.size := by simpa using z2
      have hz := run_yield (P := E.P) z1 hsz
      have e1 : (args.toList.map a.eval).toArray = args.map a.eval := by apply Array.ext'; simp
      rw [e1] at z3
      have hrun : (execOp a.eval o).run E.P w = .ok (.round g r'.fn ((r'.params.zip (args.map a.eval)).foldl (fun tmps (t, a) => tmps.setIfInBounds t a) r'.tmps) r'.assign r'.body) w := by
        simp [execOp, ho, resolve, hval, Deferred.ofValue, invoke, hz]
      rw [hrun]
      refine ⟨fun h => by simp [Fw, Fence.wide] at h, ?_⟩
      refine ⟨trivial, fun c cs hr => ?_⟩
      obtain ⟨e, w', he, hs⟩ := z3.2 c cs (by intro _ h; simp [Fw, Fence.wide] at h)
      obtain ⟨v, rfl, hv⟩ := he
      exact ⟨.returned v, w', hn _ _ hv, hs⟩
    · cases hs
  · cases hs
theorem nil_sound (hE : EnvOk E) {b : Base} (I : Inv b B ρ H ob nx w) {ev : Operand → Option SV} (hv : EvOk ρ H nx ev a) {neg : Bool} {k : Nat} (h : nilOf E (lookO ob) ev o.op = some (neg, k)) :
    ∃ q : Bool, (q = true → k = 0) ∧ (execOp a.eval o).run E.P w = .ok (.value (.bool (q != neg))) w ∧ ∀ c, o.op ≠ .defer c := by
  unfold nilOf at h
  split at h
  · rename_i op T x T' hop
    split at h
    · rename_i e _ _ c hT hx
      have hu := (hE.tt T _ hT).slc e rfl
      obtain ⟨k1, _⟩ := hv.one hx
      have hcst : a.eval (.const (.slice none 0 0)) = .slice none 0 0 := rfl
      have hnd : ∀ c, o.op ≠ .defer c := by rw [hop]; simp
      have hg : ∀ op (u : Value), (∃ aa n c, u = .slice aa n c) → (eqGuard op T x (.const (.slice none 0 0)) u (.slice none 0 0)).run E.P w = .ok () w := by
        rintro op u ⟨aa, n, c, rfl⟩
        cases op <;> simp [eqGuard]
      split at h
      · cases h
      · obtain ⟨n, h1, h2⟩ := Option.map_eq_some_iff.1 h
        cases h2
        obtain ⟨aa, cap, q1, q2⟩ := lenOf_nil I h1 k1
        refine ⟨aa.isNone, fun hh => q2 (by simpa using hh), ?_, hnd⟩
        rw [run_bin hop q1 hcst (hg _ _ ⟨_, _, _, rfl⟩) (Lib.run_eql_slice_nil w T e aa _ cap 0 0 hu)]
        simp
      · obtain ⟨n, h1, h2⟩ := Option.map_eq_some_iff.1 h
        cases h2
        obtain ⟨aa, cap, q1, q2⟩ := lenOf_nil I h1 k1
        refine ⟨aa.isNone, fun hh => q2 (by simpa using hh), ?_, hnd⟩
        rw [run_bin hop q1 hcst (hg _ _ ⟨_, _, _, rfl⟩) (run_neq_slice_nil_any w T e aa _ cap 0 0 hu)]
        cases aa.isNone <;> rfl
      · cases h
    · cases h
  · cases h
theorem decode_known (l : List UInt8) (pos : Nat) (h : pos < l.length) : runeOk l pos (Utf8.decode ⟨⟨l⟩⟩ pos).1 (Utf8.decode ⟨⟨l⟩⟩ pos).2 := by
  have hg : ((⟨⟨l⟩⟩ : ByteArray).get! (pos + 0)).toNat = (l.getD pos 0).toNat := by
    simp only [Nat.add_zero, ByteArray.get!, getD_get h]
    simp [h]
  refine ⟨h, fun h1 => ?_, fun h1 => ?_⟩
  · unfold Utf8.decode
    simp only [hg]
    rw [if_pos h1]
    exact ⟨rfl, rfl⟩
  · unfold Utf8.decode
    simp only [hg]
    rw [if_neg (by omega)]
    split
    · split
      · rename_i h2; exact ⟨h2, by simp⟩
      · exact ⟨by decide, by decide⟩
    · split
      · split
        · rename_i h2
          simp only [ge_iff_le, Bool.and_eq_true, decide_eq_true_eq] at h2
          exact ⟨by simp only []; omega, by simp⟩
        · exact ⟨by decide, by decide⟩
      · split
        · split
          · rename_i h2
            simp only [ge_iff_le, Bool.and_eq_true, decide_eq_true_eq] at h2
            exact ⟨by simp only []; omega, by simp⟩
          · exact ⟨by decide, by decide⟩
        · exact ⟨by decide, by decide⟩
theorem next_sound {b : Base} (I : Inv b B ρ H ob nx w) {ev : Operand → Option SV} (hv : EvOk ρ H nx ev a) {id pos : Nat} {l : List UInt8} (h : nextOf (lookO ob) ev o.op = some (id, l, pos)) :
    (∀ c, o.op ≠ .defer c) ∧ ((l.length ≤ pos ∧ (execOp a.eval o).run E.P w = .ok (.value (.tuple #[.bool false])) w) ∨
    ∃ c k w', runeOk l pos c k ∧ (execOp a.eval o).run E.P w = .ok (.value (.tuple #[.bool true, .int .i64 pos, .int .i32 c])) w' ∧ Inv b B ρ H ((id, some (.sit l (pos + k))) :: ob) nx w') := by
  unfold nextOf at h
  split at h
  · rename_i _ T hop
    split at h
    · rename_i id' hx
      split at h
      · rename_i l' pos' ho
        cases h
        obtain ⟨k1, _⟩ := hv.one hx
        obtain ⟨_, _, g, d1, d2, d3, d4⟩ := I.objs _ _ ho
        obtain ⟨g', e1, e2⟩ := k1
        rw [d1] at e1
        cases e1
        refine ⟨by rw [hop]; simp, ?_⟩
        by_cases hp : pos < l.length
        · refine .inr ⟨_, _, w.iterAt g ⟨⟨l⟩⟩ (pos + (Utf8.decode ⟨⟨l⟩⟩ pos).2), decode_known l pos hp, ?_, ?_⟩
          · have := Lib.run_next_any_at (P := E.P) w g ⟨⟨l⟩⟩ pos o.type d4 hp
            simp [execOp, hop, e2, this]
          · refine I.putW ho (g := g) (.inl (by rw [d1])) (Lib.below_iterAt (Below.refl _ _) d2 _ _) (fun i hi => Lib.iterAt_other _ _ _ _ _ hi) trivial ⟨g, d1, d2, d3, Lib.iterAt_heap _ _ _ _ _ d4⟩
        · refine .inl ⟨by omega, ?_⟩
          have := Lib.run_next_end_at (P := E.P) w g ⟨⟨l⟩⟩ pos o.type d4 hp
          simp [execOp, hop, e2, this]
      · cases h
    · cases h
  · cases h
theorem nhyps_ok {tmps : Array Value} {nx : Nat} (hT : TmOk ρ H tm nx tmps) {g : Nat} {w : Bool} {p : Prop} (hg : tmps.getD g undef ≠ .bool w) (h : nhyps tm gs g w p) : p := by
  unfold nhyps at h
  split at h
  · exact h
  · split at h
    · rename_i e he
      refine h ?_
      have := (hT _ _ he).2.2
      rw [show tmps.getD g undef = .bool e from this] at hg
      cases e <;> cases w <;> simp_all
    · exact h
theorem seq_step {rd : Option Nat} {m : Nat} {inl : Inl} {yt : YT} (hE : EnvOk E) (hI : InlOk E inl) (hY : YtOk E w0 B yt) {ops : Array Oper} {i : Nat} {l : List Oper} {s : St} {k : St → Prop} {K : Act → World → Prop} {Q : Exit → Act → World → Prop} (hi : ops[i]? = some o) (hd : ∀ d, o.dst = some d → d < n)
    (h : runSeq E inl yt ops (o :: l) s gs k) (hs : Sat E w0 B n s gs a w) (hK : ∀ s' gs' a' w', runSeq E inl yt ops l s' gs' k → Sat E w0 B n s' gs' a' w' → K a' w') : wpOpIn (Fw rd) m E.P ops Q i K a w := by
  obtain ⟨ρ, H, b, ds, I, G, hT, hG, hdf, hsz⟩ := hs
  unfold wpOpIn
  simp only [hi]
  simp only [runSeq] at h
  split at h
  · rename_i hg
    have hw : Region.wanted o (yielded ops a.tmps) = true := by simp [Region.wanted, hg]
    rw [if_pos hw]
    split at h
    · rename_i q hq
      obtain ⟨x, hq1, hq2⟩ := Option.bind_eq_some_iff.1 hq
      refine sub_sound hE hI hY I G (evG_ok G.gl hT hG (ctx := []) (by simp)) hq1 hq2 h ?_
      rintro v w' ⟨sv, ob', nx', lr', ρ', H', b', hk, I', G', hle, hre, hn, d1, d2⟩
      split at hk
      · rename_i d hdst
        split at hk
        · rename_i hfree
          rw [frcSV_eq] at hk
          have hdlt : d < a.tmps.size := by rw [hsz]; exact hd d hdst
          rw [hdst]
          refine hK _ _ _ _ hk ⟨ρ', H', b', ds, I', G', hT.put hre hle hn hdlt d1 d2, ?_, by rw [put_defers]; exact hdf, by rw [put_size]; exact hsz⟩
          intro x hx
          obtain ⟨f1, f2⟩ := gsFree_spec hfree x hx
          exact ((hG x hx).put f1 f2 hdlt).mono hre hle hn
        · exact hk.elim
      · rename_i hdst
        rw [hdst]
        exact hK _ _ _ _ hk ⟨ρ', H', b', ds, I', G', hT.mono hre hle hn, fun x hx => (hG x hx).mono hre hle hn, hdf, hsz⟩
    · split at h
      · rename_i neg k d hnil hdst
        split at h
        · rename_i hfree
          obtain ⟨q, q1, q2, q3⟩ := nil_sound hE I (evG_ok G.gl hT hG (ctx := []) (by simp)) hnil
          have hdlt : d < a.tmps.size := by rw [hsz]; exact hd d hdst
          refine ⟨fun _ _ => trivial, ?_⟩
          rw [Oper.semAt_eq _ _ _ q3, q2]
          show K (a.put o.dst _) w
          rw [hdst]
          refine hK _ _ _ _ (h q q1) ⟨ρ, H, b, ds, I, G, hT.put (REq.refl _ _) (HLe.refl _) (Nat.le_refl _) hdlt rfl trivial, ?_, by rw [put_defers]; exact hdf, by rw [put_size]; exact hsz⟩
          intro x hx
          obtain ⟨f1, f2⟩ := gsFree_spec hfree x hx
          exact (hG x hx).put f1 f2 hdlt
        · exact h.elim
      split at h
      · rename_i id l pos d hnx hdst
        split at h
        · rename_i hfree
          have hdlt : d < a.tmps.size := by rw [hsz]; exact hd d hdst
          obtain ⟨q3, hq⟩ := next_sound (E := E) I (evG_ok G.gl hT hG (ctx := []) (by simp)) hnx
          refine ⟨fun _ _ => trivial, ?_⟩
          rcases hq with ⟨q1, q2⟩ | ⟨c, k, w', q1, q2, I'⟩
          · rw [Oper.semAt_eq _ _ _ q3, q2]
            show K (a.put o.dst _) w
            rw [hdst]
            refine hK _ _ _ _ (h.1 q1) ⟨ρ, H, b, ds, I, G, hT.put (REq.refl _ _) (HLe.refl _) (Nat.le_refl _) hdlt ⟨[.bool false], rfl, _, _, rfl, rfl, rfl⟩ (by simp [SV.lt, V.lt, C.lt]), ?_, by rw [put_defers]; exact hdf, by rw [put_size]; exact hsz⟩
            intro x hx
            obtain ⟨f1, f2⟩ := gsFree_spec hfree x hx
            exact (hG x hx).put f1 f2 hdlt
          · rw [Oper.semAt_eq _ _ _ q3, q2]
            show K (a.put o.dst _) w'
            rw [hdst]
            refine hK _ _ _ _ (h.2 c k q1) ⟨ρ, H, b, ds, I', G, hT.put (REq.refl _ _) (HLe.refl _) (Nat.le_refl _) hdlt ⟨[.bool true, .int .i64 pos, .int .i32 c], rfl, _, _, rfl, rfl, _, _, rfl, rfl, _, _, rfl, rfl, rfl⟩ (by simp [SV.lt, V.lt, C.lt]), ?_, by rw [put_defers]; exact hdf, by rw [put_size]; exact hsz⟩
            intro x hx
            obtain ⟨f1, f2⟩ := gsFree_spec hfree x hx
            exact (hG x hx).put f1 f2 hdlt
        · exact h.elim
      split at h
      · rename_i res hres
        rw [conj_iff] at h
        obtain ⟨hc, h⟩ := h
        obtain ⟨hok, hnd⟩ := stepG_sound hE I G.gl hT hG (ctx := []) (by simp) hres hc
        refine hok.wpIn hnd ?_
        intro v w' hp
        obtain ⟨ρ', H', I', hle, hre, hden⟩ := hp
        split at h
        · rename_i d sv hdst hrv
          split at h
          · rename_i hfree
            rw [frcSV_eq, frcUp_eq] at h
            obtain ⟨d1, d2⟩ := hden sv hrv
            have hdlt : d < a.tmps.size := by rw [hsz]; exact hd d hdst
            rw [hdst]
            refine hK _ _ _ _ h ⟨ρ', H', b, ds, I', G.mono hle hre (Nat.le_add_right _ _), hT.put hre hle (Nat.le_add_right _ _) hdlt d1 d2, ?_, by rw [put_defers]; exact hdf, by rw [put_size]; exact hsz⟩
            intro x hx
            obtain ⟨f1, f2⟩ := gsFree_spec hfree x hx
            exact ((hG x hx).put f1 f2 hdlt).mono hre hle (Nat.le_add_right _ _)
          · exact h.elim
        · rename_i hdst
          rw [frcUp_eq] at h
          rw [hdst]
          exact hK _ _ _ _ h ⟨ρ', H', b, ds, I', G.mono hle hre (Nat.le_add_right _ _), hT.mono hre hle (Nat.le_add_right _ _), fun x hx => (hG x hx).mono hre hle (Nat.le_add_right _ _), hdf, hsz⟩
        · exact h.elim
      · exact h.elim
  · rename_i j want hg
    split at h
    · rename_i g d hgd hdst
      have hdlt : d < a.tmps.size := by rw [hsz]; exact hd d hdst
      have hiff := wanted_iff (a := a) (ops := ops) hg hgd
      split at h
      · rename_i q hq
        obtain ⟨x, hq1, hq2⟩ := Option.bind_eq_some_iff.1 hq
        split at h
        · rename_i hfree
          simp only [Bool.and_eq_true, bne_iff_ne] at hfree
          obtain ⟨h1, h2⟩ := h
          by_cases hw : Region.wanted o (yielded ops a.tmps) = true
          · rw [if_pos hw]
            have hgv := hiff.1 hw
            have h1' := hyps_ok hT hG 8 g want _ hgv h1
            refine sub_sound hE hI hY I G (evG_ok G.gl hT hG (ctx := [(g, want)]) (by simpa using hgv)) hq1 hq2 h1' ?_
            rintro v w' ⟨sv, ob', nx', lr', ρ', H', b', hk, I', G', hle, hre, hn, d1, d2⟩
            rw [frcSV_eq] at hk
            rw [hdst]
            refine hK _ _ _ _ hk ⟨ρ', H', b', ds, I', G', (hT.del hdlt).mono hre hle hn, ?_, by rw [put_defers]; exact hdf, by rw [put_size]; exact hsz⟩
            intro x hx
            rcases List.mem_cons.1 hx with rfl | hx
            · refine ⟨by rw [put_size]; exact hdlt, .inl ⟨?_, d2, ?_⟩⟩
              · rw [put_getD hdlt, if_neg (fun e => hfree.2 e.symm)]; exact hgv
              · rw [put_getD hdlt, if_pos rfl]; exact d1
            · obtain ⟨f1, f2⟩ := gsFree_spec hfree.1 x hx
              exact ((hG x hx).put f1 f2 hdlt).mono hre hle hn
          · rw [if_neg hw]
            have hgv : a.tmps.getD g undef ≠ .bool want := fun e => hw (hiff.2 e)
            have h2' := nhyps_ok hT hgv h2
            refine ⟨fun _ _ => trivial, ?_⟩
            rw [hdst]
            refine hK _ _ _ _ h2' ⟨ρ, H, b, ds, I, G, hT.del hdlt, ?_, by rw [put_defers]; exact hdf, by rw [put_size]; exact hsz⟩
            intro x hx
            rcases List.mem_cons.1 hx with rfl | hx
            · refine ⟨by rw [put_size]; exact hdlt, .inr ⟨?_, ?_⟩⟩
              · rw [put_getD hdlt, if_neg (fun e => hfree.2 e.symm)]; exact hgv
              · rw [put_getD hdlt, if_pos rfl]
            · obtain ⟨f1, f2⟩ := gsFree_spec hfree.1 x hx
              exact (hG x hx).put f1 f2 hdlt
        · exact h.elim
      · split at h
        · rename_i res hres
          split at h
          · rename_i sv hrv
            split at h
            · rename_i hfree
              simp only [Bool.and_eq_true, bne_iff_ne] at hfree
              rw [conj_iff, frcSV_eq] at h
              obtain ⟨hc, h⟩ := h
              obtain ⟨res0, hres0, hstill⟩ := Option.bind_eq_some_iff.1 hres
              by_cases hw : Region.wanted o (yielded ops a.tmps) = true
              · rw [if_pos hw]
                have hgv := hiff.1 hw
                have hc0 : ∀ q ∈ res0.cs, q := by
                  intro q hq
                  rw [← (still_cs hstill).1] at hq
                  exact hyps_ok hT hG 8 g want q hgv (hc _ (List.mem_map.2 ⟨q, hq, rfl⟩))
                obtain ⟨hok, hnd⟩ := stepG_sound hE I G.gl hT hG (ctx := [(g, want)]) (by simpa using hgv) hres0 hc0
                refine hok.wpIn hnd ?_
                intro v w' hp
                obtain ⟨hp', _, hup⟩ := still_ok (fun id p h => (I.objs id p h).1) hstill hp
                obtain ⟨ρ', H', I', hle, hre, hden⟩ := hp'
                rw [hup] at I'
                obtain ⟨d1, d2⟩ := hden sv hrv
                rw [hdst]
                refine hK _ _ _ _ h ⟨ρ', H', b, ds, I', G.mono hle hre (Nat.le_add_right _ _), (hT.del hdlt).mono hre hle (Nat.le_add_right _ _), ?_, by rw [put_defers]; exact hdf, by rw [put_size]; exact hsz⟩
                intro x hx
                rcases List.mem_cons.1 hx with rfl | hx
                · refine ⟨by rw [put_size]; exact hdlt, .inl ⟨?_, d2, ?_⟩⟩
                  · rw [put_getD hdlt, if_neg (fun e => hfree.2 e.symm)]; exact hgv
                  · rw [put_getD hdlt, if_pos rfl]; exact d1
                · obtain ⟨f1, f2⟩ := gsFree_spec hfree.1 x hx
                  exact ((hG x hx).put f1 f2 hdlt).mono hre hle (Nat.le_add_right _ _)
              · rw [if_neg hw]
                have hgv : a.tmps.getD g undef ≠ .bool want := fun e => hw (hiff.2 e)
                refine ⟨fun _ _ => trivial, ?_⟩
                rw [hdst]
                refine hK _ _ _ _ h ⟨ρ, H, b, ds, I.more (Nat.le_add_right _ _), G.mono (HLe.refl _) (REq.refl _ _) (Nat.le_add_right _ _), (hT.del hdlt).mono (REq.refl _ _) (HLe.refl _) (Nat.le_add_right _ _), ?_, by rw [put_defers]; exact hdf, by rw [put_size]; exact hsz⟩
                intro x hx
                rcases List.mem_cons.1 hx with rfl | hx
                · refine ⟨by rw [put_size]; exact hdlt, .inr ⟨?_, ?_⟩⟩
                  · rw [put_getD hdlt, if_neg (fun e => hfree.2 e.symm)]; exact hgv
                  · rw [put_getD hdlt, if_pos rfl]
                · obtain ⟨f1, f2⟩ := gsFree_spec hfree.1 x hx
                  exact ((hG x hx).put f1 f2 hdlt).mono (REq.refl _ _) (HLe.refl _) (Nat.le_add_right _ _)
            · exact h.elim
          · exact h.elim
        · exact h.elim
    · exact h.elim
end
end Go.Sx

/- The engine's runs are right: regions. -/
namespace Go.Sx
open Go.RowKit
section
variable {E : Env} {w0 : Base} {B n : Nat} {ρ : Nat → Value} {H : IH} {ob : List (Nat × Option AObj)} {nx : Nat} {w : World} {tm : List (Nat × SV)} {gs : List GV} {a : Act} {o : Oper} {r : Res}
variable {ops : Array Oper} {Q : Exit → Act → World → Prop} {rd : Option Nat} {m : Nat}
theorem Sat.less {s : St} (h : Sat E w0 B n s gs a w) : Sat E w0 B n s [] a w := by
  obtain ⟨ρ, H, b, ds, h1, h2, h3, _, h5⟩ := h
  exact ⟨ρ, H, b, ds, h1, h2, h3, by simp, h5⟩
theorem seq_sound {inl : Inl} {yt : YT} (hE : EnvOk E) (hI : InlOk E inl) (hY : YtOk E w0 B yt) (hd : ∀ o ∈ ops.toList, ∀ d, o.dst = some d → d < n) {k : St → Prop} (hk : ∀ s' a' w', k s' → Sat E w0 B n s' [] a' w' → Q .normal a' w') :
    ∀ (l : List Oper) (idxs : List Nat) (s : St) (gs : List GV) (a : Act) (w : World), idxs.map (ops[·]?) = l.map some → runSeq E inl yt ops l s gs k → Sat E w0 B n s gs a w → wpOpsIn (Fw rd) m E.P ops Q idxs a w
  | [], idxs, s, gs, a, w, hi, h, hs => by
    have : idxs = [] := by simpa using hi
    subst this
    exact hk s a w h hs.less
  | o :: l, idxs, s, gs, a, w, hi, h, hs => by
    cases idxs with
    | nil => simp at hi
    | cons i idxs =>
      simp only [List.map_cons, List.cons.injEq] at hi
      rw [wpOpsIn_cons]
      have hmem : o ∈ ops.toList := by
        have := (Array.getElem?_eq_some_iff.1 hi.1)
        obtain ⟨h1, h2⟩ := this
        rw [← h2]; simp
      exact seq_step hE hI hY hi.1 (hd o hmem) h hs (fun s' gs' a' w' h' hs' => seq_sound hE hI hY hd hk l idxs s' gs' a' w' hi.2 h' hs')
theorem recTm_same {α β : Nat → Bool} {t : Nat} : ∀ {rs : List Rec}, (∀ x ∈ rs, x.d = some t → α x.i = β x.i) → lookT (recTm α rs tm) t = lookT (recTm β rs tm) t
  | [], _ => rfl
  | ⟨i, none, g, v, u⟩ :: r, h => by
    simp only [recTm]
    exact recTm_same fun x hx => h x (by simp [hx])
  | ⟨i, some d, none, v, u⟩ :: r, h => by
    have ih := recTm_same (α := α) (β := β) (t := t) (rs := r) fun x hx => h x (by simp [hx])
    simp only [recTm]
    by_cases e : d = t
    · subst e
      have hh := h ⟨i, some d, none, v, u⟩ (by simp) rfl
      simp only [] at hh
      rw [hh]
      cases β i <;> simp [lookT_cons, ih]
    · have : ∀ b : Bool, lookT (bif b then (d, v) :: recTm α r tm else recTm α r tm) t = lookT (recTm α r tm) t := by
        intro b; cases b <;> simp [lookT_cons, e]
      rw [this, ih]
      have : ∀ b : Bool, lookT (bif b then (d, v) :: recTm β r tm else recTm β r tm) t = lookT (recTm β r tm) t := by
        intro b; cases b <;> simp [lookT_cons, e]
      rw [this]
  | ⟨i, some d, some g, v, u⟩ :: r, h => by
    have ih := recTm_same (α := α) (β := β) (t := t) (rs := r) fun x hx => h x (by simp [hx])
    simp only [recTm]
    by_cases e : d = t
    · subst e
      have hh := h ⟨i, some d, some g, v, u⟩ (by simp) rfl
      simp only [] at hh
      rw [hh]
      cases β i <;> simp [lookT_delT, ih]
    · have : ∀ b : Bool, lookT (bif b then delT d (recTm α r tm) else recTm α r tm) t = lookT (recTm α r tm) t := by
        intro b; cases b <;> simp [lookT_delT, Ne.symm e]
      rw [this, ih]
      have : ∀ b : Bool, lookT (bif b then delT d (recTm β r tm) else recTm β r tm) t = lookT (recTm β r tm) t := by
        intro b; cases b <;> simp [lookT_delT, Ne.symm e]
      rw [this]
theorem recTm_only {α : Nat → Bool} {d : Nat} {y : Rec} (hy : α y.i = true) (hyd : y.d = some d) : ∀ {rs : List Rec}, y ∈ rs → (∀ x ∈ rs, x.d = some d → x = y) → lookT (recTm α rs tm) d = (match y.g with | none => some y.v | some _ => none)
  | [], h, _ => by simp at h
  | x :: r, h, ho => by
    by_cases e : x = y
    · subst e
      obtain ⟨i, xd, g, v, u⟩ := x
      simp only [] at hy hyd
      subst hyd
      cases g with
      | none => simp [recTm, hy, lookT_cons]
      | some g => simp [recTm, hy, lookT_delT]
    · have hr : y ∈ r := by rcases List.mem_cons.1 h with h | h; exact absurd h.symm e; exact h
      have ih := recTm_only (α := α) hy hyd hr (fun z hz => ho z (by simp [hz]))
      have hxd : x.d ≠ some d := fun h => e (ho x (by simp) h)
      obtain ⟨i, xd, g, v, u⟩ := x
      cases xd with
      | none => simp only [recTm]; exact ih
      | some d' =>
        have hne : d' ≠ d := fun h => hxd (by rw [h])
        cases g with
        | none => simp only [recTm]; cases α i <;> simp [lookT_cons, hne, ih]
        | some g => simp only [recTm]; cases α i <;> simp [lookT_delT, Ne.symm hne, ih]
theorem recGs_mem {α : Nat → Bool} {x : GV} : ∀ {rs : List Rec}, x ∈ recGs α rs ↔ ∃ i u, ⟨i, some x.d, some (x.g, x.w), x.v, u⟩ ∈ rs ∧ α i = true
  | [] => by simp [recGs]
  | ⟨i, none, g, v, u⟩ :: r => by
    simp only [recGs, recGs_mem (rs := r), List.mem_cons, Rec.mk.injEq]
    constructor
    · rintro ⟨j, u', h1, h2⟩; exact ⟨j, u', .inr h1, h2⟩
    · rintro ⟨j, u', h1, h2⟩
      rcases h1 with h1 | h1
      · simp at h1
      · exact ⟨j, u', h1, h2⟩
  | ⟨i, some d, none, v, u⟩ :: r => by
    simp only [recGs, recGs_mem (rs := r), List.mem_cons, Rec.mk.injEq]
    constructor
    · rintro ⟨j, u', h1, h2⟩; exact ⟨j, u', .inr h1, h2⟩
    · rintro ⟨j, u', h1, h2⟩
      rcases h1 with h1 | h1
      · simp at h1
      · exact ⟨j, u', h1, h2⟩
  | ⟨i, some d, some (g, b), v, u⟩ :: r => by
    simp only [recGs]
    constructor
    · intro h
      cases hα : α i with
      | false =>
        rw [hα] at h
        obtain ⟨j, u', h1, h2⟩ := recGs_mem.1 h
        exact ⟨j, u', by simp [h1], h2⟩
      | true =>
        rw [hα] at h
        rcases List.mem_cons.1 h with rfl | h
        · exact ⟨i, u, by simp, hα⟩
        · obtain ⟨j, u', h1, h2⟩ := recGs_mem.1 h
          exact ⟨j, u', by simp [h1], h2⟩
    · rintro ⟨j, u', h1, h2⟩
      rcases List.mem_cons.1 h1 with h1 | h1
      · simp only [Rec.mk.injEq, Option.some.injEq, Prod.mk.injEq] at h1
        obtain ⟨rfl, rfl, ⟨rfl, rfl⟩, rfl, rfl⟩ := h1
        rw [h2]; simp
      · have := recGs_mem.2 ⟨j, u', h1, h2⟩
        cases α i <;> simp [this]
theorem recOb_pre {α : Nat → Bool} {rs : List Rec} : ∀ {pre : List Rec}, (∀ x ∈ pre, α x.i = false) → recOb α (pre ++ rs) = recOb α rs
  | [], _ => rfl
  | x :: r, h => by
    have ih := recOb_pre (α := α) (rs := rs) (pre := r) fun x hx => h x (by simp [hx])
    simp [recOb, h x (by simp), ih]
theorem recTm_pre {α : Nat → Bool} {rs : List Rec} : ∀ {pre : List Rec}, (∀ x ∈ pre, α x.i = false) → recTm α (pre ++ rs) tm = recTm α rs tm
  | [], _ => rfl
  | ⟨i, d, g, v, u⟩ :: r, h => by
    have ih := recTm_pre (α := α) (rs := rs) (pre := r) fun x hx => h x (by simp [hx])
    have hi : α i = false := h ⟨i, d, g, v, u⟩ (by simp)
    cases d <;> cases g <;> simp [recTm, hi, ih]
theorem recGs_pre {α : Nat → Bool} {rs : List Rec} : ∀ {pre : List Rec}, (∀ x ∈ pre, α x.i = false) → recGs α (pre ++ rs) = recGs α rs
  | [], _ => rfl
  | ⟨i, d, g, v, u⟩ :: r, h => by
    have ih := recGs_pre (α := α) (rs := rs) (pre := r) fun x hx => h x (by simp [hx])
    have hi : α i = false := h ⟨i, d, g, v, u⟩ (by simp)
    cases d with
    | none => simp [recGs, ih]
    | some d => cases g with
      | none => simp [recGs, ih]
      | some g => obtain ⟨g, b⟩ := g; simp [recGs, hi, ih]
theorem lookT_keepT {l : List Nat} {t : Nat} : lookT (keepT l tm) t = if t ∈ l then lookT tm t else none := by
  induction tm with
  | nil => simp [keepT, lookT]
  | cons x r ih =>
    obtain ⟨k, v⟩ := x
    unfold keepT at ih ⊢
    rw [List.filter_cons]
    by_cases h1 : k ∈ l
    · have : l.contains k = true := by simpa using h1
      simp only [this, if_true, lookT_cons, ih]
      by_cases h2 : k = t
      · subst h2; simp [h1]
      · simp [h2]
    · have : l.contains k = false := by simpa using h1
      simp only [this, Bool.false_eq_true, if_false, ih, lookT_cons]
      by_cases h2 : k = t
      · subst h2; simp [h1]
      · simp [h2]
def HeadOk (E : Env) (ops : Array Oper) (s : St) (hd : List (Nat × Nat)) (rs : List Rec) (r : List (Oper × Nat)) (o : Oper) (i m : Nat) : Prop :=
  m < 2 ^ i ∧
  ((o.guard = none ∧ ∃ res v fl, stepH fl E (keepT (looks ops o) (recTm (Nat.testBit m) rs s.tm)) (recGs (Nat.testBit m) rs) (obAt (hidAt r i) s.nx hd (recOb (Nat.testBit m) rs) s.ob) (s.nx + W * i) o.op = some res ∧ valOr o.dst res.v = some v ∧ (∀ p ∈ res.cs, p) ∧
      recOk hd s.nx i (slotOf s.nx i (keepU res.up)) ((keepU res.up ++ recOb (Nat.testBit m) rs).map (·.1)) v (keepU res.up) = true ∧ (slotOf s.nx i (keepU res.up) = i ∨ Nat.testBit m (slotOf s.nx i (keepU res.up)) = true) ∧ eatOk s.nx i hd res.up = true ∧ ⟨i, o.dst, none, v, keepU res.up⟩ ∈ rs) ∨
   (∃ j b g d res v, o.guard = some (j, b) ∧ (ops[j]?).bind (·.dst) = some g ∧ o.dst = some d ∧ Nat.testBit m j = true ∧
      (stepG E (keepT (looks ops o) (recTm (Nat.testBit m) rs s.tm)) (recGs (Nat.testBit m) rs) (obAt (hidAt r i) s.nx hd (recOb (Nat.testBit m) rs) s.ob) (s.nx + W * i) [(g, b)] o.op).bind (still (s.nx + W * i)) = some res ∧ res.v = some v ∧
      (∀ p ∈ res.cs, hyps (keepT (looks ops o) (recTm (Nat.testBit m) rs s.tm)) (recGs (Nat.testBit m) rs) 8 g b p) ∧ recOk hd s.nx i i ((recOb (Nat.testBit m) rs).map (·.1)) v [] = true ∧ ⟨i, some d, some (g, b), v, []⟩ ∈ rs))
theorem HeadOk.pre {s : St} {hd : List (Nat × Nat)} {pre rs : List Rec} {q : List (Oper × Nat)} {i mk : Nat} (h : HeadOk E ops s hd rs q o i mk) (hp : ∀ x ∈ pre, i ≤ x.i) : HeadOk E ops s hd (pre ++ rs) q o i mk := by
  obtain ⟨h0, h⟩ := h
  have hf : ∀ x ∈ pre, Nat.testBit mk x.i = false := fun x hx => Nat.testBit_lt_two_pow (Nat.lt_of_lt_of_le h0 (Nat.pow_le_pow_right (by omega) (hp x hx)))
  refine ⟨h0, ?_⟩
  rw [recTm_pre hf, recGs_pre hf, recOb_pre hf]
  rcases h with ⟨h1, res, v, fl, h2, h3, h4, h5, h5', h5'', h6⟩ | ⟨j, b, g, d, res, v, h1, h2, h3, h4, h5, h6, h7, h8, h9⟩
  · exact .inl ⟨h1, res, v, fl, h2, h3, h4, h5, h5', h5'', by simp [h6]⟩
  · exact .inr ⟨j, b, g, d, res, v, h1, h2, h3, h4, h5, h6, h7, h8, by simp [h9]⟩
theorem draw_facts {s : St} {hd : List (Nat × Nat)} {k : List Rec → Prop} : ∀ (l : List (Oper × Nat)) (i : Nat) (rs : List Rec), runDraw E ops s hd l i rs k →
    ∃ pre, k (pre ++ rs) ∧ pre.map (·.i) = (List.range' i l.length).reverse ∧ (∀ j o mk, l[j]? = some (o, mk) → HeadOk E ops s hd (pre ++ rs) (l.drop (j + 1)) o (i + j) mk)
  | [], i, rs, h => ⟨[], h, rfl, by simp⟩
  | (o, mk) :: l, i, rs, h => by
    have fin : ∀ x : Rec, x.i = i → HeadOk E ops s hd (x :: rs) l o i mk → runDraw E ops s hd l (i + 1) (x :: rs) k →
        ∃ pre, k (pre ++ rs) ∧ pre.map (·.i) = (List.range' i ((o, mk) :: l).length).reverse ∧ (∀ j o' mk', ((o, mk) :: l)[j]? = some (o', mk') → HeadOk E ops s hd (pre ++ rs) (((o, mk) :: l).drop (j + 1)) o' (i + j) mk') := by
      intro x hxi hx hr
      obtain ⟨pre, k1, k2, k3⟩ := draw_facts l (i + 1) (x :: rs) hr
      refine ⟨pre ++ [x], by simpa using k1, ?_, ?_⟩
      · rw [List.map_append, k2, List.length_cons, List.range'_succ, List.reverse_cons]
        simp [hxi]
      · intro j o' mk' hj
        have he : pre ++ [x] ++ rs = pre ++ x :: rs := by simp
        rw [he]
        cases j with
        | zero =>
          simp only [List.getElem?_cons_zero, Option.some.injEq, Prod.mk.injEq] at hj
          obtain ⟨rfl, rfl⟩ := hj
          refine HeadOk.pre hx fun y hy => ?_
          have : y.i ∈ pre.map (·.i) := List.mem_map.2 ⟨y, hy, rfl⟩
          rw [k2] at this
          simp only [List.mem_reverse, List.mem_range'_1] at this
          omega
        | succ j =>
          have := k3 j o' mk' (by simpa using hj)
          rw [show i + 1 + j = i + (j + 1) by omega] at this
          exact this
    simp only [runDraw, frcL_eq, frcTm_eq, frcGs_eq] at h
    split at h
    · rename_i hm
      have hf : ∀ x : Rec, x.i = i → ∀ y ∈ [x], Nat.testBit mk y.i = false := by
        intro x hx y hy
        simp only [List.mem_singleton] at hy
        subst hy
        rw [hx]
        exact Nat.testBit_lt_two_pow hm
      split at h
      · rename_i hg
        split at h
        · rename_i res hres
          split at h
          · rename_i v hv
            rw [conj_iff, frcSV_eq, frcUp_eq] at h
            obtain ⟨hc, h⟩ := h
            split at h
            · rename_i hid
              simp only [Bool.and_eq_true, Bool.or_eq_true, beq_iff_eq] at hid
              have e1 := recTm_pre (tm := s.tm) (rs := rs) (hf ⟨i, o.dst, none, v, keepU res.up⟩ rfl)
              have e2 := recGs_pre (rs := rs) (hf ⟨i, o.dst, none, v, keepU res.up⟩ rfl)
              have e3 := recOb_pre (rs := rs) (hf ⟨i, o.dst, none, v, keepU res.up⟩ rfl)
              simp only [List.singleton_append] at e1 e2 e3
              refine fin ⟨i, o.dst, none, v, keepU res.up⟩ rfl ⟨hm, .inl ⟨hg, res, v, appTo o.dst l && !(hd.any fun y => y.2 == s.nx + W * i), ?_, hv, hc, ?_, hid.1.2, hid.2, by simp⟩⟩ h
              · rw [e1, e2, e3]; exact hres
              · rw [e3]; exact hid.1.1
            · exact h.elim
          · exact h.elim
        · exact h.elim
      · rename_i j b hg
        split at h
        · rename_i g d hgd hdst
          split at h
          · rename_i res hres
            split at h
            · rename_i v hv
              split at h
              · rename_i hbit
                rw [conj_iff, frcSV_eq] at h
                obtain ⟨hc, h⟩ := h
                split at h
                · rename_i hid
                  have e1 := recTm_pre (tm := s.tm) (rs := rs) (hf ⟨i, some d, some (g, b), v, []⟩ rfl)
                  have e2 := recGs_pre (rs := rs) (hf ⟨i, some d, some (g, b), v, []⟩ rfl)
                  have e3 := recOb_pre (rs := rs) (hf ⟨i, some d, some (g, b), v, []⟩ rfl)
                  simp only [List.singleton_append] at e1 e2 e3
                  refine fin ⟨i, some d, some (g, b), v, []⟩ rfl ⟨hm, .inr ⟨j, b, g, d, res, v, hg, hgd, hdst, hbit, ?_, hv, ?_, ?_, by simp⟩⟩ h
                  · rw [e1, e2, e3]; exact hres
                  · rw [e1, e2]
                    intro p hp
                    exact hc _ (List.mem_map.2 ⟨p, hp, rfl⟩)
                  · rw [e3]; exact hid
                · exact h.elim
              · exact h.elim
            · exact h.elim
          · exact h.elim
        · exact h.elim
    · exact h.elim
end
end Go.Sx

/- The engine's runs are right: an operation of a region that draws its order. -/
namespace Go.Sx
open Go.RowKit
section
variable {E : Env} {w0 : Base} {B n : Nat} {ρ ρ' : Nat → Value} {H H' : IH} {ob : List (Nat × Option AObj)} {nx : Nat} {w : World} {tm : List (Nat × SV)} {gs : List GV} {a : Act} {o : Oper} {r : Res}
variable {ops : Array Oper} {Q : Exit → Act → World → Prop} {rd : Option Nat} {m : Nat}
theorem C.lt_of_ids {c : C} {k : Nat} (h : ∀ id ∈ c.ids, id < k) : c.lt k := by
  cases c <;> simp only [C.ids, List.mem_singleton, forall_eq, List.mem_append, List.mem_map] at h <;> simp only [C.lt] <;> first | exact h | trivial | skip
  exact ⟨fun p hp => h _ (.inl ⟨p, hp, rfl⟩), fun p hp => h _ (.inr ⟨p, hp, rfl⟩)⟩
theorem Ch.lt_of_ids {c : Ch} {k : Nat} (h : ∀ id ∈ c.ids, id < k) : c.lt k := by
  cases c with
  | one c => exact C.lt_of_ids h
  | arr => trivial
theorem V.lt_of_ids {v : V} {k : Nat} (h : ∀ id ∈ v.ids, id < k) : v.lt k := by
  cases v with
  | one c => exact C.lt_of_ids h
  | agg cs => exact fun c hc => Ch.lt_of_ids fun id hid => h id (List.mem_flatMap.2 ⟨c, hc, hid⟩)
theorem SV.lt_of_ids {v : SV} {k : Nat} (h : ∀ id ∈ v.ids, id < k) : v.lt k := by
  cases v with
  | val v => exact V.lt_of_ids h
  | tup vs => exact fun c hc => V.lt_of_ids fun id hid => h id (List.mem_flatMap.2 ⟨c, hc, hid⟩)
theorem AObj.lt_of_ids {o : AObj} {k : Nat} (h : ∀ id ∈ objIds (some o), id < k) : o.lt k := by
  cases o with
  | row => trivial
  | sit => trivial
  | map => trivial
  | box cs => exact fun c hc => Ch.lt_of_ids fun id hid => h id (List.mem_flatMap.2 ⟨c, hc, hid⟩)
theorem C.ids_of_lt {c : C} {k : Nat} (h : c.lt k) : ∀ id ∈ c.ids, id < k := by
  cases c <;> simp only [C.ids, List.mem_singleton, forall_eq, List.mem_append, List.mem_map] <;> simp only [C.lt] at h <;> first | exact h | (intro id hid; simp at hid; done) | skip
  rintro id (⟨p, hp, rfl⟩ | ⟨p, hp, rfl⟩)
  · exact h.1 p hp
  · exact h.2 p hp
theorem AObj.ids_of_lt {o : AObj} {k : Nat} (h : o.lt k) : ∀ id ∈ objIds (some o), id < k := by
  cases o with
  | row => simp [objIds]
  | sit => simp [objIds]
  | map => simp [objIds]
  | box cs =>
    intro id hid
    obtain ⟨c, hc, hid⟩ := List.mem_flatMap.1 hid
    have := h c hc
    cases c with
    | one c => exact C.ids_of_lt this id hid
    | arr => simp [Ch.ids] at hid
theorem ptrsOf.agree : ∀ {ps : List (Nat × Nat)} {vs : List Value}, (∀ p ∈ ps, ρ' p.1 = ρ p.1) → ptrsOf ρ ps vs → ptrsOf ρ' ps vs
  | [], _, _, h => h
  | p :: ps, vs, ha, h => by
    obtain ⟨v, r, rfl, ⟨b, h1, h2⟩, h3⟩ := h
    exact ⟨v, r, rfl, ⟨b, (ha p (by simp)).trans h1, h2⟩, ptrsOf.agree (fun q hq => ha q (by simp [hq])) h3⟩
theorem DenC.agree (hh : HLe H H') {c : C} {v : Value} (ha : ∀ id ∈ c.ids, ρ' id = ρ id) (h : DenC ρ H c v) : DenC ρ' H' c v := by
  cases c with
  | sl t xs => exact Rd.mono hh _ _ _ h
  | ref t x => obtain ⟨b, off, c, e, fr, h1, h2, h3⟩ := h; exact ⟨b, off, c, e, fr, h1, hh _ _ h2, Rd.mono hh _ _ _ h3⟩
  | ptr id off => obtain ⟨b, h1, h2⟩ := h; exact ⟨b, (ha id (by simp [C.ids])).trans h1, h2⟩
  | el id off sz i sub => obtain ⟨b, h1, h2⟩ := h; exact ⟨b, by rw [ha id (by simp [C.ids])]; exact h1, h2⟩
  | view id off sz lo m =>
    rcases h with ⟨b, cap, h1, h2⟩ | h
    · exact .inl ⟨b, cap, by rw [ha id (by simp [C.ids])]; exact h1, h2⟩
    · exact .inr h
  | own id => exact (show v = ρ' id from by rw [ha id (by simp [C.ids])]; exact h)
  | yl id => exact (show v = ρ' id from by rw [ha id (by simp [C.ids])]; exact h)
  | vp id off sz lo n => obtain ⟨h0, b, h1, h2⟩ := h; exact ⟨h0, b, by rw [ha id (by simp [C.ids])]; exact h1, h2⟩
  | fn f a b =>
    obtain ⟨x, y, h1, h2, h3⟩ := h
    exact ⟨x, y, h1, h2.agree (fun p hp => ha p.1 (by simp only [C.ids, List.mem_append, List.mem_map]; exact .inl ⟨p, hp, rfl⟩)), h3.agree (fun p hp => ha p.1 (by simp only [C.ids, List.mem_append, List.mem_map]; exact .inr ⟨p, hp, rfl⟩))⟩
  | mp gk gt k t l => obtain ⟨g, es, cl, h1, h2, h3⟩ := h; exact ⟨g, es, cl, h1, hh _ _ h2, h3.mono hh⟩
  | odd k s => cases s <;> exact h
  | _ => exact h
theorem DenChs.agree (hh : HLe H H') : ∀ {cs : List Ch} {vs : List Value}, (∀ id ∈ cs.flatMap Ch.ids, ρ' id = ρ id) → DenChs ρ H cs vs → DenChs ρ' H' cs vs
  | [], _, _, h => h
  | .one c :: r, vs, ha, h => by
    obtain ⟨v, vs', rfl, h1, h2⟩ := h
    exact ⟨v, vs', rfl, h1.agree hh (fun id hid => ha id (by simp only [List.flatMap_cons, List.mem_append]; exact .inl hid)), DenChs.agree hh (fun id hid => ha id (by simp only [List.flatMap_cons, List.mem_append]; exact .inr hid)) h2⟩
  | .arr n t xs :: r, vs, ha, h => ⟨Rd.mono hh _ _ _ h.1, DenChs.agree hh (fun id hid => ha id (by simp only [List.flatMap_cons, List.mem_append]; exact .inr hid)) h.2⟩
theorem DenV.agree (hh : HLe H H') {v : V} {u : Value} (ha : ∀ id ∈ v.ids, ρ' id = ρ id) (h : DenV ρ H v u) : DenV ρ' H' v u := by
  cases v with
  | one c => exact DenC.agree hh ha h
  | agg cs => obtain ⟨vs, h1, h2⟩ := h; exact ⟨vs, h1, h2.agree hh ha⟩
theorem DenVs.agree (hh : HLe H H') : ∀ {vs : List V} {us : List Value}, (∀ id ∈ vs.flatMap V.ids, ρ' id = ρ id) → DenVs ρ H vs us → DenVs ρ' H' vs us
  | [], _, _, h => h
  | v :: r, us, ha, h => by
    obtain ⟨u, us', rfl, h1, h2⟩ := h
    exact ⟨u, us', rfl, h1.agree hh (fun id hid => ha id (by simp only [List.flatMap_cons, List.mem_append]; exact .inl hid)), DenVs.agree hh (fun id hid => ha id (by simp only [List.flatMap_cons, List.mem_append]; exact .inr hid)) h2⟩
theorem DenSV.agree (hh : HLe H H') {v : SV} {u : Value} (ha : ∀ id ∈ v.ids, ρ' id = ρ id) (h : DenSV ρ H v u) : DenSV ρ' H' v u := by
  cases v with
  | val v => exact DenV.agree hh ha h
  | tup vs => obtain ⟨us, h1, h2⟩ := h; exact ⟨us, h1, h2.agree hh ha⟩
theorem DenO.agree {w' : World} {id : Nat} {o : AObj} (h : DenO w B ρ H id o) (hid : ρ' id = ρ id) (ha : ∀ i ∈ objIds (some o), ρ' i = ρ i) (hh : HLe H H')
    (hk : ∀ b, HB (ρ id) b → w'.heap[b]? = w.heap[b]? ∧ H' b = none) : DenO w' B ρ' H' id o := by
  cases o with
  | box cs =>
    obtain ⟨g, cur, e, h1, h2, h3, h4, h5⟩ := h
    obtain ⟨k1, k2⟩ := hk g (.inl h1)
    exact ⟨g, cur, e, hid.trans h1, h2, k2, k1.trans h4, h5.agree hh ha⟩
  | sit l pos =>
    obtain ⟨g, h1, h2, h3, h4⟩ := h
    obtain ⟨k1, k2⟩ := hk g (.inl h1)
    exact ⟨g, hid.trans h1, h2, k2, k1.trans h4⟩
  | map gk gt k t l =>
    obtain ⟨g, es, cl, h1, h2, h3, h4, h5⟩ := h
    obtain ⟨k1, k2⟩ := hk g (.inr (.inr h1))
    exact ⟨g, es, cl, hid.trans h1, h2, k2, k1.trans h4, h5.mono hh⟩
  | row t xs =>
    show OwnRow w' B H' (ρ' id) t xs
    rw [hid]
    rcases h with h | ⟨g, cap, cur, e, h1, h2, h3, ⟨fz, f1, h4⟩, h5, h6, h7, h8⟩
    · exact .inl h
    · obtain ⟨k1, k2⟩ := hk g (.inr (.inl ⟨_, _, h1⟩))
      exact .inr ⟨g, cap, cur, e, h1, h2, k2, ⟨fz, f1, k1.trans h4⟩, h5, h6, h7, fun i hi => Rd.mono hh _ _ _ (h8 i hi)⟩
theorem lookO_app : ∀ (a b : List (Nat × Option AObj)) (id : Nat), (∀ x ∈ a, x.2.isSome = true) → lookO (a ++ b) id = (match lookO a id with | some o => some o | none => lookO b id)
  | [], b, id, _ => by simp [lookO]
  | (k, v) :: r, b, id, h => by
    rw [List.cons_append, lookO_cons, lookO_cons, lookO_app r b id (fun x hx => h x (by simp [hx]))]
    by_cases e : k = id
    · rw [if_pos e, if_pos e]
      have := h (k, v) (by simp)
      simp only [] at this
      obtain ⟨o, rfl⟩ := Option.isSome_iff_exists.1 this
      rfl
    · rw [if_neg e, if_neg e]
theorem lookO_key : ∀ {a : List (Nat × Option AObj)} {id : Nat} {o : AObj}, lookO a id = some o → ∃ x ∈ a, x.1 = id ∧ x.2 = some o
  | [], _, _, h => by simp [lookO] at h
  | (k, v) :: r, id, o, h => by
    rw [lookO_cons] at h
    split at h
    · rename_i e; exact ⟨(k, v), by simp, e, h⟩
    · obtain ⟨x, h1, h2⟩ := lookO_key h; exact ⟨x, by simp [h1], h2⟩
theorem eat_mono {α β : Nat → Bool} : ∀ {hd : List (Nat × Nat)} {ob : List (Nat × Option AObj)} {id : Nat} {p : AObj}, (∀ i, β i = true → α i = true) → lookO (eatOb α hd ob) id = some p → lookO (eatOb β hd ob) id = some p
  | [], _, _, _, _, h => h
  | (i, k) :: r, ob, id, p, hab, h => by
    simp only [eatOb] at h ⊢
    cases ha : α i with
    | true =>
      rw [ha, cond_true, lookO_cons] at h
      split at h
      · cases h
      · rename_i e
        have ih := eat_mono hab h
        cases β i with
        | true => rw [cond_true, lookO_cons, if_neg e]; exact ih
        | false => exact ih
    | false =>
      have hb : β i = false := by
        cases hb : β i with
        | false => rfl
        | true => rw [hab i hb] at ha; cases ha
      rw [ha, cond_false] at h
      rw [hb, cond_false]
      exact eat_mono hab h
theorem eat_none : ∀ {hd : List (Nat × Nat)} {ob : List (Nat × Option AObj)}, eatOb (fun _ => false) hd ob = ob
  | [], _ => rfl
  | (i, k) :: r, ob => by simp only [eatOb, cond_false]; exact eat_none
theorem eat_le {α : Nat → Bool} {hd : List (Nat × Nat)} {ob : List (Nat × Option AObj)} {id : Nat} {p : AObj} (h : lookO (eatOb α hd ob) id = some p) : lookO ob id = some p := by
  have := eat_mono (β := fun _ => false) (fun i h => by cases h) h
  rwa [eat_none] at this
theorem eat_gone {α : Nat → Bool} : ∀ {hd : List (Nat × Nat)} {ob : List (Nat × Option AObj)} {i id : Nat}, (i, id) ∈ hd → α i = true → lookO (eatOb α hd ob) id = none
  | [], _, _, _, h, _ => by simp at h
  | (j, k) :: r, ob, i, id, h, ha => by
    simp only [eatOb]
    rcases List.mem_cons.1 h with h | h
    · cases h
      rw [ha, cond_true, lookO_cons, if_pos rfl]
    · have ih := eat_gone (ob := ob) h ha
      cases α j with
      | true =>
        rw [cond_true, lookO_cons]
        split
        · rfl
        · exact ih
      | false => exact ih
theorem mem_keepU {up : List (Nat × Option AObj)} {x : Nat × Option AObj} : x ∈ keepU up ↔ x ∈ up ∧ x.2.isSome = true := by simp [keepU]
theorem eat_iff {α : Nat → Bool} : ∀ {hn : List (Nat × Nat)} {ob : List (Nat × Option AObj)} {id : Nat} {p : AObj}, lookO (eatOb α hn ob) id = some p ↔ (∀ j, (j, id) ∈ hn → α j = false) ∧ lookO ob id = some p
  | [], _, _, _ => by simp [eatOb]
  | (i, k) :: r, ob, id, p => by
    simp only [eatOb]
    have ih := eat_iff (α := α) (hn := r) (ob := ob) (id := id) (p := p)
    cases ha : α i with
    | false =>
      rw [cond_false, ih]
      constructor
      · rintro ⟨h1, h2⟩
        refine ⟨fun j hj => ?_, h2⟩
        rcases List.mem_cons.1 hj with h | h
        · cases h; exact ha
        · exact h1 j h
      · rintro ⟨h1, h2⟩
        exact ⟨fun j hj => h1 j (List.mem_cons_of_mem _ hj), h2⟩
    | true =>
      rw [cond_true, lookO_cons]
      by_cases e : k = id
      · rw [if_pos e]
        constructor
        · intro h; cases h
        · rintro ⟨h1, _⟩
          have := h1 i (by rw [e]; exact List.mem_cons_self)
          rw [ha] at this; cases this
      · rw [if_neg e, ih]
        constructor
        · rintro ⟨h1, h2⟩
          refine ⟨fun j hj => ?_, h2⟩
          rcases List.mem_cons.1 hj with h | h
          · cases h; exact absurd rfl e
          · exact h1 j h
        · rintro ⟨h1, h2⟩
          exact ⟨fun j hj => h1 j (List.mem_cons_of_mem _ hj), h2⟩
theorem mem_newHd {nx0 j id : Nat} {hd : List (Nat × Nat)} : (j, id) ∈ newHd nx0 hd ↔ (j, id) ∈ hd ∧ nx0 ≤ id := by
  unfold newHd
  rw [List.mem_filter, Nat.ble_eq]
theorem eatOk_at {nx0 i : Nat} {hd : List (Nat × Nat)} {up : List (Nat × Option AObj)} (h : eatOk nx0 i hd up = true) {x : Nat × Option AObj} (hx : x ∈ up) (hn : x.2 = none) : (i, x.1) ∈ hd := by
  simp only [eatOk, List.all_eq_true, Bool.or_eq_true, Bool.and_eq_true, List.any_eq_true, beq_iff_eq] at h
  rcases h x hx with h | ⟨⟨y, h2, h3, h4⟩, _⟩
  · rw [hn] at h; cases h
  · rw [← h3, ← h4]; exact h2
theorem eatOk_no {nx0 i : Nat} {hd : List (Nat × Nat)} {up : List (Nat × Option AObj)} (h : eatOk nx0 i hd up = true) {x y : Nat × Option AObj} (hx : x ∈ up) (hn : x.2 = none) (hy : y ∈ up) (hs : y.2.isSome = true) : y.1 ≠ x.1 := by
  simp only [eatOk, List.all_eq_true, Bool.or_eq_true, Bool.and_eq_true] at h
  rcases h x hx with h | ⟨_, h2⟩
  · rw [hn] at h; cases h
  · rcases h2 y hy with h3 | h3
    · rw [hs] at h3; cases h3
    · exact bne_iff_ne.1 h3
theorem look_keep : ∀ {up ob : List (Nat × Option AObj)} {id : Nat} {p : AObj}, (∀ x ∈ up, x.2 = none → x.1 ≠ id) → lookO (keepU up) id = some p → lookO (up ++ ob) id = some p
  | [], _, _, _, _, h => by simp [keepU, lookO] at h
  | (k, none) :: r, ob, id, p, hn, h => by
    have he := hn (k, none) (by simp) rfl
    have h' : lookO (keepU r) id = some p := by simpa [keepU] using h
    rw [List.cons_append, lookO_cons, if_neg he]
    exact look_keep (fun x hx => hn x (by simp [hx])) h'
  | (k, some o) :: r, ob, id, p, hn, h => by
    have h' : lookO ((k, some o) :: keepU r) id = some p := by simpa [keepU] using h
    rw [lookO_cons] at h'
    rw [List.cons_append, lookO_cons]
    split at h'
    · rename_i e; rw [if_pos e]; exact h'
    · rename_i e; rw [if_neg e]; exact look_keep (fun x hx => hn x (by simp [hx])) h'
theorem look_past : ∀ {up ob : List (Nat × Option AObj)} {id : Nat}, (∀ x ∈ up, x.1 ≠ id) → lookO (up ++ ob) id = lookO ob id
  | [], _, _, _ => rfl
  | (k, v) :: r, ob, id, h => by
    rw [List.cons_append, lookO_cons, if_neg (h (k, v) (by simp))]
    exact look_past fun x hx => h x (by simp [hx])
theorem look_none : ∀ {a : List (Nat × Option AObj)} {id : Nat}, (∀ x ∈ a, x.2.isSome = true) → lookO a id = none → ∀ x ∈ a, x.1 ≠ id
  | [], _, _, _, x, hx => by simp at hx
  | (k, v) :: r, id, hs, h, x, hx => by
    rw [lookO_cons] at h
    by_cases e : k = id
    · rw [if_pos e] at h
      have := hs (k, v) (by simp)
      rw [show ((k, v) : Nat × Option AObj).2 = v from rfl, h] at this
      cases this
    · rw [if_neg e] at h
      rcases List.mem_cons.1 hx with rfl | hx
      · exact e
      · exact look_none (fun x hx => hs x (by simp [hx])) h x hx
structure RecWf (nx0 : Nat) (hd : List (Nat × Nat)) (rs : List Rec) : Prop where
  uniq : ∀ x ∈ rs, ∀ y ∈ rs, x.i = y.i → x = y
  up : ∀ x ∈ rs, ∀ y ∈ x.up, ((nx0 + W * x.sl nx0 ≤ y.1 ∧ y.1 < nx0 + W * x.sl nx0 + W) ∨ (y.1 < nx0 ∧ (x.i, y.1) ∈ hd)) ∧ y.2.isSome = true
  hdu : (hd.map (·.2)).Nodup
  ids : ∀ x ∈ rs, ∀ id ∈ x.v.ids ++ x.up.flatMap (fun y => objIds y.2), id < nx0 + W * x.i + W
  ord : rs.Pairwise fun x y => y.i < x.i
  sl : ∀ x ∈ rs, x.sl nx0 ≤ x.i
  one : ∀ x ∈ rs, x.sl nx0 ≠ x.i → ∀ y ∈ rs, y.sl nx0 = x.sl nx0 → y.i = y.sl nx0 ∨ y = x
theorem RecWf.tail {nx0 : Nat} {hd : List (Nat × Nat)} {x : Rec} {rs : List Rec} (h : RecWf nx0 hd (x :: rs)) : RecWf nx0 hd rs :=
  ⟨fun a ha b hb => h.uniq a (by simp [ha]) b (by simp [hb]), fun a ha => h.up a (by simp [ha]), h.hdu, fun a ha => h.ids a (by simp [ha]), (List.pairwise_cons.1 h.ord).2, fun a ha => h.sl a (by simp [ha]), fun a ha hs b hb => h.one a (by simp [ha]) hs b (by simp [hb])⟩
theorem mulW {i j nx0 id : Nat} (h1 : nx0 + W * i ≤ id) (h2 : id < nx0 + W * i + W) (h3 : nx0 + W * j ≤ id) (h4 : id < nx0 + W * j + W) : i = j := by
  simp only [W] at *
  omega
theorem hd_one : ∀ {hd : List (Nat × Nat)} {i j id : Nat}, (hd.map (·.2)).Nodup → (i, id) ∈ hd → (j, id) ∈ hd → i = j
  | [], _, _, _, _, h, _ => by cases h
  | x :: r, i, j, id, hn, h1, h2 => by
    rw [List.map_cons, List.nodup_cons] at hn
    have no : ∀ k, (k, id) ∈ r → id ∈ r.map (·.2) := fun k hk => List.mem_map.2 ⟨_, hk, rfl⟩
    rcases List.mem_cons.1 h1 with e1 | m1
    · rcases List.mem_cons.1 h2 with e2 | m2
      · rw [← e1] at e2; cases e2; rfl
      · rw [← e1] at hn; exact absurd (no j m2) hn.1
    · rcases List.mem_cons.1 h2 with e2 | m2
      · rw [← e2] at hn; exact absurd (no i m1) hn.1
      · exact hd_one hn.2 m1 m2
theorem RecWf.same {nx0 : Nat} {hd : List (Nat × Nat)} {rs : List Rec} (hw : RecWf nx0 hd rs) {x y : Rec} (hx : x ∈ rs) (hy : y ∈ rs) {id : Nat} {o o' : AObj} (h : lookO x.up id = some o) (h' : lookO y.up id = some o') : x.sl nx0 = y.sl nx0 := by
  obtain ⟨z, z1, z2, _⟩ := lookO_key h
  obtain ⟨u, u1, u2, _⟩ := lookO_key h'
  obtain ⟨p, _⟩ := hw.up x hx z z1
  obtain ⟨q, _⟩ := hw.up y hy u u1
  rw [z2] at p
  rw [u2] at q
  rcases p with ⟨p1, p2⟩ | ⟨p1, p2⟩
  · rcases q with ⟨q1, q2⟩ | ⟨q1, _⟩
    · exact mulW p1 p2 q1 q2
    · omega
  · rcases q with ⟨q1, _⟩ | ⟨_, q2⟩
    · omega
    · rw [hw.uniq x hx y hy (hd_one hw.hdu p2 q2)]
theorem recOb_look1 {α : Nat → Bool} {nx0 : Nat} {hd : List (Nat × Nat)} : ∀ {rs : List Rec} {id : Nat} {o : AObj}, RecWf nx0 hd rs → lookO (recOb α rs ++ ob) id = some o →
    (∃ x ∈ rs, α x.i = true ∧ lookO x.up id = some o ∧ ∀ y ∈ rs, α y.i = true → x.i < y.i → lookO y.up id = none) ∨ (lookO ob id = some o ∧ ∀ y ∈ rs, α y.i = true → lookO y.up id = none)
  | [], id, o, _, h => .inr ⟨h, by simp⟩
  | x :: rs, id, o, hw, h => by
    simp only [recOb] at h
    have hlt := (List.pairwise_cons.1 hw.ord).1
    cases ha : α x.i with
    | false =>
      rw [ha] at h
      rcases recOb_look1 hw.tail h with ⟨y, h1, h2, h3, h4⟩ | ⟨h1, h4⟩
      · refine .inl ⟨y, by simp [h1], h2, h3, fun z hz hza hlz => ?_⟩
        rcases List.mem_cons.1 hz with rfl | hz
        · rw [ha] at hza; cases hza
        · exact h4 z hz hza hlz
      · refine .inr ⟨h1, fun z hz hza => ?_⟩
        rcases List.mem_cons.1 hz with rfl | hz
        · rw [ha] at hza; cases hza
        · exact h4 z hz hza
    | true =>
      rw [ha] at h
      simp only [cond_true, List.append_assoc] at h
      rw [lookO_app _ _ _ (fun y hy => (hw.up x (by simp) y hy).2)] at h
      split at h
      · rename_i o' ho'
        cases h
        refine .inl ⟨x, by simp, ha, ho', fun z hz hza hlz => ?_⟩
        rcases List.mem_cons.1 hz with rfl | hz
        · omega
        · have := hlt z hz; omega
      · rename_i hno
        rcases recOb_look1 hw.tail h with ⟨y, h1, h2, h3, h4⟩ | ⟨h1, h4⟩
        · refine .inl ⟨y, by simp [h1], h2, h3, fun z hz hza hlz => ?_⟩
          rcases List.mem_cons.1 hz with rfl | hz
          · exact hno
          · exact h4 z hz hza hlz
        · refine .inr ⟨h1, fun z hz hza => ?_⟩
          rcases List.mem_cons.1 hz with rfl | hz
          · exact hno
          · exact h4 z hz hza
theorem recOb_look2 {α : Nat → Bool} {nx0 : Nat} {hd : List (Nat × Nat)} : ∀ {rs : List Rec} {id : Nat} {o : AObj} {x : Rec}, RecWf nx0 hd rs → x ∈ rs → α x.i = true → lookO x.up id = some o → (∀ y ∈ rs, α y.i = true → x.i < y.i → lookO y.up id = none) → lookO (recOb α rs ++ ob) id = some o
  | [], _, _, _, _, hx, _, _, _ => by simp at hx
  | y :: rs, id, o, x, hw, hx, ha, ho, hno => by
    simp only [recOb]
    have hlt := (List.pairwise_cons.1 hw.ord).1
    have hy : y = x ∨ (y ≠ x ∧ x ∈ rs) := by
      by_cases e : y = x
      · exact .inl e
      · exact .inr ⟨e, (List.mem_cons.1 hx).resolve_left (fun h => e h.symm)⟩
    rcases hy with rfl | ⟨hne, hx'⟩
    · rw [ha]
      simp only [cond_true, List.append_assoc]
      rw [lookO_app _ _ _ (fun z hz => (hw.up y (by simp) z hz).2), ho]
    · have ih := recOb_look2 hw.tail hx' ha ho fun z hz => hno z (by simp [hz])
      cases hb : α y.i with
      | false => exact ih
      | true =>
        simp only [cond_true, List.append_assoc]
        rw [lookO_app _ _ _ (fun z hz => (hw.up y (by simp) z hz).2), hno y (by simp) hb (hlt x hx')]
        exact ih
theorem recOb_look3 {α : Nat → Bool} {nx0 : Nat} {hd : List (Nat × Nat)} : ∀ {rs : List Rec} {id : Nat}, RecWf nx0 hd rs → id < nx0 → (∀ y ∈ rs, α y.i = true → (y.i, id) ∈ hd → lookO y.up id = none) → lookO (recOb α rs ++ ob) id = lookO ob id
  | [], _, _, _, _ => rfl
  | y :: rs, id, hw, hid, hno => by
    simp only [recOb]
    have ih := recOb_look3 (α := α) hw.tail hid fun z hz => hno z (by simp [hz])
    cases hb : α y.i with
    | false => exact ih
    | true =>
      simp only [cond_true, List.append_assoc]
      rw [lookO_app _ _ _ (fun z hz => (hw.up y (by simp) z hz).2)]
      have : lookO y.up id = none := by
        cases hl : lookO y.up id with
        | none => rfl
        | some o' =>
          obtain ⟨z, z1, z2, _⟩ := lookO_key hl
          obtain ⟨p, _⟩ := hw.up y (by simp) z z1
          rw [z2] at p
          rcases p with ⟨p1, _⟩ | ⟨_, p2⟩
          · omega
          · rw [hno y (by simp) hb p2] at hl; cases hl
      rw [this]
      exact ih
theorem recTm_src {α : Nat → Bool} {t : Nat} {sv : SV} : ∀ {rs : List Rec}, lookT (recTm α rs tm) t = some sv → lookT tm t = some sv ∨ ∃ x ∈ rs, α x.i = true ∧ x.v = sv
  | [], h => .inl h
  | ⟨i, none, g, v, u⟩ :: r, h => by
    simp only [recTm] at h
    rcases recTm_src h with h | ⟨x, h1, h2⟩
    · exact .inl h
    · exact .inr ⟨x, by simp [h1], h2⟩
  | ⟨i, some d, none, v, u⟩ :: r, h => by
    simp only [recTm] at h
    cases hi : α i with
    | false =>
      rw [hi] at h
      rcases recTm_src h with h | ⟨x, h1, h2⟩
      · exact .inl h
      · exact .inr ⟨x, by simp [h1], h2⟩
    | true =>
      rw [hi] at h
      simp only [cond_true, lookT_cons] at h
      split at h
      · cases h; exact .inr ⟨_, List.mem_cons_self, hi, rfl⟩
      · rcases recTm_src h with h | ⟨x, h1, h2⟩
        · exact .inl h
        · exact .inr ⟨x, by simp [h1], h2⟩
  | ⟨i, some d, some g, v, u⟩ :: r, h => by
    simp only [recTm] at h
    cases hi : α i with
    | false =>
      rw [hi] at h
      rcases recTm_src h with h | ⟨x, h1, h2⟩
      · exact .inl h
      · exact .inr ⟨x, by simp [h1], h2⟩
    | true =>
      rw [hi] at h
      simp only [cond_true, lookT_delT] at h
      split at h
      · cases h
      · rcases recTm_src h with h | ⟨x, h1, h2⟩
        · exact .inl h
        · exact .inr ⟨x, by simp [h1], h2⟩
end
end Go.Sx
