/- A verified symbolic run of functions, part 11: lemmas, no claim of their own. -/
import Derived.Test.YtlgimjcnnndbhaaS10
import Derived.Sort.LoopGhostIn
import Derived.KernelRfl
import Derived.Lib.ItoaNum
import Derived.Test.YtlgimjcnnndbhaaProg
namespace Go.Sx
open Go.RowKit
section
variable {E : Env} {w0 b b' : Base} {B : Nat} {ρ : Nat → Value} {H : IH} {ob : List (Nat × Option AObj)} {nx : Nat} {w : World} {lr : LR} {ds : List Deferred}
theorem lookL_cons (k : Nat) (v : Option Ex) (l : LR) (t : Nat) : lookL ((k, v) :: l) t = if k = t then some v else lookL l t := by simp [lookL]
theorem lookL_delL (d t : Nat) : ∀ (l : LR), lookL (delL d l) t = if t = d then none else lookL l t
  | [] => by simp [delL, lookL]
  | (k, v) :: r => by
    have ih := lookL_delL d t r
    unfold delL at ih ⊢
    rw [List.filter_cons]
    by_cases h1 : k = d
    · subst h1
      simp only [bne_self_eq_false, Bool.false_eq_true, if_false, ih, lookL_cons]
      by_cases h2 : t = k
      · simp [h2]
      · simp [h2, Ne.symm h2]
    · have : (k != d) = true := by simpa using h1
      simp only [this, if_true, lookL_cons, ih]
      by_cases h2 : k = t
      · subst h2; simp [h1]
      · simp [h2]
theorem Inv.rebase (I : Inv b B ρ H ob nx w) (hw : b'.w = w) (hK : ∀ k, b'.K k → k < w.heap.size ∧ H k = none ∧ ∀ id o, lookO ob id = some o → ¬ HB (ρ id) k) : Inv b' B ρ H ob nx w :=
  ⟨by rw [hw]; exact Below.refl _ _, by rw [hw]; exact Nat.le_trans I.bsz I.below.size, I.one, I.agree, I.objs, I.sep, fun k hk => by rw [hw]; obtain ⟨h1, h2, h3⟩ := hK k hk; exact ⟨h1, rfl, h2, h3⟩⟩
theorem Inv.rho {ρ' : Nat → Value} (I : Inv b B ρ H ob nx w) (hr : REq nx ρ ρ') (ho : ∀ id, (ρ' id).oneCell' = true) : Inv b B ρ' H ob nx w := by
  have hh : ∀ id o, lookO ob id = some o → ρ' id = ρ id := fun id o h => hr id (I.objs id o h).1
  refine ⟨I.below, I.bsz, ho, I.agree, fun id o h => ?_, fun i j o p hij hi hj k => ?_, fun k hk => ?_⟩
  · obtain ⟨h1, h2, h3⟩ := I.objs id o h
    exact ⟨h1, h2, h3.kept h1 h2 hr (HLe.refl _) fun k hk => ⟨rfl, (I.hb h hk).2.1⟩⟩
  · rw [hh i o hi, hh j p hj]; exact I.sep i j o p hij hi hj k
  · obtain ⟨k1, k2, k3, k4⟩ := I.kp k hk
    exact ⟨k1, k2, k3, fun id o h => by rw [hh id o h]; exact k4 id o h⟩
theorem Inv.turn (I : Inv b B ρ H ob nx w) {g : Nat} {x : Obj} (hg : b.K g) (hw : b'.w = w.putObj g x) (hK : ∀ k, b'.K k → b.K k) : Inv b' B ρ H ob nx (w.putObj g x) := by
  obtain ⟨g1, g2, g3⟩ := I.kAll hg
  refine ⟨by rw [hw]; exact Below.refl _ _, by rw [hw, World.putObj_size]; exact Nat.le_trans I.bsz I.below.size, I.one, fun k o h => ?_, fun id o h => ?_, I.sep, fun k hk => ?_⟩
  · have hne : k ≠ g := fun e => by rw [e, g2] at h; cases h
    rw [World.putObj_heap_other hne]; exact I.agree k o h
  · obtain ⟨h1, h2, h3⟩ := I.objs id o h
    refine ⟨h1, h2, h3.kept h1 h2 (REq.refl _ _) (HLe.refl _) fun k hk => ?_⟩
    have hne : k ≠ g := fun e => g3 id o h (e ▸ hk)
    exact ⟨World.putObj_heap_other hne, (I.hb h hk).2.1⟩
  · obtain ⟨k1, k2, k3⟩ := I.kAll (hK k hk)
    rw [hw]
    exact ⟨by rw [World.putObj_size]; exact k1, rfl, k2, k3⟩
theorem below_put {a c : World} {g : Nat} {x : Obj} (h : Below B a c) (hB : B ≤ g) : Below B a (c.putObj g x) :=
  ⟨h.os, h.tape, h.output, by rw [World.putObj_size]; exact h.size, fun k hk => by rw [World.putObj_heap_other (by omega)]; exact h.block k hk⟩
theorem below_put2 {a c : World} {g : Nat} {x : Obj} (h : Below B a c) (hB : B ≤ g) : Below B (a.putObj g x) (c.putObj g x) :=
  ⟨h.os, h.tape, h.output, by rw [World.putObj_size, World.putObj_size]; exact h.size, fun k hk => by rw [World.putObj_heap_other (by omega), World.putObj_heap_other (by omega)]; exact h.block k hk⟩
theorem GlB.del (G : GlB E w0 b B ρ H nx lr ds) {id g : Nat} {st : Option Ex} {r : Loop} (hid : lookL lr id = some st) (hlt : w0.lt id = some (g, r)) (hb : Below B b.w b'.w) (hK : ∀ k, b.K k → k ≠ g → b'.K k ∧ b'.w.heap[k]? = b.w.heap[k]?) :
    GlB E w0 b' B ρ H nx (delL id lr) ds := by
  obtain ⟨g', r', e1, e2, e3, e4, e5, e6⟩ := G.lrK id st hid
  rw [hlt] at e1
  cases e1
  refine { G with bel := G.bel.trans hb, kp := fun k hk => ?_, df := fun d hd => ?_, rd := fun l hl => ?_, lrK := fun i t h => ?_, lrI := fun i j s t g p q hi hj => ?_ }
  · obtain ⟨h1, h2, h3⟩ := G.kp k hk
    have hne : k ≠ g := fun e => e5 (e ▸ hk)
    exact ⟨(hK k h1 hne).1, h2, (hK k h1 hne).2.trans h3⟩
  · obtain ⟨r1, h1, h2, h3, h4⟩ := G.df d hd
    have hne : r1 ≠ g := fun e => by rw [e, e4] at h4; cases h4
    exact ⟨r1, h1, h2, (hK r1 h3 hne).1, (hK r1 h3 hne).2.trans h4⟩
  · obtain ⟨h1, r1, h2⟩ := G.rd l hl
    have hne : l ≠ g := fun e => e6 (e ▸ hl)
    exact ⟨(hK l h1 hne).1, r1, (hK l h1 hne).2.trans h2⟩
  · rw [lookL_delL] at h
    split at h
    · cases h
    · rename_i hne
      obtain ⟨g1, r1, h1, h2, h3, h4, h5, h6⟩ := G.lrK i t h
      have hg : g1 ≠ g := fun e => hne (G.lrI i id t st g1 r1 r h hid h1 (e ▸ hlt))
      exact ⟨g1, r1, h1, h2, (hK g1 h3 hg).1, (hK g1 h3 hg).2.trans h4, h5, h6⟩
  · rw [lookL_delL] at hi hj
    split at hi
    · cases hi
    · split at hj
      · cases hj
      · exact G.lrI i j s t g p q hi hj
theorem setPs_ok : ∀ (ps : List Nat) (vs : List V) (us : List Value) (tm : List (Nat × SV)) (tmps : Array Value), (∀ p ∈ ps, p < tmps.size) → DenVs ρ H vs us → (∀ v ∈ vs, v.lt nx) → TmOk ρ H tm nx tmps →
    TmOk ρ H (setPs ps vs tm) nx ((ps.zip us).foldl (fun t x => t.setIfInBounds x.1 x.2) tmps) ∧ ((ps.zip us).foldl (fun t x => t.setIfInBounds x.1 x.2) tmps).size = tmps.size
  | [], vs, us, tm, tmps, _, _, _, h => by cases vs <;> exact ⟨h, rfl⟩
  | p :: ps, [], us, tm, tmps, _, hd, _, h => by rw [show us = [] from hd]; exact ⟨h, rfl⟩
  | p :: ps, v :: vs, us, tm, tmps, hp, hd, hl, h => by
    obtain ⟨u, us', rfl, h1, h2⟩ := hd
    have hps : p < tmps.size := hp p (by simp)
    obtain ⟨k1, k2⟩ := setPs_ok ps vs us' ((p, .val v) :: tm) (tmps.setIfInBounds p u) (fun q hq => by simpa using hp q (by simp [hq])) h2 (fun x hx => hl x (by simp [hx])) (by
      intro t sv ht
      rw [lookT_cons] at ht
      have hg : (tmps.setIfInBounds p u).getD t undef = if t = p then u else tmps.getD t undef := by
        simp only [Array.getD_eq_getD_getElem?, Array.getElem?_setIfInBounds]
        by_cases e : t = p
        · subst e; simp [hps]
        · rw [if_neg e, if_neg (fun x => e x.symm)]
      rw [hg]
      split at ht
      · rename_i e
        subst e
        cases ht
        simp only [if_true, Array.size_setIfInBounds]
        exact ⟨hps, hl v (by simp), h1⟩
      · rename_i e
        rw [if_neg (fun x => e x.symm), Array.size_setIfInBounds]
        exact h t sv ht)
    refine ⟨k1, k2.trans (by simp)⟩
theorem recAt_state (r : Loop) (st : Option Ex) : (recAt r st).state ≠ .busy := by
  cases st with
  | none => simp [recAt]
  | some e => simp only [recAt]; split <;> simp
theorem YtOk.mono {w0 w1 : Base} {yt : YT} (h : YtOk E w0 B yt) (h1 : w0.fl ≤ w1.fl) (h2 : REq w0.fl w0.ρ w1.ρ) (h3 : HLe w0.H0 w1.H0) (h4 : ∀ i x, w0.lt i = some x → w1.lt i = some x) : YtOk E w1 B yt := by
  intro id y hy
  obtain ⟨k1, g, r, k2, k3, k4⟩ := h id y hy
  refine ⟨Nat.lt_of_lt_of_le k1 h1, g, r, h4 _ _ k2, by rw [h2 id k1]; exact k3, ?_⟩
  intro vs ob nx lr k hyk w2 b ρ H ds us w I G l1 l2 l3 l4 l5 l6 l7
  exact k4 vs ob nx lr k hyk w2 b ρ H ds us w I G l1 (fun i x hx => l2 i x (h4 i x hx)) (h3.trans l3) (fun i hi => by rw [l4 i (Nat.lt_of_lt_of_le hi h1), h2 i hi]) (Nat.le_trans h1 l5) l6 l7
end
end Go.Sx

namespace Go.Sx
open Go.RowKit
def exitOf : Ex → Exit
  | .nrm => .normal
  | .ret => .ret
  | .ext id => .exit id
  | .gto l => .goto l
def ExOk (E : Env) (h : Hints) (inl : Inl) (f : FuncId) (yt : YT) (B n : Nat) (c : Code) : Prop :=
  ∀ (w0 : Base) (s : St) (k : Ex → St → Prop) (Q : Exit → Act → World → Prop) (a : Act) (w : World) (m : Nat), YtOk E w0 B yt → ex E h inl f yt c w0.fl s k → Sat E w0 B n s [] a w →
    (∀ e s' a' w', k e s' → Sat E w0 B n s' [] a' w' → Q (exitOf e) a' w') → c.wpIn (Fw w0.rd) m E.P Q a w
theorem inRound_Fw (rd : Option Nat) (g : Nat) : (Fw rd).inRound g = Fw (some g) := rfl
section
variable {E : Env} {h : Hints} {inl : Inl} {f : FuncId} {yt : YT} {B n : Nat}
theorem recAt_busy (r : Loop) : ({ recAt r none with state := .busy } : Loop) = { r with state := .busy, pending := none } := by simp [recAt]
theorem round_ok {ps : Array Tmp} {assign body : Code} (ihA : ExOk E h inl f yt B n assign) (ihB : ExOk E h inl f yt B n body) (hps : ∀ p ∈ ps.toList, p < n)
    {s : St} {a : Act} {wp : Base} {ρ0 ρ1 : Nat → Value} {H0 : IH} (hT : TmOk ρ0 H0 s.tm s.nx a.tmps) (hsz : a.tmps.size = n) (hYp : YtOk E wp B yt) (hfl : wp.fl ≤ s.nx) (hre : REq wp.fl wp.ρ ρ0) (hle : HLe wp.H0 H0) (hr1 : REq s.nx ρ0 ρ1)
    {g : Nat} {r : Loop} (r1 : r.tmps = a.tmps) (r2 : r.params = ps) (r3 : r.assign = assign) (r4 : r.body = body) {lt1 : Nat → Option (Nat × Loop)} (hlt : ∀ i x, wp.lt i = some x → lt1 i = some x) :
    YSem E B s.nx g r ρ1 H0 (s.nx + 1) lt1 (fun vs ob nx lr k' => match lookL lr s.nx with
              | some none => if vs.length = ps.size then
                  ex E h inl f yt assign nx ⟨setPs ps.toList vs s.tm, ob, nx, delL s.nx lr⟩ fun
                    | .nrm, s1 => ex E h inl f yt body nx s1 fun
                      | .nrm, s2 => k' (.val (.one (.bool true))) s2.ob s2.nx ((s.nx, none) :: s2.lr)
                      | e, s2 => k' (.val (.one (.bool false))) s2.ob s2.nx ((s.nx, some e) :: s2.lr)
                    | _, _ => False
                else False
              | _ => False) := by
  intro vs ob nx lr k' hy w0 b ρ H ds us w I G hid hlt0 hH0 hρ1 hnx hden hvl
  split at hy
  · rename_i hlook
    split at hy
    · rename_i hvs
      obtain ⟨g', r', e1, e2, e3, e4, e5, e6⟩ := G.lrK _ _ hlook
      rw [hid] at e1
      cases e1
      have hwg : w.heap[g]? = some (.loop (recAt r none)) := (I.kSame e3).trans e4
      have hus : us.length = vs.length := by
        clear hy hvs hvl
        induction vs generalizing us with
        | nil => rw [show us = [] from hden]; rfl
        | cons v vs ih => obtain ⟨u, us', rfl, _, h2⟩ := hden; simp [ih us' h2]
      refine ⟨_, hwg, by simp [recAt, r2, hus, hvs], ?_⟩
      let W2 : Base := ⟨b.w, fun k => b.K k ∧ ∀ i st g' r', lookL (delL s.nx lr) i = some st → w0.lt i = some (g', r') → k ≠ g', H, ρ, nx, w0.lt, some g⟩
      have hkL : ∀ k, b.K k → k < b.w.heap.size := fun k hk => (I.kp k hk).1
      have hW2g : W2.K g := ⟨e3, fun i st g' r' hi hg' e => by
        rw [lookL_delL] at hi
        split at hi
        · cases hi
        · rename_i hne
          exact hne (G.lrI _ _ _ _ _ _ _ hi hlook hg' (e ▸ hid))⟩
      have G2 : GlB E W2 b B ρ H nx (delL s.nx lr) [] := by
        refine ⟨G.gl, HLe.refl _, Nat.le_refl _, REq.refl _ _, Below.refl _ _, fun k hk => ⟨hk.1, hkL k hk.1, rfl⟩, by simp, by simp, fun l hl => ?_, fun id st hi => ?_, fun i j p q g' u v hi hj => ?_, fun i hi => G.lo i (Nat.le_trans G.fl hi)⟩
        · cases hl; exact ⟨e3, _, e4⟩
        · have hi' := hi
          rw [lookL_delL] at hi
          split at hi
          · cases hi
          · rename_i hne
            obtain ⟨g1, q1, h1, h2, h3, h4, h5, h6⟩ := G.lrK id st hi
            refine ⟨g1, q1, h1, h2, h3, h4, fun hk => hk.2 id st g1 q1 hi' h1 rfl, fun e => ?_⟩
            cases e
            exact hne (G.lrI _ _ _ _ _ _ _ hi hlook h1 hid)
        · rw [lookL_delL] at hi hj
          split at hi
          · cases hi
          · split at hj
            · cases hj
            · exact G.lrI i j p q g' u v hi hj
      have hYw : YtOk E W2 B yt := hYp.mono (Nat.le_trans hfl (by show s.nx ≤ nx; omega)) (fun i hi => by
          show ρ i = wp.ρ i
          rw [hρ1 i (by omega), hr1 i (by omega), hre i hi]) (hle.trans hH0) (fun i x hx => hlt0 i x (hlt i x hx))
      have hT2 : TmOk ρ H s.tm nx a.tmps := (hT.mono hr1 (HLe.refl _) (Nat.le_refl _)).mono (fun i hi => hρ1 i (by omega)) hH0 (by omega)
      have hfold : ((recAt r none).params.zip us.toArray).foldl (fun tmps (t, a) => tmps.setIfInBounds t a) (recAt r none).tmps = (ps.toList.zip us).foldl (fun t x => t.setIfInBounds x.1 x.2) a.tmps := by
        have : (recAt r none).params = ps := r2
        rw [this, show (recAt r none).tmps = a.tmps from r1, ← Array.foldl_toList, Array.toList_zip]
      obtain ⟨q1, q2⟩ := setPs_ok ps.toList vs us s.tm a.tmps (by rw [hsz]; exact hps) hden hvl hT2
      rw [hfold, show (recAt r none).assign = assign from r3, show (recAt r none).body = body from r4, show (recAt r none).fn = r.fn from rfl]
      refine roundIn_of_wpIn trivial ?_
      rw [inRound_Fw]
      refine ihA W2 _ _ _ _ w 0 hYw hy ⟨ρ, H, b, [], I, G2, q1, by simp, rfl, q2.trans hsz⟩ ?_
      intro e s1 a1 w1 hk1 hs1
      cases e with
      | ret => exact hk1.elim
      | ext => exact hk1.elim
      | gto => exact hk1.elim
      | nrm =>
        obtain ⟨ρ2, H2, b2, ds2, I2, G3, hT3, _, hdf3, hsz3⟩ := hs1
        obtain ⟨p1, p2, p3⟩ := G3.kp g hW2g
        have hw1 : w1.heap[g]? = some (.loop (recAt r none)) := (I2.kSame p1).trans (p3.trans e4)
        refine ⟨_, run_beginRound hw1 rfl, ?_⟩
        rw [recAt_busy]
        let X : Obj := .loop { r with state := .busy, pending := none }
        let W3 : Base := { W2 with w := b.w.putObj g X }
        let b3 : Base := { b2 with w := w1.putObj g X }
        have I3 : Inv b3 B ρ2 H2 s1.ob s1.nx (w1.putObj g X) := I2.turn p1 rfl (fun k hk => hk)
        have hgb : g < b.w.heap.size := hkL g e3
        have hgw : g < w1.heap.size := lt_of_some hw1
        have hoth : ∀ k, b2.K k → k ≠ g → b3.w.heap[k]? = b2.w.heap[k]? := fun k hk hne => (World.putObj_heap_other hne).trans (I2.kSame hk)
        have G4 : GlB E W3 b3 B ρ2 H2 s1.nx s1.lr ds2 := by
          refine ⟨G3.gl, G3.hle, G3.fl, G3.re, below_put2 (G3.bel.trans I2.below) e2, fun k hk => ?_, fun d hd => ?_, G3.dn, fun l hl => ?_, fun id st hi => ?_, G3.lrI, G3.lo⟩
          · obtain ⟨k1, k2, k3⟩ := G3.kp k hk
            refine ⟨k1, by show k < (b.w.putObj g X).heap.size; rw [World.putObj_size]; exact k2, ?_⟩
            by_cases hne : k = g
            · subst hne
              show (w1.putObj k X).heap[k]? = (b.w.putObj k X).heap[k]?
              rw [World.putObj_heap_same hgw, World.putObj_heap_same hgb]
            · rw [hoth k k1 hne, k3]
              exact (World.putObj_heap_other hne).symm
          · obtain ⟨q, k1, k2, k3, k4⟩ := G3.df d hd
            have hne : q ≠ g := fun e => by rw [e, p3] at k4; rw [show W2.w = b.w from rfl, e4] at k4; cases k4
            exact ⟨q, k1, k2, k3, (hoth q k3 hne).trans k4⟩
          · cases hl
            exact ⟨p1, _, World.putObj_heap_same hgw⟩
          · obtain ⟨g1, q1, k1, k2, k3, k4, k5, k6⟩ := G3.lrK id st hi
            have hne : g1 ≠ g := fun e => k6 (by rw [e])
            exact ⟨g1, q1, k1, k2, k3, (hoth g1 k3 hne).trans k4, k5, k6⟩
        refine ihB W3 s1 _ _ a1 _ 0 hYw hk1 ⟨ρ2, H2, b3, ds2, I3, G4, hT3, by simp, hdf3, hsz3⟩ ?_
        intro e s2 a2 w2 hk2 hs2
        obtain ⟨ρ3, H3, b4, ds3, I4, G5, _, _, _, _⟩ := hs2
        obtain ⟨y1, y2, y3⟩ := G5.kp g hW2g
        have hb4g : b4.w.heap[g]? = some X := by rw [y3]; exact World.putObj_heap_same hgb
        have hw2 : w2.heap[g]? = some (.loop { r with state := .busy, pending := none }) := (I4.kSame y1).trans hb4g
        have fin : ∀ (st : Option Ex) (sv : Bool), k' (.val (.one (.bool sv))) s2.ob s2.nx ((s.nx, st) :: s2.lr) → AfterOk E w0 B ρ H nx ds k' (.bool sv) (w2.putObj g (.loop (recAt r st))) := by
          intro st sv hk
          let b5 : Base := { b4 with w := w2.putObj g (.loop (recAt r st)) }
          have I5 : Inv b5 B ρ3 H3 s2.ob s2.nx (w2.putObj g (.loop (recAt r st))) := I4.turn y1 rfl (fun k hk => hk)
          have hgw2 : g < w2.heap.size := lt_of_some hw2
          have hoth5 : ∀ k, b4.K k → k ≠ g → b5.w.heap[k]? = b4.w.heap[k]? := fun k hk hne => (World.putObj_heap_other hne).trans (I4.kSame hk)
          have keep : ∀ k, b.K k → k ≠ g → W2.K k → b5.K k ∧ b5.w.heap[k]? = b.w.heap[k]? := by
            intro k hk hne hW
            obtain ⟨k1, _, k3⟩ := G5.kp k hW
            exact ⟨k1, (hoth5 k k1 hne).trans (k3.trans (World.putObj_heap_other hne))⟩
          have inW : ∀ k, b.K k → (∀ i st g' r', lookL lr i = some st → w0.lt i = some (g', r') → k ≠ g') → W2.K k := by
            intro k hk hh
            refine ⟨hk, fun i st g' r' hi => ?_⟩
            rw [lookL_delL] at hi
            split at hi
            · cases hi
            · exact hh i st g' r' hi
          have w0K : ∀ k, w0.K k → W2.K k ∧ k ≠ g := fun k hk => ⟨inW k (G.kp k hk).1 (fun i st g' r' hi hg' e => by
            obtain ⟨g1, q1, h1, _, _, _, h5, _⟩ := G.lrK i st hi
            rw [hg'] at h1; cases h1
            exact h5 (e ▸ hk)), fun e => e5 (e ▸ hk)⟩
          have rdK : ∀ l, w0.rd = some l → W2.K l ∧ l ≠ g := fun l hl => ⟨inW l (G.rd l hl).1 (fun i st g' r' hi hg' e => by
            obtain ⟨g1, q1, h1, _, _, _, _, h6⟩ := G.lrK i st hi
            rw [hg'] at h1; cases h1
            exact h6 (e ▸ hl)), fun e => e6 (e ▸ hl)⟩
          refine ⟨.val (.one (.bool sv)), s2.ob, s2.nx, (s.nx, st) :: s2.lr, ρ3, H3, b5, hk, I5, ?_, G5.hle, G5.re, G5.fl, rfl, trivial⟩
          refine ⟨G5.gl, G.hle.trans G5.hle, Nat.le_trans G.fl G5.fl, fun i hi => (G5.re i (Nat.lt_of_lt_of_le hi G.fl)).trans (G.re i hi), ?_, fun k hk => ?_, fun d hd => ?_, G.dn, fun l hl => ?_, fun id t hi => ?_, fun i j p q g1 u v hi hj hu hv => ?_, G.lo⟩
          · refine G.bel.trans (below_put ?_ e2)
            have h1 : Below B (b.w.putObj g X) b4.w := G5.bel
            exact (below_put (Below.refl _ _) e2).trans (h1.trans I4.below)
          · obtain ⟨h1, h2, h3⟩ := G.kp k hk
            obtain ⟨k1, k2⟩ := w0K k hk
            obtain ⟨k3, k4⟩ := keep k h1 k2 k1
            exact ⟨k3, h2, k4.trans h3⟩
          · obtain ⟨q, h1, h2, h3, h4⟩ := G.df d hd
            have hne : q ≠ g := fun e => by rw [e, e4] at h4; cases h4
            have hW := inW q h3 (fun i st g' r' hi hg' e => by
              obtain ⟨g1, q1, k1, _, _, k4, _, _⟩ := G.lrK i st hi
              rw [hg'] at k1; cases k1
              rw [e, k4] at h4; cases h4)
            obtain ⟨k3, k4⟩ := keep q h3 hne hW
            exact ⟨q, h1, h2, k3, k4.trans h4⟩
          · obtain ⟨h1, q, h2⟩ := G.rd l hl
            obtain ⟨k1, k2⟩ := rdK l hl
            obtain ⟨k3, k4⟩ := keep l h1 k2 k1
            exact ⟨k3, q, k4.trans h2⟩
          · rw [lookL_cons] at hi
            split at hi
            · rename_i e
              subst e
              cases hi
              exact ⟨g, r, hid, e2, y1, World.putObj_heap_same hgw2, e5, e6⟩
            · obtain ⟨g1, q1, k1, k2, k3, k4, k5, k6⟩ := G5.lrK id t hi
              have hne : g1 ≠ g := fun e => k6 (by rw [e])
              exact ⟨g1, q1, k1, k2, k3, (hoth5 g1 k3 hne).trans k4, fun hk => k5 (w0K g1 hk).1, fun hl => k5 (rdK g1 hl).1⟩
          · rw [lookL_cons] at hi hj
            split at hi
            · rename_i ei
              split at hj
              · rename_i ej; exact ei.symm.trans ej
              · obtain ⟨g2, q2, k1, _, _, _, _, k6⟩ := G5.lrK j q hj
                rw [show W3.lt = w0.lt from rfl, hv] at k1; cases k1
                subst ei
                rw [hid] at hu; cases hu
                exact absurd rfl k6
            · split at hj
              · rename_i ej
                obtain ⟨g2, q2, k1, _, _, _, _, k6⟩ := G5.lrK i p hi
                rw [show W3.lt = w0.lt from rfl, hu] at k1; cases k1
                subst ej
                rw [hid] at hv; cases hv
                exact absurd rfl k6
              · exact G5.lrI i j p q g1 u v hi hj hu hv
        cases e with
        | nrm => exact ⟨_, _, run_endRound none hw2, _, rfl, fin none true hk2⟩
        | ret => exact ⟨_, _, run_endRound (some .ret) hw2, _, rfl, fin (some .ret) false hk2⟩
        | ext i => exact ⟨_, _, run_endRound (some (.exit i)) hw2, _, rfl, fin (some (.ext i)) false hk2⟩
        | gto l => exact ⟨_, _, run_endRound (some (.goto l)) hw2, _, rfl, fin (some (.gto l)) false hk2⟩
    · exact hy.elim
  · exact hy.elim
end
end Go.Sx

namespace Go.Sx
open Go.RowKit
section
variable {E : Env} {h : Hints} {inl : Inl} {f : FuncId} {yt : YT} {B n : Nat}
theorem ops_ok {id : Nat} {ops : Array Oper} {b : Bool} (hc : codeOk n (.region id ops b) = true) : ∀ o ∈ ops.toList, ∀ d, o.dst = some d → d < n := by
  intro o ho d hd
  simp only [codeOk, List.all_eq_true] at hc
  have := hc o ho
  rw [hd] at this
  simpa using this
theorem range_get (ops : Array Oper) : (List.range ops.size).map (ops[·]?) = ops.toList.map some := by
  apply List.ext_getElem
  · simp
  · intro i h1 h2
    have : i < ops.size := by simpa using h1
    simp [this]
def noGoto (Q : Exit → Act → World → Prop) : Exit → Act → World → Prop
  | .goto _, _, _ => False
  | e, a, w => Q e a w
theorem wpIn_scope_straight {F : Fence} {m : Nat} {P : Program} {c : Code} {Q : Exit → Act → World → Prop} {a : Act} {w : World} (h : c.wpIn F m P (noGoto Q) a w) : (Code.scope c).wpIn F m P Q a w := by
  intro b k cs hro hb hr
  have h0 : (lone (b.atR a (.code (.scope c) :: k)) cs w).fenced P F := fenced_calm hb hr rfl
  have s1 : step P (lone (b.atR a (.code (.scope c) :: k)) cs w) = .next (lone (b.atR a (.code c :: .inScope c :: k)) cs w) := step_lone_go (by simp [Go.stepG, Go.stepG.exec, Frame.atR])
  have s2 : ∀ a w, step P (lone (b.atR a (.inScope c :: k)) cs w) = .next (lone (b.atR a k) cs w) := fun a w => step_lone_go (by simp [Go.stepG, Go.stepG.exec, Frame.atR])
  obtain ⟨e, a₁, w₁, hq, harr⟩ := h b (.inScope c :: k) cs hro hb hr
  cases e with
  | normal => exact ⟨.normal, a₁, w₁, hq, .head h0 s1 (StepsIn.trans harr (.one (fenced_calm hb hr rfl) (s2 _ _)))⟩
  | exit id =>
    have hx : exitTo id (.inScope c :: k) = exitTo id k := by simp [exitTo]
    exact ⟨.exit id, a₁, w₁, hq, fun k' hk => .head h0 s1 (harr.1 k' (by rw [hx]; exact hk)),
      fun hr' hk => let ⟨k₁, h1, h2⟩ := harr.2 hr' (by rw [hx]; exact hk); ⟨k₁, h1, .head h0 s1 h2⟩⟩
  | goto l => exact hq.elim
  | ret => exact ⟨_, a₁, w₁, hq, .of_steps (.one h0 s1) harr⟩
  | panic ch => exact ⟨_, a₁, w₁, hq, .of_steps (.one h0 s1) harr⟩
  | outgrown => exact ⟨_, a₁, w₁, hq, .of_steps (.one h0 s1) harr⟩
theorem range_ok (hE : EnvOk E) (hI : InlOk E inl) {g : Operand} {ps : Array Tmp} {assign body : Code} (ihA : ExOk E h inl f yt B n assign) (ihB : ExOk E h inl f yt B n body) (hps : ∀ p ∈ ps.toList, p < n) : ExOk E h inl f yt B n (.rangeFunc g ps assign body) := by
  intro w0 s k Q a w m hY hx hs hk
  obtain ⟨ρ, H, b, ds, I, G, hT, _, hdf, hsz⟩ := hs
  simp only [ex] at hx
  split at hx
  · rename_i f' pa pb hf'
    split at hx
    · rename_i fn hfn
      obtain ⟨hfs, hnm, _, hbd, _⟩ := hE.fb f' fn hfn
      have hv := evalO_ok (E := E) (a := a) (nx := s.nx) (ρ := ρ) G.gl (ev := lookT s.tm) (fun t sv h => ⟨(hT t sv h).2.2, (hT t sv h).2.1⟩)
      obtain ⟨⟨u1, u2, v1, v2, v3⟩, l1, l2⟩ := hv.one hf'
      have hnew : ∀ j, w.heap.size ≤ j → H j = none ∧ ∀ id o, lookO s.ob id = some o → ¬ HB (ρ id) j := fun j hj => ⟨by
        cases hh : H j with
        | none => rfl
        | some o => have := lt_of_some (I.agree _ _ hh); omega, fun id o ho => DenO.fresh I id o ho j hj⟩
      have main : ∀ (w1 : World) (g0 : Nat) (mk : List Deferred) (r : Loop), Below w.heap.size w w1 → w.heap.size ≤ g0 → w1.heap[g0]? = some (.loop (recAt r none)) → r.tmps = a.tmps → r.params = ps → r.assign = assign → r.body = body →
          (∀ d ∈ mk, ∃ q, d = markAt q ∧ w.heap.size ≤ q ∧ w1.heap[q]? = some (.deferred (some []))) → mk.Nodup →
          Calls E.P f' ⟨u1 ++ [.func (.yield g0) #[] #[]] ++ u2⟩ w1 (fun e w3 => rangePost (Fw w0.rd) m E.P g0 Q { a with defers := mk ++ a.defers } e w3) := by
        intro w1 g0 mk r hbel hg0 hg0c r1 r2 r3 r4 hmk hmn
        have hB : B ≤ w.heap.size := Nat.le_trans I.bsz I.below.size
        have hbelB : Below B w w1 := hbel.mono hB
        let ρ1 := upd ρ s.nx (.func (.yield g0) #[] #[])
        let lt1 : Nat → Option (Nat × Loop) := fun i => if i = s.nx then some (g0, r) else w0.lt i
        let wc : Base := ⟨w0.w, w0.K, H, ρ1, s.nx + 1, lt1, w0.rd⟩
        let b1 : Base := { b with w := w1, K := fun k => b.K k ∨ (w.heap.size ≤ k ∧ k < w1.heap.size) }
        have hre1 : REq s.nx ρ ρ1 := REq.upd _ _ _ (Nat.le_refl _)
        have I1 : Inv b1 B ρ1 H s.ob (s.nx + 1) w1 := by
          refine (((I.grow hbel).rebase (b' := b1) rfl ?_).rho hre1 ?_).more (Nat.le_add_right _ _)
          · rintro k (hk | ⟨hk1, hk2⟩)
            · obtain ⟨h1, h2, h3⟩ := I.kAll hk
              exact ⟨Nat.lt_of_lt_of_le h1 hbel.size, h2, h3⟩
            · exact ⟨hk2, hnew k hk1⟩
          · intro id
            simp only [ρ1, upd]
            split
            · rfl
            · exact I.one id
        have hold : ∀ j, b.K j → b1.K j ∧ b1.w.heap[j]? = b.w.heap[j]? := fun j hj => ⟨.inl hj, (hbel.block j (I.kLt hj)).trans (I.kSame hj)⟩
        have hltN : ∀ i x, w0.lt i = some x → lt1 i = some x := fun i x hx => by
          simp only [lt1]
          rw [if_neg (fun e => by rw [e, G.lo _ G.fl] at hx; cases hx)]
          exact hx
        have hnwK : ∀ j, w.heap.size ≤ j → ¬ w0.K j := fun j hj hK => by
          have := I.kLt (G.kp j hK).1; omega
        have G0 : GlB E w0 b1 B ρ H s.nx s.lr ds := G.to (I.below.trans hbelB) hold
        have G1 : GlB E wc b1 B ρ1 H (s.nx + 1) ((s.nx, none) :: s.lr) (mk ++ ds) := by
          refine ⟨G.gl, HLe.refl _, Nat.le_refl _, REq.refl _ _, G0.bel, G0.kp, fun d hd => ?_, ?_, G0.rd, fun id st hi => ?_, fun i j p q g1 u v hi hj hu hv => ?_, fun i hi => ?_⟩
          · rcases List.mem_append.1 hd with hd | hd
            · obtain ⟨q, q1, q2, q3⟩ := hmk d hd
              exact ⟨q, q1, ⟨Nat.le_trans hB q2, hnwK q q2⟩, .inr ⟨q2, lt_of_some q3⟩, q3⟩
            · exact G0.df d hd
          · refine List.nodup_append.2 ⟨hmn, G.dn, fun x hx y hy e => ?_⟩
            subst e
            obtain ⟨q, q1, q2, _⟩ := hmk x hx
            obtain ⟨p, p1, _, p3, _⟩ := G.df x hy
            rw [p1] at q1
            simp only [markAt, Deferred.mk.injEq, Target.collected.injEq, and_true] at q1
            have := I.kLt p3
            omega
          · rw [lookL_cons] at hi
            split at hi
            · rename_i e
              subst e
              cases hi
              refine ⟨g0, r, by simp [wc, lt1], Nat.le_trans hB hg0, .inr ⟨hg0, lt_of_some hg0c⟩, hg0c, hnwK g0 hg0, fun e => ?_⟩
              have := I.kLt (G.rd g0 e).1
              omega
            · rename_i hne
              obtain ⟨g1, q1, k1, k2, k3, k4, k5, k6⟩ := G0.lrK id st hi
              exact ⟨g1, q1, hltN _ _ k1, k2, k3, k4, k5, k6⟩
          · have old : ∀ i p u, lookL s.lr i = some p → i ≠ s.nx → wc.lt i = some (g1, u) → w0.lt i = some (g1, u) ∧ g1 ≠ g0 := by
              intro i p u hi hne hu
              simp only [wc, lt1] at hu
              rw [if_neg hne] at hu
              refine ⟨hu, fun e => ?_⟩
              obtain ⟨g2, q2, k1, _, k3, _⟩ := G.lrK i p hi
              rw [hu] at k1; cases k1
              have := I.kLt k3
              omega
            have nw : ∀ u, wc.lt s.nx = some (g1, u) → g1 = g0 := fun u hu => by
              simp only [wc, lt1, if_true] at hu
              cases hu; rfl
            rw [lookL_cons] at hi hj
            split at hi
            · rename_i ei
              split at hj
              · rename_i ej; exact ei.symm.trans ej
              · rename_i ej
                rw [← ei] at hu
                exact absurd (nw u hu) (old j q v hj (fun e => ej e.symm) hv).2
            · rename_i ei
              split at hj
              · rename_i ej
                rw [← ej] at hv
                exact absurd (nw v hv) (old i p u hi (fun e => ei e.symm) hu).2
              · rename_i ej
                exact G.lrI i j p q g1 u v hi hj (old i p u hi (fun e => ei e.symm) hu).1 (old j q v hj (fun e => ej e.symm) hv).1
          · simp only [wc, lt1]
            have hi' : s.nx + 1 ≤ i := hi
            rw [if_neg (by omega)]
            exact G.lo i (Nat.le_trans G.fl (by omega))
        have hY1 : YtOk E wc B yt := hY.mono (Nat.le_trans G.fl (Nat.le_add_right _ _)) (fun i hi => (hre1 i (Nat.lt_of_lt_of_le hi G.fl)).trans (G.re i hi)) G.hle hltN
        have hround := round_ok (ρ1 := ρ1) (lt1 := lt1) (g := g0) (r := r) ihA ihB hps hT hsz hY G.fl G.re G.hle hre1 r1 r2 r3 r4 hltN
        have hY2 : YtOk E wc B (fun i => bif i == s.nx then some (fun vs ob nx lr k' => match lookL lr s.nx with
              | some none => if vs.length = ps.size then
                  ex E h inl f yt assign nx ⟨setPs ps.toList vs s.tm, ob, nx, delL s.nx lr⟩ fun
                    | .nrm, s1 => ex E h inl f yt body nx s1 fun
                      | .nrm, s2 => k' (.val (.one (.bool true))) s2.ob s2.nx ((s.nx, none) :: s2.lr)
                      | e, s2 => k' (.val (.one (.bool false))) s2.ob s2.nx ((s.nx, some e) :: s2.lr)
                    | _, _ => False
                else False
              | _ => False) else yt i) := by
          intro id y hy
          by_cases e : id = s.nx
          · subst e
            simp only [beq_self_eq_true, cond_true, Option.some.injEq] at hy
            subst hy
            exact ⟨Nat.lt_succ_self _, g0, r, by simp [wc, lt1], upd_same _ _ _, hround⟩
          · have : (id == s.nx) = false := by simpa using e
            exact hY1 id y (by simpa only [this, cond_false] using hy)
        have hcall := hI _ _ _ _ _ _ _ hx wc b1 B ρ1 H (mk ++ ds) (u1 ++ [.func (.yield g0) #[] #[]] ++ u2) w1 I1 G1 hY2
          (((ptrVs_den (v2.mono hre1 l1)).append (show DenVs ρ1 H [.one (.yl s.nx)] [.func (.yield g0) #[] #[]] from ⟨_, [], rfl, (upd_same _ _ _).symm, rfl⟩)).append (ptrVs_den (v3.mono hre1 l2))) (by
            intro v hv
            rcases List.mem_append.1 hv with hv | hv
            · rcases List.mem_append.1 hv with hv | hv
              · exact ptrVs_lt (fun p hp => Nat.lt_succ_of_lt (l1 p hp)) v hv
              · simp only [List.mem_singleton] at hv; subst hv; exact Nat.lt_succ_self _
            · exact ptrVs_lt (fun p hp => Nat.lt_succ_of_lt (l2 p hp)) v hv)
        refine hcall.mono ?_
        rintro e w3 ⟨v, rfl, sv, ob', nx', lr', ρ', H', b', hk', I', G', hle', hre', hn', _, _⟩
        have fin : ∀ (st : Option Ex), lookL lr' s.nx = some st → (Instr.endLoop g0).run E.P w3 = .ok (recAt r st).pending (w3.putObj g0 (.loop { recAt r st with state := .exhausted })) ∧
            Sat E w0 B n ⟨s.tm, ob', nx', delL s.nx lr'⟩ [] { a with defers := mk ++ a.defers } (w3.putObj g0 (.loop { recAt r st with state := .exhausted })) := by
          intro st hst
          obtain ⟨g2, q2, k1, k2, k3, k4, k5, k6⟩ := G'.lrK _ _ hst
          simp only [wc, lt1, if_true] at k1
          cases k1
          have hw3 : w3.heap[g0]? = some (.loop (recAt r st)) := (I'.kSame k3).trans k4
          refine ⟨run_endLoop hw3 (recAt_state r st), ?_⟩
          let b4 : Base := { b' with w := w3.putObj g0 (.loop { recAt r st with state := .exhausted }) }
          have I4 : Inv b4 B ρ' H' ob' nx' b4.w := I'.turn k3 rfl (fun k hk => hk)
          have G4 : GlB E wc b4 B ρ' H' nx' (delL s.nx lr') (mk ++ ds) := G'.del hst (g := g0) (r := r) (by simp [wc, lt1]) (below_put I'.below k2) (fun k hk hne => ⟨hk, (World.putObj_heap_other hne).trans (I'.kSame hk)⟩)
          have hre2 : REq s.nx ρ ρ' := fun i hi => (hre' i (Nat.lt_succ_of_lt hi)).trans (hre1 i hi)
          have hltB : ∀ i st, lookL (delL s.nx lr') i = some st → wc.lt i = w0.lt i := fun i st hi => by
            rw [lookL_delL] at hi
            split at hi
            · cases hi
            · rename_i hne; simp only [wc, lt1]; rw [if_neg hne]
          refine ⟨ρ', H', b4, mk ++ ds, I4, ⟨G4.gl, G.hle.trans G4.hle, Nat.le_trans G.fl (show s.nx ≤ nx' by omega), fun i hi => (hre2 i (Nat.lt_of_lt_of_le hi G.fl)).trans (G.re i hi), G4.bel, G4.kp, G4.df, G4.dn, G4.rd, fun id st hi => ?_, fun i j p q g1 u v hi hj hu hv => ?_, G.lo⟩, hT.mono hre2 hle' (show s.nx ≤ nx' by omega), by simp, by rw [hdf], hsz⟩
          · obtain ⟨g1, q1, h1, h2⟩ := G4.lrK id st hi
            rw [hltB id st hi] at h1
            exact ⟨g1, q1, h1, h2⟩
          · exact G4.lrI i j p q g1 u v hi hj (by rw [hltB i p hi]; exact hu) (by rw [hltB j q hj]; exact hv)
        split at hk'
        · rename_i hst
          obtain ⟨f1, f2⟩ := fin none hst
          exact ⟨_, _, f1, hk .nrm _ _ _ hk' f2⟩
        · rename_i e hst
          obtain ⟨f1, f2⟩ := fin (some e) hst
          refine ⟨_, _, f1, ?_⟩
          have hq := hk e _ _ _ hk' f2
          cases e with
          | nrm => exact hq
          | ret => exact wpIn_ret hq
          | ext i => exact wpIn_exit hq
          | gto l => exact wpIn_goto hq
        · exact hk'.elim
      refine wpIn_rangeFunc fun fn0 _ => ?_
      have hn' : ¬ fn.name = "runtime.NumGoroutine" := by simpa using hnm
      have hres : ∀ (l : Nat) (w' : World), (resolve a.eval (rangeCall g l) 0).run E.P w' = .ok { target := .fn (.func f') ⟨u2⟩, args := ⟨u1⟩ ++ #[.func (.yield l) #[] #[]] } w' := by
        intro l w'
        have hcst : ∀ v : Value, a.eval (.const v) = v := fun _ => rfl
        simp [resolve, v1, Deferred.ofValue, hcst]
      have hinv : ∀ (l : Nat) (w' : World), (invoke (.fn (.func f') ⟨u2⟩) ((⟨u1⟩ : Array Value) ++ #[.func (.yield l) #[] #[]])).run E.P w' = .ok (.enter f' ⟨u1 ++ [.func (.yield l) #[] #[]] ++ u2⟩) w' := by
        intro l w'
        have : ((⟨u1⟩ : Array Value) ++ #[.func (.yield l) #[] #[]] ++ (⟨u2⟩ : Array Value)) = ⟨u1 ++ [.func (.yield l) #[] #[]] ++ u2⟩ := by apply Array.ext'; simp
        rw [← this]
        simp [invoke, callFunc, hfs, hbd, hn']
      have hdep : (Fw w0.rd).depth.isSome = true → 1 ≤ m := fun h => by simp [Fw, Fence.wide] at h
      cases hrd : w0.rd with
      | none =>
        have hmain := main ((w.alloc (.deferred (some []))).alloc (.loop { state := .ready, pending := none, fn := fn0, tmps := a.tmps, params := ps, assign, body, defers := w.heap.size })) (w.heap.size + 1) [markAt w.heap.size]
          { state := .ready, pending := none, fn := fn0, tmps := a.tmps, params := ps, assign, body, defers := w.heap.size }
          (((Below.refl _ _).alloc (Nat.le_refl _) _).alloc (by simp) _) (by omega) (by
            have := World.alloc_heap_new (w.alloc (.deferred (some []))) (.loop { state := .ready, pending := none, fn := fn0, tmps := a.tmps, params := ps, assign, body, defers := w.heap.size })
            simpa [recAt] using this) rfl rfl rfl rfl (by
            intro d hd
            simp only [List.mem_singleton] at hd
            subst hd
            refine ⟨_, rfl, Nat.le_refl _, ?_⟩
            rw [Below.heap_alloc _ _ _ (by simp)]
            exact World.alloc_heap_new _ _) (by simp)
        rw [hrd] at hmain hdep
        exact ⟨w.heap.size + 1, [markAt w.heap.size], _, _, _, f', _, _, run_enterLoop_outer fn0 a.tmps ps assign body, hres _ _, fun _ _ => trivial, hinv _ _, hdep, callsIn_Fw hmain⟩
      | some l0 =>
        obtain ⟨q1, r0, q2⟩ := G.rd l0 hrd
        have hmain := main (w.alloc (.loop { state := .ready, pending := none, fn := fn0, tmps := a.tmps, params := ps, assign, body, defers := r0.defers })) w.heap.size []
          { state := .ready, pending := none, fn := fn0, tmps := a.tmps, params := ps, assign, body, defers := r0.defers }
          ((Below.refl _ _).alloc (Nat.le_refl _) _) (Nat.le_refl _) (by
            have := World.alloc_heap_new w (.loop { state := .ready, pending := none, fn := fn0, tmps := a.tmps, params := ps, assign, body, defers := r0.defers })
            simpa [recAt] using this) rfl rfl rfl rfl (by simp) (by simp)
        rw [hrd] at hmain hdep
        exact ⟨w.heap.size, [], _, _, _, f', _, _, run_enterLoop_inner ((I.kSame q1).trans q2) fn0 a.tmps ps assign body, hres _ _, fun _ _ => trivial, hinv _ _, hdep, callsIn_Fw hmain⟩
    · exact hx.elim
  · exact hx.elim
theorem ex_sound (hE : EnvOk E) (hI : InlOk E inl) (hmix : E.P.follows .mixedOrders = true) : ∀ (c : Code), codeOk n c = true → ExOk E h inl f yt B n c := by
  intro c
  induction c with
  | skip => intro _ w0 s k Q a w m _ hx hs hk; exact wpIn_skip (hk .nrm s a w hx hs)
  | label l => intro _ w0 s k Q a w m _ hx hs hk; exact wpIn_label (hk .nrm s a w hx hs)
  | exit id => intro _ w0 s k Q a w m _ hx hs hk; exact wpIn_exit (hk (.ext id) s a w hx hs)
  | goto l => intro _ w0 s k Q a w m _ hx hs hk; exact wpIn_goto (hk (.gto l) s a w hx hs)
  | ret => intro _ w0 s k Q a w m _ hx hs hk; exact wpIn_ret (hk .ret s a w hx hs)
  | region id ops b =>
    intro hc w0 s k Q a w m hY hx hs hk
    have reg : ∀ s : St, exReg E inl yt ops b s (k .nrm) → Sat E w0 B n s [] a w → (Code.region id ops b).wpIn (Fw w0.rd) m E.P Q a w := by
      intro s hx hs
      simp only [exReg, frcN_eq] at hx
      cases b with
      | false => exact wpIn_region (seq_sound hE hI hY (ops_ok hc) (fun s' a' w' h1 h2 => hk .nrm s' a' w' h1 h2) ops.toList _ s [] a w (range_get ops) hx hs)
      | true =>
        simp only [] at hx
        exact draw_sound hE hI hY hmix (ops_ok hc) (fun s' a' w' h1 h2 => hk .nrm s' a' w' h1 h2) hx hs
    simp only [ex, frcSt_eq] at hx
    split at hx
    · rename_i L hL
      obtain ⟨⟨g, hg, hm⟩, hround⟩ := hx
      exact reg (L.S g) (hround g hg) (mtch_sound hm hs)
    · exact reg s hx hs
  | seq x y ihx ihy =>
    intro hc w0 s k Q a w m hY hx hs hk
    simp only [codeOk, Bool.and_eq_true] at hc
    simp only [ex] at hx
    refine wpIn_seq (ihx hc.1 w0 s _ _ a w m hY hx hs ?_)
    intro e s' a' w' h1 h2
    cases e with
    | nrm => exact ihy hc.2 w0 s' k Q a' w' m hY h1 h2 hk
    | ret => exact hk _ _ _ _ h1 h2
    | ext id => exact hk _ _ _ _ h1 h2
    | gto l => exact hk _ _ _ _ h1 h2
  | cond c x y ihx ihy =>
    intro hc w0 s k Q a w m hY hx hs hk
    simp only [codeOk, Bool.and_eq_true] at hc
    simp only [ex] at hx
    split at hx
    · rename_i t ht
      rw [splitB_iff] at hx
      obtain ⟨ρ, H, b, ds, I, G, hT, _⟩ := id hs
      have := (evalO_ok (E := E) (a := a) (nx := s.nx) (ρ := ρ) G.gl (ev := lookT s.tm) (fun t sv h => ⟨(hT t sv h).2.2, (hT t sv h).2.1⟩) _ _ ht).1
      exact wpIn_cond_split this (fun e => ihx hc.1 w0 s k Q a w m hY (hx.1 e) hs hk) (fun e => ihy hc.2 w0 s k Q a w m hY (hx.2 e) hs hk)
    · exact hx.elim
  | block id c ih =>
    intro hc w0 s k Q a w m hY hx hs hk
    simp only [codeOk] at hc
    simp only [ex] at hx
    refine wpIn_block (ih hc w0 s _ _ a w m hY hx hs ?_)
    intro e s' a' w' h1 h2
    cases e with
    | nrm => exact hk _ _ _ _ h1 h2
    | ret => exact hk _ _ _ _ h1 h2
    | ext i =>
      simp only [] at h1
      simp only [exitOf, Exit.inBlock]
      split at h1
      · rename_i e; rw [if_pos e]; exact hk .nrm s' a' w' h1 h2
      · rename_i e; rw [if_neg e]; exact hk (.ext i) s' a' w' h1 h2
    | gto l => exact hk _ _ _ _ h1 h2
  | scope c ih =>
    intro hc w0 s k Q a w m hY hx hs hk
    simp only [codeOk] at hc
    simp only [ex] at hx
    refine wpIn_scope_straight (ih hc w0 s _ _ a w m hY hx hs ?_)
    intro e s' a' w' h1 h2
    cases e with
    | nrm => exact hk .nrm _ _ _ h1 h2
    | ret => exact hk .ret _ _ _ h1 h2
    | ext i => exact hk (.ext i) _ _ _ h1 h2
    | gto l => exact h1.elim
  | loop c ih =>
    intro hc w0 s k Q a w m hY hx hs hk
    simp only [codeOk] at hc
    simp only [ex, frcSt_eq] at hx
    split at hx
    · rename_i L hL
      obtain ⟨⟨g, hg, hm⟩, hround⟩ := hx
      refine wpIn_loop_ghost (fun j a w => ∃ g, L.J g ∧ L.μ g = j ∧ Sat E w0 B n (L.S g) [] a w) (L.μ g) ⟨g, hg, rfl, mtch_sound hm hs⟩ ?_
      rintro j a w ⟨g, hg, rfl, hs⟩
      refine ih hc w0 (L.S g) _ _ a w m hY (hround g hg) hs ?_
      intro e s' a' w' h1 h2
      cases e with
      | nrm =>
        obtain ⟨g', hg', hlt, hm'⟩ := h1
        exact ⟨L.μ g', hlt, g', hg', rfl, mtch_sound hm' h2⟩
      | ret => exact hk _ _ _ _ h1 h2
      | ext id => exact hk _ _ _ _ h1 h2
      | gto l => exact hk _ _ _ _ h1 h2
    · refine wpIn_loop_ghost (fun j a w => ∃ s, loopN j (ex E h inl f yt c w0.fl) s k ∧ Sat E w0 B n s [] a w) h.un ⟨s, hx, hs⟩ ?_
      rintro j a w ⟨s, hx, hs⟩
      cases j with
      | zero => exact hx.elim
      | succ j =>
        refine ih hc w0 s _ _ a w m hY hx hs ?_
        intro e s' a' w' h1 h2
        cases e with
        | nrm => exact ⟨j, Nat.lt_succ_self _, s', h1, h2⟩
        | ret => exact hk _ _ _ _ h1 h2
        | ext id => exact hk _ _ _ _ h1 h2
        | gto l => exact hk _ _ _ _ h1 h2
  | rangeFunc g ps x y ihx ihy =>
    intro hc
    simp only [codeOk, Bool.and_eq_true, List.all_eq_true, decide_eq_true_eq] at hc
    exact range_ok hE hI (ihx hc.1.2) (ihy hc.2) hc.1.1
  | _ => intro _ w0 s k Q a w m _ hx; simp [ex] at hx
end
end Go.Sx

namespace Go.Sx
open Go.RowKit
def resRead (tmps : Array Value) : ResultVar → Sem Value
  | .tmp t => pure (tmps.getD t undef)
  | .cell x t => do loadVar t (← asAddr (tmps.getD x undef))
theorem results_eq (fn : Func) (tmps : Array Value) : results fn tmps = (do
    let vs ← fn.results.mapM (resRead tmps)
    pure (if h : vs.size = 1 then vs[0] else .tuple vs)) := by
  unfold results
  congr 1
section
variable {E : Env} {w0 : Base} {B n : Nat} {ρ : Nat → Value} {H H0 : IH} {ob : List (Nat × Option AObj)} {nx : Nat} {w : World} {a : Act}
theorem resV_ok (hE : EnvOk E) {s : St} (I : Inv w0 B ρ H s.ob s.nx w) (hT : TmOk ρ H s.tm s.nx a.tmps) : ∀ {l : List ResultVar} {ps : List Prop} {vs : List V}, resV E s l = some (ps, vs) → (∀ p ∈ ps, p) →
    ∃ us : List Value, (l.mapM (resRead a.tmps)).run E.P w = .ok us w ∧ DenVs ρ H vs us ∧ ∀ v ∈ vs, v.lt s.nx
  | [], ps, vs, h, _ => by cases h; exact ⟨[], by simp, rfl, by simp⟩
  | .tmp t :: r, ps, vs, h, hp => by
    simp only [resV] at h
    split at h
    · rename_i v hv
      obtain ⟨x, h1, h2⟩ := Option.map_eq_some_iff.1 h
      obtain ⟨ps', vs'⟩ := x
      cases h2
      obtain ⟨us, k1, k2, k3⟩ := resV_ok hE I hT h1 hp
      have hl : DenV ρ H v (a.tmps.getD t undef) ∧ v.lt s.nx := by
        cases hx : lookT s.tm t with
        | none => rw [hx] at hv; cases hv
        | some sv => cases sv with
          | val v' => rw [hx] at hv; simp only [Option.bind_some, val?] at hv; cases hv; exact ⟨(hT t _ hx).2.2, (hT t _ hx).2.1⟩
          | tup _ => rw [hx] at hv; simp [val?] at hv
      exact ⟨_ :: us, by simp only [List.mapM_cons, resRead, Sem.run_bind, Sem.run_pure, Result.andThen_ok, k1], ⟨_, _, rfl, hl.1, k2⟩, fun x hx => by rcases List.mem_cons.1 hx with rfl | hx; exact hl.2; exact k3 x hx⟩
    · cases h
  | .cell x T :: r, ps, vs, h, hp => by
    simp only [resV] at h
    split at h
    · rename_i d c hT' hc
      split at h
      · rename_i qs cs hload
        obtain ⟨v, h1, h2⟩ := Option.bind_eq_some_iff.1 h
        obtain ⟨y, h3, h4⟩ := Option.map_eq_some_iff.1 h2
        obtain ⟨ps', vs'⟩ := y
        cases h4
        simp only [List.mem_append] at hp
        obtain ⟨us, k1, k2, k3⟩ := resV_ok hE I hT h3 (fun p h => hp p (.inr h))
        have hl : DenC ρ H c (a.tmps.getD x undef) := by
          cases hx : lookT s.tm x with
          | none => rw [hx] at hc; cases hc
          | some sv => cases sv with
            | val v' => cases v' with
              | one c' => rw [hx] at hc; simp only [Option.bind_some, one?] at hc; cases hc; exact (hT x _ hx).2.2
              | agg _ => rw [hx] at hc; simp [one?] at hc
            | tup _ => rw [hx] at hc; simp [one?] at hc
        obtain ⟨g, off, cur, e, fr, l1, l2, l3, l4, l7⟩ := loadC_ok I hload (fun p h => hp p (.inl h)) hl
        obtain ⟨u, l5, l6⟩ := run_loadVar_den (hE.tt T d hT') l2 l3 l4 h1
        have ha : (asAddr (.pointer (some ⟨g, off, none⟩))).run E.P w = .ok ⟨g, off, none⟩ w := by simp [asAddr]
        have hvl : v.lt s.nx := by
          unfold mkV at h1
          cases hag : d.agg with
          | true => rw [hag] at h1; cases h1; exact l7
          | false =>
            rw [hag] at h1
            simp only [cond_false] at h1
            split at h1
            · rename_i c1
              cases h1; exact l7 (.one c1) (by simp)
            · cases h1
        refine ⟨u :: us, ?_, ⟨_, _, rfl, l6, k2⟩, fun x hx => by rcases List.mem_cons.1 hx with rfl | hx; exact hvl; exact k3 x hx⟩
        simp only [List.mapM_cons, resRead, Sem.run_bind, l1, ha, Result.andThen_ok, l5, k1, Sem.run_pure]
      · cases h
    · cases h
theorem DenVs.len : ∀ {vs : List V} {us : List Value}, DenVs ρ H vs us → us.length = vs.length
  | [], _, h => by rw [show _ = _ from h]; rfl
  | _ :: _, _, h => by obtain ⟨v, r, rfl, _, h'⟩ := h; simp [DenVs.len h']
theorem results_ok (hE : EnvOk E) {s : St} (I : Inv w0 B ρ H s.ob s.nx w) (hT : TmOk ρ H s.tm s.nx a.tmps) {fn : Func} {ps : List Prop} {vs : List V} (h : resV E s fn.results.toList = some (ps, vs)) (hp : ∀ p ∈ ps, p) :
    ∃ v, (results fn a.tmps).run E.P w = .ok v w ∧ DenSV ρ H (resSV vs) v ∧ (resSV vs).lt s.nx := by
  obtain ⟨us, k1, k2, k3⟩ := resV_ok hE I hT h hp
  have hl := DenVs.len k2
  refine ⟨if hh : us.toArray.size = 1 then us.toArray[0] else .tuple us.toArray, ?_, ?_⟩
  · rw [results_eq, Array.mapM_eq_mapM_toList]
    simp only [Sem.run_bind, Sem.run_map, k1, Sem.run_pure, Result.andThen_ok]
  · match vs, us, k2, k3, hl with
    | [v], us, k2, k3, hl =>
      obtain ⟨u, us', rfl, h1, h2⟩ := k2
      have : us' = [] := h2
      subst this
      exact ⟨h1, k3 v (by simp)⟩
    | [], us, k2, k3, hl =>
      have : us = [] := k2
      subst this
      exact ⟨⟨[], rfl, rfl⟩, k3⟩
    | v1 :: v2 :: r, us, k2, k3, hl =>
      have : ¬ us.toArray.size = 1 := by simp at hl ⊢; omega
      rw [dif_neg this]
      exact ⟨⟨us, rfl, k2⟩, k3⟩
def resPure : SV → Bool
  | .val v => match aggFr v with
    | none => isFrs v || pureV v
    | some vs => vs.all fun v => isFrs v || pureV v
  | .tup vs => vs.all fun v => isFrs v || pureV v
theorem mRes_ok {s : St} (I : Inv w0 B ρ H0 s.ob s.nx w) {M m m' : Mt} (hps : ∀ p ∈ M.ps, p) (hfz : ∀ id ∈ M.fz, FzP ρ H id (lookO s.ob id))
    (hob : ∀ id k, lnOf M.ln k = some (some id) → ∀ p, lookO s.ob id = some p → DenO w B ρ H id p) {x y : V} (h : mRes (lookO s.ob) m x y = some m') :
    m.le m' ∧ (m'.le M → (isFrs y || pureV y) = true → ∀ v, DenV ρ H x v → DenRV w B H y v ∧ (isFrs y = true → ∀ b, HB v b → ∃ id p, lnOf m.ln id = none ∧ lnOf m'.ln id = some (some id) ∧ lookO s.ob id = some p ∧ v = ρ id)) := by
  unfold mRes at h
  split at h
  · rename_i id t' ys
    split at h
    · rename_i t xs hrow
      split at h
      · rename_i e
        subst e
        split at h
        · rename_i hln
          cases h
          refine ⟨⟨fun p hp => by simp [hp], fun k v hv => ?_, fun _ h => h⟩, fun hle _ v hv => ?_⟩
          · rw [lnOf_cons]
            split
            · rename_i e; subst e; rw [hln] at hv; cases hv
            · exact hv
          · have e1 : xs = ys := hps _ (hle.1 _ (by simp))
            subst e1
            have hl : lnOf ((id, some id) :: m.ln) id = some (some id) := by simp [lnOf_cons]
            have hd := hob id id (hle.2.1 _ _ hl) _ hrow
            rw [show v = ρ id from hv]
            exact ⟨hd, fun _ b _ => ⟨id, _, hln, hl, hrow, rfl⟩⟩
        · cases h
      · cases h
    · cases h
  · rename_i t ys
    obtain ⟨k1, k2⟩ := Mt.eq_ok h
    refine ⟨k1, fun hle _ v hv => ?_⟩
    have e : ys = [] := hps _ (hle.1 _ k2)
    have hv' : v = .slice none 0 0 := hv
    refine ⟨.inl ⟨hv', e⟩, fun _ b hb => ?_⟩
    rw [hv'] at hb
    rcases hb with e | ⟨_, _, e⟩ | e <;> cases e
  · obtain ⟨k1, k2⟩ := mV_ok (fl := 0) (by simp [lnFl]) hps I.one hfz h
    refine ⟨k1, fun hle hy v hv => ?_⟩
    have hnf : isFrs y = false := by
      cases hf : isFrs y with
      | false => rfl
      | true =>
        cases y with
        | agg => simp [isFrs] at hf
        | one c => cases c <;> simp [isFrs] at hf
                   rename_i t xs
                   cases x <;> simp [mV, mC] at h
    rw [hnf, Bool.false_or] at hy
    refine ⟨?_, fun h => by rw [hnf] at h; cases h⟩
    have hd := pureV_den (ρ' := ρ0) hy (k2 hle v hv)
    cases y with
    | agg cs => exact ⟨hy, hd⟩
    | one c => cases c <;> first | exact ⟨hy, hd⟩ | simp [isFrs] at hnf
theorem mRess_ok {s : St} (I : Inv w0 B ρ H0 s.ob s.nx w) {M : Mt} (hps : ∀ p ∈ M.ps, p) (hfz : ∀ id ∈ M.fz, FzP ρ H id (lookO s.ob id))
    (hob : ∀ id k, lnOf M.ln k = some (some id) → ∀ p, lookO s.ob id = some p → DenO w B ρ H id p) : ∀ {xs ys : List V} {m m' : Mt}, mRess (lookO s.ob) m xs ys = some m' →
    m.le m' ∧ (m'.le M → (∀ y ∈ ys, (isFrs y || pureV y) = true) → ∀ vs, DenVs ρ H xs vs → DenRVs w B H ys vs ∧ ∀ id p b, lnOf m.ln id = some (some id) → lookO s.ob id = some p → HB (ρ id) b → FrsFree b ys vs)
  | [], [], m, m', h => by cases h; exact ⟨Mt.le_refl _, fun _ _ vs hv => ⟨hv, fun _ _ _ _ _ _ => trivial⟩⟩
  | x :: r, y :: r', m, m', h => by
    simp only [mRess] at h
    obtain ⟨m1, h1, h2⟩ := Option.bind_eq_some_iff.1 h
    obtain ⟨k1, k2⟩ := mRes_ok I hps hfz hob h1
    obtain ⟨k3, k4⟩ := mRess_ok I hps hfz hob h2
    refine ⟨k1.trans k3, fun hle hy vs hv => ?_⟩
    obtain ⟨v, vs', rfl, hv1, hv2⟩ := hv
    obtain ⟨q1, q2⟩ := k2 (k3.trans hle) (hy y (by simp)) v hv1
    obtain ⟨q3, q4⟩ := k4 hle (fun z hz => hy z (by simp [hz])) vs' hv2
    refine ⟨⟨v, vs', rfl, q1, q3, fun hf b hb => ?_⟩, fun id p b hl hp hb => ⟨fun hf hb2 => ?_, ?_⟩⟩
    · obtain ⟨id, p, _, l2, l3, l4⟩ := q2 hf b hb
      exact q4 id p b l2 l3 (by rw [← l4]; exact hb)
    · obtain ⟨id', p', l1, _, l3, l4⟩ := q2 hf b hb2
      refine I.sep id id' p p' (fun e => ?_) hp l3 b hb (by rw [← l4]; exact hb2)
      subst e
      rw [hl] at l1; cases l1
    · exact q4 id p b (k1.2.1 _ _ hl) hp hb
  | [], _ :: _, m, m', h => by simp [mRess] at h
  | _ :: _, [], m, m', h => by simp [mRess] at h
theorem resOk_ok {s : St} (I : Inv w0 B ρ H s.ob s.nx w) {r r' : SV} {v : Value} (h : resOk (lookO s.ob) r r') (hp : resPure r' = true) (hd : DenSV ρ H r v) (hl : r.lt s.nx) :
    ∃ H', HLe H H' ∧ Agree H' w ∧ (∀ b, w0.K b → H' b = none) ∧ DenRSV w B H' r' v := by
  unfold resOk at h
  split at h
  · rename_i M hM
    split at h
    · rename_i hmok
      rw [conj_iff] at h
      have hps : ∀ p ∈ M.ps, p := fun p hp => h.1 p (by simpa using hp)
      simp only [mOk, Bool.and_eq_true, List.all_eq_true, decide_eq_true_eq] at hmok
      obtain ⟨⟨hm1, hm2⟩, _⟩ := hmok
      obtain ⟨H', hle, hag, hK, hob, hfz⟩ := freeze (ρ := ρ) (w := w) (w0 := w0) (B := B) (nx := s.nx) M.fz H s.ob I hm2
      have hob' : ∀ id k, lnOf M.ln k = some (some id) → ∀ p, lookO s.ob id = some p → DenO w B ρ H' id p := fun id k hl p hp => hob id p hp (by
        have := hm1 id (List.mem_filterMap.2 ⟨_, lnOf_mem hl, rfl⟩)
        simpa using this)
      have hd' := hd.mono (REq.refl _ _) hle hl
      refine ⟨H', hle, hag, hK, ?_⟩
      split at hM
      · rename_i a b
        cases hag : aggFr b with
        | none =>
          rw [hag] at hM
          simp only [resPure, hag] at hp
          obtain ⟨_, k2⟩ := mRes_ok I hps hfz hob' hM
          show match aggFr b with
            | none => DenRV w B H' b v
            | some xs => ∃ vs : List Value, v = .agg ⟨vs⟩ ∧ DenRVs w B H' xs vs
          rw [hag]
          exact (k2 (Mt.le_refl _) hp v hd').1
        | some ys =>
          rw [hag] at hM
          simp only [resPure, hag] at hp
          show match aggFr b with
            | none => DenRV w B H' b v
            | some xs => ∃ vs : List Value, v = .agg ⟨vs⟩ ∧ DenRVs w B H' xs vs
          rw [hag]
          cases a with
          | one c => cases hM
          | agg cs =>
            obtain ⟨xs, hcs, hM⟩ := Option.bind_eq_some_iff.1 hM
            obtain ⟨_, k2⟩ := mRess_ok I hps hfz hob' hM
            obtain ⟨us, e, hus⟩ := hd'
            exact ⟨us, e, (k2 (Mt.le_refl _) (fun y hy => List.all_eq_true.1 hp y hy) us (chsV_den hcs hus)).1⟩
      · obtain ⟨_, k2⟩ := mRess_ok I hps hfz hob' hM
        obtain ⟨us, e, hus⟩ := hd'
        exact ⟨us, e, (k2 (Mt.le_refl _) (fun y hy => List.all_eq_true.1 hp y hy) us hus).1⟩
      · cases hM
    · exact h.elim
  · exact h.elim
theorem argTm_look : ∀ (vs : List V) (i t : Nat), lookT (argTm i vs) t = if i ≤ t then (vs[t - i]?).map SV.val else none
  | [], i, t => by simp [argTm, lookT]
  | v :: r, i, t => by
    rw [argTm, lookT_cons, argTm_look r (i + 1) t]
    by_cases h1 : i = t
    · subst h1; simp
    · rw [if_neg h1]
      by_cases h2 : i ≤ t
      · rw [if_pos h2, if_pos (by omega), show t - i = t - (i + 1) + 1 by omega, List.getElem?_cons_succ]
      · rw [if_neg h2, if_neg (by omega)]
theorem DenVs.get : ∀ {vs : List V} {us : List Value} {i : Nat} {v : V}, DenVs ρ H vs us → vs[i]? = some v → ∃ u, us[i]? = some u ∧ DenV ρ H v u
  | [], _, _, _, _, h => by simp at h
  | x :: r, us, 0, v, h, hv => by
    obtain ⟨u, us', rfl, h1, _⟩ := h
    simp only [List.getElem?_cons_zero, Option.some.injEq] at hv
    subst hv
    exact ⟨u, rfl, h1⟩
  | x :: r, us, i + 1, v, h, hv => by
    obtain ⟨u, us', rfl, _, h2⟩ := h
    obtain ⟨u', k1, k2⟩ := DenVs.get h2 (by simpa using hv)
    exact ⟨u', by simpa using k1, k2⟩
theorem leaves_ok {lr : LR} {m : Nat} {fn : Func} {tmps : Array Value} {R : Ending → World → Prop} : ∀ {ds : List Deferred} {b : Base} {w : World}, Inv b B ρ H ob nx w → GlB E w0 b B ρ H nx lr ds →
    (∀ b' w', Inv b' B ρ H ob nx w' → GlB E w0 b' B ρ H nx lr [] → ∃ v, (results fn tmps).run E.P w' = .ok v w' ∧ R (.returned v) w') → LeavesInM (Fw none) m E.P fn tmps R ds .returning w
  | [], b, w, I, G, fin => fin b w I G
  | d :: ds, b, w, I, G, fin => by
    obtain ⟨r, h1, h2, h3, h4⟩ := G.df d (by simp)
    have hw : w.heap[r]? = some (.deferred (some [])) := (I.kSame h3).trans h4
    let b1 : Base := { b with w := w.putObj r (.deferred none) }
    have I1 : Inv b1 B ρ H ob nx b1.w := I.turn h3 rfl (fun k hk => hk)
    have hoth : ∀ k, b.K k → k ≠ r → b1.w.heap[k]? = b.w.heap[k]? := fun k hk hne => (World.putObj_heap_other hne).trans (I.kSame hk)
    have G1 : GlB E w0 b1 B ρ H nx lr ds := by
      refine { G with bel := below_put (G.bel.trans I.below) h2.1, kp := fun k hk => ?_, df := fun d' hd => ?_, dn := (List.nodup_cons.1 G.dn).2, rd := fun l hl => ?_, lrK := fun id st hi => ?_ }
      · obtain ⟨k1, k2, k3⟩ := G.kp k hk
        have hne : k ≠ r := fun e => h2.2 (e ▸ hk)
        exact ⟨k1, k2, (hoth k k1 hne).trans k3⟩
      · obtain ⟨q, k1, k2, k3, k4⟩ := G.df d' (by simp [hd])
        have hne : q ≠ r := fun e => by
          rw [k1, e, ← h1] at hd
          exact (List.nodup_cons.1 G.dn).1 hd
        exact ⟨q, k1, k2, k3, (hoth q k3 hne).trans k4⟩
      · obtain ⟨k1, q, k2⟩ := G.rd l hl
        have hne : l ≠ r := fun e => by rw [e, h4] at k2; cases k2
        exact ⟨k1, q, (hoth l k1 hne).trans k2⟩
      · obtain ⟨g, q, k1, k2, k3, k4, k5⟩ := G.lrK id st hi
        have hne : g ≠ r := fun e => by rw [e, h4] at k4; cases k4
        exact ⟨g, q, k1, k2, k3, (hoth g k3 hne).trans k4, k5⟩
    refine ⟨by simp, .inl ⟨r, _, by rw [h1]; rfl, run_takeDeferred hw, leaves_ok I1 G1 fin⟩⟩
theorem args_ok {ntmps : Nat} {args : List V} {vs : List Value} (hd : DenVs ρ H args vs) (hl : ∀ v ∈ args, v.lt nx) (hlen : args.length ≤ ntmps) :
    TmOk ρ H (argTm 0 args) nx ((⟨vs⟩ : Array Value) ++ Array.replicate (ntmps - vs.length) undef) ∧ ((⟨vs⟩ : Array Value) ++ Array.replicate (ntmps - vs.length) undef).size = ntmps := by
  have hvl := DenVs.len hd
  refine ⟨fun t sv ht => ?_, by simp; omega⟩
  rw [argTm_look] at ht
  simp only [Nat.zero_le, if_true, Nat.sub_zero] at ht
  obtain ⟨v, h1, rfl⟩ := Option.map_eq_some_iff.1 ht
  obtain ⟨u, h2, h3⟩ := DenVs.get hd h1
  have htl : t < vs.length := (List.getElem?_eq_some_iff.1 h2).1
  refine ⟨by simp; omega, hl v (List.mem_of_getElem? h1), ?_⟩
  have : ((⟨vs⟩ : Array Value) ++ Array.replicate (ntmps - vs.length) undef).getD t undef = u := by
    rw [Array.getD_eq_getD_getElem?, Array.getElem?_append_left (by simpa using htl)]
    simp [h2]
  rw [this]; exact h3
theorem inl_ok (hE : EnvOk E) (hmix : E.P.follows .mixedOrders = true) (hn : Hints) : ∀ d, InlOk E (inlN E hn d) := by
  intro d
  induction d with
  | zero => intro f vs yt ob nx lr k h; exact h.elim
  | succ d ih =>
    intro f vs yt ob nx lr k h w0 b B ρ H ds us w I G hY hd hl
    simp only [inlN] at h
    split at h
    · rename_i fn hfn
      split at h
      · rename_i c hb
        split at h
        · rename_i hlen
          obtain ⟨hf, _, c', hb', hc⟩ := hE.fb f fn hfn
          rw [hb] at hb'
          cases hb'
          refine callsIn_wide.1 (show CallsIn (Fw none) 0 E.P f ⟨us⟩ w _ from ?_)
          refine callsIn_of_wp_marks hf hb trivial ?_
          let W : Base := ⟨b.w, fun k => b.K k ∧ ∀ i st g r, lookL lr i = some st → w0.lt i = some (g, r) → k ≠ g, H, ρ, nx, w0.lt, none⟩
          have hkL : ∀ k, b.K k → k < b.w.heap.size := fun k hk => (I.kp k hk).1
          have GW : GlB E W b B ρ H nx lr [] := by
            refine ⟨G.gl, HLe.refl _, Nat.le_refl _, REq.refl _ _, Below.refl _ _, fun k hk => ⟨hk.1, hkL k hk.1, rfl⟩, by simp, by simp, by simp [W], fun id st hi => ?_, G.lrI, fun i hi => G.lo i (Nat.le_trans G.fl hi)⟩
            obtain ⟨g, r, h1, h2, h3, h4, h5, h6⟩ := G.lrK id st hi
            exact ⟨g, r, h1, h2, h3, h4, fun hk => hk.2 id st g r hi h1 rfl, by simp [W]⟩
          have hYW : YtOk E W B yt := hY.mono G.fl G.re G.hle (fun _ _ h => h)
          obtain ⟨q1, q2⟩ := args_ok (ntmps := fn.ntmps) hd hl hlen
          refine ex_sound (n := fn.ntmps) (B := B) hE ih hmix c hc W _ _ _ _ w 0 hYW h ⟨ρ, H, b, [], I, GW, q1, by simp, rfl, q2⟩ ?_
          intro e s' a' w' hk hs
          obtain ⟨ρ', H', b', ds', I', G', hT', _, hdf, _⟩ := hs
          have fin : (match resV E s' fn.results.toList with
              | some (ps, vs) => conj ps (frcSV (resSV vs) fun v => k v s'.ob s'.nx s'.lr)
              | none => False) → LeavesInM (Fw none) 0 E.P fn a'.tmps (fun e w' => ∃ v, e = .returned v ∧ AfterOk E w0 B ρ H nx ds k v w') a'.defers .returning w' := by
            intro hk
            rw [hdf]
            refine leaves_ok I' G' fun b2 w2 I2 G2 => ?_
            split at hk
            · rename_i ps vs' hres
              rw [conj_iff, frcSV_eq] at hk
              obtain ⟨v, h1, h2, hlt⟩ := results_ok hE I2 hT' hres hk.1
              refine ⟨v, h1, v, rfl, resSV vs', s'.ob, s'.nx, s'.lr, ρ', H', b2, hk.2, I2, ?_, G2.hle, G2.re, G2.fl, h2, hlt⟩
              have w0K : ∀ k, w0.K k → W.K k := fun k hk => ⟨(G.kp k hk).1, fun i st g r hi hg e => by
                obtain ⟨g1, r1, h1, _, _, _, h5, _⟩ := G.lrK i st hi
                rw [hg] at h1; cases h1
                exact h5 (e ▸ hk)⟩
              have rdK : ∀ l, w0.rd = some l → W.K l := fun l hl => ⟨(G.rd l hl).1, fun i st g r hi hg e => by
                obtain ⟨g1, r1, h1, _, _, _, _, h6⟩ := G.lrK i st hi
                rw [hg] at h1; cases h1
                exact h6 (e ▸ hl)⟩
              refine ⟨G2.gl, G.hle.trans G2.hle, Nat.le_trans G.fl G2.fl, fun i hi => (G2.re i (Nat.lt_of_lt_of_le hi G.fl)).trans (G.re i hi), G.bel.trans G2.bel, fun k hk => ?_, fun d hd => ?_, G.dn, fun l hl => ?_, fun id st hi => ?_, G2.lrI, G.lo⟩
              · obtain ⟨k1, k2, k3⟩ := G.kp k hk
                obtain ⟨m1, _, m3⟩ := G2.kp k (w0K k hk)
                exact ⟨m1, k2, m3.trans k3⟩
              · obtain ⟨q, k1, k2, k3, k4⟩ := G.df d hd
                obtain ⟨m1, _, m3⟩ := G2.kp q ⟨k3, fun i st g r hi hg e => by
                  obtain ⟨g1, r1, h1, _, _, h4, _⟩ := G.lrK i st hi
                  rw [hg] at h1; cases h1
                  rw [e, h4] at k4; cases k4⟩
                exact ⟨q, k1, k2, m1, m3.trans k4⟩
              · obtain ⟨k1, q, k2⟩ := G.rd l hl
                obtain ⟨m1, _, m3⟩ := G2.kp l (rdK l hl)
                exact ⟨m1, q, m3.trans k2⟩
              · obtain ⟨g, r, h1, h2, h3, h4, h5, _⟩ := G2.lrK id st hi
                exact ⟨g, r, h1, h2, h3, h4, fun hk => h5 (w0K g hk), fun hl => h5 (rdK g hl)⟩
            · exact hk.elim
          cases e with
          | nrm => exact fin hk
          | ret => exact fin hk
          | ext id => exact hk.elim
          | gto l => exact hk.elim
        · exact h.elim
      · exact h.elim
    · exact h.elim
theorem exF_sound (hE : EnvOk E) (hmix : E.P.follows .mixedOrders = true) {d : Nat} {f : FuncId} {fn : Func} {c : Code} {args : List V} {r : SV} {hn : Hints} (hf : E.P.funcs[f]? = some fn) (hb : fn.body = some c) (hc : codeOk fn.ntmps c = true)
    (hlen : args.length ≤ fn.ntmps) (hpa : args.all pureV = true) (hpr : resPure r = true) (h : exF E hn d f fn args r) : Fn E.P E.gl f args r false := by
  intro w H vs hag G hd
  unfold exF at h
  rw [hb] at h
  simp only [] at h
  refine callsIn_wide.1 (show CallsIn (Fw none) 0 E.P f ⟨vs⟩ w _ from ?_)
  refine callsIn_of_wp_marks hf hb trivial ?_
  let W : Base := ⟨w, fun b => b < w.heap.size ∧ H b = none, H, ρ0, 0, fun _ => none, none⟩
  obtain ⟨q1, q2⟩ := args_ok (nx := 0) (ntmps := fn.ntmps) hd (fun v hv => pureV_lt (List.all_eq_true.1 hpa v hv) _) hlen
  refine ex_sound (n := fn.ntmps) (B := w.heap.size) hE (inl_ok hE hmix hn d) hmix c hc W _ _ _ _ w 0 (fun id y h => by cases h) h ?_ ?_
  · exact ⟨ρ0, H, W, [], ⟨Below.refl _ _, Nat.le_refl _, ρ0_one, hag, by simp [lookO], by simp [lookO], fun b hk => ⟨hk.1, rfl, hk.2, by simp [lookO]⟩⟩,
      ⟨G, HLe.refl _, Nat.le_refl _, REq.refl _ _, Below.refl _ _, fun k hk => ⟨hk, hk.1, rfl⟩, by simp, by simp, by simp [W], by simp [lookL], by simp [lookL], by simp [W]⟩, q1, by simp, rfl, q2⟩
  · intro e s' a' w' hk hs
    obtain ⟨ρ, H1, b1, ds1, I, G1, hT, _, hdf, hsz⟩ := hs
    have fin : (match resV E s' fn.results.toList with
        | some (ps, vs) => conj ps (resOk (lookO s'.ob) (resSV vs) r)
        | none => False) → LeavesInM (Fw none) 0 E.P fn a'.tmps (fun e w' => ∃ v H', e = .returned v ∧ Below w.heap.size w w' ∧ Agree H' w' ∧
          (∀ b, b < w.heap.size → H' b = if false = true then none else H b) ∧ DenRSV w' w.heap.size H' r v) a'.defers .returning w' := by
      intro hk
      rw [hdf]
      refine leaves_ok I G1 fun b2 w2 I2 G2 => ?_
      split at hk
      · rename_i ps vs' hres
        rw [conj_iff] at hk
        obtain ⟨v, h1, h2, hlt⟩ := results_ok hE I2 hT hres hk.1
        obtain ⟨H', g1, g2, g3, g4⟩ := resOk_ok I2 hk.2 hpr h2 hlt
        refine ⟨v, h1, v, H', rfl, G2.bel.trans I2.below, g2, fun b hb => ?_, g4⟩
        simp only [Bool.false_eq_true, if_false]
        cases hH : H b with
        | none => exact g3 b (G2.kp b ⟨hb, hH⟩).1
        | some o => exact g1 b o (G2.hle b o hH)
      · exact hk.elim
    cases e with
    | nrm => exact fin hk
    | ret => exact fin hk
    | ext id => exact hk.elim
    | gto l => exact hk.elim
end
end Go.Sx

namespace Go.Sx
open Go.RowKit
def flatTy : Ty → Bool
  | .sl _ => false
  | .arr _ t => flatTy t
  | .pair a b => flatTy a && flatTy b
  | _ => true
theorem flat_rd {H H' : IH} : ∀ (t : Ty) (x : t.T) (cs : List Value), flatTy t = true → Rd H t x cs → Rd H' t x cs
  | .int _, _, _, _, h => h
  | .bool, _, _, _, h => h
  | .str, _, _, _, h => h
  | .flt _, _, _, _, h => h
  | .cpx _, _, _, _, h => h
  | .fnp, _, _, _, h => h
  | .opq _, _, _, _, h => h
  | .sl t, xs, cs, hf, _ => by simp [flatTy] at hf
  | .arr n t, xs, cs, hf, h => ⟨h.1, h.2.1, fun i hi => flat_rd t _ _ hf (h.2.2 i hi)⟩
  | .pair a b, x, cs, hf, h => by
    simp only [flatTy, Bool.and_eq_true] at hf
    exact ⟨flat_rd a _ _ hf.1 h.1, flat_rd b _ _ hf.2 h.2⟩
def flatC : C → Bool
  | .int .. | .bool _ | .str _ | .flt .. | .cpx .. | .nilp | .nils | .nilf | .err _ => true
  | .fn _ a b => a.isEmpty && b.isEmpty
  | _ => false
def flatCh : Ch → Bool
  | .one c => flatC c
  | .arr _ t _ => flatTy t
def flatV : V → Bool
  | .one (.frs t _) => flatTy t
  | .one c => flatC c
  | .agg cs => cs.all flatCh
def flatSV : SV → Bool
  | .val v => match aggFr v with
    | none => flatV v
    | some vs => vs.all flatV
  | .tup vs => vs.all flatV
section
variable {H H' : IH} {ρ : Nat → Value} {w : World} {B : Nat}
theorem flatC_den {c : C} {v : Value} (hf : flatC c = true) (h : DenC ρ H c v) : DenC ρ H' c v := by
  cases c <;> simp only [flatC, Bool.false_eq_true] at hf <;> first | exact h | (rename_i b; cases b <;> exact h)
theorem flatChs_den : ∀ {cs : List Ch} {vs : List Value}, cs.all flatCh = true → DenChs ρ H cs vs → DenChs ρ H' cs vs
  | [], _, _, h => h
  | .one c :: r, vs, hp, h => by
    simp only [List.all_cons, Bool.and_eq_true] at hp
    obtain ⟨v, vs', rfl, h1, h2⟩ := h
    exact ⟨v, vs', rfl, flatC_den hp.1 h1, flatChs_den hp.2 h2⟩
  | .arr n t xs :: r, vs, hp, h => by
    simp only [List.all_cons, Bool.and_eq_true] at hp
    exact ⟨flat_rd (.arr n t) _ _ hp.1 h.1, flatChs_den hp.2 h.2⟩
theorem flatV_one {c : C} {v : Value} (hf : flatC c = true) (h : DenV ρ H (.one c) v) : DenV ρ H' (.one c) v := by
  have h' : DenC ρ H c v := h
  exact flatC_den hf h'
theorem flatV_den {x : V} {v : Value} (hf : flatV x = true) (hle : ∀ b, B ≤ b → H b = none → H' b = none) (h : DenRV w B H x v) : DenRV w B H' x v := by
  cases x with
  | agg cs =>
    obtain ⟨h1, vs, h2, h3⟩ := h
    exact ⟨h1, vs, h2, flatChs_den hf h3⟩
  | one c =>
    cases c with
    | frs t xs =>
      rcases h with h | ⟨g, cap, cur, e, d1, d2, d3, d4, d5, d6, d7, d8⟩
      · exact .inl h
      · exact .inr ⟨g, cap, cur, e, d1, d2, hle g d2 d3, d4, d5, d6, d7, fun i hi => flat_rd t _ _ hf (d8 i hi)⟩
    | _ => exact ⟨h.1, flatV_one (by simpa only [flatV] using hf) h.2⟩
theorem flatVs_den (hle : ∀ b, B ≤ b → H b = none → H' b = none) : ∀ {xs : List V} {vs : List Value}, xs.all flatV = true → DenRVs w B H xs vs → DenRVs w B H' xs vs
  | [], _, _, h => h
  | x :: r, vs, hp, h => by
    simp only [List.all_cons, Bool.and_eq_true] at hp
    obtain ⟨v, vs', rfl, h1, h2, h3⟩ := h
    exact ⟨v, vs', rfl, flatV_den hp.1 hle h1, flatVs_den hle hp.2 h2, h3⟩
theorem Fn.flat {P : Program} {gl : Nat → Option ((t : Ty) × t.T)} {f : FuncId} {args : List V} {r : SV} (h : Fn P gl f args r false) (hf : flatSV r = true) : Fn P gl f args r true := by
  intro w H vs hag G hd
  refine (h w H vs hag G hd).mono ?_
  rintro e w' ⟨v, H', rfl, h1, h2, h3, h4⟩
  refine ⟨v, fun _ => none, rfl, h1, fun b o hb => (by cases hb), fun b _ => (by simp), ?_⟩
  cases r with
  | val x =>
    cases hag : aggFr x with
    | none =>
      simp only [flatSV, hag] at hf
      simp only [DenRSV, hag] at h4 ⊢
      exact flatV_den hf (fun _ _ _ => rfl) h4
    | some xs =>
      simp only [flatSV, hag] at hf
      simp only [DenRSV, hag] at h4 ⊢
      obtain ⟨us, e, hus⟩ := h4
      exact ⟨us, e, flatVs_den (fun _ _ _ => rfl) hf hus⟩
  | tup xs =>
    obtain ⟨us, e, hus⟩ := h4
    exact ⟨us, e, flatVs_den (fun _ _ _ => rfl) hf hus⟩
end
def freshC (ob : Nat → Option AObj) : C → C → Bool
  | .own id, .sl t _ => flatTy t && (match ob id with | some (.row _ _) => true | _ => false)
  | .nils, .sl t _ => flatTy t
  | _, c' => flatC c'
def freshChs (ob : Nat → Option AObj) : List Ch → List Ch → Bool
  | [], [] => true
  | .one c :: r, .one c' :: r' => freshC ob c c' && freshChs ob r r'
  | .arr n t _ :: r, .arr n' t' _ :: r' => decide (n = n' ∧ t = t') && flatTy t && freshChs ob r r'
  | _, _ => false
def freshV (ob : Nat → Option AObj) : V → V → Bool
  | .agg a, .agg b => freshChs ob a b
  | _, y => flatV y
def freshVs (ob : Nat → Option AObj) : List V → List V → Bool
  | [], [] => true
  | x :: r, y :: r' => freshV ob x y && freshVs ob r r'
  | _, _ => false
def freshSV (ob : Nat → Option AObj) : SV → SV → Bool
  | .val x, .val y => match aggFr y with
    | none => freshV ob x y
    | some ys => match x with
      | .agg cs => match chsV cs with
        | some xs => freshVs ob xs ys
        | none => false
      | .one _ => false
  | .tup a, .tup b => freshVs ob a b
  | _, _ => false
def exFr (E : Env) (h : Hints) (d : Nat) (f : FuncId) (fn : Func) (args : List V) (r : SV) : Prop :=
  match fn.body with
  | some c => ex E h (inlN E h d) f (fun _ => none) c 0 ⟨argTm 0 args, [], 0, []⟩ fun
    | .nrm, s | .ret, s => match resV E s fn.results.toList with
      | some (ps, vs) => conj ps (if freshSV (lookO s.ob) (resSV vs) r then resOk (lookO s.ob) (resSV vs) r else False)
      | none => False
    | _, _ => False
  | none => False
def cut (B : Nat) (H : IH) : IH := fun b => if b < B then none else H b
section
variable {E : Env} {w0 : Base} {B : Nat} {ρ : Nat → Value} {H H' : IH} {ob : List (Nat × Option AObj)} {nx : Nat} {w : World}
theorem freshC_den (I : Inv w0 B ρ H ob nx w) {c c' : C} {v : Value} (hf : freshC (lookO ob) c c' = true) (h : DenC ρ H c v) (h' : DenC ρ0 H' c' v) : DenC ρ0 (cut B H') c' v := by
  have nil : ∀ (t : Ty) (ys : List t.T), v = .slice none 0 0 → DenC ρ0 H' (.sl t ys) v → DenC ρ0 (cut B H') (.sl t ys) v := by
    intro t ys hv hd
    obtain ⟨a, cap, e1, e2, _⟩ := hd
    rw [hv] at e1
    simp only [List.cons.injEq, Value.slice.injEq, and_true] at e1
    have e3 : ys.length = 0 := by omega
    exact ⟨none, 0, by rw [hv, e3], by omega, .inl e3⟩
  unfold freshC at hf
  split at hf
  · rename_i id t ys
    simp only [Bool.and_eq_true] at hf
    obtain ⟨hf1, hf2⟩ := hf
    split at hf2
    · rename_i t2 xs hrow
      rcases (I.objs id _ hrow).2.2 with ⟨d1, d2⟩ | ⟨g, cap, cur, e, d1, d2, _⟩
      · exact nil t ys (by rw [show v = ρ id from h]; exact d1) h'
      · obtain ⟨a, cap', e1, e2, e3⟩ := h'
        have hv : v = .slice (some ⟨g, 0, none⟩) xs.length cap := by rw [show v = ρ id from h]; exact d1
        rcases e3 with e3 | ⟨b, off, cc, e', fr, k1, k2, k3⟩
        · exact ⟨a, cap', e1, e2, .inl e3⟩
        · rw [hv] at e1
          have hb : b = g := by
            simp only [List.cons.injEq, Value.slice.injEq, and_true] at e1
            rw [← e1.1] at k1
            cases k1
            rfl
          refine ⟨a, cap', by rw [hv]; exact e1, e2, .inr ⟨b, off, cc, e', fr, k1, ?_, fun i hi => flat_rd t _ _ hf1 (k3 i hi)⟩⟩
          unfold cut
          rw [if_neg (by omega)]
          exact k2
    · cases hf2
  · exact nil _ _ h h'
  · exact flatC_den hf h'
theorem freshChs_den (I : Inv w0 B ρ H ob nx w) : ∀ {cs cs' : List Ch} {vs : List Value}, freshChs (lookO ob) cs cs' = true → DenChs ρ H cs vs → DenChs ρ0 H' cs' vs → DenChs ρ0 (cut B H') cs' vs
  | [], [], _, _, _, h => h
  | .one c :: r, .one c' :: r', vs, hf, h, h' => by
    simp only [freshChs, Bool.and_eq_true] at hf
    obtain ⟨v, vs', rfl, h1, h2⟩ := h
    obtain ⟨v2, vs2, e, h3, h4⟩ := h'
    cases e
    exact ⟨v, vs', rfl, freshC_den I hf.1 h1 h3, freshChs_den I hf.2 h2 h4⟩
  | .arr n t xs :: r, .arr n' t' ys :: r', vs, hf, h, h' => by
    simp only [freshChs, Bool.and_eq_true, decide_eq_true_eq] at hf
    obtain ⟨⟨⟨rfl, rfl⟩, h1⟩, h2⟩ := hf
    exact ⟨flat_rd (.arr n t) _ _ h1 h'.1, freshChs_den I h2 h.2 h'.2⟩
  | [], _ :: _, _, hf, _, _ => by simp [freshChs] at hf
  | _ :: _, [], _, hf, _, _ => by simp [freshChs] at hf
  | .one _ :: _, .arr .. :: _, _, hf, _, _ => by simp [freshChs] at hf
  | .arr .. :: _, .one _ :: _, _, hf, _, _ => by simp [freshChs] at hf
theorem freshV_den (I : Inv w0 B ρ H ob nx w) {x y : V} {v : Value} (hf : freshV (lookO ob) x y = true) (h : DenV ρ H x v) (h' : DenRV w B H' y v) : DenRV w B (cut B H') y v := by
  have hcut : ∀ b, B ≤ b → H' b = none → cut B H' b = none := fun b hb hn => by unfold cut; rw [if_neg (by omega)]; exact hn
  unfold freshV at hf
  split at hf
  · obtain ⟨h1, vs, h2, h3⟩ := h'
    obtain ⟨vs', h4, h5⟩ := h
    rw [h2] at h4
    cases h4
    exact ⟨h1, vs, h2, freshChs_den I hf h5 h3⟩
  · exact flatV_den hf hcut h'
theorem freshVs_den (I : Inv w0 B ρ H ob nx w) : ∀ {xs ys : List V} {vs : List Value}, freshVs (lookO ob) xs ys = true → DenVs ρ H xs vs → DenRVs w B H' ys vs → DenRVs w B (cut B H') ys vs
  | [], [], _, _, _, h => h
  | x :: r, y :: r', vs, hf, h, h' => by
    simp only [freshVs, Bool.and_eq_true] at hf
    obtain ⟨v, vs', rfl, h1, h2⟩ := h
    obtain ⟨v2, vs2, e, h3, h4, h5⟩ := h'
    cases e
    exact ⟨v, vs', rfl, freshV_den I hf.1 h1 h3, freshVs_den I hf.2 h2 h4, h5⟩
  | [], _ :: _, _, hf, _, _ => by simp [freshVs] at hf
  | _ :: _, [], _, hf, _, _ => by simp [freshVs] at hf
theorem freshSV_den (I : Inv w0 B ρ H ob nx w) {x y : SV} {v : Value} (hf : freshSV (lookO ob) x y = true) (h : DenSV ρ H x v) (h' : DenRSV w B H' y v) : DenRSV w B (cut B H') y v := by
  unfold freshSV at hf
  split at hf
  · rename_i a b
    cases hag : aggFr b with
    | none =>
      rw [hag] at hf
      simp only [DenRSV, hag] at h' ⊢
      exact freshV_den I hf h h'
    | some ys =>
      rw [hag] at hf
      simp only [DenRSV, hag] at h' ⊢
      cases a with
      | one c => cases hf
      | agg cs =>
        simp only [] at hf
        cases hcs : chsV cs with
        | none => rw [hcs] at hf; cases hf
        | some xs =>
          rw [hcs] at hf
          obtain ⟨us, rfl, h2⟩ := h
          obtain ⟨us', e, h3⟩ := h'
          cases e
          exact ⟨_, rfl, freshVs_den I hf (chsV_den hcs h2) h3⟩
  · obtain ⟨vs, rfl, h2⟩ := h
    obtain ⟨vs', e, h3⟩ := h'
    cases e
    exact ⟨_, rfl, freshVs_den I hf h2 h3⟩
  · cases hf
theorem exFr_sound (hE : EnvOk E) (hmix : E.P.follows .mixedOrders = true) {d : Nat} {f : FuncId} {fn : Func} {c : Code} {args : List V} {r : SV} {hn : Hints} (hf : E.P.funcs[f]? = some fn) (hb : fn.body = some c) (hc : codeOk fn.ntmps c = true)
    (hlen : args.length ≤ fn.ntmps) (hpa : args.all pureV = true) (hpr : resPure r = true) (h : exFr E hn d f fn args r) : Fn E.P E.gl f args r true := by
  intro w H vs hag G hd
  unfold exFr at h
  rw [hb] at h
  simp only [] at h
  refine callsIn_wide.1 (show CallsIn (Fw none) 0 E.P f ⟨vs⟩ w _ from ?_)
  refine callsIn_of_wp_marks hf hb trivial ?_
  let W : Base := ⟨w, fun b => b < w.heap.size ∧ H b = none, H, ρ0, 0, fun _ => none, none⟩
  obtain ⟨q1, q2⟩ := args_ok (nx := 0) (ntmps := fn.ntmps) hd (fun v hv => pureV_lt (List.all_eq_true.1 hpa v hv) _) hlen
  refine ex_sound (n := fn.ntmps) (B := w.heap.size) hE (inl_ok hE hmix hn d) hmix c hc W _ _ _ _ w 0 (fun id y h => by cases h) h ?_ ?_
  · exact ⟨ρ0, H, W, [], ⟨Below.refl _ _, Nat.le_refl _, ρ0_one, hag, by simp [lookO], by simp [lookO], fun b hk => ⟨hk.1, rfl, hk.2, by simp [lookO]⟩⟩,
      ⟨G, HLe.refl _, Nat.le_refl _, REq.refl _ _, Below.refl _ _, fun k hk => ⟨hk, hk.1, rfl⟩, by simp, by simp, by simp [W], by simp [lookL], by simp [lookL], by simp [W]⟩, q1, by simp, rfl, q2⟩
  · intro e s' a' w' hk hs
    obtain ⟨ρ, H1, b1, ds1, I, G1, hT, _, hdf, hsz⟩ := hs
    have fin : (match resV E s' fn.results.toList with
        | some (ps, vs) => conj ps (if freshSV (lookO s'.ob) (resSV vs) r then resOk (lookO s'.ob) (resSV vs) r else False)
        | none => False) → LeavesInM (Fw none) 0 E.P fn a'.tmps (fun e w' => ∃ v H', e = .returned v ∧ Below w.heap.size w w' ∧ Agree H' w' ∧
          (∀ b, b < w.heap.size → H' b = if true = true then none else H b) ∧ DenRSV w' w.heap.size H' r v) a'.defers .returning w' := by
      intro hk
      rw [hdf]
      refine leaves_ok I G1 fun b2 w2 I2 G2 => ?_
      split at hk
      · rename_i ps vs' hres
        rw [conj_iff] at hk
        obtain ⟨hk1, hk2⟩ := hk
        split at hk2
        · rename_i hfr
          obtain ⟨v, h1, h2, hlt⟩ := results_ok hE I2 hT hres hk1
          obtain ⟨H', g1, g2, g3, g4⟩ := resOk_ok I2 hk2 hpr h2 hlt
          refine ⟨v, h1, v, cut w.heap.size H', rfl, G2.bel.trans I2.below, fun b o hb => ?_, fun b hb => ?_, freshSV_den I2 hfr h2 g4⟩
          · unfold cut at hb
            split at hb
            · cases hb
            · exact g2 b o hb
          · simp [cut, hb]
        · exact hk2.elim
      · exact hk.elim
    cases e with
    | nrm => exact fin hk
    | ret => exact fin hk
    | ext id => exact hk.elim
    | gto l => exact hk.elim
end
end Go.Sx

namespace Go.Sx
open Go.RowKit
end Go.Sx

namespace Go.Sx
def chkAll (P : Program) (l : List (Nat × TD)) : Bool := l.all fun x => tdChk P x.1 x.2
theorem tab1_ok : chkAll Proofs.Try.prog tab1 = true := by
  decide +kernel
theorem lookTT_mem : ∀ {l : List (Nat × TD)} {t : Nat} {d : TD}, lookTT l t = some d → (t, d) ∈ l
  | [], _, _, h => by simp [lookTT] at h
  | (k, v) :: r, t, d, h => by
    simp only [lookTT] at h
    split at h
    · rename_i e; cases h; simp at e; subst e; simp
    · exact List.mem_cons_of_mem _ (lookTT_mem h)
theorem tt_ok {P : Program} {l : List (Nat × TD)} (ha : chkAll P l = true) : ∀ t d, lookTT l t = some d → TDok P t d := by
  intro t d h
  exact tdChk_ok (List.all_eq_true.1 ha _ (lookTT_mem h))
noncomputable abbrev P1 : Program := Proofs.Try.prog
def eqOk1 (P : Program) (l : List Nat) : Bool := l.all fun t => match lookTT tab1 t with
  | some d => match d.ty with
    | some u => eqChk P (lookTT tab1) 16 t u && !P.eqGuardType P.depth t
    | none => false
  | none => false
theorem eqs1_ok : eqOk1 P1 eqs1 = true := by decide +kernel
theorem eq1 : ∀ t d u, eqs1.contains t = true → lookTT tab1 t = some d → d.ty = some u → eqChk P1 (lookTT tab1) 16 t u = true ∧ P1.eqGuardType P1.depth t = false := by
  intro t d u h1 h2 h3
  have := List.all_eq_true.1 eqs1_ok t (by simpa using h1)
  rw [h2] at this
  simp only [h3, Bool.and_eq_true, Bool.not_eq_true'] at this
  exact this
def gl1 : Nat → Option ((t : Ty) × t.T) := fun _ => none
def lookF : List (Nat × Func) → Nat → Option Func
  | [], _ => none
  | (k, v) :: r, t => if k == t then some v else lookF r t
def fbOk (P : Program) : List (Nat × Func) → Prop
  | [] => True
  | (f, fn) :: r => (P.funcs[f]? = some fn ∧ (fn.name == "runtime.NumGoroutine") = false ∧ ∃ c, fn.body = some c ∧ codeOk fn.ntmps c = true) ∧ fbOk P r
theorem fb_ok {P : Program} : ∀ {l : List (Nat × Func)}, fbOk P l → ∀ f fn, lookF l f = some fn → P.funcs[f]? = some fn ∧ (fn.name == "runtime.NumGoroutine") = false ∧ ∃ c, fn.body = some c ∧ codeOk fn.ntmps c = true
  | [], _, f, fn, h => by simp [lookF] at h
  | (k, v) :: r, hl, f, fn, h => by
    simp only [lookF] at h
    split at h
    · rename_i e
      simp at e
      subst e
      cases h
      exact hl.1
    · exact fb_ok hl.2 f fn h
def lookS : List (Nat × FSpec) → Nat → Option FSpec
  | [], _ => none
  | (k, v) :: r, t => if k == t then some v else lookS r t
def spOk (P : Program) : List (Nat × FSpec) → Prop
  | [] => True
  | (f, s) :: r => (SpecOk P gl1 f s ∧ ∃ fn c, P.funcs[f]? = some fn ∧ fn.body = some c ∧ (fn.name == "runtime.NumGoroutine") = false) ∧ spOk P r
theorem sp_ok {P : Program} : ∀ {l : List (Nat × FSpec)}, spOk P l → ∀ f s, lookS l f = some s → SpecOk P gl1 f s ∧ ∃ fn c, P.funcs[f]? = some fn ∧ fn.body = some c ∧ (fn.name == "runtime.NumGoroutine") = false
  | [], _, f, s, h => by simp [lookS] at h
  | (k, v) :: r, hl, f, s, h => by
    simp only [lookS] at h
    split at h
    · rename_i e
      simp at e
      subst e
      cases h
      exact hl.1
    · exact sp_ok hl.2 f s h
theorem mix1 : P1.follows .mixedOrders = true := by kernel_rfl
def h0 : Hints := ⟨fun _ _ _ => none, 0⟩
def ex1 : Nat → Option ExK := fun f => match f with
  | 99 => some .floor64
  | 101 => some .from64
  | 102 => some .bits64
  | 48 => some .bits32
  | 57 => some .from32
  | _ => none
theorem ex1_ok : ∀ f k, ex1 f = some k → ∃ fn, P1.funcs[f]? = some fn ∧ (fn.name == "runtime.NumGoroutine") = false ∧ fn.body.isNone = true ∧ Extern.findNext fn = none ∧ Extern.find fn = some (exRow k) := by
  intro f k h
  unfold ex1 at h
  split at h
  · cases h; exact ⟨Proofs.Try.f99, by kernel_rfl, rfl, rfl, by kernel_rfl, by kernel_rfl⟩
  · cases h; exact ⟨Proofs.Try.f101, by kernel_rfl, rfl, rfl, by kernel_rfl, by kernel_rfl⟩
  · cases h; exact ⟨Proofs.Try.f102, by kernel_rfl, rfl, rfl, by kernel_rfl, by kernel_rfl⟩
  · cases h; exact ⟨Proofs.Try.f48, by kernel_rfl, rfl, rfl, by kernel_rfl, by kernel_rfl⟩
  · cases h; exact ⟨Proofs.Try.f57, by kernel_rfl, rfl, rfl, by kernel_rfl, by kernel_rfl⟩
  · cases h
def pts : List (Nat × Nat) := []
def ptRun (off : Nat) : List V → Option (Nat × Nat)
  | [.one (.ptr id o)] => some (id, o + off)
  | _ => none
def lookN : List (Nat × Nat) → Nat → Option Nat
  | [], _ => none
  | (k, v) :: r, t => if k == t then some v else lookN r t
def pt1 : FuncId → Option (List V → Option (Nat × Nat)) := fun f => (lookN pts f).map ptRun
theorem pts_ok : ∀ f off, lookN pts f = some off → PtOk P1 gl1 f (ptRun off) ∧ ∃ fn c, P1.funcs[f]? = some fn ∧ fn.body = some c ∧ (fn.name == "runtime.NumGoroutine") = false := by
  intro f off h
  simp [pts, lookN] at h
theorem pt1_ok : ∀ f run, pt1 f = some run → PtOk P1 gl1 f run ∧ ∃ fn c, P1.funcs[f]? = some fn ∧ fn.body = some c ∧ (fn.name == "runtime.NumGoroutine") = false := by
  intro f run h
  obtain ⟨off, h1, rfl⟩ := Option.map_eq_some_iff.1 h
  exact pts_ok f off h1
noncomputable def env (tdv : Bool) (sp : List (Nat × FSpec)) (fb : List (Nat × Func)) : Env := { P := P1, tt := lookTT tab1, gl := gl1, sp := lookS sp, fb := lookF fb, eq := fun t => eqs1.contains t, tdv := tdv, pt := pt1, ex := ex1 }
theorem env_ok (tdv : Bool) {sp : List (Nat × FSpec)} {fb : List (Nat × Func)} (h1 : spOk P1 sp) (h2 : fbOk P1 fb) : EnvOk (env tdv sp fb) := ⟨tt_ok tab1_ok, sp_ok h1, eq1, pt1_ok, fb_ok h2, ex1_ok⟩
@[reducible] def iV (n : Int) : V := .one (.int .i64 n)
@[reducible] def bV (b : Bool) : V := .one (.bool b)
@[reducible] def uV (n : Int) : V := .one (.int .u8 n)
@[reducible] def sV (l : List UInt8) : V := .one (.str l)
@[reducible] def nilB : List UInt8 := []
def hu (n : Nat) : Hints := ⟨fun _ _ _ => none, n⟩
end Go.Sx
