/- A verified symbolic run of functions, part 1: lemmas, no claim of their own. -/
import Derived.CallsIn
import Derived.Below
import Derived.Laws.AppendOwn
import Derived.Laws.MakeOwn
import Derived.OrdersIn
/- The engine's ground: pure data types, how cells read as data over a heap of blocks that do not change, symbolic values. -/
namespace Go.Sx
open Go.RowKit
inductive Ty where
  | int (k : IntKind) | bool | str | flt (k : FloatKind) | cpx (k : FloatKind)
  | sl (t : Ty) | arr (n : Nat) (t : Ty) | pair (a b : Ty)
  deriving DecidableEq
@[reducible] def Ty.T : Ty → Type
  | .int _ => Int
  | .bool => Bool
  | .str => List UInt8
  | .flt _ => Nat
  | .cpx _ => Nat × Nat
  | .sl t => List t.T
  | .arr _ t => List t.T
  | .pair a b => a.T × b.T
def Ty.sz : Ty → Nat
  | .arr n t => n * t.sz
  | .pair a b => a.sz + b.sz
  | _ => 1
def Ty.d : (t : Ty) → t.T
  | .int _ => (0 : Int)
  | .bool => false
  | .str => []
  | .flt _ => (0 : Nat)
  | .cpx _ => (0, 0)
  | .sl _ => []
  | .arr n t => List.replicate n t.d
  | .pair a b => (a.d, b.d)
abbrev IH := Nat → Option Obj
def seg (c : Array Value) (o n : Nat) : List Value := (c.toList.drop o).take n
def Rd (H : IH) : (t : Ty) → t.T → List Value → Prop
  | .int k, n, cs => cs = [.int k n]
  | .bool, b, cs => cs = [.bool b]
  | .str, l, cs => cs = [.string ⟨⟨l⟩⟩]
  | .flt k, n, cs => cs = [.float k n]
  | .cpx k, x, cs => cs = [.complex k x.1 x.2]
  | .sl t, xs, cs => ∃ a cap, cs = [.slice a (List.length xs) cap] ∧ List.length xs ≤ cap ∧
      (List.length xs = 0 ∨ ∃ b off c e fr, a = some ⟨b, off, none⟩ ∧ H b = some (.cells c e fr) ∧
        ∀ i (h : i < List.length xs), Rd H t (xs[i]'h) (seg c (off + i * t.sz) t.sz))
  | .arr n t, xs, cs => List.length xs = n ∧ cs.length = n * t.sz ∧
      ∀ i (h : i < List.length xs), Rd H t (xs[i]'h) ((cs.drop (i * t.sz)).take t.sz)
  | .pair a b, x, cs => Rd H a x.1 (cs.take a.sz) ∧ Rd H b x.2 (cs.drop a.sz)
def HLe (H H' : IH) : Prop := ∀ b o, H b = some o → H' b = some o
theorem HLe.refl (H : IH) : HLe H H := fun _ _ h => h
theorem HLe.trans {A B C : IH} (h : HLe A B) (k : HLe B C) : HLe A C := fun b o x => k b o (h b o x)
theorem Rd.mono {H H' : IH} (hh : HLe H H') : ∀ (t : Ty) (x : t.T) (cs : List Value), Rd H t x cs → Rd H' t x cs
  | .int _, _, _, h => h
  | .bool, _, _, h => h
  | .str, _, _, h => h
  | .flt _, _, _, h => h
  | .cpx _, _, _, h => h
  | .sl t, xs, cs, h => by
    obtain ⟨a, cap, h1, h2, h3⟩ := h
    refine ⟨a, cap, h1, h2, ?_⟩
    rcases h3 with h3 | ⟨b, off, c, e, fr, ha, hb, hr⟩
    · exact .inl h3
    · exact .inr ⟨b, off, c, e, fr, ha, hh _ _ hb, fun i h => Rd.mono hh t _ _ (hr i h)⟩
  | .arr n t, xs, cs, h => ⟨h.1, h.2.1, fun i hi => Rd.mono hh t _ _ (h.2.2 i hi)⟩
  | .pair a b, x, cs, h => ⟨Rd.mono hh a _ _ h.1, Rd.mono hh b _ _ h.2⟩
theorem Rd.len {H : IH} : ∀ (t : Ty) (x : t.T) (cs : List Value), Rd H t x cs → cs.length = t.sz
  | .int _, _, _, h => by rw [show _ = _ from h]; rfl
  | .bool, _, _, h => by rw [show _ = _ from h]; rfl
  | .str, _, _, h => by rw [show _ = _ from h]; rfl
  | .flt _, _, _, h => by rw [show _ = _ from h]; rfl
  | .cpx _, _, _, h => by rw [show _ = _ from h]; rfl
  | .sl t, xs, cs, h => by obtain ⟨a, cap, h1, _⟩ := h; rw [h1]; rfl
  | .arr n t, xs, cs, h => h.2.1
  | .pair a b, x, cs, h => by
    have h1 := Rd.len a _ _ h.1
    have h2 := Rd.len b _ _ h.2
    simp only [List.length_take, List.length_drop] at h1 h2
    simp only [Ty.sz]
    omega
theorem Rd.one {H : IH} : ∀ (t : Ty) (x : t.T) (cs : List Value), Rd H t x cs → ∀ v ∈ cs, v.oneCell' = true
  | .int _, _, _, h => by rw [show _ = _ from h]; simp [Value.oneCell']
  | .bool, _, _, h => by rw [show _ = _ from h]; simp [Value.oneCell']
  | .str, _, _, h => by rw [show _ = _ from h]; simp [Value.oneCell']
  | .flt _, _, _, h => by rw [show _ = _ from h]; simp [Value.oneCell']
  | .cpx _, _, _, h => by rw [show _ = _ from h]; simp [Value.oneCell']
  | .sl t, xs, cs, h => by obtain ⟨a, cap, h1, _⟩ := h; rw [h1]; simp [Value.oneCell']
  | .arr n t, xs, cs, h => by
    intro v hv
    obtain ⟨j, hj, rfl⟩ := List.mem_iff_getElem.1 hv
    by_cases hz : t.sz = 0
    · rw [h.2.1, hz] at hj; simp at hj
    · have hj' : j < n * t.sz := by have := h.2.1; omega
      have hq : j / t.sz < xs.length := by rw [h.1]; exact Nat.div_lt_of_lt_mul (by rw [Nat.mul_comm]; exact hj')
      refine Rd.one t _ _ (h.2.2 (j / t.sz) hq) _ ?_
      rw [List.mem_iff_getElem]
      have hm := Nat.mod_lt j (Nat.pos_of_ne_zero hz)
      have he := Nat.div_add_mod j t.sz
      rw [Nat.mul_comm] at he
      refine ⟨j % t.sz, ?_, ?_⟩
      · simp only [List.length_take, List.length_drop]; omega
      · simp only [List.getElem_take, List.getElem_drop]
        congr 1
  | .pair a b, x, cs, h => by
    intro v hv
    have : v ∈ cs.take a.sz ++ cs.drop a.sz := by rw [List.take_append_drop]; exact hv
    rcases List.mem_append.1 this with h' | h'
    · exact Rd.one a _ _ h.1 v h'
    · exact Rd.one b _ _ h.2 v h'
inductive C where
  | int (k : IntKind) (n : Int)
  | bool (b : Bool)
  | str (l : List UInt8)
  | flt (k : FloatKind) (n : Nat)
  | cpx (k : FloatKind) (a b : Nat)
  | sl (t : Ty) (xs : List t.T)
  | ref (t : Ty) (x : t.T)
  | ptr (id off : Nat)
  | el (id off sz i sub : Nat)
  | own (id : Nat)
  | view (id off sz lo n : Nat)
  | frs (t : Ty) (xs : List t.T)
  | nilp
  | nils
  | nilf
  | fn (f : FuncId) (first caps : List (Nat × Nat))
  | yl (id : Nat)
  | vp (id off sz lo n : Nat)
  | nilm
  | mp (gk gt : Bool) (k t : Ty) (l : List (k.T × t.T))
  | any
inductive Ch where
  | one (c : C)
  | arr (n : Nat) (t : Ty) (xs : List t.T)
inductive V where
  | one (c : C)
  | agg (cs : List Ch)
inductive SV where
  | val (v : V)
  | tup (vs : List V)
def ptrOf (ρ : Nat → Value) (p : Nat × Nat) (v : Value) : Prop :=
  ∃ b, ρ p.1 = .pointer (some ⟨b, 0, none⟩) ∧ v = .pointer (some ⟨b, p.2, none⟩)
def ptrsOf (ρ : Nat → Value) : List (Nat × Nat) → List Value → Prop
  | [], vs => vs = []
  | p :: ps, vs => ∃ v r, vs = v :: r ∧ ptrOf ρ p v ∧ ptrsOf ρ ps r
def HB (v : Value) (b : Nat) : Prop := v = .pointer (some ⟨b, 0, none⟩) ∨ (∃ n cap, v = .slice (some ⟨b, 0, none⟩) n cap) ∨ v = .map (some b)
def VR (H : IH) (g : Bool) (t : Ty) (x : t.T) (v : Value) : Prop := (g = true ∧ ∃ cs : Array Value, v = .agg cs ∧ Rd H t x cs.toList) ∨ (g = false ∧ Rd H t x [v])
def MEnt (H : IH) (gk gt : Bool) (k t : Ty) : List (k.T × t.T) → List MapEntry → Prop
  | [], es => es = []
  | x :: r, es => ∃ e es', es = e :: es' ∧ VR H gk k x.1 e.key ∧ VR H gt t x.2 e.val ∧ MEnt H gk gt k t r es'
theorem VR.mono {H H' : IH} (hh : HLe H H') {g : Bool} {t : Ty} {x : t.T} {v : Value} (h : VR H g t x v) : VR H' g t x v := by
  rcases h with ⟨h1, cs, h2, h3⟩ | ⟨h1, h2⟩
  · exact .inl ⟨h1, cs, h2, Rd.mono hh _ _ _ h3⟩
  · exact .inr ⟨h1, Rd.mono hh _ _ _ h2⟩
theorem MEnt.mono {H H' : IH} (hh : HLe H H') {gk gt : Bool} {k t : Ty} : ∀ {l : List (k.T × t.T)} {es : List MapEntry}, MEnt H gk gt k t l es → MEnt H' gk gt k t l es
  | [], _, h => h
  | _ :: _, _, h => by
    obtain ⟨e, es', h1, h2, h3, h4⟩ := h
    exact ⟨e, es', h1, h2.mono hh, h3.mono hh, MEnt.mono hh h4⟩
def DenC (ρ : Nat → Value) (H : IH) : C → Value → Prop
  | .int k n, v => v = .int k n
  | .bool b, v => v = .bool b
  | .str l, v => v = .string ⟨⟨l⟩⟩
  | .flt k n, v => v = .float k n
  | .cpx k a b, v => v = .complex k a b
  | .sl t xs, v => Rd H (.sl t) xs [v]
  | .ref t x, v => ∃ b off c e fr, v = .pointer (some ⟨b, off, none⟩) ∧ H b = some (.cells c e fr) ∧ Rd H t x (seg c off t.sz)
  | .ptr id off, v => ptrOf ρ (id, off) v
  | .el id off sz i sub, v => ∃ b, HB (ρ id) b ∧ v = .pointer (some ⟨b, off + i * sz + sub, none⟩)
  | .own id, v => v = ρ id
  | .view id off sz lo n, v => (∃ b cap, HB (ρ id) b ∧ v = .slice (some ⟨b, off + lo * sz, none⟩) n cap ∧ n ≤ cap) ∨ (n = 0 ∧ ∃ a cap, v = .slice a 0 cap)
  | .frs _ xs, v => xs = [] ∧ ∃ ad, v = .slice (some ad) 0 0
  | .nilp, v => v = .pointer none
  | .nils, v => v = .slice none 0 0
  | .nilf, v => v = .nilFunc
  | .fn f first caps, v => ∃ a b, v = .func (.func f) ⟨a⟩ ⟨b⟩ ∧ ptrsOf ρ first a ∧ ptrsOf ρ caps b
  | .yl id, v => v = ρ id
  | .nilm, v => v = .map none
  | .mp gk gt k t l, v => ∃ g es clock, v = .map (some g) ∧ H g = some (.map es clock) ∧ MEnt H gk gt k t l es.toList
  | .vp id off sz lo n, v => n ≠ 0 ∧ ∃ b, HB (ρ id) b ∧ v = .pointer (some ⟨b, off + lo * sz, none⟩)
  | .any, v => v.oneCell' = true
theorem ptrsOf.one {ρ : Nat → Value} : ∀ {ps : List (Nat × Nat)} {vs : List Value}, ptrsOf ρ ps vs → ps.length = vs.length
  | [], _, h => by rw [show _ = _ from h]; rfl
  | _ :: _, _, h => by obtain ⟨v, r, rfl, _, h'⟩ := h; simp [ptrsOf.one h']
theorem DenC.one {ρ : Nat → Value} {H : IH} (hρ : ∀ id, (ρ id).oneCell' = true) {c : C} {v : Value} (h : DenC ρ H c v) : v.oneCell' = true := by
  cases c with
  | sl t xs => exact Rd.one _ _ _ h _ (by simp)
  | ref t x => obtain ⟨b, off, c, e, fr, rfl, _⟩ := h; rfl
  | ptr id off => obtain ⟨b, _, rfl⟩ := h; rfl
  | el id off sz i sub => obtain ⟨b, _, rfl⟩ := h; rfl
  | view id off sz lo n => rcases h with ⟨b, cap, _, rfl, _⟩ | ⟨_, a, cap, rfl⟩ <;> rfl
  | fn f a b => obtain ⟨_, _, rfl, _⟩ := h; rfl
  | frs t xs => obtain ⟨_, ad, rfl⟩ := h; rfl
  | own id => rw [show v = ρ id from h]; exact hρ id
  | yl id => rw [show v = ρ id from h]; exact hρ id
  | vp id off sz lo n => obtain ⟨_, b, _, rfl⟩ := h; rfl
  | mp gk gt k t l => obtain ⟨g, es, cl, rfl, _⟩ := h; rfl
  | any => exact h
  | _ => rw [show v = _ from h]; rfl
def Ch.sz : Ch → Nat
  | .one _ => 1
  | .arr n t _ => n * t.sz
def DenChs (ρ : Nat → Value) (H : IH) : List Ch → List Value → Prop
  | [], vs => vs = []
  | .one c :: r, vs => ∃ v vs', vs = v :: vs' ∧ DenC ρ H c v ∧ DenChs ρ H r vs'
  | .arr n t xs :: r, vs => Rd H (.arr n t) xs (vs.take (n * t.sz)) ∧ DenChs ρ H r (vs.drop (n * t.sz))
def DenV (ρ : Nat → Value) (H : IH) : V → Value → Prop
  | .one c, v => DenC ρ H c v
  | .agg cs, v => ∃ vs : List Value, v = .agg ⟨vs⟩ ∧ DenChs ρ H cs vs
def DenVs (ρ : Nat → Value) (H : IH) : List V → List Value → Prop
  | [], vs => vs = []
  | x :: r, vs => ∃ v vs', vs = v :: vs' ∧ DenV ρ H x v ∧ DenVs ρ H r vs'
def DenSV (ρ : Nat → Value) (H : IH) : SV → Value → Prop
  | .val x, v => DenV ρ H x v
  | .tup xs, v => ∃ vs : List Value, v = .tuple ⟨vs⟩ ∧ DenVs ρ H xs vs
inductive AObj where
  | box (cs : List Ch)
  | row (t : Ty) (xs : List t.T)
  | sit (l : List UInt8) (pos : Nat)
  | map (gk gt : Bool) (k t : Ty) (l : List (k.T × t.T))
def Cells (w : World) (g : Nat) (cur : Array Value) (e : TypeId) : Prop := ∃ fz : Nat × Nat, (fz = (0, 0) ∨ cur.size ≤ fz.1) ∧ w.heap[g]? = some (.cells cur e fz)
def OwnRow (w : World) (B : Nat) (H : IH) (v : Value) (t : Ty) (xs : List t.T) : Prop :=
  (v = .slice none 0 0 ∧ xs = []) ∨
  ∃ g cap cur e, v = .slice (some ⟨g, 0, none⟩) xs.length cap ∧ B ≤ g ∧ H g = none ∧ Cells w g cur e ∧
    xs.length ≤ cap ∧ cap ≤ maxLen ∧ cur.size = cap * t.sz ∧ ∀ i (h : i < xs.length), Rd H t (xs[i]'h) (seg cur (i * t.sz) t.sz)
def DenO (w : World) (B : Nat) (ρ : Nat → Value) (H : IH) (id : Nat) : AObj → Prop
  | .box cs => ∃ g cur e, ρ id = .pointer (some ⟨g, 0, none⟩) ∧ B ≤ g ∧ H g = none ∧ w.heap[g]? = some (.cells cur e (0, 0)) ∧ DenChs ρ H cs cur.toList
  | .row t xs => OwnRow w B H (ρ id) t xs
  | .sit l pos => ∃ g, ρ id = .pointer (some ⟨g, 0, none⟩) ∧ B ≤ g ∧ H g = none ∧ w.heap[g]? = some (.stringIter ⟨⟨l⟩⟩ pos)
  | .map gk gt k t l => ∃ g es clock, ρ id = .map (some g) ∧ B ≤ g ∧ H g = none ∧ w.heap[g]? = some (.map es clock) ∧ MEnt H gk gt k t l es.toList
def lookT : List (Nat × SV) → Nat → Option SV
  | [], _ => none
  | (k, v) :: r, t => if k == t then some v else lookT r t
def lookO : List (Nat × Option AObj) → Nat → Option AObj
  | [], _ => none
  | (k, v) :: r, t => if k == t then v else lookO r t
inductive Ex where
  | nrm | ret | ext (id : Nat) | gto (l : Nat)
  deriving DecidableEq
abbrev LR := List (Nat × Option Ex)
def lookL : LR → Nat → Option (Option Ex)
  | [], _ => none
  | (k, v) :: r, t => if k == t then some v else lookL r t
def delL (d : Nat) (l : LR) : LR := l.filter fun x => x.1 != d
structure St where
  tm : List (Nat × SV)
  ob : List (Nat × Option AObj)
  nx : Nat
  lr : LR
def C.lt (n : Nat) : C → Prop
  | .ptr id _ => id < n
  | .el id _ _ _ _ => id < n
  | .own id => id < n
  | .view id _ _ _ _ => id < n
  | .fn _ a b => (∀ p ∈ a, p.1 < n) ∧ (∀ p ∈ b, p.1 < n)
  | .yl id => id < n
  | .vp id _ _ _ _ => id < n
  | _ => True
def Ch.lt (n : Nat) : Ch → Prop
  | .one c => c.lt n
  | .arr _ _ _ => True
def V.lt (n : Nat) : V → Prop
  | .one c => c.lt n
  | .agg cs => ∀ c ∈ cs, c.lt n
def SV.lt (n : Nat) : SV → Prop
  | .val v => v.lt n
  | .tup vs => ∀ v ∈ vs, v.lt n
def AObj.lt (n : Nat) : AObj → Prop
  | .box cs => ∀ c ∈ cs, c.lt n
  | .row _ _ => True
  | .sit _ _ => True
  | .map .. => True
structure Base where
  w : World
  K : Nat → Prop
  H0 : IH
  ρ : Nat → Value
  fl : Nat
  lt : Nat → Option (Nat × Loop)
  rd : Option Nat
structure Inv (w0 : Base) (B : Nat) (ρ : Nat → Value) (H : IH) (ob : List (Nat × Option AObj)) (nx : Nat) (w : World) : Prop where
  below : Below B w0.w w
  bsz : B ≤ w0.w.heap.size
  one : ∀ id, (ρ id).oneCell' = true
  agree : ∀ b o, H b = some o → w.heap[b]? = some o
  objs : ∀ id o, lookO ob id = some o → id < nx ∧ o.lt nx ∧ DenO w B ρ H id o
  sep : ∀ i j o p, i ≠ j → lookO ob i = some o → lookO ob j = some p → ∀ b, HB (ρ i) b → ¬ HB (ρ j) b
  kp : ∀ b, w0.K b → b < w0.w.heap.size ∧ w.heap[b]? = w0.w.heap[b]? ∧ H b = none ∧ ∀ id o, lookO ob id = some o → ¬ HB (ρ id) b
def TmOk (ρ : Nat → Value) (H : IH) (tm : List (Nat × SV)) (nx : Nat) (tmps : Array Value) : Prop :=
  ∀ t sv, lookT tm t = some sv → t < tmps.size ∧ sv.lt nx ∧ DenSV ρ H sv (tmps.getD t undef)
end Go.Sx

/- The engine's steps: what each operation does to the symbolic state. -/
namespace Go.Sx
inductive TK where
  | sc
  | strct (fs : List (Nat × Nat × Bool))
  | arr (n : Nat) (e : TypeId)
  | slc (e : TypeId)
  | map (k e : TypeId)
  deriving DecidableEq
structure TD where
  sz : Nat
  bytes : Nat
  agg : Bool
  kind : TK
  ty : Option Ty
  zero : List Ch
def Ch.chs : V → List Ch
  | .one c => [.one c]
  | .agg cs => cs
def dropCh : List Ch → Nat → Option (List Ch)
  | cs, 0 => some cs
  | [], _ + 1 => none
  | c :: r, n + 1 => if c.sz ≤ n + 1 then dropCh r (n + 1 - c.sz) else none
def takeCh : List Ch → Nat → Option (List Ch)
  | _, 0 => some []
  | [], _ + 1 => none
  | c :: r, n + 1 => if c.sz ≤ n + 1 then (takeCh r (n + 1 - c.sz)).map (c :: ·) else none
def cutCh (cs : List Ch) (off n : Nat) : Option (List Ch) := (dropCh cs off).bind (takeCh · n)
def putCh (cs : List Ch) (off n : Nat) (new : List Ch) : Option (List Ch) :=
  (takeCh cs off).bind fun a => ((dropCh cs off).bind (dropCh · n)).map fun b => a ++ (new ++ b)
def chsSz : List Ch → Nat
  | [] => 0
  | c :: r => c.sz + chsSz r
def toChs : (t : Ty) → t.T → List Ch
  | .int k, n => [.one (.int k n)]
  | .bool, b => [.one (.bool b)]
  | .str, l => [.one (.str l)]
  | .flt k, n => [.one (.flt k n)]
  | .cpx k, x => [.one (.cpx k x.1 x.2)]
  | .sl t, xs => [.one (.sl t xs)]
  | .arr n t, xs => [.arr n t xs]
  | .pair a b, x => toChs a x.1 ++ toChs b x.2
def ofC : (t : Ty) → C → Option t.T
  | .int k, .int k' n => if k' = k then some n else none
  | .bool, .bool b => some b
  | .str, .str l => some l
  | .flt k, .flt k' n => if k' = k then some n else none
  | .cpx k, .cpx k' a b => if k' = k then some (a, b) else none
  | .sl t, .sl t' xs => if h : t' = t then some (h ▸ xs) else none
  | .sl _, .nils => some []
  | _, _ => none
def ofChs : (t : Ty) → List Ch → Option (t.T × List Ch)
  | .arr n t, .arr n' t' xs :: r => if h : n' = n ∧ t' = t then some (h.2 ▸ xs, r) else none
  | .arr _ _, _ => none
  | .pair a b, cs => (ofChs a cs).bind fun x => (ofChs b x.2).bind fun y => some ((x.1, y.1), y.2)
  | .int k, .one c :: r => (ofC (.int k) c).map (·, r)
  | .bool, .one c :: r => (ofC .bool c).map (·, r)
  | .str, .one c :: r => (ofC .str c).map (·, r)
  | .flt k, .one c :: r => (ofC (.flt k) c).map (·, r)
  | .cpx k, .one c :: r => (ofC (.cpx k) c).map (·, r)
  | .sl t, .one c :: r => (ofC (.sl t) c).map (·, r)
  | _, _ => none
def ofV (t : Ty) (v : V) : Option t.T :=
  match ofChs t (Ch.chs v) with
  | some (x, []) => some x
  | _ => none
def subT : (t : Ty) → t.T → (off n : Nat) → Option ((u : Ty) × u.T)
  | .pair a b, x, off, n =>
    if off = 0 ∧ n = (Ty.pair a b).sz then some ⟨.pair a b, x⟩
    else if off < a.sz then subT a x.1 off n else subT b x.2 (off - a.sz) n
  | t, x, off, n => if off = 0 ∧ n = t.sz then some ⟨t, x⟩ else none
structure FSpec where
  run : List V → Option (List Prop × SV)
  fr : Bool
structure Env where
  P : Program
  tt : TypeId → Option TD
  gl : Nat → Option ((t : Ty) × t.T)
  sp : FuncId → Option FSpec
  fb : FuncId → Option Func
  eq : TypeId → Bool
  tdv : Bool
  pt : FuncId → Option (List V → Option (Nat × Nat))
structure Res where
  cs : List Prop
  v : Option SV
  up : List (Nat × Option AObj)
def rv (v : SV) : Option Res := some ⟨[], some v, []⟩
def rc (c : C) : Option Res := some ⟨[], some (.val (.one c)), []⟩
def rcc (p : Prop) (c : C) : Option Res := some ⟨[p], some (.val (.one c)), []⟩
def ofVal : Value → Option C
  | .int k n => some (.int k n)
  | .bool b => some (.bool b)
  | .string s => some (.str s.data.toList)
  | .float k n => some (.flt k n)
  | .complex k a b => some (.cpx k a b)
  | .slice none 0 0 => some .nils
  | .pointer none => some .nilp
  | .map none => some .nilm
  | .nilFunc => some .nilf
  | _ => none
def evalO (E : Env) (tm : Nat → Option SV) : Operand → Option SV
  | .tmp t => tm t
  | .const v => (ofVal v).map fun c => .val (.one c)
  | .global g => (E.gl g).map fun x => .val (.one (.ref x.1 x.2))
  | .func f => some (.val (.one (.fn f [] [])))
def one? : SV → Option C
  | .val (.one c) => some c
  | _ => none
def val? : SV → Option V
  | .val v => some v
  | _ => none
def i64ok (n : Int) : Prop := -9223372036854775808 ≤ n ∧ n ≤ 9223372036854775807
def fits (k : IntKind) (n : Int) : Prop :=
  match k with
  | .i8 => -128 ≤ n ∧ n ≤ 127
  | .i16 => -32768 ≤ n ∧ n ≤ 32767
  | .i32 => -2147483648 ≤ n ∧ n ≤ 2147483647
  | .i64 => -9223372036854775808 ≤ n ∧ n ≤ 9223372036854775807
  | .u8 => 0 ≤ n ∧ n ≤ 255
  | .u16 => 0 ≤ n ∧ n ≤ 65535
  | .u32 => 0 ≤ n ∧ n ≤ 4294967295
  | .u64 => 0 ≤ n ∧ n ≤ 18446744073709551615
def bits (op : BinOp) (k : IntKind) (x y : Int) : Int :=
  let a := BitVec.ofInt k.bits x
  let b := BitVec.ofInt k.bits y
  k.wrap (match op with
    | .and => a &&& b
    | .or => a ||| b
    | .xor => a ^^^ b
    | _ => a &&& ~~~b).toNat
def binInt (tdv : Bool) (op : BinOp) (k : IntKind) (a b : Int) : Option Res :=
  match op with
  | .add => bif tdv then rc (.int k (k.wrap (a + b))) else rcc (fits k (a + b)) (.int k (a + b))
  | .sub => bif tdv then rc (.int k (k.wrap (a - b))) else rcc (fits k (a - b)) (.int k (a - b))
  | .mul => bif tdv then rc (.int k (k.wrap (a * b))) else rcc (fits k (a * b)) (.int k (a * b))
  | .quo => bif tdv then rcc (b ≠ 0 ∧ fits k (a.tdiv b)) (.int k (a.tdiv b)) else rcc (0 ≤ a ∧ 0 < b ∧ fits k (a / b)) (.int k (a / b))
  | .rem => bif tdv then rcc (b ≠ 0) (.int k (a.tmod b)) else rcc (0 ≤ a ∧ 0 < b) (.int k (a % b))
  | .and => rc (.int k (bits .and k a b))
  | .or => rc (.int k (bits .or k a b))
  | .xor => rc (.int k (bits .xor k a b))
  | .andNot => rc (.int k (bits .andNot k a b))
  | .eql => rc (.bool (a == b))
  | .neq => rc (.bool (a != b))
  | .lss => rc (.bool (a < b))
  | .leq => rc (.bool (a ≤ b))
  | .gtr => rc (.bool (b < a))
  | .geq => rc (.bool (b ≤ a))
  | _ => none
def shInt (op : BinOp) (k : IntKind) (a b : Int) : Option Res :=
  match op with
  | .shl => rcc (0 ≤ b ∧ b.toNat ≤ k.bits ∧ fits k (a * 2 ^ b.toNat)) (.int k (a * 2 ^ b.toNat))
  | .shr => rcc (0 ≤ b ∧ b.toNat ≤ k.bits) (.int k (a / 2 ^ b.toNat))
  | _ => none
def eqT : (t : Ty) → t.T → t.T → Bool
  | .int _, a, b => (show Int from a) == b
  | .bool, a, b => (show Bool from a) == b
  | .str, a, b => (show List UInt8 from a) == b
  | .flt k, a, b => Op.floatEq k a b
  | .cpx k, a, b => Op.floatEq k a.1 b.1 && Op.floatEq k a.2 b.2
  | .arr n t, a, b => (List.range n).all fun i => eqT t (a.getD i t.d) (b.getD i t.d)
  | .pair s t, a, b => eqT s a.1 b.1 && eqT t a.2 b.2
  | .sl _, _, _ => false
def keyTy : Ty → Bool
  | .int _ | .bool | .str => true
  | .pair a b => keyTy a && keyTy b
  | _ => false
def U.mapGet (k t : Ty) (l : List (k.T × t.T)) (x : k.T) : Option t.T :=
  match l with
  | [] => none
  | p :: r => if eqT k x p.1 = true then some p.2 else U.mapGet k t r x
def U.mapPut (k t : Ty) (l : List (k.T × t.T)) (x : k.T) (y : t.T) : List (k.T × t.T) :=
  match l with
  | [] => [(x, y)]
  | p :: r => if eqT k x p.1 = true then (p.1, y) :: r else p :: U.mapPut k t r x y
structure MapD where
  gk : Bool
  gt : Bool
  k : Ty
  t : Ty
  l : List (k.T × t.T)
def mapOf (ob : Nat → Option AObj) : C → Option MapD
  | .own id => match ob id with
    | some (.map gk gt k t l) => some ⟨gk, gt, k, t, l⟩
    | _ => none
  | .mp gk gt k t l => some ⟨gk, gt, k, t, l⟩
  | _ => none
def rowOf (ob : Nat → Option AObj) : C → Option ((t : Ty) × List t.T)
  | .sl t xs => some ⟨t, xs⟩
  | .own id => match ob id with
    | some (.row t xs) => some ⟨t, xs⟩
    | _ => none
  | .view id off sz lo n => match ob id with
    | some (.row t xs) => if off = 0 ∧ sz = t.sz then some ⟨t, (xs.drop lo).take n⟩ else none
    | some (.box cs) => match dropCh cs off with
      | some (.arr _ t xs :: _) => if sz = t.sz then some ⟨t, (xs.drop lo).take n⟩ else none
      | _ => none
    | _ => none
  | _ => none
def rowP (ob : Nat → Option AObj) : C → List Prop
  | .view id off sz lo n => match rowOf ob (.view id off sz lo n) with
    | some x => [x.2.length = n]
    | none => []
  | _ => []
def argP (ob : Nat → Option AObj) : V → List Prop
  | .one c => rowP ob c
  | .agg cs => cs.flatMap fun | .one c => rowP ob c | .arr .. => []
def rowAs (ob : Nat → Option AObj) (t : Ty) (c : C) : Option (List t.T) :=
  match c with
  | .nils => some []
  | _ => match rowOf ob c with
    | some ⟨t', xs⟩ => if h : t' = t then some (h ▸ xs) else none
    | none => none
def lenOf (ob : Nat → Option AObj) : C → Option Nat
  | .nils => some 0
  | .view _ _ _ _ n => some n
  | c => (rowOf ob c).map fun x => x.2.length
def chTy : Ch → Option Ty
  | .one (.int k _) => some (.int k)
  | .one (.bool _) => some .bool
  | .one (.str _) => some .str
  | .one (.sl t _) => some (.sl t)
  | .arr n t _ => some (.arr n t)
  | _ => none
def chsTy : List Ch → Option Ty
  | [] => none
  | [c] => chTy c
  | c :: r => match chTy c, chsTy r with
    | some a, some b => some (.pair a b)
    | _, _ => none
def boxOfC (ob : Nat → Option AObj) : C → Option ((t : Ty) × t.T)
  | .ptr id 0 => match ob id with
    | some (.box [.one (.sl t xs)]) => some ⟨.sl t, xs⟩
    | some (.box cs) => match chsTy cs with
      | some t => match ofChs t cs with
        | some (x, []) => some ⟨t, x⟩
        | _ => none
      | none => none
    | _ => none
  | _ => none
def asArgC (ob : Nat → Option AObj) (c : C) : C :=
  match rowOf ob c with
  | some ⟨t, xs⟩ => .sl t xs
  | none => match mapOf ob c with
    | some m => .mp m.gk m.gt m.k m.t m.l
    | none => match boxOfC ob c with
      | some ⟨t, x⟩ => .ref t x
      | none => c
def capVs (ps : List (Nat × Nat)) : List V := ps.map fun p => .one (.ptr p.1 p.2)
def asArg (ob : Nat → Option AObj) : V → V
  | .one c => .one (asArgC ob c)
  | .agg cs => .agg (cs.map fun | .one c => .one (asArgC ob c) | x => x)
def pureC : C → Bool
  | .ptr .. | .el .. | .own _ | .view .. | .frs .. | .yl _ | .vp .. | .any => false
  | .fn _ a b => a.isEmpty && b.isEmpty
  | _ => true
def pureV : V → Bool
  | .one c => pureC c
  | .agg cs => cs.all fun | .one c => pureC c | .arr .. => true
def lentC : C → Bool
  | .own _ | .view .. | .ptr .. => true
  | _ => false
def lentV : V → Bool
  | .one c => lentC c
  | .agg cs => cs.any fun | .one c => lentC c | .arr .. => false
def takeV (nx : Nat) : V → V × List (Nat × Option AObj)
  | .one (.frs t xs) => (.one (.own nx), [(nx, some (.row t xs))])
  | v => (v, [])
def takeVs (nx : Nat) : List V → List V × List (Nat × Option AObj)
  | [] => ([], [])
  | v :: r => let a := takeV nx v; let b := takeVs (nx + 1) r; (a.1 :: b.1, b.2 ++ a.2)
def svLen : SV → Nat
  | .val _ => 1
  | .tup vs => vs.length
def takeSV (nx : Nat) : SV → SV × List (Nat × Option AObj)
  | .val v => let a := takeV nx v; (.val a.1, a.2)
  | .tup vs => let a := takeVs nx vs; (.tup a.1, a.2)
def getI (c : C) : Option (IntKind × Int) :=
  match c with
  | .int k n => some (k, n)
  | _ => none
def bound (ev : Operand → Option SV) (d : Int) : Option Operand → Option Int
  | none => some d
  | some x => match (ev x).bind one? with
    | some (.int _ n) => some n
    | _ => none
def sliceC (ob : Nat → Option AObj) (sz : Nat) (c : C) (lo hi : Int) : Option C :=
  match c with
  | .sl t xs => if t.sz = sz then some (.sl t ((xs.drop lo.toNat).take (hi.toNat - lo.toNat))) else none
  | .nils => some .nils
  | .own id => match ob id with
    | some (.row t _) => if t.sz = sz then some (.view id 0 sz lo.toNat (hi.toNat - lo.toNat)) else none
    | _ => none
  | .view id off z l _ => if z = sz then some (.view id off sz (l + lo.toNat) (hi.toNat - lo.toNat)) else none
  | _ => none
def dropSl (hi : Option Operand) (c r : C) (lo : Int) : C := match hi, c with
  | none, .sl t xs => .sl t (xs.drop lo.toNat)
  | _, _ => r
theorem dropSl_eq {ev : Operand → Option SV} {hi : Option Operand} {ob : Nat → Option AObj} {sz n : Nat} {c r : C} {lo h : Int} (hn : lenOf ob c = some n) (hh : bound ev n hi = some h) (hr : sliceC ob sz c lo h = some r) : dropSl hi c r lo = r := by
  unfold dropSl
  split
  · rename_i t xs
    cases hh
    simp only [lenOf, rowOf, Option.map_some, Option.some.injEq] at hn
    subst hn
    simp only [sliceC] at hr
    split at hr
    · cases hr
      rw [List.take_of_length_le (by simp)]
    · cases hr
  · rfl
def loadC (ob : Nat → Option AObj) (c : C) (n : Nat) : Option (List Prop × List Ch) :=
  match c with
  | .ptr id off => match ob id with
    | some (.box cs) => (cutCh cs off n).map fun x => ([], x)
    | _ => none
  | .el id off sz i sub => match ob id with
    | some (.row t xs) => if off = 0 ∧ sz = t.sz then (cutCh (toChs t (xs.getD i t.d)) sub n).map fun x => ([i < xs.length], x) else none
    | some (.box cs) => match dropCh cs off with
      | some (.arr _ t xs :: _) => if sz = t.sz then (cutCh (toChs t (xs.getD i t.d)) sub n).map fun x => ([i < xs.length], x) else none
      | _ => none
    | _ => none
  | .ref t x => if n = t.sz ∧ n ≠ 0 then some ([], toChs t x) else none
  | _ => none
def storeC (ob : Nat → Option AObj) (c : C) (n : Nat) (new : List Ch) : Option (List Prop × Nat × AObj) :=
  match c with
  | .ptr id off => match ob id with
    | some (.box cs) => (putCh cs off n new).map fun x => ([], id, .box x)
    | _ => none
  | .el id off sz i sub => match ob id with
    | some (.row t xs) => if off = 0 ∧ sz = t.sz then
        (putCh (toChs t (xs.getD i t.d)) sub n new).bind fun y => match ofChs t y with
          | some (x, []) => some ([i < xs.length], id, .row t (xs.set i x))
          | _ => none
        else none
    | some (.box cs) => match dropCh cs off with
      | some (.arr m t xs :: _) => if sz = t.sz then
          (putCh (toChs t (xs.getD i t.d)) sub n new).bind fun y => match ofChs t y with
            | some (x, []) => (putCh cs off (m * t.sz) [.arr m t (xs.set i x)]).map fun z => ([i < xs.length], id, .box z)
            | _ => none
          else none
      | _ => none
    | _ => none
  | _ => none
def mkV (d : TD) (cs : List Ch) : Option V :=
  bif d.agg then some (.agg cs) else
  match cs with
  | [.one c] => some (.one c)
  | _ => none
def fillS (fs : List (Nat × Nat × Bool)) (cs : List Ch) : List (Nat × V) → Option (List Ch)
  | [] => some cs
  | (i, v) :: r => match fs[i]? with
    | some (off, n, _) => if chsSz (Ch.chs v) = n then (putCh cs off n (Ch.chs v)).bind fun cs => fillS fs cs r else none
    | none => none
def fillA (sz : Nat) (cs : List Ch) : List (Nat × V) → Option (List Ch)
  | [] => some cs
  | (i, v) :: r => if chsSz (Ch.chs v) = sz then (putCh cs (i * sz) sz (Ch.chs v)).bind fun cs => fillA sz cs r else none
def fillRow (t : Ty) (xs : List t.T) : List (Nat × V) → Option (List t.T)
  | [] => some xs
  | (i, v) :: r => match ofV t v with
    | some x => if i < xs.length then fillRow t (xs.set i x) r else none
    | none => none
def parts (ev : Operand → Option SV) : List (Nat × Operand) → Option (List (Nat × V))
  | [] => some []
  | (i, x) :: r => match (ev x).bind val? with
    | some v => (parts ev r).map ((i, v) :: ·)
    | none => none
def evs (ev : Operand → Option SV) : List Operand → Option (List V)
  | [] => some []
  | x :: r => match (ev x).bind val? with
    | some v => (evs ev r).map (v :: ·)
    | none => none
def ptrs (ev : Operand → Option SV) : List Operand → Option (List (Nat × Nat))
  | [] => some []
  | x :: r => match (ev x).bind one? with
    | some (.ptr id off) => (ptrs ev r).map ((id, off) :: ·)
    | _ => none
def room (n bytes : Nat) : Prop := n ≤ 9223372036854775807 ∧ n * bytes ≤ 140737488355328
def appendR (E : Env) (ob : Nat → Option AObj) (nx : Nat) (T : TypeId) (s x : C) : Option Res :=
  match E.tt T with
  | some ⟨_, _, _, .slc e, _, _⟩ => match E.tt e with
    | some de => match de.ty with
      | some t => match rowAs ob t x, s with
        | some ys, .nils => some ⟨rowP ob x ++ [room ys.length de.bytes], some (.val (.one (.own nx))), [(nx, some (.row t ys))]⟩
        | some ys, .own id => match rowAs ob t s with
          | some xs => some ⟨rowP ob x ++ [room (xs.length + ys.length) de.bytes], some (.val (.one (.own nx))), [(nx, some (.row t (xs ++ ys))), (id, none)]⟩
          | none => none
        | some ys, .frs _ _ => some ⟨rowP ob x ++ [room ys.length de.bytes], some (.val (.one (.sl t ys))), []⟩
        | _, _ => none
      | none => none
    | none => none
  | _ => none
def partOf (ob : Nat → Option AObj) (t : Ty) (c : C) : Option (Nat × Nat × Nat × List t.T) :=
  match c with
  | .own id => match ob id with
    | some (.row t' xs) => if h : t' = t then some (id, 0, List.length xs, h ▸ xs) else none
    | _ => none
  | .view id 0 sz lo n => match ob id with
    | some (.row t' xs) => if h : t' = t ∧ sz = t.sz then some (id, lo, n, h.1 ▸ xs) else none
    | _ => none
  | _ => none
def bytesOf (xs : List Int) : List UInt8 := xs.map fun n => UInt8.ofNat n.toNat
def strNs (l : List UInt8) : List Int := l.map fun c => (c.toNat : Int)
def appendS (E : Env) (ob : Nat → Option AObj) (nx : Nat) (T T' : TypeId) (s x : C) : Option Res :=
  match E.tt T, E.tt T', x with
  | some ⟨_, _, _, .slc e, _, _⟩, some ⟨_, _, _, .sc, some .str, _⟩, .str l => match E.tt e with
    | some ⟨_, by_, _, _, some (.int .u8), _⟩ => match s with
      | .nils => some ⟨[room l.length by_], some (.val (.one (.own nx))), [(nx, some (.row (.int .u8) (strNs l)))]⟩
      | .own id => match rowAs ob (.int .u8) s with
        | some xs => some ⟨[room (xs.length + l.length) by_], some (.val (.one (.own nx))), [(nx, some (.row (.int .u8) (xs ++ strNs l))), (id, none)]⟩
        | none => none
      | _ => none
    | _ => none
  | _, _, _ => none
def U.copyL {α : Type} (lo n : Nat) (xs ys : List α) : List α := xs.take lo ++ ys.take n ++ xs.drop (lo + min ys.length n)
theorem U.copyL_all {α : Type} {n : Nat} {d : α} {ys : List α} (h : ys.length = n) : U.copyL 0 (List.length (List.replicate n d)) (List.replicate n d) ys = ys := by
  simp [U.copyL, ← h]
def builtinR (E : Env) (ob : Nat → Option AObj) (nx : Nat) (b : Builtin) (ts : List TypeId) (vs : List V) : Option Res :=
  match b, vs with
  | .len, [.one c] => match ts with
    | [T] => match E.tt T, c with
      | some ⟨_, _, _, .slc _, _, _⟩, c => match lenOf ob c with
        | some n => rc (.int .i64 n)
        | none => none
      | some ⟨_, _, _, .sc, some .str, _⟩, .str l => rc (.int .i64 l.length)
      | some ⟨_, _, _, .map _ _, _, _⟩, c => match mapOf ob c with
        | some m => rc (.int .i64 m.l.length)
        | none => none
      | _, _ => none
    | _ => none
  | .min, [.one (.int k a), .one (.int k' b)] => if k = k' then rc (.int k (min a b)) else none
  | .max, [.one (.int k a), .one (.int k' b)] => if k = k' then rc (.int k (max a b)) else none
  | .append, [.one s, .one x] => match ts with
    | [T, T'] => if T' = T then appendR E ob nx T s x else appendS E ob nx T T' s x
    | _ => none
  | .clear, [.one c] => match ts with
    | [T] => match E.tt T with
      | some ⟨_, _, _, .slc e, _, _⟩ => match E.tt e with
        | some ⟨_, _, _, _, some t, _⟩ => match partOf ob t c with
          | some (id, lo, n, xs) => some ⟨[lo + n ≤ xs.length], none, [(id, some (.row t (xs.take lo ++ List.replicate n t.d ++ xs.drop (lo + n))))]⟩
          | none => none
        | _ => none
      | _ => none
    | _ => none
  | .copy, [.one c, .one s] => match ts with
    | [T, T'] => match E.tt T with
      | some ⟨_, _, _, .slc e, _, _⟩ => match E.tt e with
        | some ⟨_, _, _, _, some t, _⟩ => match partOf ob t c, rowAs ob t s with
          | some (id, lo, n, xs), some ys => if T' = T then some ⟨rowP ob s ++ [lo + n ≤ xs.length], some (.val (.one (.int .i64 ((min ys.length n : Nat) : Int)))), [(id, some (.row t (U.copyL lo n xs ys)))]⟩ else none
          | _, _ => none
        | _ => none
      | _ => none
    | _ => none
  | _, _ => none
def callR (E : Env) (ob : Nat → Option AObj) (nx : Nat) (f : FuncId) (vs : List V) : Option Res :=
  match E.sp f with
  | some sp =>
    let as := vs.map (asArg ob)
    if as.all pureV && (sp.fr || vs.all fun v => !lentV v) then
      match sp.run as with
      | some (ps, r) => if svLen r ≤ 4 then let x := takeSV nx r; some ⟨vs.flatMap (argP ob) ++ ps, some x.1, x.2⟩ else none
      | none => none
    else none
  | none => none
def ofVg (g : Bool) (t : Ty) (v : V) : Option t.T :=
  match v with
  | .one c => bif g then none else ofV t (.one c)
  | .agg cs => bif g then ofV t (.agg cs) else none
def keyAs (E : Env) (kT : TypeId) (g : Bool) (k : Ty) (v : V) : Option k.T :=
  match E.tt kT with
  | some d => if d.agg = g ∧ d.ty = some k ∧ E.eq kT = true ∧ keyTy k = true then ofVg g k v else none
  | none => none
def frzC (ob : Nat → Option AObj) : C → C
  | .own j => match ob j with
    | some (.row t xs) => .sl t xs
    | _ => .own j
  | c => c
def frzCh (ob : Nat → Option AObj) : Ch → Ch
  | .one c => .one (frzC ob c)
  | x => x
def frzV (ob : Nat → Option AObj) : V → V
  | .one c => .one (frzC ob c)
  | .agg cs => .agg (cs.map (frzCh ob))
def ownCh : Ch → List Nat
  | .one (.own j) => [j]
  | _ => []
def ownV : V → List Nat
  | .one c => ownCh (.one c)
  | .agg cs => cs.flatMap ownCh
def delO (j : Nat) (ob : Nat → Option AObj) : Nat → Option AObj := fun i => if j == i then none else ob i
def stepOp (E : Env) (ev : Operand → Option SV) (ob : Nat → Option AObj) (nx : Nat) (op : Op) : Option Res :=
  match op with
  | .move x => (ev x).bind rv
  | .assign x => (ev x).bind rv
  | .pick c a b => match (ev c).bind one?, (ev a).bind one?, (ev b).bind one? with
    | some (.bool c), some (.bool a), some (.bool b) => rc (.bool (bif c then a else b))
    | _, _, _ => none
  | .alloc T => match E.tt T with
    | some d => some ⟨[], some (.val (.one (.ptr nx 0))), [(nx, some (.box d.zero))]⟩
    | none => none
  | .box _ x => match (ev x).bind val? with
    | some v => some ⟨[], some (.val (.one (.ptr nx 0))), [(nx, some (.box (Ch.chs v)))]⟩
    | none => none
  | .build T ps => match E.tt T, parts ev ps.toList with
    | some d, some vs => match d.kind with
      | .strct fs => (fillS fs d.zero vs).bind fun cs => rv (.val (.agg cs))
      | .arr n e => match E.tt e, d.zero with
        | some de, [.arr m t xs] => if m = n ∧ de.sz = t.sz then (fillRow t xs vs).bind fun ys => rv (.val (.agg [.arr m t ys])) else none
        | some de, z => (fillA de.sz z vs).bind fun cs => rv (.val (.agg cs))
        | _, _ => none
      | _ => none
    | _, _ => none
  | .buildSlice T n ps => match E.tt T, parts ev ps.toList with
    | some ⟨_, _, _, .slc e, _, _⟩, some vs => match E.tt e with
      | some ⟨_, _, _, _, some t, _⟩ => match fillRow t (List.replicate n t.d) vs with
        | some xs => if n * t.sz ≤ 16777216 then some ⟨[], some (.val (.one (.own nx))), [(nx, some (.row t xs))]⟩ else none
        | none => match fillRow t (List.replicate n t.d) (vs.map fun x => (x.1, frzV ob x.2)) with
          | some xs => if n * t.sz ≤ 16777216 then some ⟨[], some (.val (.one (.own nx))), (nx, some (.row t xs)) :: (vs.flatMap fun x => ownV x.2).map fun j => (j, none)⟩ else none
          | none => none
      | _ => none
    | _, _ => none
  | .load T a => match E.tt T, (ev a).bind one? with
    | some d, some (.vp id off sz lo n) => match rowOf ob (.view id off sz lo n) with
      | some ⟨t, xs⟩ => if d.sz = n * t.sz ∧ sz = t.sz then (mkV d [.arr n t xs]).map fun v => ⟨[xs.length = n], some (.val v), []⟩ else none
      | none => none
    | some d, some c => match loadC ob c d.sz with
      | some (ps, cs) => (mkV d cs).map fun v => ⟨ps, some (.val v), []⟩
      | none => none
    | _, _ => none
  | .store T a x => match E.tt T, (ev a).bind one?, (ev x).bind val? with
    | some d, some c, some v => if chsSz (Ch.chs v) = d.sz then match storeC ob c d.sz (Ch.chs v) with
        | some (ps, id, o) => some ⟨ps, none, [(id, some o)]⟩
        | none => match v with
          | .one (.own j) => match ob j with
            | some (.row t xs) => match storeC (delO j ob) c d.sz [.one (.sl t xs)] with
              | some (ps, id, o) => some ⟨ps, none, [(id, some o), (j, none)]⟩
              | none => none
            | _ => none
          | _ => none
      else none
    | _, _, _ => none
  | .nilCheck x => match (ev x).bind one? with
    | some (.ptr i o) => rc (.ptr i o)
    | some (.el i o z j s) => rc (.el i o z j s)
    | some (.ref t x) => rc (.ref t x)
    | some (.fn f a b) => rc (.fn f a b)
    | _ => none
  | .binOp op T x y _ => match (ev x).bind val?, (ev y).bind val? with
    | some (.one (.int k a)), some (.one (.int k' b)) => match op with
      | .shl | .shr => shInt op k a b
      | _ => if k = k' then binInt E.tdv op k a b else none
    | some (.one (.bool a)), some (.one (.bool b)) => match op, E.tt T with
      | .eql, some ⟨_, _, _, .sc, some .bool, _⟩ => rc (.bool (a == b))
      | .neq, some ⟨_, _, _, .sc, some .bool, _⟩ => rc (.bool (a != b))
      | _, _ => none
    | some (.one (.str a)), some (.one (.str b)) => match op with
      | .eql => rc (.bool (a == b))
      | .neq => rc (.bool (a != b))
      | .add => rcc (a.length + b.length ≤ 9223372036854775807) (.str (a ++ b))
      | _ => none
    | some (.one .nils), some (.one .nils) => match op, E.tt T with
      | .eql, some ⟨_, _, _, .slc _, _, _⟩ => rc (.bool true)
      | .neq, some ⟨_, _, _, .slc _, _, _⟩ => rc (.bool false)
      | _, _ => none
    | some (.agg xs), some (.agg ys) => match E.tt T with
      | some ⟨_, _, true, _, some u, _⟩ => if E.eq T then match ofV u (.agg xs), ofV u (.agg ys) with
          | some p, some q => match op with
            | .eql => rc (.bool (eqT u p q))
            | .neq => rc (.bool (!eqT u p q))
            | _ => none
          | _, _ => none
        else none
      | _ => none
    | _, _ => none
  | .unOp op _ x => match op, (ev x).bind one? with
    | .not, some (.bool b) => rc (.bool (!b))
    | .neg, some (.int k n) => rcc (fits k (-n)) (.int k (-n))
    | _, _ => none
  | .convert S T x => match E.tt S, E.tt T, (ev x).bind one? with
    | some _, some ⟨_, _, _, .sc, some (.int k), _⟩, some (.int _ n) => match k with
      | .u8 => rc (.int .u8 (n % 256))
      | k => rcc (fits k n) (.int k n)
    | some ⟨_, _, _, .sc, some .str, _⟩, some ⟨_, _, _, .sc, some .str, _⟩, some (.str l) => rc (.str l)
    | some ⟨_, _, _, .slc e, _, _⟩, some ⟨_, _, _, .sc, some .str, _⟩, some c => match E.tt e with
      | some ⟨_, _, _, .sc, some (.int .u8), _⟩ => match rowAs ob (.int .u8) c with
        | some xs => some ⟨rowP ob c, some (.val (.one (.str (bytesOf xs)))), []⟩
        | none => none
      | _ => none
    | some ⟨_, _, _, .sc, some .str, _⟩, some ⟨_, _, _, .slc e, _, _⟩, some (.str l) => match E.tt e with
      | some ⟨_, _, _, .sc, some (.int .u8), _⟩ => rc (.sl (.int .u8) (strNs l))
      | _ => none
    | some ⟨_, _, _, .slc e, _, _⟩, some ⟨_, _, _, .slc _, _, _⟩, some (.own id) => if S = T then match E.tt e with
      | some ⟨_, _, _, .sc, some (.int .u8), _⟩ => match rowAs ob (.int .u8) (.own id) with
        | some xs => some ⟨[0 < xs.length], some (.val (.one (.own id))), [(id, some (.row (.int .u8) xs))]⟩
        | none => none
      | _ => none
      else none
    | _, _, _ => none
  | .sliceToArrayPointer T x => match E.tt T, (ev x).bind one? with
    | some ⟨_, _, _, .arr n e, _, _⟩, some c => match E.tt e with
      | some ⟨_, _, _, _, some t, _⟩ => match c with
        | .sl t' xs => if h : t' = t ∧ n ≠ 0 then rcc (n ≤ xs.length) (.ref (.arr n t) (h.1 ▸ xs.take n)) else none
        | .own id => match ob id with
          | some (.row t' xs) => if t' = t ∧ n ≠ 0 then rcc (n ≤ xs.length) (.vp id 0 t.sz 0 n) else none
          | _ => none
        | .view id off sz lo m => if sz = t.sz ∧ n ≠ 0 then rcc (n ≤ m) (.vp id off sz lo n) else none
        | _ => none
      | _ => none
    | _, _ => none
  | .range T x => match E.tt T, (ev x).bind one? with
    | some ⟨_, _, _, .sc, some .str, _⟩, some (.str l) => some ⟨[], some (.val (.one (.ptr nx 0))), [(nx, some (.sit l 0))]⟩
    | _, _ => none
  | .makeMap T none => match E.tt T with
    | some ⟨_, _, _, .map kT eT, _, _⟩ => match E.tt kT, E.tt eT with
      | some dk, some de => match dk.ty, de.ty with
        | some k, some t => some ⟨[], some (.val (.one (.own nx))), [(nx, some (.map dk.agg de.agg k t []))]⟩
        | _, _ => none
      | _, _ => none
    | _ => none
  | .mapUpdate T m k x => match E.tt T, (ev m).bind one?, (ev k).bind val?, (ev x).bind val? with
    | some ⟨_, _, _, .map kT _, _, _⟩, some (.own id), some kv, some xv => match ob id with
      | some (.map gk gt kt t l) => match keyAs E kT gk kt kv, ofVg gt t xv with
        | some p, some q => some ⟨[], none, [(id, some (.map gk gt kt t (U.mapPut kt t l p q)))]⟩
        | _, _ => none
      | _ => none
    | _, _, _, _ => none
  | .lookup T m k ok => match E.tt T, (ev m).bind one?, (ev k).bind val? with
    | some ⟨_, _, _, .map kT eT, _, _⟩, some c, some kv => match mapOf ob c, E.tt eT with
      | some m, some de => if de.agg = m.gt ∧ de.ty = some m.t then match keyAs E kT m.gk m.k kv with
        | some p => (mkV de (toChs m.t ((U.mapGet m.k m.t m.l p).getD m.t.d))).bind fun v =>
            rv (bif ok then .tup [v, .one (.bool (U.mapGet m.k m.t m.l p).isSome)] else .val v)
        | none => none
        else none
      | _, _ => none
    | _, _, _ => none
  | .makeFunc (.func f) a b => match ptrs ev a.toList, ptrs ev b.toList with
    | some p, some q => rc (.fn f p q)
    | _, _ => none
  | .makeSlice T (.tmp l) (.tmp c) => match E.tt T, (ev (.tmp l)).bind one? with
    | some ⟨_, _, _, .slc e, _, _⟩, some (.int .i64 n) => match E.tt e with
      | some ⟨_, by_, _, _, some t, _⟩ => if l = c then
          some ⟨[0 ≤ n, room n.toNat by_], some (.val (.one (.own nx))), [(nx, some (.row t (List.replicate n.toNat t.d)))]⟩ else none
      | _ => none
    | _, _ => none
  | .slice T x lo hi none => match E.tt T, (ev x).bind one? with
    | some ⟨_, _, _, .arr n e, _, _⟩, some c => match E.tt e, bound ev 0 lo, bound ev n hi with
      | some de, some l, some h => match c with
        | .ptr id off => some ⟨[0 ≤ l ∧ l ≤ h ∧ h ≤ n], some (.val (.one (.view id off de.sz l.toNat (h.toNat - l.toNat)))), []⟩
        | .ref (.arr m t) xs => if de.sz = t.sz ∧ m = n then some ⟨[0 ≤ l ∧ l ≤ h ∧ h ≤ n], some (.val (.one (.sl t ((List.drop l.toNat xs).take (h.toNat - l.toNat))))), []⟩ else none
        | _ => none
      | _, _, _ => none
    | some ⟨_, _, _, .slc e, _, _⟩, some c => match E.tt e, lenOf ob c with
      | some de, some n => match bound ev 0 lo, bound ev n hi with
        | some l, some h => match sliceC ob de.sz c l h with
          | some r => rcc (0 ≤ l ∧ l ≤ h ∧ h ≤ n) (dropSl hi c r l)
          | none => none
        | _, _ => none
      | _, _ => none
    | some ⟨_, _, _, .sc, some .str, _⟩, some (.str s) => match bound ev 0 lo, bound ev s.length hi with
      | some l, some h => rcc (0 ≤ l ∧ l ≤ h ∧ h ≤ s.length) (.str ((s.drop l.toNat).take (h.toNat - l.toNat)))
      | _, _ => none
    | _, _ => none
  | .fieldAddr T x i => match E.tt T, (ev x).bind one? with
    | some ⟨_, _, _, .strct fs, _, _⟩, some c => match fs[i]? with
      | some (off, n, _) => match c with
        | .ptr id o => rc (.ptr id (o + off))
        | .el id o z j s => rc (.el id o z j (s + off))
        | .ref t x => (subT t x off n).bind fun y => rc (.ref y.1 y.2)
        | _ => none
      | none => none
    | _, _ => none
  | .field T x i => match E.tt T, (ev x).bind val? with
    | some ⟨_, _, _, .strct fs, _, _⟩, some (.agg cs) => match fs[i]? with
      | some (off, n, false) => match cutCh cs off n with
        | some [.one c] => rc c
        | _ => none
      | some (off, n, true) => match cutCh cs off n with
        | some x => rv (.val (.agg x))
        | _ => none
      | none => none
    | _, _ => none
  | .indexAddr T x i => match E.tt T, (ev x).bind one?, (ev i).bind one? with
    | some ⟨_, _, _, .arr n e, _, _⟩, some c, some (.int _ i) => match E.tt e with
      | some de => match c with
        | .ptr id off => rcc (0 ≤ i ∧ i < n) (.el id off de.sz i.toNat 0)
        | .ref (.arr m t) xs => if de.sz = t.sz ∧ m = n then rcc (0 ≤ i ∧ i < n) (.ref t (List.getD xs i.toNat t.d)) else none
        | _ => none
      | none => none
    | some ⟨_, _, _, .slc e, _, _⟩, some c, some (.int _ i) => match E.tt e with
      | some de => match c with
        | .sl t xs => if de.sz = t.sz then rcc (0 ≤ i ∧ i < xs.length) (.ref t (xs.getD i.toNat t.d)) else none
        | .own id => match ob id with
          | some (.row t xs) => if de.sz = t.sz then rcc (0 ≤ i ∧ i < xs.length) (.el id 0 t.sz i.toNat 0) else none
          | _ => none
        | .view id off sz lo n => if de.sz = sz then rcc (0 ≤ i ∧ i < n) (.el id off sz (lo + i.toNat) 0) else none
        | _ => none
      | none => none
    | _, _, _ => none
  | .index T x i => match E.tt T, (ev x).bind val?, (ev i).bind one? with
    | some ⟨_, _, _, .arr n e, _, _⟩, some (.agg [.arr m t xs]), some (.int _ i) => match E.tt e with
      | some de => if de.sz = t.sz ∧ m = n then (mkV de (toChs t (xs.getD i.toNat t.d))).map fun v => ⟨[0 ≤ i ∧ i < n], some (.val v), []⟩ else none
      | none => none
    | some ⟨_, _, _, .arr n e, _, _⟩, some (.agg cs), some (.int _ i) => match E.tt e with
      | some de => (cutCh cs (i.toNat * de.sz) de.sz).bind fun y => (mkV de y).map fun v => ⟨[0 ≤ i ∧ i < n], some (.val v), []⟩
      | none => none
    | some ⟨_, _, _, .sc, some .str, _⟩, some (.one (.str l)), some (.int _ i) => rcc (0 ≤ i ∧ i < l.length) (.int .u8 (l.getD i.toNat 0).toNat)
    | _, _, _ => none
  | .extract x i => match ev x with
    | some (.tup vs) => (vs[i]?).bind fun v => rv (.val v)
    | _ => none
  | .call ⟨.builtin b, args, ts⟩ => match evs ev args.toList with
    | some vs => builtinR E ob nx b ts.toList vs
    | none => none
  | .call ⟨.value f, args, _⟩ => match (ev f).bind one?, evs ev args.toList with
    | some (.fn f [] []), some vs => match E.pt f with
      | some run => match run vs with
        | some p => rc (.ptr p.1 p.2)
        | none => none
      | none => callR E ob nx f vs
    | some (.fn f p q), some vs => callR E ob nx f (capVs p ++ vs ++ capVs q)
    | _, _ => none
  | _ => none
end Go.Sx

/- The engine's runs: regions, code, loops, functions. -/
namespace Go.Sx
def frcCs : List Ch → (List Ch → Prop) → Prop
  | [], k => k []
  | .one c :: r, k => match c with
    | .int a b => frcCs r fun r => k (.one (.int a b) :: r)
    | .bool b => frcCs r fun r => k (.one (.bool b) :: r)
    | .str l => frcCs r fun r => k (.one (.str l) :: r)
    | .flt a b => frcCs r fun r => k (.one (.flt a b) :: r)
    | .cpx a b c => frcCs r fun r => k (.one (.cpx a b c) :: r)
    | .sl t x => frcCs r fun r => k (.one (.sl t x) :: r)
    | .ref t x => frcCs r fun r => k (.one (.ref t x) :: r)
    | .ptr a b => frcCs r fun r => k (.one (.ptr a b) :: r)
    | .el a b c d e => frcCs r fun r => k (.one (.el a b c d e) :: r)
    | .own a => frcCs r fun r => k (.one (.own a) :: r)
    | .view a b c d e => frcCs r fun r => k (.one (.view a b c d e) :: r)
    | .frs t x => frcCs r fun r => k (.one (.frs t x) :: r)
    | .nilp => frcCs r fun r => k (.one .nilp :: r)
    | .nils => frcCs r fun r => k (.one .nils :: r)
    | .nilf => frcCs r fun r => k (.one .nilf :: r)
    | .fn f a b => frcCs r fun r => k (.one (.fn f a b) :: r)
    | .yl i => frcCs r fun r => k (.one (.yl i) :: r)
    | .vp a b c d e => frcCs r fun r => k (.one (.vp a b c d e) :: r)
    | .nilm => frcCs r fun r => k (.one .nilm :: r)
    | .mp a b c d l => frcCs r fun r => k (.one (.mp a b c d l) :: r)
    | .any => frcCs r fun r => k (.one .any :: r)
  | .arr n t xs :: r, k => frcCs r fun r => k (.arr n t xs :: r)
theorem frcCs_eq : ∀ (cs : List Ch) (k : List Ch → Prop), frcCs cs k = k cs
  | [], _ => rfl
  | .one c :: r, k => by cases c <;> simp only [frcCs, frcCs_eq r]
  | .arr n t xs :: r, k => by simp only [frcCs, frcCs_eq r]
def frcV : V → (V → Prop) → Prop
  | .one c, k => frcCs [.one c] fun
    | [.one c] => k (.one c)
    | _ => False
  | .agg cs, k => frcCs cs fun cs => k (.agg cs)
theorem frcV_eq (v : V) (k : V → Prop) : frcV v k = k v := by cases v <;> simp only [frcV, frcCs_eq]
def frcVs : List V → (List V → Prop) → Prop
  | [], k => k []
  | v :: r, k => frcV v fun v => frcVs r fun r => k (v :: r)
theorem frcVs_eq : ∀ (vs : List V) (k : List V → Prop), frcVs vs k = k vs
  | [], _ => rfl
  | v :: r, k => by simp only [frcVs, frcV_eq, frcVs_eq r]
def frcSV : SV → (SV → Prop) → Prop
  | .val v, k => frcV v fun v => k (.val v)
  | .tup vs, k => frcVs vs fun vs => k (.tup vs)
theorem frcSV_eq (v : SV) (k : SV → Prop) : frcSV v k = k v := by cases v <;> simp only [frcSV, frcV_eq, frcVs_eq]
def frcUp : List (Nat × Option AObj) → (List (Nat × Option AObj) → Prop) → Prop
  | [], k => k []
  | (i, none) :: r, k => frcUp r fun r => k ((i, none) :: r)
  | (i, some (.box cs)) :: r, k => frcCs cs fun cs => frcUp r fun r => k ((i, some (.box cs)) :: r)
  | (i, some (.row t xs)) :: r, k => frcUp r fun r => k ((i, some (.row t xs)) :: r)
  | (i, some (.sit l n)) :: r, k => frcUp r fun r => k ((i, some (.sit l n)) :: r)
  | (i, some (.map a b c d l)) :: r, k => frcUp r fun r => k ((i, some (.map a b c d l)) :: r)
theorem frcUp_eq : ∀ (u : List (Nat × Option AObj)) (k : List (Nat × Option AObj) → Prop), frcUp u k = k u
  | [], _ => rfl
  | (i, none) :: r, k => by simp only [frcUp, frcUp_eq r]
  | (i, some (.box cs)) :: r, k => by simp only [frcUp, frcCs_eq, frcUp_eq r]
  | (i, some (.row t xs)) :: r, k => by simp only [frcUp, frcUp_eq r]
  | (i, some (.sit l n)) :: r, k => by simp only [frcUp, frcUp_eq r]
  | (i, some (.map a b c d l)) :: r, k => by simp only [frcUp, frcUp_eq r]
def conj : List Prop → Prop → Prop
  | [], q => q
  | p :: r, q => p ∧ conj r q
structure GV where
  d : Nat
  g : Nat
  w : Bool
  v : SV
def gvOf : List GV → Nat → Option GV
  | [], _ => none
  | x :: r, t => if x.d == t then some x else gvOf r t
def gsFree (gs : List GV) (d : Nat) : Bool := gs.all fun x => x.d != d && x.g != d
def brings (gs : List GV) : Nat → List (Nat × Bool) → Nat → Bool → Bool
  | 0, _, _, _ => false
  | n + 1, ctx, g, w => ctx.any fun (t, u) => (t == g && u == w) || (match gvOf gs t with
      | some x => brings gs n [(x.g, x.w)] g w
      | none => false)
def evG (E : Env) (tm : List (Nat × SV)) (gs : List GV) (ctx : List (Nat × Bool)) : Operand → Option SV
  | .tmp t => match gvOf gs t with
    | some x => bif brings gs 8 ctx x.g x.w then some x.v else none
    | none => lookT tm t
  | x => evalO E (lookT tm) x
def hyps (tm : List (Nat × SV)) (gs : List GV) : Nat → Nat → Bool → Prop → Prop
  | 0, _, _, p => p
  | n + 1, g, w, p => match gvOf gs g with
    | some ⟨_, g', w', .val (.one (.bool e))⟩ => hyps tm gs n g' w' (e = w → p)
    | some _ => p
    | none => match lookT tm g with
      | some (.val (.one (.bool e))) => e = w → p
      | _ => p
def still (nx : Nat) (r : Res) : Option Res :=
  match r.up with
  | [] => some r
  | [(i, some (.row t xs))] => match r.v with
    | some (.val (.one (.own j))) => if i = j ∧ nx ≤ i then some ⟨r.cs, some (.val (.one (.sl t xs))), []⟩ else none
    | _ => none
  | _ => none
def W : Nat := 4
def stepG (E : Env) (tm : List (Nat × SV)) (gs : List GV) (ob : List (Nat × Option AObj)) (nx : Nat) (ctx : List (Nat × Bool)) (op : Op) : Option Res :=
  match op with
  | .pick (.tmp c) a b => match (evG E tm gs ctx (.tmp c)).bind one?, (evG E tm gs ((c, true) :: ctx) a).bind one?, (evG E tm gs ((c, false) :: ctx) b).bind one? with
    | some (.bool c), some (.bool a), some (.bool b) => rc (.bool (bif c then a else b))
    | _, _, _ => none
  | op => stepOp E (evG E tm gs ctx) (lookO ob) nx op
def delT (d : Nat) (tm : List (Nat × SV)) : List (Nat × SV) := tm.filter fun x => x.1 != d
abbrev Cont := SV → List (Nat × Option AObj) → Nat → LR → Prop
abbrev YF := List V → List (Nat × Option AObj) → Nat → LR → Cont → Prop
abbrev YT := Nat → Option YF
abbrev Inl := FuncId → List V → YT → List (Nat × Option AObj) → Nat → LR → Cont → Prop
def ptrVs (ps : List (Nat × Nat)) : List V := ps.map fun p => .one (.ptr p.1 p.2)
def callOf (ev : Operand → Option SV) : Op → Option (C × List V)
  | .call ⟨.value f, args, _⟩ => match (ev f).bind one?, evs ev args.toList with
    | some c, some vs => some (c, vs)
    | _, _ => none
  | _ => none
def subOf (E : Env) (inl : Inl) (yt : YT) (ob : List (Nat × Option AObj)) (nx : Nat) (lr : LR) : C × List V → Option (Cont → Prop)
  | (.fn f a b, vs) => match E.fb f with
    | some _ => some (inl f (ptrVs a ++ vs ++ ptrVs b) yt ob nx lr)
    | none => none
  | (.yl id, vs) => match yt id with
    | some y => some (y vs ob nx lr)
    | none => none
  | _ => none
def nhyps (tm : List (Nat × SV)) (gs : List GV) (g : Nat) (w : Bool) (p : Prop) : Prop :=
  match gvOf gs g with
  | some _ => p
  | none => match lookT tm g with
    | some (.val (.one (.bool e))) => e = !w → p
    | _ => p
def nilOf (E : Env) (ob : Nat → Option AObj) (ev : Operand → Option SV) : Op → Option (Bool × Nat)
  | .binOp op T x (.const (.slice none 0 0)) _ => match E.tt T, (ev x).bind one? with
    | some ⟨_, _, _, .slc _, _, _⟩, some c => match op, c with
      | _, .nils => none
      | .eql, c => (lenOf ob c).map fun n => (false, n)
      | .neq, c => (lenOf ob c).map fun n => (true, n)
      | _, _ => none
    | _, _ => none
  | _ => none
def nextOf (ob : Nat → Option AObj) (ev : Operand → Option SV) : Op → Option (Nat × List UInt8 × Nat)
  | .next x true => match (ev x).bind one? with
    | some (.ptr id 0) => match ob id with
      | some (.sit l pos) => some (id, l, pos)
      | _ => none
    | _ => none
  | _ => none
def runeOk (l : List UInt8) (pos c w : Nat) : Prop :=
  pos < l.length ∧ ((l.getD pos 0).toNat < 128 → c = (l.getD pos 0).toNat ∧ w = 1) ∧ (128 ≤ (l.getD pos 0).toNat → 128 ≤ c ∧ 1 ≤ w)
def runSeq (E : Env) (inl : Inl) (yt : YT) (ops : Array Oper) : List Oper → St → List GV → (St → Prop) → Prop
  | [], s, _, k => k s
  | o :: r, s, gs, k =>
    match o.guard with
    | none =>
      match (callOf (evG E s.tm gs []) o.op).bind (subOf E inl yt s.ob s.nx s.lr) with
      | some q => q fun v ob nx lr => match o.dst with
        | some d => if gsFree gs d then frcSV v fun v => runSeq E inl yt ops r ⟨(d, v) :: s.tm, ob, nx, lr⟩ gs k else False
        | none => runSeq E inl yt ops r ⟨s.tm, ob, nx, lr⟩ gs k
      | none =>
      match nilOf E (lookO s.ob) (evG E s.tm gs []) o.op, o.dst with
      | some (neg, n), some d => if gsFree gs d then ∀ b : Bool, (b = true → n = 0) → runSeq E inl yt ops r ⟨(d, .val (.one (.bool (b != neg)))) :: s.tm, s.ob, s.nx, s.lr⟩ gs k else False
      | _, _ =>
      match nextOf (lookO s.ob) (evG E s.tm gs []) o.op, o.dst with
      | some (id, l, pos), some d => if gsFree gs d then
          (l.length ≤ pos → runSeq E inl yt ops r ⟨(d, .tup [.one (.bool false)]) :: s.tm, s.ob, s.nx, s.lr⟩ gs k) ∧
          ∀ c w : Nat, runeOk l pos c w → runSeq E inl yt ops r ⟨(d, .tup [.one (.bool true), .one (.int .i64 pos), .one (.int .i32 c)]) :: s.tm, (id, some (.sit l (pos + w))) :: s.ob, s.nx, s.lr⟩ gs k
        else False
      | _, _ =>
      match stepG E s.tm gs s.ob s.nx [] o.op with
      | some res => conj res.cs (match o.dst, res.v with
        | some d, some v => if gsFree gs d then frcSV v fun v => frcUp res.up fun up => runSeq E inl yt ops r ⟨(d, v) :: s.tm, up ++ s.ob, s.nx + W, s.lr⟩ gs k else False
        | none, _ => frcUp res.up fun up => runSeq E inl yt ops r ⟨s.tm, up ++ s.ob, s.nx + W, s.lr⟩ gs k
        | _, _ => False)
      | none => False
    | some (j, w) =>
      match (ops[j]?).bind (·.dst), o.dst with
      | some g, some d =>
        match (callOf (evG E s.tm gs [(g, w)]) o.op).bind (subOf E inl yt s.ob s.nx s.lr) with
        | some q => if gsFree gs d && d != g then
            hyps s.tm gs 8 g w (q fun v ob nx lr => frcSV v fun v => runSeq E inl yt ops r ⟨delT d s.tm, ob, nx, lr⟩ (⟨d, g, w, v⟩ :: gs) k) ∧
            nhyps s.tm gs g w (runSeq E inl yt ops r ⟨delT d s.tm, s.ob, s.nx, s.lr⟩ (⟨d, g, w, .val (.one (.bool false))⟩ :: gs) k) else False
        | none =>
        match (stepG E s.tm gs s.ob s.nx [(g, w)] o.op).bind (still s.nx) with
        | some res => match res.v with
          | some v => if gsFree gs d && d != g then conj (res.cs.map (hyps s.tm gs 8 g w)) (frcSV v fun v => runSeq E inl yt ops r ⟨delT d s.tm, s.ob, s.nx + W, s.lr⟩ (⟨d, g, w, v⟩ :: gs) k) else False
          | none => False
        | none => False
      | _, _ => False
structure Rec where
  i : Nat
  d : Option Nat
  g : Option (Nat × Bool)
  v : SV
  up : List (Nat × Option AObj)
def ancs : List Oper → List Nat → List Nat
  | [], acc => acc
  | o :: r, acc => ancs r (acc ++ [o.after.toList.foldl (fun m e => if Region.binds .any e then m ||| 2 ^ e.on ||| acc.getD e.on 0 else m) 0])
def recTm (a : Nat → Bool) : List Rec → List (Nat × SV) → List (Nat × SV)
  | [], tm => tm
  | ⟨i, some d, none, v, _⟩ :: r, tm => bif a i then (d, v) :: recTm a r tm else recTm a r tm
  | ⟨i, some d, some _, _, _⟩ :: r, tm => bif a i then delT d (recTm a r tm) else recTm a r tm
  | ⟨_, none, _, _, _⟩ :: r, tm => recTm a r tm
def recGs (a : Nat → Bool) : List Rec → List GV
  | [] => []
  | ⟨i, some d, some (g, w), v, _⟩ :: r => bif a i then ⟨d, g, w, v⟩ :: recGs a r else recGs a r
  | _ :: r => recGs a r
def recOb (a : Nat → Bool) : List Rec → List (Nat × Option AObj)
  | [] => []
  | x :: r => bif a x.i then x.up ++ recOb a r else recOb a r
def C.ids : C → List Nat
  | .ptr id _ => [id]
  | .el id _ _ _ _ => [id]
  | .own id => [id]
  | .view id _ _ _ _ => [id]
  | .fn _ a b => a.map (·.1) ++ b.map (·.1)
  | .yl id => [id]
  | .vp id _ _ _ _ => [id]
  | _ => []
def Ch.ids : Ch → List Nat
  | .one c => c.ids
  | .arr .. => []
def V.ids : V → List Nat
  | .one c => c.ids
  | .agg cs => cs.flatMap Ch.ids
def SV.ids : SV → List Nat
  | .val v => v.ids
  | .tup vs => vs.flatMap V.ids
def tmpsOf (xs : List Operand) : List Nat := xs.filterMap fun | .tmp t => some t | _ => none
def looks (ops : Array Oper) (o : Oper) : List Nat :=
  tmpsOf o.op.operands.toList ++ (match o.guard with
    | some (g, _) => ((ops[g]?).bind (·.dst)).toList
    | none => [])
def keepT (l : List Nat) (tm : List (Nat × SV)) : List (Nat × SV) := tm.filter fun x => l.contains x.1
def objIds : Option AObj → List Nat
  | some (.box cs) => cs.flatMap Ch.ids
  | _ => []
def recOk (nx0 i sl : Nat) (keys : List Nat) (v : SV) (up : List (Nat × Option AObj)) : Bool :=
  ((v.ids ++ up.flatMap fun x => objIds x.2).all fun id => (decide (id < nx0) || keys.contains id) && decide (id < nx0 + W * i + W)) &&
  up.all fun x => decide (nx0 + W * sl ≤ x.1) && decide (x.1 < nx0 + W * sl + W) && x.2.isSome
def slotOf (nx0 i : Nat) : List (Nat × Option AObj) → Nat
  | [] => i
  | y :: _ => (y.1 - nx0) / W
def Rec.sl (nx0 : Nat) (x : Rec) : Nat := slotOf nx0 x.i x.up
def stoAll (nx0 : Nat) (l : List (Oper × Nat × Nat)) (rs : List Rec) : Bool :=
  rs.all fun x => x.sl nx0 == x.i || ((rs.all fun y => y.sl nx0 != x.sl nx0 || y.i == y.sl nx0 || y.i == x.i) &&
    l.all fun q => q.2.1 != x.i || l.all fun y => !(Nat.testBit y.2.2 (x.sl nx0)) || Nat.testBit y.2.2 x.i || y.2.1 == x.i || Nat.testBit q.2.2 y.2.1)
def stepH (fl : Bool) (E : Env) (tm : List (Nat × SV)) (gs : List GV) (ob : List (Nat × Option AObj)) (nx : Nat) (op : Op) : Option Res :=
  match fl, op with
  | true, .buildSlice T 0 ⟨[]⟩ => match E.tt T with
    | some ⟨_, _, _, .slc e, _, _⟩ => match E.tt e with
      | some ⟨_, _, _, _, some t, _⟩ => some ⟨[], some (.val (.one (.frs t []))), []⟩
      | _ => none
    | _ => none
  | _, op => stepG E tm gs ob nx [] op
def appTo (d : Option Nat) (l : List (Oper × Nat)) : Bool := l.any fun x => match x.1.op with
  | .call ⟨.builtin .append, ⟨.tmp t :: _⟩, _⟩ => match d with
    | some d => t == d
    | none => false
  | _ => false
def valOr : Option Nat → Option SV → Option SV
  | _, some v => some v
  | none, none => some (.val (.one (.bool false)))
  | some _, none => none
def eatOb (a : Nat → Bool) : List (Nat × Nat) → List (Nat × Option AObj) → List (Nat × Option AObj)
  | [], ob => ob
  | (i, id) :: r, ob => bif a i then (id, none) :: eatOb a r ob else eatOb a r ob
def keepU (up : List (Nat × Option AObj)) : List (Nat × Option AObj) := up.filter (·.2.isSome)
def eatOk (nx0 i : Nat) (hd : List (Nat × Nat)) (up : List (Nat × Option AObj)) : Bool :=
  up.all fun x => x.2.isSome || (Nat.blt x.1 nx0 && hd.any fun y => y.1 == i && y.2 == x.1)
def oldT (ops : Array Oper) (s : St) (t : Nat) : Option SV :=
  match ops.toList.find? fun o => o.dst == some t with
  | none => lookT s.tm t
  | some o => match o.op with
    | .move (.tmp u) => lookT s.tm u
    | _ => none
def frcHd : List (Nat × Nat) → (List (Nat × Nat) → Prop) → Prop
  | [], k => k []
  | x :: r, k => frcHd r fun r => k (x :: r)
theorem frcHd_eq : ∀ (u : List (Nat × Nat)) (k : List (Nat × Nat) → Prop), frcHd u k = k u
  | [], _ => rfl
  | x :: r, k => by simp only [frcHd, frcHd_eq r]
def eats (ops : Array Oper) (s : St) : Nat → List Oper → List (Nat × Nat)
  | _, [] => []
  | i, o :: r => match o.guard, o.op with
    | none, .call ⟨.builtin .append, ⟨.tmp t :: _⟩, _⟩ => match oldT ops s t with
      | some (.val (.one (.own id))) => (i, id) :: eats ops s (i + 1) r
      | _ => eats ops s (i + 1) r
    | _, _ => eats ops s (i + 1) r
def runDraw (E : Env) (ops : Array Oper) (s : St) (hd : List (Nat × Nat)) : List (Oper × Nat) → Nat → List Rec → (List Rec → Prop) → Prop
  | [], _, rs, k => k rs
  | (o, m) :: r, i, rs, k =>
    if m < 2 ^ i then
      match o.guard with
      | none =>
        match stepH (appTo o.dst r) E (keepT (looks ops o) (recTm (Nat.testBit m) rs s.tm)) (recGs (Nat.testBit m) rs) (recOb (Nat.testBit m) rs ++ eatOb (fun j => j != i) hd s.ob) (s.nx + W * i) o.op with
        | some res => match valOr o.dst res.v with
          | some v => conj res.cs (frcSV v fun v => frcUp (keepU res.up) fun up => if recOk s.nx i (slotOf s.nx i up) ((up ++ recOb (Nat.testBit m) rs).map (·.1)) v up && (slotOf s.nx i up == i || Nat.testBit m (slotOf s.nx i up)) && eatOk s.nx i hd res.up then runDraw E ops s hd r (i + 1) (⟨i, o.dst, none, v, up⟩ :: rs) k else False)
          | none => False
        | none => False
      | some (j, w) =>
        match (ops[j]?).bind (·.dst), o.dst with
        | some g, some d =>
          match (stepG E (keepT (looks ops o) (recTm (Nat.testBit m) rs s.tm)) (recGs (Nat.testBit m) rs) (recOb (Nat.testBit m) rs ++ eatOb (fun j => j != i) hd s.ob) (s.nx + W * i) [(g, w)] o.op).bind (still (s.nx + W * i)) with
          | some res => match res.v with
            | some v => if Nat.testBit m j then conj (res.cs.map (hyps (keepT (looks ops o) (recTm (Nat.testBit m) rs s.tm)) (recGs (Nat.testBit m) rs) 8 g w))
                (frcSV v fun v => if recOk s.nx i i ((recOb (Nat.testBit m) rs).map (·.1)) v [] then runDraw E ops s hd r (i + 1) (⟨i, some d, some (g, w), v, []⟩ :: rs) k else False) else False
            | none => False
          | none => False
        | _, _ => False
    else False
def apart (ops : Array Oper) (x y : Oper × Nat × Nat) : Bool :=
  Nat.testBit x.2.2 y.2.1 || Nat.testBit y.2.2 x.2.1 ||
  ((match x.1.dst with
    | some d => !(looks ops y.1).contains d
    | none => true) &&
   (match y.1.dst with
    | some d => !(looks ops x.1).contains d
    | none => true))
def apartAll (ops : Array Oper) : List (Oper × Nat × Nat) → Bool
  | [] => true
  | x :: r => r.all (fun y => apart ops x y) && apartAll ops r
structure Mt where
  ps : List Prop
  ln : List (Nat × Option Nat)
  fz : List Nat
def lnOf : List (Nat × Option Nat) → Nat → Option (Option Nat)
  | [], _ => none
  | (k, v) :: r, t => if k == t then some v else lnOf r t
def link (m : Mt) (id' : Nat) (id : Option Nat) : Option Mt :=
  match lnOf m.ln id' with
  | none => some { m with ln := (id', id) :: m.ln }
  | some x => if x = id then some m else none
def links (m : Mt) : List (Nat × Nat) → List (Nat × Nat) → Option Mt
  | [], [] => some m
  | (i, o) :: r, (i', o') :: r' => if o = o' then (link m i' (some i)).bind fun m => links m r r' else none
  | _, _ => none
def Mt.eq (m : Mt) (p : Prop) : Option Mt := some { m with ps := p :: m.ps }
def castM {k k' t t' : Ty} (h : k = k') (q : t = t') (l : List (k.T × t.T)) : List (k'.T × t'.T) := h ▸ q ▸ l
def addFz (id : Nat) (l : List Nat) : List Nat := bif l.contains id then l else id :: l
def mC (ob : Nat → Option AObj) (m : Mt) (c c' : C) : Option Mt :=
  match c' with
  | .any => match c with
    | .frs .. => none
    | _ => some m
  | .int k' n' => match c with
    | .int k n => if k = k' then m.eq (n = n') else none
    | _ => none
  | .bool b' => match c with
    | .bool b => m.eq (b = b')
    | _ => none
  | .str l' => match c with
    | .str l => m.eq (l = l')
    | _ => none
  | .flt k' n' => match c with
    | .flt k n => if k = k' then m.eq (n = n') else none
    | _ => none
  | .cpx k' a' b' => match c with
    | .cpx k a b => if k = k' then m.eq (a = a' ∧ b = b') else none
    | _ => none
  | .sl t' ys => match c with
    | .sl t xs => if h : t = t' then m.eq ((h ▸ xs : List t'.T) = ys) else none
    | .nils => m.eq (ys = [])
    | .own id => match ob id with
      | some (.row t xs) => if h : t = t' then some ⟨((h ▸ xs : List t'.T) = ys) :: m.ps, m.ln, addFz id m.fz⟩ else none
      | _ => none
    | _ => none
  | .ref t' x' => match c with
    | .ref t x => if h : t = t' then m.eq ((h ▸ x : t'.T) = x') else none
    | _ => none
  | .ptr id' o' => match c with
    | .ptr id o => if o = o' then link m id' (some id) else none
    | _ => none
  | .el id' o' z' i' s' => match c with
    | .el id o z i s => if o = o' ∧ z = z' ∧ s = s' then (link m id' (some id)).bind fun m => m.eq (i = i') else none
    | _ => none
  | .own id' => match c with
    | .own id => link m id' (some id)
    | .nils => link m id' none
    | _ => none
  | .view id' o' z' l' n' => match c with
    | .view id o z l n => if o = o' ∧ z = z' then (link m id' (some id)).bind fun m => m.eq (l = l' ∧ n = n') else none
    | _ => none
  | .yl id' => match c with
    | .yl id => link m id' (some id)
    | _ => none
  | .vp id' o' z' l' n' => match c with
    | .vp id o z l n => if o = o' ∧ z = z' ∧ n = n' then (link m id' (some id)).bind fun m => m.eq (l = l') else none
    | _ => none
  | .frs .. => none
  | .nilm => match c with
    | .nilm => some m
    | _ => none
  | .mp gk' gt' k' t' l' => match c with
    | .mp gk gt k t l => if h : gk = gk' ∧ gt = gt' ∧ k = k' ∧ t = t' then m.eq (castM h.2.2.1 h.2.2.2 l = l') else none
    | .own id => match ob id with
      | some (.map gk gt k t l) => if h : gk = gk' ∧ gt = gt' ∧ k = k' ∧ t = t' then some ⟨(castM h.2.2.1 h.2.2.2 l = l') :: m.ps, m.ln, addFz id m.fz⟩ else none
      | _ => none
    | _ => none
  | .nilp => match c with
    | .nilp => some m
    | _ => none
  | .nils => match c with
    | .nils => some m
    | _ => none
  | .nilf => match c with
    | .nilf => some m
    | _ => none
  | .fn f' a' b' => match c with
    | .fn f a b => if f = f' then (links m a a').bind fun m => links m b b' else none
    | _ => none
def mChs (ob : Nat → Option AObj) (m : Mt) : List Ch → List Ch → Option Mt
  | [], [] => some m
  | .one c :: r, .one c' :: r' => (mC ob m c c').bind fun m => mChs ob m r r'
  | .arr n t xs :: r, .arr n' t' ys :: r' => if h : n = n' ∧ t = t' then (m.eq ((h.2 ▸ xs : List t'.T) = ys)).bind fun m => mChs ob m r r' else none
  | _, _ => none
def mV (ob : Nat → Option AObj) (m : Mt) : V → V → Option Mt
  | .one c, .one c' => mC ob m c c'
  | .agg a, .agg b => mChs ob m a b
  | _, _ => none
def mVs (ob : Nat → Option AObj) (m : Mt) : List V → List V → Option Mt
  | [], [] => some m
  | a :: r, b :: r' => (mV ob m a b).bind fun m => mVs ob m r r'
  | _, _ => none
def mSV (ob : Nat → Option AObj) (m : Mt) : SV → SV → Option Mt
  | .val a, .val b => mV ob m a b
  | .tup a, .tup b => mVs ob m a b
  | _, _ => none
def mTm (s : St) (m : Mt) : List (Nat × SV) → Option Mt
  | [] => some m
  | (t, v') :: r => match lookT s.tm t with
    | some v => (mSV (lookO s.ob) m v v').bind fun m => mTm s m r
    | none => none
def preLink (m : Mt) (id' : Nat) : Mt :=
  match lnOf m.ln id' with
  | some _ => m
  | none => { m with ln := (id', some id') :: m.ln }
def mOb (s : St) (m0 : Mt) : List (Nat × Option AObj) → Option Mt
  | [] => some m0
  | (_, none) :: _ => none
  | (id', some o') :: r => let m := preLink m0 id'
    match lnOf m.ln id', o' with
    | some none, .row _ ys => (m.eq (ys = [])).bind fun m => mOb s m r
    | some (some id), o' => match lookO s.ob id, o' with
      | some (.box a), .box b => (mChs (lookO s.ob) m a b).bind fun m => mOb s m r
      | some (.row t xs), .row t' ys => if h : t = t' then (m.eq ((h ▸ xs : List t'.T) = ys)).bind fun m => mOb s m r else none
      | some (.sit l n), .sit l' n' => (m.eq (l = l' ∧ n = n')).bind fun m => mOb s m r
      | some (.map gk gt k t l), .map gk' gt' k' t' l' => if h : gk = gk' ∧ gt = gt' ∧ k = k' ∧ t = t' then (m.eq (castM h.2.2.1 h.2.2.2 l = l')).bind fun m => mOb s m r else none
      | _, _ => none
    | _, _ => none
def mOk (m : Mt) : Bool :=
  let l := m.ln.filterMap (·.2)
  (l.all fun x => !m.fz.contains x) && decide (m.fz.Nodup) && decide l.Nodup
def ltC (n : Nat) (c : C) : Bool := c.ids.all (· < n)
def idsOk (s : St) : Bool :=
  (s.tm.all fun x => x.2.ids.all (· < s.nx)) && (s.ob.all fun x => x.1 < s.nx && (match x.2 with
    | some (.box cs) => cs.all (fun c => c.ids.all (· < s.nx))
    | _ => true)) && decide ((s.ob.map (·.1)).Nodup)
def lnFl (fl : Nat) (l : List (Nat × Option Nat)) : Bool := l.all fun x => decide (fl ≤ x.1) || decide (x.2 = some x.1)
def mtch (fl : Nat) (s s' : St) : Prop :=
  match (mTm s ⟨[], [], []⟩ s'.tm).bind fun m => mOb s m s'.ob with
  | some m => if mOk m && idsOk s' && lnFl fl m.ln && decide (fl ≤ s'.nx) && decide (s.lr = s'.lr) then conj m.ps.reverse True else False
  | none => False
def splitB (b : Bool) (A B : Prop) : Prop := match b with
  | true => A
  | false => B
theorem splitB_iff (b : Bool) (A B : Prop) : splitB b A B ↔ ((b = true → A) ∧ (b = false → B)) := by
  cases b <;> simp [splitB]
structure LInv where
  α : Type
  S : α → St
  J : α → Prop
  μ : α → Nat
def keyOf : Code → Nat
  | .region id _ _ => id
  | .seq a _ => keyOf a
  | .block _ c => keyOf c
  | .loop c => keyOf c
  | .scope c => keyOf c
  | .cond _ a _ => keyOf a
  | .rangeFunc _ _ _ b => keyOf b
  | _ => 0
structure Hints where
  inv : FuncId → Nat → St → Option LInv
  un : Nat
def zipAnc : Nat → List Oper → List Nat → List (Oper × Nat × Nat)
  | i, o :: r, m :: q => (o, i, m) :: zipAnc (i + 1) r q
  | _, _, _ => []
def headLen (fm : Nat) : List (Oper × Nat × Nat) → Nat
  | [] => 0
  | x :: r => match headLen fm r with
    | 0 => if Nat.lor x.2.2 (fm % 2 ^ x.2.1) + 1 = 2 ^ x.2.1 then 0 else x.2.1 + 1
    | n + 1 => n + 1
def isFloat (ops : Array Oper) (l : List (Oper × Nat × Nat)) (x : Oper × Nat × Nat) : Bool :=
  match x.1.op, x.1.guard, x.1.dst with
  | .extract _ _, none, some _ => l.all fun y =>
      (match y.1.op with | .select _ _ => false | .defer _ => false | _ => true) &&
      (y.2.1 == x.2.1 || Nat.testBit x.2.2 y.2.1 || y.1.after.any (fun e => Region.binds .any e && e.on == x.2.1) || x.1.apart ops y.1)
  | _, _, _ => false
def fmask (ops : Array Oper) (l : List (Oper × Nat × Nat)) : List (Oper × Nat × Nat) → Nat
  | [] => 0
  | x :: r => bif isFloat ops l x then Nat.lor (2 ^ x.2.1) (fmask ops l r) else fmask ops l r
def fmOf (ops : Array Oper) (l : List (Oper × Nat × Nat)) : Nat :=
  match fmask ops l (l.take (headLen 0 l)) with
  | 0 => 0
  | f + 1 => bif Nat.blt (f + 1) (2 ^ headLen (f + 1) l) then f + 1 else 0
def drawn (E : Env) (inl : Inl) (yt : YT) (ops : Array Oper) (s : St) (k : St → Prop) : Prop :=
    let l := zipAnc 0 ops.toList (ancs ops.toList [])
    let n := headLen (fmOf ops l) l
    if apartAll ops (l.take n) && decide ((ops.toList.filterMap (·.dst)).Nodup) then
      frcHd (eats ops s 0 (ops.toList.take n)) fun hd => runDraw E ops s hd ((l.take n).map fun x => (x.1, x.2.2)) 0 [] fun rs => if stoAll s.nx (l.take n) rs then
        runSeq E inl yt ops (ops.toList.drop n) ⟨recTm (fun _ => true) rs s.tm, recOb (fun _ => true) rs ++ eatOb (fun _ => true) hd s.ob, s.nx + W * n, s.lr⟩ (recGs (fun _ => true) rs) k else False
    else False
def lateOf (ops : Array Oper) : Option Oper := match ops.back? with
  | some o => match o.op, o.guard with
    | .move _, none =>
      if o.after.all (fun e => !Region.binds .any e) &&
        ops.pop.toList.all (fun y => (match y.op with | .select _ _ => false | .defer _ => false | _ => true) &&
          (match y.guard with | some (g, _) => Nat.blt g ops.pop.size | none => true) &&
          y.after.all (fun e => !Region.binds .any e || Nat.blt e.on ops.pop.size) && o.apart ops y) &&
        Nat.blt (headLen (fmOf ops.pop (zipAnc 0 ops.pop.toList (ancs ops.pop.toList []))) (zipAnc 0 ops.pop.toList (ancs ops.pop.toList []))) ops.pop.size
      then some o else none
    | _, _ => none
  | none => none
def setPs : List Nat → List V → List (Nat × SV) → List (Nat × SV)
  | p :: ps, v :: vs, tm => setPs ps vs ((p, .val v) :: tm)
  | _, _, tm => tm
def loopN : Nat → (St → (Ex → St → Prop) → Prop) → St → (Ex → St → Prop) → Prop
  | 0, _, _, _ => False
  | n + 1, b, s, k => b s fun
    | .nrm, s' => loopN n b s' k
    | e, s' => k e s'
def ex (E : Env) (h : Hints) (inl : Inl) (f : FuncId) (yt : YT) : Code → Nat → St → (Ex → St → Prop) → Prop
  | .skip, _, s, k => k .nrm s
  | .label _, _, s, k => k .nrm s
  | .exit id, _, s, k => k (.ext id) s
  | .goto l, _, s, k => k (.gto l) s
  | .ret, _, s, k => k .ret s
  | .region _ ops false, _, s, k => runSeq E inl yt ops ops.toList s [] (k .nrm)
  | .region _ ops true, _, s, k => match lateOf ops with
    | some o => runSeq E inl yt ops [o] s [] fun s => drawn E inl yt ops.pop s (k .nrm)
    | none => drawn E inl yt ops s (k .nrm)
  | .seq a b, fl, s, k => ex E h inl f yt a fl s fun
    | .nrm, s => ex E h inl f yt b fl s k
    | e, s => k e s
  | .cond c a b, fl, s, k => match evalO E (lookT s.tm) c with
    | some (.val (.one (.bool e))) => splitB e (ex E h inl f yt a fl s k) (ex E h inl f yt b fl s k)
    | _ => False
  | .block id c, fl, s, k => ex E h inl f yt c fl s fun
    | .ext i, s => if i = id then k .nrm s else k (.ext i) s
    | e, s => k e s
  | .scope c, fl, s, k => ex E h inl f yt c fl s fun
    | .gto _, _ => False
    | e, s => k e s
  | .loop c, fl, s, k => match h.inv f (keyOf c) s with
    | some L => (∃ g, L.J g ∧ mtch fl s (L.S g)) ∧ ∀ g, L.J g → ex E h inl f yt c fl (L.S g) fun
      | .nrm, s' => ∃ g', L.J g' ∧ L.μ g' < L.μ g ∧ mtch fl s' (L.S g')
      | e, s' => k e s'
    | none => loopN h.un (ex E h inl f yt c fl) s k
  | .rangeFunc g ps assign body, _, s, k =>
    match (evalO E (lookT s.tm) g).bind one? with
    | some (.fn f' a b) => match E.fb f' with
      | some _ => inl f' (ptrVs a ++ [.one (.yl s.nx)] ++ ptrVs b)
          (fun i => bif i == s.nx then some (fun vs ob nx lr k' => match lookL lr s.nx with
              | some none => if vs.length = ps.size then
                  ex E h inl f yt assign nx ⟨setPs ps.toList vs s.tm, ob, nx, delL s.nx lr⟩ fun
                    | .nrm, s1 => ex E h inl f yt body nx s1 fun
                      | .nrm, s2 => k' (.val (.one (.bool true))) s2.ob s2.nx ((s.nx, none) :: s2.lr)
                      | e, s2 => k' (.val (.one (.bool false))) s2.ob s2.nx ((s.nx, some e) :: s2.lr)
                    | _, _ => False
                else False
              | _ => False) else yt i)
          s.ob (s.nx + 1) ((s.nx, none) :: s.lr) fun _ ob nx lr => match lookL lr s.nx with
            | some none => k .nrm ⟨s.tm, ob, nx, delL s.nx lr⟩
            | some (some e) => k e ⟨s.tm, ob, nx, delL s.nx lr⟩
            | none => False
      | none => False
    | _ => False
  | _, _, _, _ => False
def resV (E : Env) (s : St) : List ResultVar → Option (List Prop × List V)
  | [] => some ([], [])
  | .tmp t :: r => match (lookT s.tm t).bind val? with
    | some v => (resV E s r).map fun x => (x.1, v :: x.2)
    | none => none
  | .cell a T :: r => match E.tt T, (lookT s.tm a).bind one? with
    | some d, some c => match loadC (lookO s.ob) c d.sz with
      | some (ps, cs) => (mkV d cs).bind fun v => (resV E s r).map fun x => (ps ++ x.1, v :: x.2)
      | none => none
    | _, _ => none
def resSV : List V → SV
  | [v] => .val v
  | vs => .tup vs
def argTm : Nat → List V → List (Nat × SV)
  | _, [] => []
  | i, v :: r => (i, .val v) :: argTm (i + 1) r
def mRes (ob : Nat → Option AObj) (m : Mt) : V → V → Option Mt
  | .one (.own id), .one (.frs t' ys) => match ob id with
    | some (.row t xs) => if h : t = t' then match lnOf m.ln id with
        | none => some ⟨((h ▸ xs : List t'.T) = ys) :: m.ps, (id, some id) :: m.ln, m.fz⟩
        | some _ => none
      else none
    | _ => none
  | .one .nils, .one (.frs _ ys) => m.eq (ys = [])
  | a, b => mV ob m a b
def mRess (ob : Nat → Option AObj) (m : Mt) : List V → List V → Option Mt
  | [], [] => some m
  | a :: r, b :: r' => (mRes ob m a b).bind fun m => mRess ob m r r'
  | _, _ => none
def resOk (ob : Nat → Option AObj) (r r' : SV) : Prop :=
  match (match r, r' with
    | .val a, .val b => mRes ob ⟨[], [], []⟩ a b
    | .tup a, .tup b => mRess ob ⟨[], [], []⟩ a b
    | _, _ => none) with
  | some m => if mOk m then conj m.ps.reverse True else False
  | none => False
def inlN (E : Env) (h : Hints) : Nat → Inl
  | 0, _, _, _, _, _, _, _ => False
  | n + 1, f, vs, yt, ob, nx, lr, k => match E.fb f with
    | some fn => match fn.body with
      | some c => if vs.length ≤ fn.ntmps then ex E h (inlN E h n) f yt c nx ⟨argTm 0 vs, ob, nx, lr⟩ fun
          | .nrm, s | .ret, s => match resV E s fn.results.toList with
            | some (ps, vs) => conj ps (frcSV (resSV vs) fun v => k v s.ob s.nx s.lr)
            | none => False
          | _, _ => False
        else False
      | none => False
    | none => False
def exF (E : Env) (h : Hints) (d : Nat) (f : FuncId) (fn : Func) (args : List V) (r : SV) : Prop :=
  match fn.body with
  | some c => ex E h (inlN E h d) f (fun _ => none) c 0 ⟨argTm 0 args, [], 0, []⟩ fun
    | .nrm, s | .ret, s => match resV E s fn.results.toList with
      | some (ps, vs) => conj ps (resOk (lookO s.ob) (resSV vs) r)
      | none => False
    | _, _ => False
  | none => False
end Go.Sx
