/- A verified symbolic run of functions, part 1: lemmas, no claim of their own. -/
import Derived.CallsIn
import Derived.Below
import Derived.Laws.AppendOwn
import Derived.Laws.MakeOwn
namespace Go.Sx
open Go.RowKit
inductive Ty where
  | int (k : IntKind) | bool | str | flt (k : FloatKind) | cpx (k : FloatKind) | fnp | opq (e : Bool)
  | sl (t : Ty) | arr (n : Nat) (t : Ty) | pair (a b : Ty)
  deriving DecidableEq
@[reducible] def Ty.T : Ty → Type
  | .int _ => Int
  | .bool => Bool
  | .str => List UInt8
  | .flt _ => Nat
  | .cpx _ => Nat × Nat
  | .fnp => Option Nat
  | .opq _ => Unit
  | .sl t => List t.T
  | .arr _ t => List t.T
  | .pair a b => a.T × b.T
def Ty.sz : Ty → Nat
  | .arr n t => n * t.sz
  | .pair a b => a.sz + b.sz
  | _ => 1
def Ty.d : (t : Ty) → t.T
  | .int _ => (0 : Int)
  | .bool => false
  | .str => []
  | .flt _ => (0 : Nat)
  | .cpx _ => (0, 0)
  | .fnp => none
  | .opq _ => ()
  | .sl _ => []
  | .arr n t => List.replicate n t.d
  | .pair a b => (a.d, b.d)
abbrev IH := Nat → Option Obj
def seg (c : Array Value) (o n : Nat) : List Value := (c.toList.drop o).take n
def fnVal : Option Nat → Value
  | none => .nilFunc
  | some f => .func (.func f) #[] #[]
def Rd (H : IH) : (t : Ty) → t.T → List Value → Prop
  | .int k, n, cs => cs = [.int k n]
  | .bool, b, cs => cs = [.bool b]
  | .str, l, cs => cs = [.string ⟨⟨l⟩⟩]
  | .flt k, n, cs => cs = [.float k n]
  | .cpx k, x, cs => cs = [.complex k x.1 x.2]
  | .fnp, x, cs => cs = [fnVal x]
  | .opq e, _, cs => ∃ v, cs = [v] ∧ ((e = false ∧ ∃ m, v = .int .i64 m) ∨ (e = true ∧ ∃ t p, v = .iface t p))
  | .sl t, xs, cs => ∃ a cap, cs = [.slice a (List.length xs) cap] ∧ List.length xs ≤ cap ∧
      (List.length xs = 0 ∨ ∃ b off c e fr, a = some ⟨b, off, none⟩ ∧ H b = some (.cells c e fr) ∧
        ∀ i (h : i < List.length xs), Rd H t (xs[i]'h) (seg c (off + i * t.sz) t.sz))
  | .arr n t, xs, cs => List.length xs = n ∧ cs.length = n * t.sz ∧
      ∀ i (h : i < List.length xs), Rd H t (xs[i]'h) ((cs.drop (i * t.sz)).take t.sz)
  | .pair a b, x, cs => Rd H a x.1 (cs.take a.sz) ∧ Rd H b x.2 (cs.drop a.sz)
def HLe (H H' : IH) : Prop := ∀ b o, H b = some o → H' b = some o
theorem HLe.refl (H : IH) : HLe H H := fun _ _ h => h
theorem HLe.trans {A B C : IH} (h : HLe A B) (k : HLe B C) : HLe A C := fun b o x => k b o (h b o x)
theorem Rd.mono {H H' : IH} (hh : HLe H H') : ∀ (t : Ty) (x : t.T) (cs : List Value), Rd H t x cs → Rd H' t x cs
  | .int _, _, _, h => h
  | .bool, _, _, h => h
  | .str, _, _, h => h
  | .flt _, _, _, h => h
  | .cpx _, _, _, h => h
  | .fnp, _, _, h => h
  | .opq _, _, _, h => h
  | .sl t, xs, cs, h => by
    obtain ⟨a, cap, h1, h2, h3⟩ := h
    refine ⟨a, cap, h1, h2, ?_⟩
    rcases h3 with h3 | ⟨b, off, c, e, fr, ha, hb, hr⟩
    · exact .inl h3
    · exact .inr ⟨b, off, c, e, fr, ha, hh _ _ hb, fun i h => Rd.mono hh t _ _ (hr i h)⟩
  | .arr n t, xs, cs, h => ⟨h.1, h.2.1, fun i hi => Rd.mono hh t _ _ (h.2.2 i hi)⟩
  | .pair a b, x, cs, h => ⟨Rd.mono hh a _ _ h.1, Rd.mono hh b _ _ h.2⟩
theorem Rd.len {H : IH} : ∀ (t : Ty) (x : t.T) (cs : List Value), Rd H t x cs → cs.length = t.sz
  | .int _, _, _, h => by rw [show _ = _ from h]; rfl
  | .bool, _, _, h => by rw [show _ = _ from h]; rfl
  | .str, _, _, h => by rw [show _ = _ from h]; rfl
  | .flt _, _, _, h => by rw [show _ = _ from h]; rfl
  | .cpx _, _, _, h => by rw [show _ = _ from h]; rfl
  | .fnp, _, _, h => by rw [show _ = _ from h]; rfl
  | .opq _, _, _, h => by obtain ⟨v, rfl, _⟩ := h; rfl
  | .sl t, xs, cs, h => by obtain ⟨a, cap, h1, _⟩ := h; rw [h1]; rfl
  | .arr n t, xs, cs, h => h.2.1
  | .pair a b, x, cs, h => by
    have h1 := Rd.len a _ _ h.1
    have h2 := Rd.len b _ _ h.2
    simp only [List.length_take, List.length_drop] at h1 h2
    simp only [Ty.sz]
    omega
theorem Rd.one {H : IH} : ∀ (t : Ty) (x : t.T) (cs : List Value), Rd H t x cs → ∀ v ∈ cs, v.oneCell' = true
  | .int _, _, _, h => by rw [show _ = _ from h]; simp [Value.oneCell']
  | .bool, _, _, h => by rw [show _ = _ from h]; simp [Value.oneCell']
  | .str, _, _, h => by rw [show _ = _ from h]; simp [Value.oneCell']
  | .flt _, _, _, h => by rw [show _ = _ from h]; simp [Value.oneCell']
  | .cpx _, _, _, h => by rw [show _ = _ from h]; simp [Value.oneCell']
  | .fnp, x, _, h => by rw [show _ = _ from h]; cases x <;> simp [Value.oneCell', fnVal]
  | .opq _, _, _, h => by
    obtain ⟨v, rfl, h⟩ := h
    rcases h with ⟨_, _, rfl⟩ | ⟨_, _, _, rfl⟩ <;> simp [Value.oneCell']
  | .sl t, xs, cs, h => by obtain ⟨a, cap, h1, _⟩ := h; rw [h1]; simp [Value.oneCell']
  | .arr n t, xs, cs, h => by
    intro v hv
    obtain ⟨j, hj, rfl⟩ := List.mem_iff_getElem.1 hv
    by_cases hz : t.sz = 0
    · rw [h.2.1, hz] at hj; simp at hj
    · have hj' : j < n * t.sz := by have := h.2.1; omega
      have hq : j / t.sz < xs.length := by rw [h.1]; exact Nat.div_lt_of_lt_mul (by rw [Nat.mul_comm]; exact hj')
      refine Rd.one t _ _ (h.2.2 (j / t.sz) hq) _ ?_
      rw [List.mem_iff_getElem]
      have hm := Nat.mod_lt j (Nat.pos_of_ne_zero hz)
      have he := Nat.div_add_mod j t.sz
      rw [Nat.mul_comm] at he
      refine ⟨j % t.sz, ?_, ?_⟩
      · simp only [List.length_take, List.length_drop]; omega
      · simp only [List.getElem_take, List.getElem_drop]
        congr 1
  | .pair a b, x, cs, h => by
    intro v hv
    have : v ∈ cs.take a.sz ++ cs.drop a.sz := by rw [List.take_append_drop]; exact hv
    rcases List.mem_append.1 this with h' | h'
    · exact Rd.one a _ _ h.1 v h'
    · exact Rd.one b _ _ h.2 v h'
inductive C where
  | int (k : IntKind) (n : Int)
  | bool (b : Bool)
  | str (l : List UInt8)
  | flt (k : FloatKind) (n : Nat)
  | cpx (k : FloatKind) (a b : Nat)
  | odd (k : FloatKind) (s : Option Bool)
  | sl (t : Ty) (xs : List t.T)
  | ref (t : Ty) (x : t.T)
  | ptr (id off : Nat)
  | el (id off sz i sub : Nat)
  | own (id : Nat)
  | view (id off sz lo n : Nat)
  | frs (t : Ty) (xs : List t.T)
  | nilp
  | nils
  | nilf
  | fn (f : FuncId) (first caps : List (Nat × Nat))
  | yl (id : Nat)
  | vp (id off sz lo n : Nat)
  | nilm
  | fnd (f : FuncId) (c : Bool) (t : Ty) (x : t.T)
  | err (b : Bool)
  | mp (gk gt : Bool) (k t : Ty) (l : List (k.T × t.T))
  | any
inductive Ch where
  | one (c : C)
  | arr (n : Nat) (t : Ty) (xs : List t.T)
inductive V where
  | one (c : C)
  | agg (cs : List Ch)
inductive SV where
  | val (v : V)
  | tup (vs : List V)
def ptrOf (ρ : Nat → Value) (p : Nat × Nat) (v : Value) : Prop :=
  ∃ b, ρ p.1 = .pointer (some ⟨b, 0, none⟩) ∧ v = .pointer (some ⟨b, p.2, none⟩)
def ptrsOf (ρ : Nat → Value) : List (Nat × Nat) → List Value → Prop
  | [], vs => vs = []
  | p :: ps, vs => ∃ v r, vs = v :: r ∧ ptrOf ρ p v ∧ ptrsOf ρ ps r
def HB (v : Value) (b : Nat) : Prop := v = .pointer (some ⟨b, 0, none⟩) ∨ (∃ n cap, v = .slice (some ⟨b, 0, none⟩) n cap) ∨ v = .map (some b)
def VR (H : IH) (g : Bool) (t : Ty) (x : t.T) (v : Value) : Prop := (g = true ∧ ∃ cs : Array Value, v = .agg cs ∧ Rd H t x cs.toList) ∨ (g = false ∧ Rd H t x [v])
def MEnt (H : IH) (gk gt : Bool) (k t : Ty) : List (k.T × t.T) → List MapEntry → Prop
  | [], es => es = []
  | x :: r, es => ∃ e es', es = e :: es' ∧ VR H gk k x.1 e.key ∧ VR H gt t x.2 e.val ∧ MEnt H gk gt k t r es'
theorem VR.mono {H H' : IH} (hh : HLe H H') {g : Bool} {t : Ty} {x : t.T} {v : Value} (h : VR H g t x v) : VR H' g t x v := by
  rcases h with ⟨h1, cs, h2, h3⟩ | ⟨h1, h2⟩
  · exact .inl ⟨h1, cs, h2, Rd.mono hh _ _ _ h3⟩
  · exact .inr ⟨h1, Rd.mono hh _ _ _ h2⟩
theorem MEnt.mono {H H' : IH} (hh : HLe H H') {gk gt : Bool} {k t : Ty} : ∀ {l : List (k.T × t.T)} {es : List MapEntry}, MEnt H gk gt k t l es → MEnt H' gk gt k t l es
  | [], _, h => h
  | _ :: _, _, h => by
    obtain ⟨e, es', h1, h2, h3, h4⟩ := h
    exact ⟨e, es', h1, h2.mono hh, h3.mono hh, MEnt.mono hh h4⟩
def DenC (ρ : Nat → Value) (H : IH) : C → Value → Prop
  | .int k n, v => v = .int k n
  | .bool b, v => v = .bool b
  | .str l, v => v = .string ⟨⟨l⟩⟩
  | .flt k n, v => v = .float k n
  | .cpx k a b, v => v = .complex k a b
  | .odd k none, v => ∃ b, v = .float k b ∧ (k.decode b).isNaN = true
  | .odd k (some s), v => ∃ b, v = .float k b ∧ k.decode b = .infinity s
  | .sl t xs, v => Rd H (.sl t) xs [v]
  | .ref t x, v => ∃ b off c e fr, v = .pointer (some ⟨b, off, none⟩) ∧ H b = some (.cells c e fr) ∧ Rd H t x (seg c off t.sz)
  | .ptr id off, v => ptrOf ρ (id, off) v
  | .el id off sz i sub, v => ∃ b, HB (ρ id) b ∧ v = .pointer (some ⟨b, off + i * sz + sub, none⟩)
  | .own id, v => v = ρ id
  | .view id off sz lo n, v => (∃ b cap, HB (ρ id) b ∧ v = .slice (some ⟨b, off + lo * sz, none⟩) n cap ∧ n ≤ cap) ∨ (n = 0 ∧ ∃ a cap, v = .slice a 0 cap)
  | .frs _ xs, v => xs = [] ∧ ∃ ad, v = .slice (some ad) 0 0
  | .nilp, v => v = .pointer none
  | .nils, v => v = .slice none 0 0
  | .nilf, v => v = .nilFunc
  | .fn f first caps, v => ∃ a b, v = .func (.func f) ⟨a⟩ ⟨b⟩ ∧ ptrsOf ρ first a ∧ ptrsOf ρ caps b
  | .yl id, v => v = ρ id
  | .nilm, v => v = .map none
  | .fnd f false t x, v => ∃ u, v = .func (.func f) ⟨[u]⟩ ⟨[]⟩ ∧ Rd H t x [u]
  | .fnd f true t x, v => ∃ b off c e fr, v = .func (.func f) ⟨[]⟩ ⟨[.pointer (some ⟨b, off, none⟩)]⟩ ∧ H b = some (.cells c e fr) ∧ Rd H t x (seg c off t.sz)
  | .err false, v => v = .nilIface
  | .err true, v => ∃ t x, v = .iface t x
  | .mp gk gt k t l, v => ∃ g es clock, v = .map (some g) ∧ H g = some (.map es clock) ∧ MEnt H gk gt k t l es.toList
  | .vp id off sz lo n, v => n ≠ 0 ∧ ∃ b, HB (ρ id) b ∧ v = .pointer (some ⟨b, off + lo * sz, none⟩)
  | .any, v => v.oneCell' = true
theorem ptrsOf.one {ρ : Nat → Value} : ∀ {ps : List (Nat × Nat)} {vs : List Value}, ptrsOf ρ ps vs → ps.length = vs.length
  | [], _, h => by rw [show _ = _ from h]; rfl
  | _ :: _, _, h => by obtain ⟨v, r, rfl, _, h'⟩ := h; simp [ptrsOf.one h']
theorem DenC.one {ρ : Nat → Value} {H : IH} (hρ : ∀ id, (ρ id).oneCell' = true) {c : C} {v : Value} (h : DenC ρ H c v) : v.oneCell' = true := by
  cases c with
  | sl t xs => exact Rd.one _ _ _ h _ (by simp)
  | ref t x => obtain ⟨b, off, c, e, fr, rfl, _⟩ := h; rfl
  | ptr id off => obtain ⟨b, _, rfl⟩ := h; rfl
  | el id off sz i sub => obtain ⟨b, _, rfl⟩ := h; rfl
  | view id off sz lo n => rcases h with ⟨b, cap, _, rfl, _⟩ | ⟨_, a, cap, rfl⟩ <;> rfl
  | fn f a b => obtain ⟨_, _, rfl, _⟩ := h; rfl
  | frs t xs => obtain ⟨_, ad, rfl⟩ := h; rfl
  | own id => rw [show v = ρ id from h]; exact hρ id
  | yl id => rw [show v = ρ id from h]; exact hρ id
  | vp id off sz lo n => obtain ⟨_, b, _, rfl⟩ := h; rfl
  | mp gk gt k t l => obtain ⟨g, es, cl, rfl, _⟩ := h; rfl
  | any => exact h
  | odd k s => cases s <;> (obtain ⟨_, rfl, _⟩ := h; rfl)
  | fnd f c t x => cases c with
    | false => obtain ⟨_, rfl, _⟩ := h; rfl
    | true => obtain ⟨_, _, _, _, _, rfl, _⟩ := h; rfl
  | err b => cases b with
    | false => rw [show v = _ from h]; rfl
    | true => obtain ⟨_, _, rfl⟩ := h; rfl
  | _ => rw [show v = _ from h]; rfl
def Ch.sz : Ch → Nat
  | .one _ => 1
  | .arr n t _ => n * t.sz
def DenChs (ρ : Nat → Value) (H : IH) : List Ch → List Value → Prop
  | [], vs => vs = []
  | .one c :: r, vs => ∃ v vs', vs = v :: vs' ∧ DenC ρ H c v ∧ DenChs ρ H r vs'
  | .arr n t xs :: r, vs => Rd H (.arr n t) xs (vs.take (n * t.sz)) ∧ DenChs ρ H r (vs.drop (n * t.sz))
def DenV (ρ : Nat → Value) (H : IH) : V → Value → Prop
  | .one c, v => DenC ρ H c v
  | .agg cs, v => ∃ vs : List Value, v = .agg ⟨vs⟩ ∧ DenChs ρ H cs vs
def DenVs (ρ : Nat → Value) (H : IH) : List V → List Value → Prop
  | [], vs => vs = []
  | x :: r, vs => ∃ v vs', vs = v :: vs' ∧ DenV ρ H x v ∧ DenVs ρ H r vs'
def DenSV (ρ : Nat → Value) (H : IH) : SV → Value → Prop
  | .val x, v => DenV ρ H x v
  | .tup xs, v => ∃ vs : List Value, v = .tuple ⟨vs⟩ ∧ DenVs ρ H xs vs
def chsSz : List Ch → Nat
  | [] => 0
  | c :: r => c.sz + chsSz r
inductive AObj where
  | box (cs : List Ch)
  | sbox (cs : List Ch)
  | row (t : Ty) (xs : List t.T)
  | sit (l : List UInt8) (pos : Nat)
  | map (gk gt : Bool) (k t : Ty) (l : List (k.T × t.T))
def Cells (w : World) (g : Nat) (cur : Array Value) (e : TypeId) : Prop := ∃ fz : Nat × Nat, (fz = (0, 0) ∨ cur.size ≤ fz.1) ∧ w.heap[g]? = some (.cells cur e fz)
def OwnRow (w : World) (B : Nat) (H : IH) (v : Value) (t : Ty) (xs : List t.T) : Prop :=
  (v = .slice none 0 0 ∧ xs = []) ∨
  ∃ g cap cur e, v = .slice (some ⟨g, 0, none⟩) xs.length cap ∧ B ≤ g ∧ H g = none ∧ Cells w g cur e ∧
    xs.length ≤ cap ∧ cap ≤ maxLen ∧ cur.size = cap * t.sz ∧ ∀ i (h : i < xs.length), Rd H t (xs[i]'h) (seg cur (i * t.sz) t.sz)
def DenO (w : World) (B : Nat) (ρ : Nat → Value) (H : IH) (id : Nat) : AObj → Prop
  | .box cs => ∃ g cur e, ρ id = .pointer (some ⟨g, 0, none⟩) ∧ B ≤ g ∧ H g = none ∧ w.heap[g]? = some (.cells cur e (0, 0)) ∧ DenChs ρ H cs cur.toList
  | .sbox cs => ∃ g cap cur e, ρ id = .slice (some ⟨g, 0, none⟩) (chsSz cs) cap ∧ chsSz cs ≤ cap ∧ B ≤ g ∧ H g = none ∧ Cells w g cur e ∧ DenChs ρ H cs (seg cur 0 (chsSz cs))
  | .row t xs => OwnRow w B H (ρ id) t xs
  | .sit l pos => ∃ g, ρ id = .pointer (some ⟨g, 0, none⟩) ∧ B ≤ g ∧ H g = none ∧ w.heap[g]? = some (.stringIter ⟨⟨l⟩⟩ pos)
  | .map gk gt k t l => ∃ g es clock, ρ id = .map (some g) ∧ B ≤ g ∧ H g = none ∧ w.heap[g]? = some (.map es clock) ∧ MEnt H gk gt k t l es.toList
def lookT : List (Nat × SV) → Nat → Option SV
  | [], _ => none
  | (k, v) :: r, t => if k == t then some v else lookT r t
def lookO : List (Nat × Option AObj) → Nat → Option AObj
  | [], _ => none
  | (k, v) :: r, t => if k == t then v else lookO r t
inductive Ex where
  | nrm | ret | ext (id : Nat) | gto (l : Nat)
  deriving DecidableEq
abbrev LR := List (Nat × Option Ex)
def lookL : LR → Nat → Option (Option Ex)
  | [], _ => none
  | (k, v) :: r, t => if k == t then some v else lookL r t
def delL (d : Nat) (l : LR) : LR := l.filter fun x => x.1 != d
structure St where
  tm : List (Nat × SV)
  ob : List (Nat × Option AObj)
  nx : Nat
  lr : LR
def C.lt (n : Nat) : C → Prop
  | .ptr id _ => id < n
  | .el id _ _ _ _ => id < n
  | .own id => id < n
  | .view id _ _ _ _ => id < n
  | .fn _ a b => (∀ p ∈ a, p.1 < n) ∧ (∀ p ∈ b, p.1 < n)
  | .yl id => id < n
  | .vp id _ _ _ _ => id < n
  | _ => True
def Ch.lt (n : Nat) : Ch → Prop
  | .one c => c.lt n
  | .arr _ _ _ => True
def V.lt (n : Nat) : V → Prop
  | .one c => c.lt n
  | .agg cs => ∀ c ∈ cs, c.lt n
def SV.lt (n : Nat) : SV → Prop
  | .val v => v.lt n
  | .tup vs => ∀ v ∈ vs, v.lt n
def AObj.lt (n : Nat) : AObj → Prop
  | .box cs => ∀ c ∈ cs, c.lt n
  | .sbox cs => ∀ c ∈ cs, c.lt n
  | .row _ _ => True
  | .sit _ _ => True
  | .map .. => True
structure Base where
  w : World
  K : Nat → Prop
  H0 : IH
  ρ : Nat → Value
  fl : Nat
  lt : Nat → Option (Nat × Loop)
  rd : Option Nat
structure Inv (w0 : Base) (B : Nat) (ρ : Nat → Value) (H : IH) (ob : List (Nat × Option AObj)) (nx : Nat) (w : World) : Prop where
  below : Below B w0.w w
  bsz : B ≤ w0.w.heap.size
  one : ∀ id, (ρ id).oneCell' = true
  agree : ∀ b o, H b = some o → w.heap[b]? = some o
  objs : ∀ id o, lookO ob id = some o → id < nx ∧ o.lt nx ∧ DenO w B ρ H id o
  sep : ∀ i j o p, i ≠ j → lookO ob i = some o → lookO ob j = some p → ∀ b, HB (ρ i) b → ¬ HB (ρ j) b
  kp : ∀ b, w0.K b → b < w0.w.heap.size ∧ w.heap[b]? = w0.w.heap[b]? ∧ H b = none ∧ ∀ id o, lookO ob id = some o → ¬ HB (ρ id) b
def TmOk (ρ : Nat → Value) (H : IH) (tm : List (Nat × SV)) (nx : Nat) (tmps : Array Value) : Prop :=
  ∀ t sv, lookT tm t = some sv → t < tmps.size ∧ sv.lt nx ∧ DenSV ρ H sv (tmps.getD t undef)
end Go.Sx

namespace Go.Sx
inductive TK where
  | sc
  | strct (fs : List (Nat × Nat × Bool))
  | arr (n : Nat) (e : TypeId)
  | slc (e : TypeId)
  | map (k e : TypeId)
  | ifc
  deriving DecidableEq
structure TD where
  sz : Nat
  bytes : Nat
  agg : Bool
  kind : TK
  ty : Option Ty
  zero : List Ch
def Ch.chs : V → List Ch
  | .one c => [.one c]
  | .agg cs => cs
def dropCh : List Ch → Nat → Option (List Ch)
  | cs, 0 => some cs
  | [], _ + 1 => none
  | c :: r, n + 1 => if c.sz ≤ n + 1 then dropCh r (n + 1 - c.sz) else none
def takeCh : List Ch → Nat → Option (List Ch)
  | _, 0 => some []
  | [], _ + 1 => none
  | c :: r, n + 1 => if c.sz ≤ n + 1 then (takeCh r (n + 1 - c.sz)).map (c :: ·) else none
def cutCh (cs : List Ch) (off n : Nat) : Option (List Ch) := (dropCh cs off).bind (takeCh · n)
def putCh (cs : List Ch) (off n : Nat) (new : List Ch) : Option (List Ch) :=
  (takeCh cs off).bind fun a => ((dropCh cs off).bind (dropCh · n)).map fun b => a ++ (new ++ b)
def toChs : (t : Ty) → t.T → List Ch
  | .int k, n => [.one (.int k n)]
  | .bool, b => [.one (.bool b)]
  | .str, l => [.one (.str l)]
  | .flt k, n => [.one (.flt k n)]
  | .cpx k, x => [.one (.cpx k x.1 x.2)]
  | .fnp, x => match x with
    | none => [.one .nilf]
    | some f => [.one (.fn f [] [])]
  | .opq _, _ => [.one .any]
  | .sl t, xs => [.one (.sl t xs)]
  | .arr n t, xs => [.arr n t xs]
  | .pair a b, x => toChs a x.1 ++ toChs b x.2
def ofC : (t : Ty) → C → Option t.T
  | .int k, .int k' n => if k' = k then some n else none
  | .bool, .bool b => some b
  | .str, .str l => some l
  | .flt k, .flt k' n => if k' = k then some n else none
  | .cpx k, .cpx k' a b => if k' = k then some (a, b) else none
  | .fnp, .nilf => some none
  | .fnp, .fn f [] [] => some (some f)
  | .sl t, .sl t' xs => if h : t' = t then some (h ▸ xs) else none
  | .sl _, .nils => some []
  | _, _ => none
def ofChs : (t : Ty) → List Ch → Option (t.T × List Ch)
  | .arr n t, .arr n' t' xs :: r => if h : n' = n ∧ t' = t then some (h.2 ▸ xs, r) else none
  | .arr _ _, _ => none
  | .pair a b, cs => (ofChs a cs).bind fun x => (ofChs b x.2).bind fun y => some ((x.1, y.1), y.2)
  | .int k, .one c :: r => (ofC (.int k) c).map (·, r)
  | .bool, .one c :: r => (ofC .bool c).map (·, r)
  | .str, .one c :: r => (ofC .str c).map (·, r)
  | .flt k, .one c :: r => (ofC (.flt k) c).map (·, r)
  | .cpx k, .one c :: r => (ofC (.cpx k) c).map (·, r)
  | .fnp, .one c :: r => (ofC .fnp c).map (·, r)
  | .sl t, .one c :: r => (ofC (.sl t) c).map (·, r)
  | _, _ => none
def ofV (t : Ty) (v : V) : Option t.T :=
  match ofChs t (Ch.chs v) with
  | some (x, []) => some x
  | _ => none
def subT : (t : Ty) → t.T → (off n : Nat) → Option ((u : Ty) × u.T)
  | .pair a b, x, off, n =>
    if off = 0 ∧ n = (Ty.pair a b).sz then some ⟨.pair a b, x⟩
    else if off < a.sz then subT a x.1 off n else subT b x.2 (off - a.sz) n
  | t, x, off, n => if off = 0 ∧ n = t.sz then some ⟨t, x⟩ else none
structure FSpec where
  run : List V → Option (List Prop × SV)
  fr : Bool
inductive ExK where
  | bits64 | from64 | floor64 | bits32 | from32
structure Env where
  P : Program
  tt : TypeId → Option TD
  gl : Nat → Option ((t : Ty) × t.T)
  sp : FuncId → Option FSpec
  fb : FuncId → Option Func
  eq : TypeId → Bool
  tdv : Bool
  pt : FuncId → Option (List V → Option (Nat × Nat))
  ex : FuncId → Option ExK := fun _ => none
structure Res where
  cs : List Prop
  v : Option SV
  up : List (Nat × Option AObj)
def rv (v : SV) : Option Res := some ⟨[], some v, []⟩
def rc (c : C) : Option Res := some ⟨[], some (.val (.one c)), []⟩
def rcc (p : Prop) (c : C) : Option Res := some ⟨[p], some (.val (.one c)), []⟩
def ofVal : Value → Option C
  | .int k n => some (.int k n)
  | .bool b => some (.bool b)
  | .string s => some (.str s.data.toList)
  | .float k n => some (.flt k n)
  | .complex k a b => some (.cpx k a b)
  | .slice none 0 0 => some .nils
  | .pointer none => some .nilp
  | .map none => some .nilm
  | .nilFunc => some .nilf
  | .nilIface => some (.err false)
  | _ => none
def evalO (E : Env) (tm : Nat → Option SV) : Operand → Option SV
  | .tmp t => tm t
  | .const v => (ofVal v).map fun c => .val (.one c)
  | .global g => (E.gl g).map fun x => .val (.one (.ref x.1 x.2))
  | .func f => some (.val (.one (.fn f [] [])))
def one? : SV → Option C
  | .val (.one c) => some c
  | _ => none
def val? : SV → Option V
  | .val v => some v
  | _ => none
def fits (k : IntKind) (n : Int) : Prop :=
  match k with
  | .i8 => -128 ≤ n ∧ n ≤ 127
  | .i16 => -32768 ≤ n ∧ n ≤ 32767
  | .i32 => -2147483648 ≤ n ∧ n ≤ 2147483647
  | .i64 => -9223372036854775808 ≤ n ∧ n ≤ 9223372036854775807
  | .u8 => 0 ≤ n ∧ n ≤ 255
  | .u16 => 0 ≤ n ∧ n ≤ 65535
  | .u32 => 0 ≤ n ∧ n ≤ 4294967295
  | .u64 => 0 ≤ n ∧ n ≤ 18446744073709551615
def bits (op : BinOp) (k : IntKind) (x y : Int) : Int :=
  let a := BitVec.ofInt k.bits x
  let b := BitVec.ofInt k.bits y
  k.wrap (match op with
    | .and => a &&& b
    | .or => a ||| b
    | .xor => a ^^^ b
    | _ => a &&& ~~~b).toNat
def binInt (tdv : Bool) (op : BinOp) (k : IntKind) (a b : Int) : Option Res :=
  match op with
  | .add => bif tdv then rc (.int k (k.wrap (a + b))) else rcc (fits k (a + b)) (.int k (a + b))
  | .sub => bif tdv then rc (.int k (k.wrap (a - b))) else rcc (fits k (a - b)) (.int k (a - b))
  | .mul => bif tdv then rc (.int k (k.wrap (a * b))) else rcc (fits k (a * b)) (.int k (a * b))
  | .quo => bif tdv then rcc (b ≠ 0 ∧ fits k (a.tdiv b)) (.int k (a.tdiv b)) else rcc (0 ≤ a ∧ 0 < b ∧ fits k (a / b)) (.int k (a / b))
  | .rem => bif tdv then rcc (b ≠ 0) (.int k (a.tmod b)) else rcc (0 ≤ a ∧ 0 < b) (.int k (a % b))
  | .and => rc (.int k (bits .and k a b))
  | .or => rc (.int k (bits .or k a b))
  | .xor => rc (.int k (bits .xor k a b))
  | .andNot => rc (.int k (bits .andNot k a b))
  | .eql => rc (.bool (a == b))
  | .neq => rc (.bool (a != b))
  | .lss => rc (.bool (a < b))
  | .leq => rc (.bool (a ≤ b))
  | .gtr => rc (.bool (b < a))
  | .geq => rc (.bool (b ≤ a))
  | _ => none
def shInt (op : BinOp) (k : IntKind) (a b : Int) : Option Res :=
  match op with
  | .shl => rcc (0 ≤ b ∧ b.toNat ≤ k.bits ∧ fits k (a * 2 ^ b.toNat)) (.int k (a * 2 ^ b.toNat))
  | .shr => rcc (0 ≤ b ∧ b.toNat ≤ k.bits) (.int k (a / 2 ^ b.toNat))
  | _ => none
def arF (k : FloatKind) (o : Option Nat) : Option Res := rcc (o.isSome = true) (.flt k (o.getD 0))
def binFlt (op : BinOp) (k : FloatKind) (a b : Nat) : Option Res :=
  match op with
  | .add => arF k (k.format.add a b)
  | .sub => arF k (k.format.sub a b)
  | .mul => arF k (k.format.mul a b)
  | .quo => arF k (k.format.div a b)
  | .eql => rc (.bool (k.format.order a b == some .eq))
  | .neq => rc (.bool (k.format.order a b != some .eq))
  | .lss => rc (.bool (k.format.order a b == some .lt))
  | .leq => rc (.bool (k.format.order a b == some .lt || k.format.order a b == some .eq))
  | .gtr => rc (.bool (k.format.order a b == some .gt))
  | .geq => rc (.bool (k.format.order a b == some .gt || k.format.order a b == some .eq))
  | _ => none
def exR (k : ExK) (vs : List V) : Option Res :=
  match k, vs with
  | .bits64, [.one (.flt .f64 b)] => rc (.int .u64 b)
  | .from64, [.one (.int .u64 n)] => rc (.flt .f64 n.toNat)
  | .bits32, [.one (.flt .f32 b)] => rc (.int .u32 b)
  | .from32, [.one (.int .u32 n)] => rc (.flt .f32 n.toNat)
  | .floor64, [.one (.flt .f64 b)] => rcc ((FloatKind.f64.decode b).isNaN = false) (.flt .f64 (FloatKind.f64.encode ((FloatKind.f64.decode b).integral .down)))
  | _, _ => none
def binOdd (op : BinOp) (k : FloatKind) (a b : Option Bool) : Option Res :=
  match op, a, b with
  | .sub, none, _ => rc (.odd k none)
  | .sub, some p, some q => if p = q then rc (.odd k none) else none
  | .neq, none, _ => rc (.bool true)
  | _, _, _ => none
@[irreducible] def convF (s k : FloatKind) (b : Nat) : Option Nat :=
  if s = k then some b else match s.decode b with
  | .nan _ _ => none
  | .infinity g => some (k.encode (.infinity g))
  | .number g m e => bif (k.decode (k.encode (.number g m e))).isInfinity then none else some (k.encode (.number g m e))
@[irreducible] def cmulF (a b c d : Nat) : Option (Nat × Nat) :=
  match FloatKind.f64.format.mul a c, FloatKind.f64.format.mul b d, FloatKind.f64.format.mul a d, FloatKind.f64.format.mul b c with
  | some p, some q, some r, some s => match FloatKind.f64.format.sub p q, FloatKind.f64.format.add r s with
    | some x, some y => some (x, y)
    | _, _ => none
  | _, _, _, _ => none
def eqT : (t : Ty) → t.T → t.T → Bool
  | .int _, a, b => (show Int from a) == b
  | .bool, a, b => (show Bool from a) == b
  | .str, a, b => (show List UInt8 from a) == b
  | .flt k, a, b => Op.floatEq k a b
  | .cpx k, a, b => Op.floatEq k a.1 b.1 && Op.floatEq k a.2 b.2
  | .arr n t, a, b => (List.range n).all fun i => eqT t (a.getD i t.d) (b.getD i t.d)
  | .pair s t, a, b => eqT s a.1 b.1 && eqT t a.2 b.2
  | .sl _, _, _ => false
  | .fnp, _, _ => false
  | .opq _, _, _ => false
def keyTy : Ty → Bool
  | .int _ | .bool | .str => true
  | .pair a b => keyTy a && keyTy b
  | _ => false
def U.mapGet (k t : Ty) (l : List (k.T × t.T)) (x : k.T) : Option t.T :=
  match l with
  | [] => none
  | p :: r => if eqT k x p.1 = true then some p.2 else U.mapGet k t r x
def U.mapPut (k t : Ty) (l : List (k.T × t.T)) (x : k.T) (y : t.T) : List (k.T × t.T) :=
  match l with
  | [] => [(x, y)]
  | p :: r => if eqT k x p.1 = true then (p.1, y) :: r else p :: U.mapPut k t r x y
structure MapD where
  gk : Bool
  gt : Bool
  k : Ty
  t : Ty
  l : List (k.T × t.T)
def mapOf (ob : Nat → Option AObj) : C → Option MapD
  | .own id => match ob id with
    | some (.map gk gt k t l) => some ⟨gk, gt, k, t, l⟩
    | _ => none
  | .mp gk gt k t l => some ⟨gk, gt, k, t, l⟩
  | _ => none
def rowOf (ob : Nat → Option AObj) : C → Option ((t : Ty) × List t.T)
  | .sl t xs => some ⟨t, xs⟩
  | .own id => match ob id with
    | some (.row t xs) => some ⟨t, xs⟩
    | _ => none
  | .view id off sz lo n => match ob id with
    | some (.row t xs) => if off = 0 ∧ sz = t.sz then some ⟨t, (xs.drop lo).take n⟩ else none
    | some (.box cs) => match dropCh cs off with
      | some (.arr _ t xs :: _) => if sz = t.sz then some ⟨t, (xs.drop lo).take n⟩ else none
      | _ => none
    | _ => none
  | _ => none
def rowP (ob : Nat → Option AObj) : C → List Prop
  | .view id off sz lo n => match rowOf ob (.view id off sz lo n) with
    | some x => [x.2.length = n]
    | none => []
  | _ => []
def argP (ob : Nat → Option AObj) : V → List Prop
  | .one c => rowP ob c
  | .agg cs => cs.flatMap fun | .one c => rowP ob c | .arr .. => []
def rowAs (ob : Nat → Option AObj) (t : Ty) (c : C) : Option (List t.T) :=
  match c with
  | .nils => some []
  | _ => match rowOf ob c with
    | some ⟨t', xs⟩ => if h : t' = t then some (h ▸ xs) else none
    | none => none
def lenOf (ob : Nat → Option AObj) : C → Option Nat
  | .nils => some 0
  | .view _ _ _ _ n => some n
  | c => (rowOf ob c).map fun x => x.2.length
def chTy : Ch → Option Ty
  | .one (.int k _) => some (.int k)
  | .one (.bool _) => some .bool
  | .one (.str _) => some .str
  | .one (.sl t _) => some (.sl t)
  | .arr n t _ => some (.arr n t)
  | _ => none
def chsTy : List Ch → Option Ty
  | [] => none
  | [c] => chTy c
  | c :: r => match chTy c, chsTy r with
    | some a, some b => some (.pair a b)
    | _, _ => none
def boxOfC (ob : Nat → Option AObj) : C → Option ((t : Ty) × t.T)
  | .ptr id 0 => match ob id with
    | some (.box [.one (.sl t xs)]) => some ⟨.sl t, xs⟩
    | some (.box cs) => match chsTy cs with
      | some t => match ofChs t cs with
        | some (x, []) => some ⟨t, x⟩
        | _ => none
      | none => none
    | _ => none
  | _ => none
def asArgC (ob : Nat → Option AObj) (c : C) : C :=
  match rowOf ob c with
  | some ⟨t, xs⟩ => .sl t xs
  | none => match mapOf ob c with
    | some m => .mp m.gk m.gt m.k m.t m.l
    | none => match boxOfC ob c with
      | some ⟨t, x⟩ => .ref t x
      | none => c
def capVs (ps : List (Nat × Nat)) : List V := ps.map fun p => .one (.ptr p.1 p.2)
def asArg (ob : Nat → Option AObj) : V → V
  | .one c => .one (asArgC ob c)
  | .agg cs => .agg (cs.map fun | .one c => .one (asArgC ob c) | x => x)
def pureC : C → Bool
  | .ptr .. | .el .. | .own _ | .view .. | .frs .. | .yl _ | .vp .. | .any => false
  | .fn _ a b => a.isEmpty && b.isEmpty
  | _ => true
def pureV : V → Bool
  | .one c => pureC c
  | .agg cs => cs.all fun | .one c => pureC c | .arr .. => true
def lentC : C → Bool
  | .own _ | .view .. | .ptr .. => true
  | _ => false
def lentV : V → Bool
  | .one c => lentC c
  | .agg cs => cs.any fun | .one c => lentC c | .arr .. => false
def takeV (nx : Nat) : V → V × List (Nat × Option AObj)
  | .one (.frs t xs) => (.one (.own nx), [(nx, some (.row t xs))])
  | v => (v, [])
def takeVs (nx : Nat) : List V → List V × List (Nat × Option AObj)
  | [] => ([], [])
  | v :: r => let a := takeV nx v; let b := takeVs (nx + 1) r; (a.1 :: b.1, b.2 ++ a.2)
def chsV : List Ch → Option (List V)
  | [] => some []
  | .one c :: r => (chsV r).map (V.one c :: ·)
  | .arr .. :: _ => none
def vsCh : List V → List Ch
  | [] => []
  | .one c :: r => .one c :: vsCh r
  | .agg _ :: r => vsCh r
def frsCh (cs : List Ch) : Bool := cs.any fun | .one (.frs ..) => true | _ => false
def aggFr : V → Option (List V)
  | .agg cs => bif frsCh cs then chsV cs else none
  | .one _ => none
def svLen : SV → Nat
  | .val x => match aggFr x with
    | some vs => vs.length
    | none => 1
  | .tup vs => vs.length
def takeSV (nx : Nat) : SV → SV × List (Nat × Option AObj)
  | .val v => match aggFr v with
    | some vs => let a := takeVs nx vs; (.val (.agg (vsCh a.1)), a.2)
    | none => let a := takeV nx v; (.val a.1, a.2)
  | .tup vs => let a := takeVs nx vs; (.tup a.1, a.2)
def bound (ev : Operand → Option SV) (d : Int) : Option Operand → Option Int
  | none => some d
  | some x => match (ev x).bind one? with
    | some (.int _ n) => some n
    | _ => none
def sliceC (ob : Nat → Option AObj) (sz : Nat) (c : C) (lo hi : Int) : Option C :=
  match c with
  | .sl t xs => if t.sz = sz then some (.sl t ((xs.drop lo.toNat).take (hi.toNat - lo.toNat))) else none
  | .nils => some .nils
  | .own id => match ob id with
    | some (.row t _) => if t.sz = sz then some (.view id 0 sz lo.toNat (hi.toNat - lo.toNat)) else none
    | _ => none
  | .view id off z l _ => if z = sz then some (.view id off sz (l + lo.toNat) (hi.toNat - lo.toNat)) else none
  | _ => none
def dropSl (hi : Option Operand) (c r : C) (lo : Int) : C := match hi, c with
  | none, .sl t xs => .sl t (xs.drop lo.toNat)
  | _, _ => r
theorem dropSl_eq {ev : Operand → Option SV} {hi : Option Operand} {ob : Nat → Option AObj} {sz n : Nat} {c r : C} {lo h : Int} (hn : lenOf ob c = some n) (hh : bound ev n hi = some h) (hr : sliceC ob sz c lo h = some r) : dropSl hi c r lo = r := by
  unfold dropSl
  split
  · rename_i t xs
    cases hh
    simp only [lenOf, rowOf, Option.map_some, Option.some.injEq] at hn
    subst hn
    simp only [sliceC] at hr
    split at hr
    · cases hr
      rw [List.take_of_length_le (by simp)]
    · cases hr
  · rfl
def elCut (t : Ty) (x : t.T) (sub n : Nat) : Option (List Prop × List Ch) :=
  match t, x with
  | .arr m u, ys => if n = u.sz ∧ n ≠ m * u.sz then some ([sub % u.sz = 0, sub / u.sz < List.length ys], toChs u (List.getD ys (sub / u.sz) u.d)) else (cutCh (toChs (.arr m u) ys) sub n).map fun z => ([], z)
  | t, x => (cutCh (toChs t x) sub n).map fun z => ([], z)
def partPut (t : Ty) (x : t.T) (sub n : Nat) (new : List Ch) : Option t.T := (putCh (toChs t x) sub n new).bind fun y => match ofChs t y with
  | some (x', []) => some x'
  | _ => none
def elPut (t : Ty) (x : t.T) (sub n : Nat) (new : List Ch) : Option (List Prop × t.T) := match partPut t x sub n new with
  | some x' => some ([], x')
  | none => match t, x with
    | .arr _ u, ys => if n = u.sz then match ofChs u new with
        | some (z, []) => some ([sub % u.sz = 0, sub / u.sz < List.length ys], List.set ys (sub / u.sz) z)
        | _ => none
      else none
    | _, _ => none
def loadC (ob : Nat → Option AObj) (c : C) (n : Nat) : Option (List Prop × List Ch) :=
  match c with
  | .ptr id off => match ob id with
    | some (.box cs) => (cutCh cs off n).map fun x => ([], x)
    | _ => none
  | .el id off sz i sub => match ob id with
    | some (.row t xs) => if off = 0 ∧ sz = t.sz then (cutCh (toChs t (xs.getD i t.d)) sub n).map fun x => ([i < xs.length], x) else none
    | some (.box cs) => match dropCh cs off with
      | some (.arr _ t xs :: _) => if sz = t.sz then (elCut t (xs.getD i t.d) sub n).map fun x => ((i < xs.length) :: x.1, x.2) else none
      | _ => none
    | some (.sbox cs) => if off = 0 ∧ sz = 1 ∧ sub = 0 then (cutCh cs i n).map fun x => ([], x) else none
    | _ => none
  | .ref t x => if n = t.sz ∧ n ≠ 0 then some ([], toChs t x) else none
  | _ => none
def storeC (ob : Nat → Option AObj) (c : C) (n : Nat) (new : List Ch) : Option (List Prop × Nat × AObj) :=
  match c with
  | .ptr id off => match ob id with
    | some (.box cs) => (putCh cs off n new).map fun x => ([], id, .box x)
    | _ => none
  | .el id off sz i sub => match ob id with
    | some (.row t xs) => if off = 0 ∧ sz = t.sz then
        (putCh (toChs t (xs.getD i t.d)) sub n new).bind fun y => match ofChs t y with
          | some (x, []) => some ([i < xs.length], id, .row t (xs.set i x))
          | _ => none
        else none
    | some (.box cs) => match dropCh cs off with
      | some (.arr m t xs :: _) => if sz = t.sz then
          (elPut t (xs.getD i t.d) sub n new).bind fun y => (putCh cs off (m * t.sz) [.arr m t (xs.set i y.2)]).map fun z => ((i < xs.length) :: y.1, id, .box z)
          else none
      | _ => none
    | some (.sbox cs) => if off = 0 ∧ sz = 1 ∧ sub = 0 ∧ chsSz new = n then (putCh cs i n new).map fun x => ([], id, .sbox x) else none
    | _ => none
  | _ => none
def mkV (d : TD) (cs : List Ch) : Option V :=
  bif d.agg then some (.agg cs) else
  match cs with
  | [.one c] => some (.one c)
  | _ => none
def fillS (fs : List (Nat × Nat × Bool)) (cs : List Ch) : List (Nat × V) → Option (List Ch)
  | [] => some cs
  | (i, v) :: r => match fs[i]? with
    | some (off, n, _) => if chsSz (Ch.chs v) = n then (putCh cs off n (Ch.chs v)).bind fun cs => fillS fs cs r else none
    | none => none
def fillA (sz : Nat) (cs : List Ch) : List (Nat × V) → Option (List Ch)
  | [] => some cs
  | (i, v) :: r => if chsSz (Ch.chs v) = sz then (putCh cs (i * sz) sz (Ch.chs v)).bind fun cs => fillA sz cs r else none
def fillRow (t : Ty) (xs : List t.T) : List (Nat × V) → Option (List t.T)
  | [] => some xs
  | (i, v) :: r => match ofV t v with
    | some x => if i < xs.length then fillRow t (xs.set i x) r else none
    | none => none
def parts (ev : Operand → Option SV) : List (Nat × Operand) → Option (List (Nat × V))
  | [] => some []
  | (i, x) :: r => match (ev x).bind val? with
    | some v => (parts ev r).map ((i, v) :: ·)
    | none => none
def evs (ev : Operand → Option SV) : List Operand → Option (List V)
  | [] => some []
  | x :: r => match (ev x).bind val? with
    | some v => (evs ev r).map (v :: ·)
    | none => none
def ptrs (ev : Operand → Option SV) : List Operand → Option (List (Nat × Nat))
  | [] => some []
  | x :: r => match (ev x).bind one? with
    | some (.ptr id off) => (ptrs ev r).map ((id, off) :: ·)
    | _ => none
def room (n bytes : Nat) : Prop := n ≤ 9223372036854775807 ∧ n * bytes ≤ 140737488355328
def appendR (E : Env) (ob : Nat → Option AObj) (nx : Nat) (T : TypeId) (s x : C) : Option Res :=
  match E.tt T with
  | some ⟨_, _, _, .slc e, _, _⟩ => match E.tt e with
    | some de => match de.ty with
      | some t => match rowAs ob t x, s with
        | some ys, .nils => some ⟨rowP ob x ++ [room ys.length de.bytes], some (.val (.one (.own nx))), [(nx, some (.row t ys))]⟩
        | some ys, .own id => match rowAs ob t s with
          | some xs => some ⟨rowP ob x ++ [room (xs.length + ys.length) de.bytes], some (.val (.one (.own nx))), [(nx, some (.row t (xs ++ ys))), (id, none)]⟩
          | none => none
        | some ys, .frs _ _ => some ⟨rowP ob x ++ [room ys.length de.bytes], some (.val (.one (.sl t ys))), []⟩
        | _, _ => none
      | none => none
    | none => none
  | _ => none
def partOf (ob : Nat → Option AObj) (t : Ty) (c : C) : Option (Nat × Nat × Nat × List t.T) :=
  match c with
  | .own id => match ob id with
    | some (.row t' xs) => if h : t' = t then some (id, 0, List.length xs, h ▸ xs) else none
    | _ => none
  | .view id 0 sz lo n => match ob id with
    | some (.row t' xs) => if h : t' = t ∧ sz = t.sz then some (id, lo, n, h.1 ▸ xs) else none
    | _ => none
  | _ => none
def bytesOf (xs : List Int) : List UInt8 := xs.map fun n => UInt8.ofNat n.toNat
def strNs (l : List UInt8) : List Int := l.map fun c => (c.toNat : Int)
def appendS (E : Env) (ob : Nat → Option AObj) (nx : Nat) (T T' : TypeId) (s x : C) : Option Res :=
  match E.tt T, E.tt T', x with
  | some ⟨_, _, _, .slc e, _, _⟩, some ⟨_, _, _, .sc, some .str, _⟩, .str l => match E.tt e with
    | some ⟨_, by_, _, _, some (.int .u8), _⟩ => match s with
      | .nils => some ⟨[room l.length by_], some (.val (.one (.own nx))), [(nx, some (.row (.int .u8) (strNs l)))]⟩
      | .own id => match rowAs ob (.int .u8) s with
        | some xs => some ⟨[room (xs.length + l.length) by_], some (.val (.one (.own nx))), [(nx, some (.row (.int .u8) (xs ++ strNs l))), (id, none)]⟩
        | none => none
      | _ => none
    | _ => none
  | _, _, _ => none
def U.copyL {α : Type} (lo n : Nat) (xs ys : List α) : List α := xs.take lo ++ ys.take n ++ xs.drop (lo + min ys.length n)
def copyBox (ob : Nat → Option AObj) (t : Ty) (c s : C) (ys : List t.T) : Option Res :=
  match c with
  | .view id off sz lo n => match ob id with
    | some (.box cs) => match dropCh cs off with
      | some (.arr m t' xs :: _) => if h : t' = t ∧ sz = t.sz ∧ m ≠ 0 then
          (putCh cs off (m * t.sz) [.arr m t (U.copyL lo n (h.1 ▸ xs) ys)]).map fun z =>
            ⟨rowP ob s ++ [lo + n ≤ List.length xs], some (.val (.one (.int .i64 ((min ys.length n : Nat) : Int)))), [(id, some (.box z))]⟩
        else none
      | _ => none
    | _ => none
  | _ => none
def intsOf (k : IntKind) : List V → Option (List Int)
  | [] => some []
  | .one (.int k' n) :: r => if k' = k then (intsOf k r).map (n :: ·) else none
  | _ => none
def fltsOf (k : FloatKind) : List V → Option (List Nat)
  | [] => some []
  | .one (.flt k' n) :: r => if k' = k then (fltsOf k r).map (n :: ·) else none
  | _ => none
@[irreducible] def maxF (k : FloatKind) (x y : Nat) : Option Nat := match k.format.order x y with
  | none => none
  | some .lt => some y
  | some .gt => some x
  | some .eq => some (if (k.decode x).neg then y else x)
def maxFs (k : FloatKind) : Nat → List Nat → Option Nat
  | a, [] => some a
  | a, b :: r => (maxF k a b).bind fun c => maxFs k c r
def builtinR (E : Env) (ob : Nat → Option AObj) (nx : Nat) (b : Builtin) (ts : List TypeId) (vs : List V) : Option Res :=
  match b, vs with
  | .len, [.one c] => match ts with
    | [T] => match E.tt T, c with
      | some ⟨_, _, _, .slc _, _, _⟩, c => match lenOf ob c with
        | some n => rc (.int .i64 n)
        | none => none
      | some ⟨_, _, _, .sc, some .str, _⟩, .str l => rc (.int .i64 l.length)
      | some ⟨_, _, _, .map _ _, _, _⟩, c => match mapOf ob c with
        | some m => rc (.int .i64 m.l.length)
        | none => none
      | _, _ => none
    | _ => none
  | .min, [.one (.int k a), .one (.int k' b)] => if k = k' then rc (.int k (min a b)) else none
  | .max, [.one (.int k a), .one (.int k' b)] => if k = k' then rc (.int k (max a b)) else none
  | .max, .one (.int k a) :: b :: c :: r => match intsOf k (b :: c :: r) with
    | some l => rc (.int k (l.foldl max a))
    | none => none
  | .max, .one (.flt k a) :: b :: r => match fltsOf k (b :: r) with
    | some l => rcc ((maxFs k a l).isSome = true) (.flt k ((maxFs k a l).getD 0))
    | none => none
  | .complex, [.one (.flt k a), .one (.flt k' b)] => if k = k' then rc (.cpx k a b) else none
  | .real, [.one (.cpx k a _)] => rc (.flt k a)
  | .imag, [.one (.cpx k _ b)] => rc (.flt k b)
  | .append, [.one s, .one x] => match ts with
    | [T, T'] => if T' = T then appendR E ob nx T s x else appendS E ob nx T T' s x
    | _ => none
  | .clear, [.one c] => match ts with
    | [T] => match E.tt T with
      | some ⟨_, _, _, .slc e, _, _⟩ => match E.tt e with
        | some ⟨_, _, _, _, some t, _⟩ => match partOf ob t c with
          | some (id, lo, n, xs) => some ⟨[lo + n ≤ xs.length], none, [(id, some (.row t (xs.take lo ++ List.replicate n t.d ++ xs.drop (lo + n))))]⟩
          | none => none
        | _ => none
      | _ => none
    | _ => none
  | .copy, [.one c, .one s] => match ts with
    | [T, T'] => match E.tt T with
      | some ⟨_, _, _, .slc e, _, _⟩ => match E.tt e with
        | some ⟨_, _, _, _, some t, _⟩ => match partOf ob t c, rowAs ob t s with
          | some (id, lo, n, xs), some ys => if T' = T then some ⟨rowP ob s ++ [lo + n ≤ xs.length], some (.val (.one (.int .i64 ((min ys.length n : Nat) : Int)))), [(id, some (.row t (U.copyL lo n xs ys)))]⟩ else none
          | none, some ys => if T' = T then copyBox ob t c s ys else none
          | _, _ => none
        | _ => none
      | _ => none
    | _ => none
  | _, _ => none
def frzC (ob : Nat → Option AObj) : C → C
  | .own j => match ob j with
    | some (.row t xs) => .sl t xs
    | _ => .own j
  | c => c
def frzCh (ob : Nat → Option AObj) : Ch → Ch
  | .one c => .one (frzC ob c)
  | x => x
def frzV (ob : Nat → Option AObj) : V → V
  | .one c => .one (frzC ob c)
  | .agg cs => .agg (cs.map (frzCh ob))
def ownCh : Ch → List Nat
  | .one (.own j) => [j]
  | _ => []
def ownV : V → List Nat
  | .one c => ownCh (.one c)
  | .agg cs => cs.flatMap ownCh
def callR0 (E : Env) (ob : Nat → Option AObj) (nx : Nat) (f : FuncId) (vs : List V) : Option Res :=
  match E.sp f with
  | some sp =>
    let as := vs.map (asArg ob)
    if as.all pureV && (sp.fr || vs.all fun v => !lentV v) then
      match sp.run as with
      | some (ps, r) => if svLen r ≤ 4 then let x := takeSV nx r; some ⟨vs.flatMap (argP ob) ++ ps, some x.1, x.2⟩ else none
      | none => none
    else none
  | none => none
def callR (E : Env) (ob : Nat → Option AObj) (nx : Nat) (f : FuncId) (vs : List V) : Option Res :=
  match callR0 E ob nx f vs with
  | some r => some r
  | none => bif (vs.map (frzV ob)).all fun v => !lentV v then match callR0 E ob nx f (vs.map (frzV ob)) with
    | some r => some ⟨r.cs, r.v, r.up ++ (vs.flatMap ownV).map fun j => (j, none)⟩
    | none => none else none
def fndArgs : Bool → (t : Ty) → t.T → Option (List V × List V)
  | false, .sl t, xs => some ([.one (.sl t xs)], [])
  | true, t, x => some ([], [.one (.ref t x)])
  | _, _, _ => none
def ofVg (g : Bool) (t : Ty) (v : V) : Option t.T :=
  match v with
  | .one c => bif g then none else ofV t (.one c)
  | .agg cs => bif g then ofV t (.agg cs) else none
def keyAs (E : Env) (kT : TypeId) (g : Bool) (k : Ty) (v : V) : Option k.T :=
  match E.tt kT with
  | some d => if d.agg = g ∧ d.ty = some k ∧ E.eq kT = true ∧ keyTy k = true then ofVg g k v else none
  | none => none
def delO (j : Nat) (ob : Nat → Option AObj) : Nat → Option AObj := fun i => if j == i then none else ob i
def stepOp (E : Env) (ev : Operand → Option SV) (ob : Nat → Option AObj) (nx : Nat) (op : Op) : Option Res :=
  match op with
  | .move x => (ev x).bind rv
  | .assign x => (ev x).bind rv
  | .pick c a b => match (ev c).bind one?, (ev a).bind one?, (ev b).bind one? with
    | some (.bool c), some (.bool a), some (.bool b) => rc (.bool (bif c then a else b))
    | _, _, _ => none
  | .alloc T => match E.tt T with
    | some d => some ⟨[], some (.val (.one (.ptr nx 0))), [(nx, some (.box d.zero))]⟩
    | none => none
  | .box _ x => match (ev x).bind val? with
    | some v => some ⟨[], some (.val (.one (.ptr nx 0))), [(nx, some (.box (Ch.chs v)))]⟩
    | none => none
  | .build T ps => match E.tt T, parts ev ps.toList with
    | some d, some vs => match d.kind with
      | .strct fs => (fillS fs d.zero vs).bind fun cs => rv (.val (.agg cs))
      | .arr n e => match E.tt e, d.zero with
        | some de, [.arr m t xs] => if m = n ∧ de.sz = t.sz then (fillRow t xs vs).bind fun ys => rv (.val (.agg [.arr m t ys])) else none
        | some de, z => (fillA de.sz z vs).bind fun cs => rv (.val (.agg cs))
        | _, _ => none
      | _ => none
    | _, _ => none
  | .buildSlice T n ps => match E.tt T, parts ev ps.toList with
    | some ⟨_, _, _, .slc e, _, _⟩, some vs => match E.tt e with
      | some ⟨_, _, _, _, some t, _⟩ => match fillRow t (List.replicate n t.d) vs with
        | some xs => if n * t.sz ≤ 16777216 then some ⟨[], some (.val (.one (.own nx))), [(nx, some (.row t xs))]⟩ else none
        | none => match fillRow t (List.replicate n t.d) (vs.map fun x => (x.1, frzV ob x.2)) with
          | some xs => if n * t.sz ≤ 16777216 then some ⟨[], some (.val (.one (.own nx))), (nx, some (.row t xs)) :: (vs.flatMap fun x => ownV x.2).map fun j => (j, none)⟩ else none
          | none => none
      | _ => none
    | _, _ => none
  | .load T a => match E.tt T, (ev a).bind one? with
    | some d, some (.vp id off sz lo n) => match rowOf ob (.view id off sz lo n) with
      | some ⟨t, xs⟩ => if d.sz = n * t.sz ∧ sz = t.sz then (mkV d [.arr n t xs]).map fun v => ⟨[xs.length = n], some (.val v), []⟩ else none
      | none => none
    | some d, some c => match loadC ob c d.sz with
      | some (ps, cs) => (mkV d cs).map fun v => ⟨ps, some (.val v), []⟩
      | none => none
    | _, _ => none
  | .store T a x => match E.tt T, (ev a).bind one?, (ev x).bind val? with
    | some d, some c, some v => if chsSz (Ch.chs v) = d.sz then match storeC ob c d.sz (Ch.chs v) with
        | some (ps, id, o) => some ⟨ps, none, [(id, some o)]⟩
        | none => match v with
          | .one (.own j) => match ob j with
            | some (.row t xs) => match storeC (delO j ob) c d.sz [.one (.sl t xs)] with
              | some (ps, id, o) => some ⟨ps, none, [(id, some o), (j, none)]⟩
              | none => none
            | _ => none
          | _ => none
      else none
    | _, _, _ => none
  | .nilCheck x => match (ev x).bind one? with
    | some (.ptr i o) => rc (.ptr i o)
    | some (.el i o z j s) => rc (.el i o z j s)
    | some (.ref t x) => rc (.ref t x)
    | some (.fn f a b) => rc (.fn f a b)
    | _ => none
  | .binOp op T x y _ => match (ev x).bind val?, (ev y).bind val? with
    | some (.one (.int k a)), some (.one (.int k' b)) => match op with
      | .shl | .shr => shInt op k a b
      | _ => if k = k' then binInt E.tdv op k a b else none
    | some (.one (.flt k a)), some (.one (.flt k' b)) => if k = k' then binFlt op k a b else none
    | some (.one (.odd k a)), some (.one (.odd k' b)) => if k = k' then binOdd op k a b else none
    | some (.one (.err a)), some (.one (.err false)) => match y, (E.tt T).map TD.kind, op with
      | .const _, some .ifc, .eql => rc (.bool (!a))
      | .const _, some .ifc, .neq => rc (.bool a)
      | _, _, _ => none
    | some (.one (.odd k none)), some (.one (.flt k' _)) => match op with
      | .neq => if k = k' then rc (.bool true) else none
      | _ => none
    | some (.one (.cpx k a b)), some (.one (.cpx k' c d)) => if k = k' then match op with
        | .eql => rc (.bool (Op.floatEq k a c && Op.floatEq k b d))
        | .neq => rc (.bool !(Op.floatEq k a c && Op.floatEq k b d))
        | .mul => if k = .f64 then rcc ((cmulF a b c d).isSome = true) (.cpx .f64 ((cmulF a b c d).getD (0, 0)).1 ((cmulF a b c d).getD (0, 0)).2) else none
        | _ => none
      else none
    | some (.one (.bool a)), some (.one (.bool b)) => match op, E.tt T with
      | .eql, some ⟨_, _, _, .sc, some .bool, _⟩ => rc (.bool (a == b))
      | .neq, some ⟨_, _, _, .sc, some .bool, _⟩ => rc (.bool (a != b))
      | _, _ => none
    | some (.one (.str a)), some (.one (.str b)) => match op with
      | .eql => rc (.bool (a == b))
      | .neq => rc (.bool (a != b))
      | .add => rcc (a.length + b.length ≤ 9223372036854775807) (.str (a ++ b))
      | _ => none
    | some (.one .nils), some (.one .nils) => match op, E.tt T with
      | .eql, some ⟨_, _, _, .slc _, _, _⟩ => rc (.bool true)
      | .neq, some ⟨_, _, _, .slc _, _, _⟩ => rc (.bool false)
      | _, _ => none
    | some (.agg xs), some (.agg ys) => match E.tt T with
      | some ⟨_, _, true, _, some u, _⟩ => if E.eq T then match ofV u (.agg xs), ofV u (.agg ys) with
          | some p, some q => match op with
            | .eql => rc (.bool (eqT u p q))
            | .neq => rc (.bool (!eqT u p q))
            | _ => none
          | _, _ => none
        else none
      | _ => none
    | _, _ => none
  | .unOp op _ x => match op, (ev x).bind one? with
    | .not, some (.bool b) => rc (.bool (!b))
    | .neg, some (.int k n) => rcc (fits k (-n)) (.int k (-n))
    | .neg, some (.flt k b) => rc (.flt k (Op.negFloat k b))
    | _, _ => none
  | .convert S T x => match E.tt S, E.tt T, (ev x).bind one? with
    | some _, some ⟨_, _, _, .sc, some (.int k), _⟩, some (.int _ n) => match k with
      | .u8 => rc (.int .u8 (n % 256))
      | k => rcc (fits k n) (.int k n)
    | some ⟨_, _, _, .sc, some .str, _⟩, some ⟨_, _, _, .sc, some .str, _⟩, some (.str l) => rc (.str l)
    | some _, some ⟨_, _, _, .sc, some (.flt k), _⟩, some (.int _ n) => rc (.flt k (k.nearest n))
    | some _, some ⟨_, _, _, .sc, some (.int k), _⟩, some (.flt s b) => rcc (((s.decode b).toInt .zero).isSome = true ∧ k.min ≤ ((s.decode b).toInt .zero).getD 0 ∧ ((s.decode b).toInt .zero).getD 0 ≤ k.max) (.int k (((s.decode b).toInt .zero).getD 0))
    | some _, some ⟨_, _, _, .sc, some (.flt k), _⟩, some (.flt s b) => arF k (convF s k b)
    | some _, some ⟨_, _, _, .sc, some (.flt k), _⟩, some (.odd _ none) => rc (.odd k none)
    | some _, some ⟨_, _, _, .sc, some (.cpx k), _⟩, some (.cpx s a b) => rcc ((convF s k a).isSome = true ∧ (convF s k b).isSome = true) (.cpx k ((convF s k a).getD 0) ((convF s k b).getD 0))
    | some ⟨_, _, _, .slc e, _, _⟩, some ⟨_, _, _, .sc, some .str, _⟩, some c => match E.tt e with
      | some ⟨_, _, _, .sc, some (.int .u8), _⟩ => match rowAs ob (.int .u8) c with
        | some xs => some ⟨rowP ob c, some (.val (.one (.str (bytesOf xs)))), []⟩
        | none => none
      | _ => none
    | some ⟨_, _, _, .sc, some .str, _⟩, some ⟨_, _, _, .slc e, _, _⟩, some (.str l) => match E.tt e with
      | some ⟨_, _, _, .sc, some (.int .u8), _⟩ => rc (.sl (.int .u8) (strNs l))
      | _ => none
    | some ⟨_, _, _, .slc e, _, _⟩, some ⟨_, _, _, .slc _, _, _⟩, some (.own id) => if S = T then match E.tt e with
      | some ⟨_, _, _, .sc, some (.int .u8), _⟩ => match rowAs ob (.int .u8) (.own id) with
        | some xs => some ⟨[0 < xs.length], some (.val (.one (.own id))), [(id, some (.row (.int .u8) xs))]⟩
        | none => none
      | _ => none
      else none
    | _, _, _ => none
  | .sliceToArrayPointer T x => match E.tt T, (ev x).bind one? with
    | some ⟨_, _, _, .arr n e, _, _⟩, some c => match E.tt e with
      | some ⟨_, _, _, _, some t, _⟩ => match c with
        | .sl t' xs => if h : t' = t ∧ n ≠ 0 then rcc (n ≤ xs.length) (.ref (.arr n t) (h.1 ▸ xs.take n)) else none
        | .own id => match ob id with
          | some (.row t' xs) => if t' = t ∧ n ≠ 0 then rcc (n ≤ xs.length) (.vp id 0 t.sz 0 n) else none
          | _ => none
        | .view id off sz lo m => if sz = t.sz ∧ n ≠ 0 then rcc (n ≤ m) (.vp id off sz lo n) else none
        | _ => none
      | _ => none
    | _, _ => none
  | .range T x => match E.tt T, (ev x).bind one? with
    | some ⟨_, _, _, .sc, some .str, _⟩, some (.str l) => some ⟨[], some (.val (.one (.ptr nx 0))), [(nx, some (.sit l 0))]⟩
    | _, _ => none
  | .makeMap T none => match E.tt T with
    | some ⟨_, _, _, .map kT eT, _, _⟩ => match E.tt kT, E.tt eT with
      | some dk, some de => match dk.ty, de.ty with
        | some k, some t => some ⟨[], some (.val (.one (.own nx))), [(nx, some (.map dk.agg de.agg k t []))]⟩
        | _, _ => none
      | _, _ => none
    | _ => none
  | .mapUpdate T m k x => match E.tt T, (ev m).bind one?, (ev k).bind val?, (ev x).bind val? with
    | some ⟨_, _, _, .map kT _, _, _⟩, some (.own id), some kv, some xv => match ob id with
      | some (.map gk gt kt t l) => match keyAs E kT gk kt kv, ofVg gt t xv with
        | some p, some q => some ⟨[], none, [(id, some (.map gk gt kt t (U.mapPut kt t l p q)))]⟩
        | _, _ => none
      | _ => none
    | _, _, _, _ => none
  | .insert T m k x => match E.tt T, (ev m).bind one?, (ev k).bind val?, (ev x).bind val? with
    | some ⟨_, _, _, .map kT _, _, _⟩, some (.own id), some kv, some xv => match ob id with
      | some (.map gk gt kt t l) => match keyAs E kT gk kt kv, ofVg gt t xv with
        | some p, some q => some ⟨[], none, [(id, some (.map gk gt kt t (U.mapPut kt t l p q)))]⟩
        | _, _ => none
      | _ => none
    | _, _, _, _ => none
  | .lookup T m k ok => match E.tt T, (ev m).bind one?, (ev k).bind val? with
    | some ⟨_, _, _, .map kT eT, _, _⟩, some c, some kv => match mapOf ob c, E.tt eT with
      | some m, some de => if de.agg = m.gt ∧ de.ty = some m.t then match keyAs E kT m.gk m.k kv with
        | some p => (mkV de (toChs m.t ((U.mapGet m.k m.t m.l p).getD m.t.d))).bind fun v =>
            rv (bif ok then .tup [v, .one (.bool (U.mapGet m.k m.t m.l p).isSome)] else .val v)
        | none => none
        else none
      | _, _ => none
    | _, _, _ => none
  | .makeFunc (.func f) a b => match ptrs ev a.toList, ptrs ev b.toList with
    | some p, some q => rc (.fn f p q)
    | _, _ => match a.toList, b.toList with
      | [y], [] => match (ev y).bind one? with
        | some (.sl t xs) => rc (.fnd f false (.sl t) xs)
        | _ => none
      | _, _ => none
  | .makeSlice T (.tmp l) (.tmp c) => match E.tt T, (ev (.tmp l)).bind one? with
    | some ⟨_, _, _, .slc e, _, _⟩, some (.int .i64 n) => match E.tt e with
      | some ⟨_, by_, _, _, some t, _⟩ => if l = c then
          some ⟨[0 ≤ n, room n.toNat by_], some (.val (.one (.own nx))), [(nx, some (.row t (List.replicate n.toNat t.d)))]⟩ else none
      | _ => none
    | _, _ => none
  | .slice T x lo hi none => match E.tt T, (ev x).bind one? with
    | some ⟨_, _, _, .arr n e, _, _⟩, some c => match E.tt e, bound ev 0 lo, bound ev n hi with
      | some de, some l, some h => match c with
        | .ptr id off => some ⟨[0 ≤ l ∧ l ≤ h ∧ h ≤ n], some (.val (.one (.view id off de.sz l.toNat (h.toNat - l.toNat)))), []⟩
        | .ref (.arr m t) xs => if de.sz = t.sz ∧ m = n then some ⟨[0 ≤ l ∧ l ≤ h ∧ h ≤ n], some (.val (.one (.sl t ((List.drop l.toNat xs).take (h.toNat - l.toNat))))), []⟩ else none
        | _ => none
      | _, _, _ => none
    | some ⟨_, _, _, .slc e, _, _⟩, some c => match E.tt e, lenOf ob c with
      | some de, some n => match bound ev 0 lo, bound ev n hi with
        | some l, some h => match sliceC ob de.sz c l h with
          | some r => rcc (0 ≤ l ∧ l ≤ h ∧ h ≤ n) (dropSl hi c r l)
          | none => none
        | _, _ => none
      | _, _ => none
    | some ⟨_, _, _, .sc, some .str, _⟩, some (.str s) => match bound ev 0 lo, bound ev s.length hi with
      | some l, some h => rcc (0 ≤ l ∧ l ≤ h ∧ h ≤ s.length) (.str ((s.drop l.toNat).take (h.toNat - l.toNat)))
      | _, _ => none
    | _, _ => none
  | .slice T x (some lo) (some hi) (some mx) => match E.tt T, (ev x).bind one? with
    | some ⟨_, _, _, .slc e, _, _⟩, some (.sl t xs) => match E.tt e, bound ev 0 (some lo), bound ev 0 (some hi), bound ev 0 (some mx) with
      | some de, some l, some h, some m => if de.sz = t.sz then rcc (0 ≤ l ∧ l ≤ h ∧ h ≤ m ∧ m ≤ xs.length) (.sl t ((xs.drop l.toNat).take (h.toNat - l.toNat))) else none
      | _, _, _, _ => none
    | _, _ => none
  | .fieldAddr T x i => match E.tt T, (ev x).bind one? with
    | some ⟨_, _, _, .strct fs, _, _⟩, some c => match fs[i]? with
      | some (off, n, _) => match c with
        | .ptr id o => rc (.ptr id (o + off))
        | .el id o z j s => rc (.el id o z j (s + off))
        | .ref t x => (subT t x off n).bind fun y => rc (.ref y.1 y.2)
        | _ => none
      | none => none
    | _, _ => none
  | .field T x i => match E.tt T, (ev x).bind val? with
    | some ⟨_, _, _, .strct fs, _, _⟩, some (.agg cs) => match fs[i]? with
      | some (off, n, false) => match cutCh cs off n with
        | some [.one c] => rc c
        | _ => none
      | some (off, n, true) => match cutCh cs off n with
        | some x => rv (.val (.agg x))
        | _ => none
      | none => none
    | _, _ => none
  | .indexAddr T x i => match E.tt T, (ev x).bind one?, (ev i).bind one? with
    | some ⟨_, _, _, .arr n e, _, _⟩, some c, some (.int _ i) => match E.tt e with
      | some de => match c with
        | .ptr id off => rcc (0 ≤ i ∧ i < n) (.el id off de.sz i.toNat 0)
        | .ref (.arr m t) xs => if de.sz = t.sz ∧ m = n then rcc (0 ≤ i ∧ i < n) (.ref t (List.getD xs i.toNat t.d)) else none
        | .el id off sz j sub => rcc (0 ≤ i ∧ i < n) (.el id off sz j (sub + i.toNat * de.sz))
        | _ => none
      | none => none
    | some ⟨_, _, _, .slc e, _, _⟩, some c, some (.int _ i) => match E.tt e with
      | some de => match c with
        | .sl t xs => if de.sz = t.sz then rcc (0 ≤ i ∧ i < xs.length) (.ref t (xs.getD i.toNat t.d)) else none
        | .own id => match ob id with
          | some (.row t xs) => if de.sz = t.sz then rcc (0 ≤ i ∧ i < xs.length) (.el id 0 t.sz i.toNat 0) else none
          | some (.sbox cs) => if de.sz = 1 then rcc (0 ≤ i ∧ i < chsSz cs) (.el id 0 1 i.toNat 0) else none
          | _ => none
        | .view id off sz lo n => if de.sz = sz then rcc (0 ≤ i ∧ i < n) (.el id off sz (lo + i.toNat) 0) else none
        | _ => none
      | none => none
    | _, _, _ => none
  | .index T x i => match E.tt T, (ev x).bind val?, (ev i).bind one? with
    | some ⟨_, _, _, .arr n e, _, _⟩, some (.agg [.arr m t xs]), some (.int _ i) => match E.tt e with
      | some de => if de.sz = t.sz ∧ m = n then (mkV de (toChs t (xs.getD i.toNat t.d))).map fun v => ⟨[0 ≤ i ∧ i < n], some (.val v), []⟩ else none
      | none => none
    | some ⟨_, _, _, .arr n e, _, _⟩, some (.agg cs), some (.int _ i) => match E.tt e with
      | some de => (cutCh cs (i.toNat * de.sz) de.sz).bind fun y => (mkV de y).map fun v => ⟨[0 ≤ i ∧ i < n], some (.val v), []⟩
      | none => none
    | some ⟨_, _, _, .sc, some .str, _⟩, some (.one (.str l)), some (.int _ i) => rcc (0 ≤ i ∧ i < l.length) (.int .u8 (l.getD i.toNat 0).toNat)
    | _, _, _ => none
  | .extract x i => match ev x with
    | some (.tup vs) => (vs[i]?).bind fun v => rv (.val v)
    | _ => none
  | .call ⟨.builtin b, args, ts⟩ => match evs ev args.toList with
    | some vs => builtinR E ob nx b ts.toList vs
    | none => none
  | .call ⟨.value f, args, _⟩ => match (ev f).bind one?, evs ev args.toList with
    | some (.fn f [] []), some vs => match E.ex f with
      | some k => exR k vs
      | none => match E.pt f with
        | some run => match run vs with
          | some p => rc (.ptr p.1 p.2)
          | none => none
        | none => callR E ob nx f vs
    | some (.fn f p q), some vs => callR E ob nx f (capVs p ++ vs ++ capVs q)
    | some (.fnd f c t x), some vs => match fndArgs c t x with
      | some (p, q) => callR E ob nx f (p ++ vs ++ q)
      | none => none
    | _, _ => none
  | _ => none
end Go.Sx
