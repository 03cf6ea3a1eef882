/- A verified symbolic run of functions, part 2: lemmas, no claim of their own. -/
import Derived.Test.YtpfngnmgipnmlaaDoorS1
import Derived.OrdersIn
/- The engine's runs: regions, code, loops, functions. -/
namespace Go.Sx

/-! ### Values are written out before they are kept. -/

def frcCs : List Ch → (List Ch → Prop) → Prop
  | [], k => k []
  | .one c :: r, k => match c with
    | .int a b => frcCs r fun r => k (.one (.int a b) :: r)
    | .bool b => frcCs r fun r => k (.one (.bool b) :: r)
    | .str l => frcCs r fun r => k (.one (.str l) :: r)
    | .flt a b => frcCs r fun r => k (.one (.flt a b) :: r)
    | .cpx a b c => frcCs r fun r => k (.one (.cpx a b c) :: r)
    | .sl t x => frcCs r fun r => k (.one (.sl t x) :: r)
    | .ref t x => frcCs r fun r => k (.one (.ref t x) :: r)
    | .ptr a b => frcCs r fun r => k (.one (.ptr a b) :: r)
    | .el a b c d e => frcCs r fun r => k (.one (.el a b c d e) :: r)
    | .own a => frcCs r fun r => k (.one (.own a) :: r)
    | .view a b c d e => frcCs r fun r => k (.one (.view a b c d e) :: r)
    | .frs t x => frcCs r fun r => k (.one (.frs t x) :: r)
    | .nilp => frcCs r fun r => k (.one .nilp :: r)
    | .nils => frcCs r fun r => k (.one .nils :: r)
    | .nilf => frcCs r fun r => k (.one .nilf :: r)
    | .fn f a b => frcCs r fun r => k (.one (.fn f a b) :: r)
    | .yl i => frcCs r fun r => k (.one (.yl i) :: r)
    | .vp a b c d e => frcCs r fun r => k (.one (.vp a b c d e) :: r)
    | .nilm => frcCs r fun r => k (.one .nilm :: r)
    | .mp a b c d l => frcCs r fun r => k (.one (.mp a b c d l) :: r)
    | .any => frcCs r fun r => k (.one .any :: r)
  | .arr n t xs :: r, k => frcCs r fun r => k (.arr n t xs :: r)

theorem frcCs_eq : ∀ (cs : List Ch) (k : List Ch → Prop), frcCs cs k = k cs
  | [], _ => rfl
  | .one c :: r, k => by cases c <;> simp only [frcCs, frcCs_eq r]
  | .arr n t xs :: r, k => by simp only [frcCs, frcCs_eq r]

def frcV : V → (V → Prop) → Prop
  | .one c, k => frcCs [.one c] fun
    | [.one c] => k (.one c)
    | _ => False
  | .agg cs, k => frcCs cs fun cs => k (.agg cs)

theorem frcV_eq (v : V) (k : V → Prop) : frcV v k = k v := by cases v <;> simp only [frcV, frcCs_eq]

def frcVs : List V → (List V → Prop) → Prop
  | [], k => k []
  | v :: r, k => frcV v fun v => frcVs r fun r => k (v :: r)

theorem frcVs_eq : ∀ (vs : List V) (k : List V → Prop), frcVs vs k = k vs
  | [], _ => rfl
  | v :: r, k => by simp only [frcVs, frcV_eq, frcVs_eq r]

def frcSV : SV → (SV → Prop) → Prop
  | .val v, k => frcV v fun v => k (.val v)
  | .tup vs, k => frcVs vs fun vs => k (.tup vs)

theorem frcSV_eq (v : SV) (k : SV → Prop) : frcSV v k = k v := by cases v <;> simp only [frcSV, frcV_eq, frcVs_eq]

def frcUp : List (Nat × Option AObj) → (List (Nat × Option AObj) → Prop) → Prop
  | [], k => k []
  | (i, none) :: r, k => frcUp r fun r => k ((i, none) :: r)
  | (i, some (.box cs)) :: r, k => frcCs cs fun cs => frcUp r fun r => k ((i, some (.box cs)) :: r)
  | (i, some (.row t xs)) :: r, k => frcUp r fun r => k ((i, some (.row t xs)) :: r)
  | (i, some (.sit l n)) :: r, k => frcUp r fun r => k ((i, some (.sit l n)) :: r)
  | (i, some (.map a b c d l)) :: r, k => frcUp r fun r => k ((i, some (.map a b c d l)) :: r)

theorem frcUp_eq : ∀ (u : List (Nat × Option AObj)) (k : List (Nat × Option AObj) → Prop), frcUp u k = k u
  | [], _ => rfl
  | (i, none) :: r, k => by simp only [frcUp, frcUp_eq r]
  | (i, some (.box cs)) :: r, k => by simp only [frcUp, frcCs_eq, frcUp_eq r]
  | (i, some (.row t xs)) :: r, k => by simp only [frcUp, frcUp_eq r]
  | (i, some (.sit l n)) :: r, k => by simp only [frcUp, frcUp_eq r]
  | (i, some (.map a b c d l)) :: r, k => by simp only [frcUp, frcUp_eq r]

def conj : List Prop → Prop → Prop
  | [], q => q
  | p :: r, q => p ∧ conj r q

/-! ### Guards. -/

/-- A value that is there if a temporary holds a given truth value. -/
structure GV where
  d : Nat
  g : Nat
  w : Bool
  v : SV

def gvOf : List GV → Nat → Option GV
  | [], _ => none
  | x :: r, t => if x.d == t then some x else gvOf r t

/-- Whether a temporary is none of those that guarded values are in or hang on. -/
def gsFree (gs : List GV) (d : Nat) : Bool := gs.all fun x => x.d != d && x.g != d

/-- Whether what is assumed of temporaries brings that one holds a given truth value. -/
def brings (gs : List GV) : Nat → List (Nat × Bool) → Nat → Bool → Bool
  | 0, _, _, _ => false
  | n + 1, ctx, g, w => ctx.any fun (t, u) => (t == g && u == w) || (match gvOf gs t with
      | some x => brings gs n [(x.g, x.w)] g w
      | none => false)

def evG (E : Env) (tm : List (Nat × SV)) (gs : List GV) (ctx : List (Nat × Bool)) : Operand → Option SV
  | .tmp t => match gvOf gs t with
    | some x => bif brings gs 8 ctx x.g x.w then some x.v else none
    | none => lookT tm t
  | x => evalO E (lookT tm) x

/-- The conditions under which a guarded operation runs. -/
def hyps (tm : List (Nat × SV)) (gs : List GV) : Nat → Nat → Bool → Prop → Prop
  | 0, _, _, p => p
  | n + 1, g, w, p => match gvOf gs g with
    | some ⟨_, g', w', .val (.one (.bool e))⟩ => hyps tm gs n g' w' (e = w → p)
    | some _ => p
    | none => match lookT tm g with
      | some (.val (.one (.bool e))) => e = w → p
      | _ => p

/-- A result without objects: new rows become memory that stays. -/
def still (nx : Nat) (r : Res) : Option Res :=
  match r.up with
  | [] => some r
  | [(i, some (.row t xs))] => match r.v with
    | some (.val (.one (.own j))) => if i = j ∧ nx ≤ i then some ⟨r.cs, some (.val (.one (.sl t xs))), []⟩ else none
    | _ => none
  | _ => none

/-- How many ids an operation may use. -/
def W : Nat := 4

def stepG (E : Env) (tm : List (Nat × SV)) (gs : List GV) (ob : List (Nat × Option AObj)) (nx : Nat) (ctx : List (Nat × Bool)) (op : Op) : Option Res :=
  match op with
  | .pick (.tmp c) a b => match (evG E tm gs ctx (.tmp c)).bind one?, (evG E tm gs ((c, true) :: ctx) a).bind one?, (evG E tm gs ((c, false) :: ctx) b).bind one? with
    | some (.bool c), some (.bool a), some (.bool b) => rc (.bool (bif c then a else b))
    | _, _, _ => none
  | op => stepOp E (evG E tm gs ctx) (lookO ob) nx op

/-- The table without a temporary. -/
def delT (d : Nat) (tm : List (Nat × SV)) : List (Nat × SV) := tm.filter fun x => x.1 != d

/-- What follows a call that is run in its place: the value, the objects, the next id, the loops. -/
abbrev Cont := SV → List (Nat × Option AObj) → Nat → LR → Prop

/-- A round of a loop over a function. -/
abbrev YF := List V → List (Nat × Option AObj) → Nat → LR → Cont → Prop

abbrev YT := Nat → Option YF

/-- The run of a function in its caller's place. -/
abbrev Inl := FuncId → List V → YT → List (Nat × Option AObj) → Nat → LR → Cont → Prop

def ptrVs (ps : List (Nat × Nat)) : List V := ps.map fun p => .one (.ptr p.1 p.2)

def callOf (ev : Operand → Option SV) : Op → Option (C × List V)
  | .call ⟨.value f, args, _⟩ => match (ev f).bind one?, evs ev args.toList with
    | some c, some vs => some (c, vs)
    | _, _ => none
  | _ => none

def subOf (E : Env) (inl : Inl) (yt : YT) (ob : List (Nat × Option AObj)) (nx : Nat) (lr : LR) : C × List V → Option (Cont → Prop)
  | (.fn f a b, vs) => match E.fb f with
    | some _ => some (inl f (ptrVs a ++ vs ++ ptrVs b) yt ob nx lr)
    | none => none
  | (.yl id, vs) => match yt id with
    | some y => some (y vs ob nx lr)
    | none => none
  | _ => none

/-- The condition that a guard does not hold, where it is known. -/
def nhyps (tm : List (Nat × SV)) (gs : List GV) (g : Nat) (w : Bool) (p : Prop) : Prop :=
  match gvOf gs g with
  | some _ => p
  | none => match lookT tm g with
    | some (.val (.one (.bool e))) => e = !w → p
    | _ => p

/-- A test of a slice against nil: whether it asks for the opposite, and how long the slice is. -/
def nilOf (E : Env) (ob : Nat → Option AObj) (ev : Operand → Option SV) : Op → Option (Bool × Nat)
  | .binOp op T x (.const (.slice none 0 0)) _ => match E.tt T, (ev x).bind one? with
    | some ⟨_, _, _, .slc _, _, _⟩, some c => match op, c with
      | _, .nils => none
      | .eql, c => (lenOf ob c).map fun n => (false, n)
      | .neq, c => (lenOf ob c).map fun n => (true, n)
      | _, _ => none
    | _, _ => none
  | _ => none

/-- A step through a string: the iterator, the string, where it stands. -/
def nextOf (ob : Nat → Option AObj) (ev : Operand → Option SV) : Op → Option (Nat × List UInt8 × Nat)
  | .next x true => match (ev x).bind one? with
    | some (.ptr id 0) => match ob id with
      | some (.sit l pos) => some (id, l, pos)
      | _ => none
    | _ => none
  | _ => none

/-- What is known of a rune and its width. -/
def runeOk (l : List UInt8) (pos c w : Nat) : Prop :=
  pos < l.length ∧ ((l.getD pos 0).toNat < 128 → c = (l.getD pos 0).toNat ∧ w = 1) ∧ (128 ≤ (l.getD pos 0).toNat → 128 ≤ c ∧ 1 ≤ w)

def runSeq (E : Env) (inl : Inl) (yt : YT) (ops : Array Oper) : List Oper → St → List GV → (St → Prop) → Prop
  | [], s, _, k => k s
  | o :: r, s, gs, k =>
    match o.guard with
    | none =>
      match (callOf (evG E s.tm gs []) o.op).bind (subOf E inl yt s.ob s.nx s.lr) with
      | some q => q fun v ob nx lr => match o.dst with
        | some d => if gsFree gs d then frcSV v fun v => runSeq E inl yt ops r ⟨(d, v) :: s.tm, ob, nx, lr⟩ gs k else False
        | none => runSeq E inl yt ops r ⟨s.tm, ob, nx, lr⟩ gs k
      | none =>
      match nilOf E (lookO s.ob) (evG E s.tm gs []) o.op, o.dst with
      | some (neg, n), some d => if gsFree gs d then ∀ b : Bool, (b = true → n = 0) → runSeq E inl yt ops r ⟨(d, .val (.one (.bool (b != neg)))) :: s.tm, s.ob, s.nx, s.lr⟩ gs k else False
      | _, _ =>
      match nextOf (lookO s.ob) (evG E s.tm gs []) o.op, o.dst with
      | some (id, l, pos), some d => if gsFree gs d then
          (l.length ≤ pos → runSeq E inl yt ops r ⟨(d, .tup [.one (.bool false)]) :: s.tm, s.ob, s.nx, s.lr⟩ gs k) ∧
          ∀ c w : Nat, runeOk l pos c w → runSeq E inl yt ops r ⟨(d, .tup [.one (.bool true), .one (.int .i64 pos), .one (.int .i32 c)]) :: s.tm, (id, some (.sit l (pos + w))) :: s.ob, s.nx, s.lr⟩ gs k
        else False
      | _, _ =>
      match stepG E s.tm gs s.ob s.nx [] o.op with
      | some res => conj res.cs (match o.dst, res.v with
        | some d, some v => if gsFree gs d then frcSV v fun v => frcUp res.up fun up => runSeq E inl yt ops r ⟨(d, v) :: s.tm, up ++ s.ob, s.nx + W, s.lr⟩ gs k else False
        | none, _ => frcUp res.up fun up => runSeq E inl yt ops r ⟨s.tm, up ++ s.ob, s.nx + W, s.lr⟩ gs k
        | _, _ => False)
      | none => False
    | some (j, w) =>
      match (ops[j]?).bind (·.dst), o.dst with
      | some g, some d =>
        match (callOf (evG E s.tm gs [(g, w)]) o.op).bind (subOf E inl yt s.ob s.nx s.lr) with
        | some q => if gsFree gs d && d != g then
            hyps s.tm gs 8 g w (q fun v ob nx lr => frcSV v fun v => runSeq E inl yt ops r ⟨delT d s.tm, ob, nx, lr⟩ (⟨d, g, w, v⟩ :: gs) k) ∧
            nhyps s.tm gs g w (runSeq E inl yt ops r ⟨delT d s.tm, s.ob, s.nx, s.lr⟩ (⟨d, g, w, .val (.one (.bool false))⟩ :: gs) k) else False
        | none =>
        match (stepG E s.tm gs s.ob s.nx [(g, w)] o.op).bind (still s.nx) with
        | some res => match res.v with
          | some v => if gsFree gs d && d != g then conj (res.cs.map (hyps s.tm gs 8 g w)) (frcSV v fun v => runSeq E inl yt ops r ⟨delT d s.tm, s.ob, s.nx + W, s.lr⟩ (⟨d, g, w, v⟩ :: gs) k) else False
          | none => False
        | none => False
      | _, _ => False

/-! ### Regions that draw their order: operations that touch no object of the call's own, in any order; then the others, each behind all before it. -/

structure Rec where
  i : Nat
  d : Option Nat
  g : Option (Nat × Bool)
  v : SV
  up : List (Nat × Option AObj)

def ancs : List Oper → List Nat → List Nat
  | [], acc => acc
  | o :: r, acc => ancs r (acc ++ [o.after.toList.foldl (fun m e => if Region.binds .any e then m ||| 2 ^ e.on ||| acc.getD e.on 0 else m) 0])

def recTm (a : Nat → Bool) : List Rec → List (Nat × SV) → List (Nat × SV)
  | [], tm => tm
  | ⟨i, some d, none, v, _⟩ :: r, tm => bif a i then (d, v) :: recTm a r tm else recTm a r tm
  | ⟨i, some d, some _, _, _⟩ :: r, tm => bif a i then delT d (recTm a r tm) else recTm a r tm
  | ⟨_, none, _, _, _⟩ :: r, tm => recTm a r tm

def recGs (a : Nat → Bool) : List Rec → List GV
  | [] => []
  | ⟨i, some d, some (g, w), v, _⟩ :: r => bif a i then ⟨d, g, w, v⟩ :: recGs a r else recGs a r
  | _ :: r => recGs a r

/-- The new objects. -/
def recOb (a : Nat → Bool) : List Rec → List (Nat × Option AObj)
  | [] => []
  | x :: r => bif a x.i then x.up ++ recOb a r else recOb a r

def C.ids : C → List Nat
  | .ptr id _ => [id]
  | .el id _ _ _ _ => [id]
  | .own id => [id]
  | .view id _ _ _ _ => [id]
  | .fn _ a b => a.map (·.1) ++ b.map (·.1)
  | .yl id => [id]
  | .vp id _ _ _ _ => [id]
  | _ => []

def Ch.ids : Ch → List Nat
  | .one c => c.ids
  | .arr .. => []

def V.ids : V → List Nat
  | .one c => c.ids
  | .agg cs => cs.flatMap Ch.ids

def SV.ids : SV → List Nat
  | .val v => v.ids
  | .tup vs => vs.flatMap V.ids

def tmpsOf (xs : List Operand) : List Nat := xs.filterMap fun | .tmp t => some t | _ => none

/-- The temporaries that an operation reads. -/
def looks (ops : Array Oper) (o : Oper) : List Nat :=
  tmpsOf o.op.operands.toList ++ (match o.guard with
    | some (g, _) => ((ops[g]?).bind (·.dst)).toList
    | none => [])

def keepT (l : List Nat) (tm : List (Nat × SV)) : List (Nat × SV) := tm.filter fun x => l.contains x.1

def objIds : Option AObj → List Nat
  | some (.box cs) => cs.flatMap Ch.ids
  | _ => []

/-- Whether what an operation gives leans on old objects, on those of operations before it, and on its own alone. -/
def recOk (nx0 nx : Nat) (keys : List Nat) (v : SV) (up : List (Nat × Option AObj)) : Bool :=
  ((v.ids ++ up.flatMap fun x => objIds x.2).all fun id => (decide (id < nx0) || keys.contains id) && decide (id < nx + W)) &&
  up.all fun x => decide (nx ≤ x.1) && decide (x.1 < nx + W) && x.2.isSome

def runDraw (E : Env) (ops : Array Oper) (s : St) : List (Oper × Nat) → Nat → List Rec → (List Rec → Prop) → Prop
  | [], _, rs, k => k rs
  | (o, m) :: r, i, rs, k =>
    if m < 2 ^ i then
      match o.guard with
      | none =>
        match stepG E (keepT (looks ops o) (recTm (Nat.testBit m) rs s.tm)) (recGs (Nat.testBit m) rs) (recOb (Nat.testBit m) rs ++ s.ob) (s.nx + W * i) [] o.op with
        | some res => match res.v with
          | some v => conj res.cs (frcSV v fun v => frcUp res.up fun up => if recOk s.nx (s.nx + W * i) ((up ++ recOb (Nat.testBit m) rs).map (·.1)) v up then runDraw E ops s r (i + 1) (⟨i, o.dst, none, v, up⟩ :: rs) k else False)
          | none => False
        | none => False
      | some (j, w) =>
        match (ops[j]?).bind (·.dst), o.dst with
        | some g, some d =>
          match (stepG E (keepT (looks ops o) (recTm (Nat.testBit m) rs s.tm)) (recGs (Nat.testBit m) rs) (recOb (Nat.testBit m) rs ++ s.ob) (s.nx + W * i) [(g, w)] o.op).bind (still (s.nx + W * i)) with
          | some res => match res.v with
            | some v => if Nat.testBit m j then conj (res.cs.map (hyps (keepT (looks ops o) (recTm (Nat.testBit m) rs s.tm)) (recGs (Nat.testBit m) rs) 8 g w))
                (frcSV v fun v => if recOk s.nx (s.nx + W * i) ((recOb (Nat.testBit m) rs).map (·.1)) v [] then runDraw E ops s r (i + 1) (⟨i, some d, some (g, w), v, []⟩ :: rs) k else False) else False
            | none => False
          | none => False
        | _, _ => False
    else False

/-- Whether two operations that no edge orders keep out of each other's way. -/
def apart (ops : Array Oper) (x y : Oper × Nat × Nat) : Bool :=
  Nat.testBit x.2.2 y.2.1 || Nat.testBit y.2.2 x.2.1 ||
  ((match x.1.dst with
    | some d => !(looks ops y.1).contains d
    | none => true) &&
   (match y.1.dst with
    | some d => !(looks ops x.1).contains d
    | none => true))

def apartAll (ops : Array Oper) : List (Oper × Nat × Nat) → Bool
  | [] => true
  | x :: r => r.all (fun y => apart ops x y) && apartAll ops r

/-! ### Two states that fit. -/

/-- What is found as two states are held against each other: conditions; of each id of the second one the id of the first one (none: an empty row); ids of the first one whose rows stay from now on. -/
structure Mt where
  ps : List Prop
  ln : List (Nat × Option Nat)
  fz : List Nat

def lnOf : List (Nat × Option Nat) → Nat → Option (Option Nat)
  | [], _ => none
  | (k, v) :: r, t => if k == t then some v else lnOf r t

def link (m : Mt) (id' : Nat) (id : Option Nat) : Option Mt :=
  match lnOf m.ln id' with
  | none => some { m with ln := (id', id) :: m.ln }
  | some x => if x = id then some m else none

def links (m : Mt) : List (Nat × Nat) → List (Nat × Nat) → Option Mt
  | [], [] => some m
  | (i, o) :: r, (i', o') :: r' => if o = o' then (link m i' (some i)).bind fun m => links m r r' else none
  | _, _ => none

def Mt.eq (m : Mt) (p : Prop) : Option Mt := some { m with ps := p :: m.ps }

/-- Entries, their types told otherwise. -/
def castM {k k' t t' : Ty} (h : k = k') (q : t = t') (l : List (k.T × t.T)) : List (k'.T × t'.T) := h ▸ q ▸ l

def mC (ob : Nat → Option AObj) (m : Mt) (c c' : C) : Option Mt :=
  match c' with
  | .any => match c with
    | .frs .. => none
    | _ => some m
  | .int k' n' => match c with
    | .int k n => if k = k' then m.eq (n = n') else none
    | _ => none
  | .bool b' => match c with
    | .bool b => m.eq (b = b')
    | _ => none
  | .str l' => match c with
    | .str l => m.eq (l = l')
    | _ => none
  | .flt k' n' => match c with
    | .flt k n => if k = k' then m.eq (n = n') else none
    | _ => none
  | .cpx k' a' b' => match c with
    | .cpx k a b => if k = k' then m.eq (a = a' ∧ b = b') else none
    | _ => none
  | .sl t' ys => match c with
    | .sl t xs => if h : t = t' then m.eq ((h ▸ xs : List t'.T) = ys) else none
    | .nils => m.eq (ys = [])
    | .own id => match ob id with
      | some (.row t xs) => if h : t = t' then some ⟨((h ▸ xs : List t'.T) = ys) :: m.ps, m.ln, id :: m.fz⟩ else none
      | _ => none
    | _ => none
  | .ref t' x' => match c with
    | .ref t x => if h : t = t' then m.eq ((h ▸ x : t'.T) = x') else none
    | _ => none
  | .ptr id' o' => match c with
    | .ptr id o => if o = o' then link m id' (some id) else none
    | _ => none
  | .el id' o' z' i' s' => match c with
    | .el id o z i s => if o = o' ∧ z = z' ∧ s = s' then (link m id' (some id)).bind fun m => m.eq (i = i') else none
    | _ => none
  | .own id' => match c with
    | .own id => link m id' (some id)
    | .nils => link m id' none
    | _ => none
  | .view id' o' z' l' n' => match c with
    | .view id o z l n => if o = o' ∧ z = z' then (link m id' (some id)).bind fun m => m.eq (l = l' ∧ n = n') else none
    | _ => none
  | .yl id' => match c with
    | .yl id => link m id' (some id)
    | _ => none
  | .vp id' o' z' l' n' => match c with
    | .vp id o z l n => if o = o' ∧ z = z' ∧ n = n' then (link m id' (some id)).bind fun m => m.eq (l = l') else none
    | _ => none
  | .frs .. => none
  | .nilm => match c with
    | .nilm => some m
    | _ => none
  | .mp gk' gt' k' t' l' => match c with
    | .mp gk gt k t l => if h : gk = gk' ∧ gt = gt' ∧ k = k' ∧ t = t' then m.eq (castM h.2.2.1 h.2.2.2 l = l') else none
    | _ => none
  | .nilp => match c with
    | .nilp => some m
    | _ => none
  | .nils => match c with
    | .nils => some m
    | _ => none
  | .nilf => match c with
    | .nilf => some m
    | _ => none
  | .fn f' a' b' => match c with
    | .fn f a b => if f = f' then (links m a a').bind fun m => links m b b' else none
    | _ => none

def mChs (ob : Nat → Option AObj) (m : Mt) : List Ch → List Ch → Option Mt
  | [], [] => some m
  | .one c :: r, .one c' :: r' => (mC ob m c c').bind fun m => mChs ob m r r'
  | .arr n t xs :: r, .arr n' t' ys :: r' => if h : n = n' ∧ t = t' then (m.eq ((h.2 ▸ xs : List t'.T) = ys)).bind fun m => mChs ob m r r' else none
  | _, _ => none

def mV (ob : Nat → Option AObj) (m : Mt) : V → V → Option Mt
  | .one c, .one c' => mC ob m c c'
  | .agg a, .agg b => mChs ob m a b
  | _, _ => none

def mVs (ob : Nat → Option AObj) (m : Mt) : List V → List V → Option Mt
  | [], [] => some m
  | a :: r, b :: r' => (mV ob m a b).bind fun m => mVs ob m r r'
  | _, _ => none

def mSV (ob : Nat → Option AObj) (m : Mt) : SV → SV → Option Mt
  | .val a, .val b => mV ob m a b
  | .tup a, .tup b => mVs ob m a b
  | _, _ => none

def mTm (s : St) (m : Mt) : List (Nat × SV) → Option Mt
  | [] => some m
  | (t, v') :: r => match lookT s.tm t with
    | some v => (mSV (lookO s.ob) m v v').bind fun m => mTm s m r
    | none => none

/-- An object that nothing has led to stands for itself. -/
def preLink (m : Mt) (id' : Nat) : Mt :=
  match lnOf m.ln id' with
  | some _ => m
  | none => { m with ln := (id', some id') :: m.ln }

def mOb (s : St) (m0 : Mt) : List (Nat × Option AObj) → Option Mt
  | [] => some m0
  | (_, none) :: _ => none
  | (id', some o') :: r => let m := preLink m0 id'
    match lnOf m.ln id', o' with
    | some none, .row _ ys => (m.eq (ys = [])).bind fun m => mOb s m r
    | some (some id), o' => match lookO s.ob id, o' with
      | some (.box a), .box b => (mChs (lookO s.ob) m a b).bind fun m => mOb s m r
      | some (.row t xs), .row t' ys => if h : t = t' then (m.eq ((h ▸ xs : List t'.T) = ys)).bind fun m => mOb s m r else none
      | some (.sit l n), .sit l' n' => (m.eq (l = l' ∧ n = n')).bind fun m => mOb s m r
      | some (.map gk gt k t l), .map gk' gt' k' t' l' => if h : gk = gk' ∧ gt = gt' ∧ k = k' ∧ t = t' then (m.eq (castM h.2.2.1 h.2.2.2 l = l')).bind fun m => mOb s m r else none
      | _, _ => none
    | _, _ => none

/-- The ids of the first state that the second one uses are different ones, and none of those whose rows stay. -/
def mOk (m : Mt) : Bool :=
  let l := m.ln.filterMap (·.2)
  (l.all fun x => !m.fz.contains x) && decide (m.fz.Nodup) && decide l.Nodup

def ltC (n : Nat) (c : C) : Bool := c.ids.all (· < n)

def idsOk (s : St) : Bool :=
  (s.tm.all fun x => x.2.ids.all (· < s.nx)) && (s.ob.all fun x => x.1 < s.nx && (match x.2 with
    | some (.box cs) => cs.all (fun c => c.ids.all (· < s.nx))
    | _ => true)) && decide ((s.ob.map (·.1)).Nodup)

/-- Ids below a bound stand for themselves. -/
def lnFl (fl : Nat) (l : List (Nat × Option Nat)) : Bool := l.all fun x => decide (fl ≤ x.1) || decide (x.2 = some x.1)

def mtch (fl : Nat) (s s' : St) : Prop :=
  match (mTm s ⟨[], [], []⟩ s'.tm).bind fun m => mOb s m s'.ob with
  | some m => if mOk m && idsOk s' && lnFl fl m.ln && decide (fl ≤ s'.nx) && decide (s.lr = s'.lr) then conj m.ps.reverse True else False
  | none => False

/-! ### Code. -/

/-- Two ways; where the way is known, it alone. -/
def splitB (b : Bool) (A B : Prop) : Prop := match b with
  | true => A
  | false => B
theorem splitB_iff (b : Bool) (A B : Prop) : splitB b A B ↔ ((b = true → A) ∧ (b = false → B)) := by
  cases b <;> simp [splitB]

structure LInv where
  α : Type
  S : α → St
  J : α → Prop
  μ : α → Nat

def keyOf : Code → Nat
  | .region id _ _ => id
  | .seq a _ => keyOf a
  | .block _ c => keyOf c
  | .loop c => keyOf c
  | .scope c => keyOf c
  | .cond _ a _ => keyOf a
  | .rangeFunc _ _ _ b => keyOf b
  | _ => 0

structure Hints where
  inv : FuncId → Nat → St → Option LInv
  un : Nat

/-- The operations with their places and with those that come before them. -/
def zipAnc : Nat → List Oper → List Nat → List (Oper × Nat × Nat)
  | i, o :: r, m :: q => (o, i, m) :: zipAnc (i + 1) r q
  | _, _, _ => []

/-- How many operations come before those that come one after the other. -/
def headLen (fm : Nat) : List (Oper × Nat × Nat) → Nat
  | [] => 0
  | x :: r => match headLen fm r with
    | 0 => if Nat.lor x.2.2 (fm % 2 ^ x.2.1) + 1 = 2 ^ x.2.1 then 0 else x.2.1 + 1
    | n + 1 => n + 1

/-- An operation that takes a part of a tuple: it may be taken first. -/
def isFloat (ops : Array Oper) (l : List (Oper × Nat × Nat)) (x : Oper × Nat × Nat) : Bool :=
  match x.1.op, x.1.guard, x.1.dst with
  | .extract _ _, none, some _ => l.all fun y =>
      (match y.1.op with | .select _ _ => false | .defer _ => false | _ => true) &&
      (y.2.1 == x.2.1 || Nat.testBit x.2.2 y.2.1 || y.1.after.any (fun e => Region.binds .any e && e.on == x.2.1) || x.1.apart ops y.1)
  | _, _, _ => false

def fmask (ops : Array Oper) (l : List (Oper × Nat × Nat)) : List (Oper × Nat × Nat) → Nat
  | [] => 0
  | x :: r => bif isFloat ops l x then Nat.lor (2 ^ x.2.1) (fmask ops l r) else fmask ops l r

def fmOf (ops : Array Oper) (l : List (Oper × Nat × Nat)) : Nat :=
  match fmask ops l (l.take (headLen 0 l)) with
  | 0 => 0
  | f + 1 => bif Nat.blt (f + 1) (2 ^ headLen (f + 1) l) then f + 1 else 0

/-- The parameters of a round. -/
def setPs : List Nat → List V → List (Nat × SV) → List (Nat × SV)
  | p :: ps, v :: vs, tm => setPs ps vs ((p, .val v) :: tm)
  | _, _, tm => tm

/-- A loop that is run round by round. -/
def loopN : Nat → (St → (Ex → St → Prop) → Prop) → St → (Ex → St → Prop) → Prop
  | 0, _, _, _ => False
  | n + 1, b, s, k => b s fun
    | .nrm, s' => loopN n b s' k
    | e, s' => k e s'

def ex (E : Env) (h : Hints) (inl : Inl) (f : FuncId) (yt : YT) : Code → Nat → St → (Ex → St → Prop) → Prop
  | .skip, _, s, k => k .nrm s
  | .label _, _, s, k => k .nrm s
  | .exit id, _, s, k => k (.ext id) s
  | .goto l, _, s, k => k (.gto l) s
  | .ret, _, s, k => k .ret s
  | .region _ ops false, _, s, k => runSeq E inl yt ops ops.toList s [] (k .nrm)
  | .region _ ops true, _, s, k =>
    let l := zipAnc 0 ops.toList (ancs ops.toList [])
    let n := headLen (fmOf ops l) l
    if apartAll ops (l.take n) && decide ((ops.toList.filterMap (·.dst)).Nodup) then
      runDraw E ops s ((l.take n).map fun x => (x.1, x.2.2)) 0 [] fun rs =>
        runSeq E inl yt ops (ops.toList.drop n) ⟨recTm (fun _ => true) rs s.tm, recOb (fun _ => true) rs ++ s.ob, s.nx + W * n, s.lr⟩ (recGs (fun _ => true) rs) (k .nrm)
    else False
  | .seq a b, fl, s, k => ex E h inl f yt a fl s fun
    | .nrm, s => ex E h inl f yt b fl s k
    | e, s => k e s
  | .cond c a b, fl, s, k => match evalO E (lookT s.tm) c with
    | some (.val (.one (.bool e))) => splitB e (ex E h inl f yt a fl s k) (ex E h inl f yt b fl s k)
    | _ => False
  | .block id c, fl, s, k => ex E h inl f yt c fl s fun
    | .ext i, s => if i = id then k .nrm s else k (.ext i) s
    | e, s => k e s
  | .scope c, fl, s, k => ex E h inl f yt c fl s fun
    | .gto _, _ => False
    | e, s => k e s
  | .loop c, fl, s, k => match h.inv f (keyOf c) s with
    | some L => (∃ g, L.J g ∧ mtch fl s (L.S g)) ∧ ∀ g, L.J g → ex E h inl f yt c fl (L.S g) fun
      | .nrm, s' => ∃ g', L.J g' ∧ L.μ g' < L.μ g ∧ mtch fl s' (L.S g')
      | e, s' => k e s'
    | none => loopN h.un (ex E h inl f yt c fl) s k
  | .rangeFunc g ps assign body, _, s, k =>
    match (evalO E (lookT s.tm) g).bind one? with
    | some (.fn f' a b) => match E.fb f' with
      | some _ => inl f' (ptrVs a ++ [.one (.yl s.nx)] ++ ptrVs b)
          (fun i => bif i == s.nx then some (fun vs ob nx lr k' => match lookL lr s.nx with
              | some none => if vs.length = ps.size then
                  ex E h inl f yt assign nx ⟨setPs ps.toList vs s.tm, ob, nx, delL s.nx lr⟩ fun
                    | .nrm, s1 => ex E h inl f yt body nx s1 fun
                      | .nrm, s2 => k' (.val (.one (.bool true))) s2.ob s2.nx ((s.nx, none) :: s2.lr)
                      | e, s2 => k' (.val (.one (.bool false))) s2.ob s2.nx ((s.nx, some e) :: s2.lr)
                    | _, _ => False
                else False
              | _ => False) else yt i)
          s.ob (s.nx + 1) ((s.nx, none) :: s.lr) fun _ ob nx lr => match lookL lr s.nx with
            | some none => k .nrm ⟨s.tm, ob, nx, delL s.nx lr⟩
            | some (some e) => k e ⟨s.tm, ob, nx, delL s.nx lr⟩
            | none => False
      | none => False
    | _ => False
  | _, _, _, _ => False

/-- The results of a function. -/
def resV (E : Env) (s : St) : List ResultVar → Option (List Prop × List V)
  | [] => some ([], [])
  | .tmp t :: r => match (lookT s.tm t).bind val? with
    | some v => (resV E s r).map fun x => (x.1, v :: x.2)
    | none => none
  | .cell a T :: r => match E.tt T, (lookT s.tm a).bind one? with
    | some d, some c => match loadC (lookO s.ob) c d.sz with
      | some (ps, cs) => (mkV d cs).bind fun v => (resV E s r).map fun x => (ps ++ x.1, v :: x.2)
      | none => none
    | _, _ => none

def resSV : List V → SV
  | [v] => .val v
  | vs => .tup vs

def argTm : Nat → List V → List (Nat × SV)
  | _, [] => []
  | i, v :: r => (i, .val v) :: argTm (i + 1) r

/-- What is given back is what was promised. -/
def mRes (ob : Nat → Option AObj) (m : Mt) : V → V → Option Mt
  | .one (.own id), .one (.frs t' ys) => match ob id with
    | some (.row t xs) => if h : t = t' then match lnOf m.ln id with
        | none => some ⟨((h ▸ xs : List t'.T) = ys) :: m.ps, (id, some id) :: m.ln, m.fz⟩
        | some _ => none
      else none
    | _ => none
  | .one .nils, .one (.frs _ ys) => m.eq (ys = [])
  | a, b => mV ob m a b

def mRess (ob : Nat → Option AObj) (m : Mt) : List V → List V → Option Mt
  | [], [] => some m
  | a :: r, b :: r' => (mRes ob m a b).bind fun m => mRess ob m r r'
  | _, _ => none

def resOk (ob : Nat → Option AObj) (r r' : SV) : Prop :=
  match (match r, r' with
    | .val a, .val b => mRes ob ⟨[], [], []⟩ a b
    | .tup a, .tup b => mRess ob ⟨[], [], []⟩ a b
    | _, _ => none) with
  | some m => if mOk m then conj m.ps.reverse True else False
  | none => False

/-- A function's run in its caller's place, so many calls deep. -/
def inlN (E : Env) (h : Hints) : Nat → Inl
  | 0, _, _, _, _, _, _, _ => False
  | n + 1, f, vs, yt, ob, nx, lr, k => match E.fb f with
    | some fn => match fn.body with
      | some c => if vs.length ≤ fn.ntmps then ex E h (inlN E h n) f yt c nx ⟨argTm 0 vs, ob, nx, lr⟩ fun
          | .nrm, s | .ret, s => match resV E s fn.results.toList with
            | some (ps, vs) => conj ps (frcSV (resSV vs) fun v => k v s.ob s.nx s.lr)
            | none => False
          | _, _ => False
        else False
      | none => False
    | none => False

/-- A function's run. -/
def exF (E : Env) (h : Hints) (d : Nat) (f : FuncId) (fn : Func) (args : List V) (r : SV) : Prop :=
  match fn.body with
  | some c => ex E h (inlN E h d) f (fun _ => none) c 0 ⟨argTm 0 args, [], 0, []⟩ fun
    | .nrm, s | .ret, s => match resV E s fn.results.toList with
      | some (ps, vs) => conj ps (resOk (lookO s.ob) (resSV vs) r)
      | none => False
    | _, _ => False
  | none => False

end Go.Sx

/- The engine's table of types: how it is made out of a program, and how a table is held against the program. -/
namespace Go.Sx

def foldTy : List (Option Ty) → Option Ty
  | [] => none
  | [x] => x
  | x :: r => x.bind fun a => (foldTy r).map fun b => .pair a b

def tyOf (P : Program) : Nat → TypeId → Option Ty
  | 0, _ => none
  | n + 1, t => match P.underlying t with
    | some (.int k) => some (.int k)
    | some .bool => some .bool
    | some .string => some .str
    | some (.float k) => some (.flt k)
    | some (.complex k) => some (.cpx k)
    | some (.slice e) => (tyOf P n e).map .sl
    | some (.array m e) => (tyOf P n e).map (.arr m)
    | some (.struct fs) => foldTy (fs.toList.map fun f => tyOf P n f.type)
    | _ => none

def zeroOf (P : Program) : Nat → TypeId → Option (List Ch)
  | 0, _ => none
  | n + 1, t => match P.underlying t with
    | some (.int k) => some [.one (.int k 0)]
    | some .bool => some [.one (.bool false)]
    | some .string => some [.one (.str [])]
    | some (.float k) => some [.one (.flt k 0)]
    | some (.complex k) => some [.one (.cpx k 0 0)]
    | some (.slice _) => some [.one .nils]
    | some (.map _ _) => some [.one .nilm]
    | some (.pointer _) => some [.one .nilp]
    | some (.func ..) => some [.one .nilf]
    | some (.array m e) => match tyOf P n e with
      | some t => some [.arr m t (List.replicate m t.d)]
      | none => (zeroOf P n e).map fun z => (List.replicate m z).flatten
    | some (.struct fs) => (fs.toList.mapM fun f => zeroOf P n f.type).map List.flatten
    | _ => none

def aggOf (P : Program) (t : TypeId) : Bool :=
  match P.underlying t with
  | some (.struct _) | some (.array _ _) => true
  | _ => false

def kindOf (P : Program) (t : TypeId) : TK :=
  match P.underlying t with
  | some (.struct fs) => .strct (fs.toList.map fun f => (f.offset, P.cellsOf f.type, aggOf P f.type))
  | some (.array n e) => .arr n e
  | some (.slice e) => .slc e
  | some (.map k e) => .map k e
  | _ => .sc

def mkTD (P : Program) (t : TypeId) : Option TD :=
  match P.info? t, zeroOf P 12 t with
  | some i, some z => some ⟨i.size, i.bytes, aggOf P t, kindOf P t, tyOf P 12 t, z⟩
  | _, _ => none

end Go.Sx

namespace Go.Sx
def lookTT : List (Nat × TD) → Nat → Option TD
  | [], _ => none
  | (k, v) :: r, t => if k == t then some v else lookTT r t
def tab1 : List (Nat × TD) := [
  (1, ⟨1, 8, false, .sc, none, [.one .nilf]⟩),
  (2, ⟨1, 8, false, .sc, some (.int .i64), [.one (.int .i64 0)]⟩),
  (3, ⟨1, 8, false, .sc, some (.int .i64), [.one (.int .i64 0)]⟩),
  (4, ⟨1, 1, false, .sc, some .bool, [.one (.bool false)]⟩),
  (5, ⟨1, 1, false, .sc, some (.int .u8), [.one (.int .u8 0)]⟩),
  (6, ⟨1, 1, false, .sc, some (.int .u8), [.one (.int .u8 0)]⟩),
  (7, ⟨4, 24, true, .strct [(0, 1, false), (1, 1, false), (2, 1, false), (3, 1, false)], some (.pair (.int .i64) (.pair (.int .i64) (.pair .bool (.int .u8)))), [.one (.int .i64 0), .one (.int .i64 0), .one (.bool false), .one (.int .u8 0)]⟩),
  (8, ⟨4, 24, true, .strct [(0, 1, false), (1, 1, false), (2, 1, false), (3, 1, false)], some (.pair (.int .i64) (.pair (.int .i64) (.pair .bool (.int .u8)))), [.one (.int .i64 0), .one (.int .i64 0), .one (.bool false), .one (.int .u8 0)]⟩),
  (9, ⟨1, 16, false, .sc, some .str, [.one (.str [])]⟩),
  (10, ⟨1, 16, false, .sc, some .str, [.one (.str [])]⟩),
  (11, ⟨1, 16, false, .sc, some .str, [.one (.str [])]⟩),
  (12, ⟨1, 8, false, .sc, some (.int .u64), [.one (.int .u64 0)]⟩),
  (13, ⟨2, 24, true, .strct [(0, 1, false), (1, 1, false)], some (.pair .str (.int .u64)), [.one (.str []), .one (.int .u64 0)]⟩),
  (14, ⟨2, 24, true, .strct [(0, 1, false), (1, 1, false)], some (.pair .str (.int .u64)), [.one (.str []), .one (.int .u64 0)]⟩),
  (15, ⟨1, 8, false, .sc, none, [.one .nilp]⟩),
  (16, ⟨1, 8, false, .sc, none, [.one .nilp]⟩),
  (17, ⟨1, 8, false, .sc, none, [.one .nilp]⟩),
  (18, ⟨1, 8, true, .strct [(0, 1, false)], none, [.one .nilp]⟩),
  (19, ⟨1, 8, true, .strct [(0, 1, false)], none, [.one .nilp]⟩),
  (21, ⟨1, 4, false, .sc, some (.int .i32), [.one (.int .i32 0)]⟩),
  (22, ⟨2, 16, true, .strct [(0, 1, false), (1, 1, false)], some (.pair (.int .i64) .bool), [.one (.int .i64 0), .one (.bool false)]⟩),
  (23, ⟨2, 16, true, .strct [(0, 1, false), (1, 1, false)], some (.pair (.int .i64) .bool), [.one (.int .i64 0), .one (.bool false)]⟩),
  (24, ⟨4, 32, true, .strct [(0, 1, false), (1, 1, false), (2, 1, false), (3, 1, false)], some (.pair (.int .i64) (.pair (.int .i64) (.pair (.int .i64) (.int .i64)))), [.one (.int .i64 0), .one (.int .i64 0), .one (.int .i64 0), .one (.int .i64 0)]⟩),
  (25, ⟨4, 32, true, .strct [(0, 1, false), (1, 1, false), (2, 1, false), (3, 1, false)], some (.pair (.int .i64) (.pair (.int .i64) (.pair (.int .i64) (.int .i64)))), [.one (.int .i64 0), .one (.int .i64 0), .one (.int .i64 0), .one (.int .i64 0)]⟩),
  (26, ⟨7, 56, true, .strct [(0, 2, true), (2, 4, true), (6, 1, false)], some (.pair (.pair (.int .i64) .bool) (.pair (.pair (.int .i64) (.pair (.int .i64) (.pair (.int .i64) (.int .i64)))) (.int .i64))), [.one (.int .i64 0), .one (.bool false), .one (.int .i64 0), .one (.int .i64 0), .one (.int .i64 0), .one (.int .i64 0), .one (.int .i64 0)]⟩),
  (27, ⟨7, 56, true, .strct [(0, 2, true), (2, 4, true), (6, 1, false)], some (.pair (.pair (.int .i64) .bool) (.pair (.pair (.int .i64) (.pair (.int .i64) (.pair (.int .i64) (.int .i64)))) (.int .i64))), [.one (.int .i64 0), .one (.bool false), .one (.int .i64 0), .one (.int .i64 0), .one (.int .i64 0), .one (.int .i64 0), .one (.int .i64 0)]⟩),
  (28, ⟨2, 2, true, .arr 2 5, some (.arr 2 (.int .u8)), [.arr 2 (.int .u8) (List.replicate 2 (Ty.d (.int .u8)))]⟩),
  (29, ⟨3, 3, true, .arr 3 5, some (.arr 3 (.int .u8)), [.arr 3 (.int .u8) (List.replicate 3 (Ty.d (.int .u8)))]⟩),
  (30, ⟨1, 8, false, .sc, none, [.one .nilf]⟩),
  (31, ⟨1, 8, false, .sc, none, [.one .nilf]⟩),
  (32, ⟨1, 8, false, .sc, some (.int .i64), [.one (.int .i64 0)]⟩),
  (34, ⟨1, 8, false, .sc, none, [.one .nilf]⟩),
  (35, ⟨2, 16, true, .strct [(0, 1, false), (1, 1, false)], some (.pair (.int .i64) .bool), [.one (.int .i64 0), .one (.bool false)]⟩),
  (36, ⟨1, 8, false, .sc, none, [.one .nilf]⟩),
  (37, ⟨4, 32, true, .strct [(0, 1, false), (1, 1, false), (2, 1, false), (3, 1, false)], some (.pair (.int .i64) (.pair (.int .i64) (.pair (.int .i64) (.int .i64)))), [.one (.int .i64 0), .one (.int .i64 0), .one (.int .i64 0), .one (.int .i64 0)]⟩),
  (38, ⟨1, 24, false, .slc 5, some (.sl (.int .u8)), [.one .nils]⟩),
  (40, ⟨1, 8, false, .sc, none, [.one .nilf]⟩),
  (41, ⟨10, 10, true, .arr 10 5, some (.arr 10 (.int .u8)), [.arr 10 (.int .u8) (List.replicate 10 (Ty.d (.int .u8)))]⟩),
  (43, ⟨1, 8, false, .sc, none, [.one .nilf]⟩),
  (44, ⟨7, 56, true, .strct [(0, 2, true), (2, 4, true), (6, 1, false)], some (.pair (.pair (.int .i64) .bool) (.pair (.pair (.int .i64) (.pair (.int .i64) (.pair (.int .i64) (.int .i64)))) (.int .i64))), [.one (.int .i64 0), .one (.bool false), .one (.int .i64 0), .one (.int .i64 0), .one (.int .i64 0), .one (.int .i64 0), .one (.int .i64 0)]⟩),
  (45, ⟨7, 56, true, .strct [(0, 2, true), (2, 4, true), (6, 1, false)], some (.pair (.pair (.int .i64) .bool) (.pair (.pair (.int .i64) (.pair (.int .i64) (.pair (.int .i64) (.int .i64)))) (.int .i64))), [.one (.int .i64 0), .one (.bool false), .one (.int .i64 0), .one (.int .i64 0), .one (.int .i64 0), .one (.int .i64 0), .one (.int .i64 0)]⟩),
  (46, ⟨16, 16, true, .arr 16 5, some (.arr 16 (.int .u8)), [.arr 16 (.int .u8) (List.replicate 16 (Ty.d (.int .u8)))]⟩),
  (48, ⟨1, 8, false, .sc, none, [.one .nilf]⟩),
  (49, ⟨12, 32, true, .strct [(0, 1, false), (1, 1, false), (2, 10, true)], some (.pair (.int .i64) (.pair (.int .i64) (.arr 10 (.int .u8)))), [.one (.int .i64 0), .one (.int .i64 0), .arr 10 (.int .u8) (List.replicate 10 (Ty.d (.int .u8)))]⟩),
  (50, ⟨12, 32, true, .strct [(0, 1, false), (1, 1, false), (2, 10, true)], some (.pair (.int .i64) (.pair (.int .i64) (.arr 10 (.int .u8)))), [.one (.int .i64 0), .one (.int .i64 0), .arr 10 (.int .u8) (List.replicate 10 (Ty.d (.int .u8)))]⟩),
  (51, ⟨1, 24, false, .slc 50, some (.sl (.pair (.int .i64) (.pair (.int .i64) (.arr 10 (.int .u8))))), [.one .nils]⟩),
  (52, ⟨1, 24, false, .slc 76, some (.sl (.pair (.int .i64) (.int .i64))), [.one .nils]⟩),
  (54, ⟨1, 8, false, .sc, none, [.one .nilf]⟩),
  (55, ⟨1, 24, false, .slc 3, some (.sl (.int .i64)), [.one .nils]⟩),
  (57, ⟨1, 8, false, .sc, none, [.one .nilf]⟩),
  (58, ⟨1, 8, false, .sc, none, [.one .nilf]⟩),
  (59, ⟨1, 24, false, .slc 45, some (.sl (.pair (.pair (.int .i64) .bool) (.pair (.pair (.int .i64) (.pair (.int .i64) (.pair (.int .i64) (.int .i64)))) (.int .i64)))), [.one .nils]⟩),
  (61, ⟨1, 8, false, .sc, none, [.one .nilf]⟩),
  (62, ⟨1, 8, false, .sc, none, [.one .nilf]⟩),
  (63, ⟨1, 8, false, .sc, none, [.one .nilf]⟩),
  (64, ⟨1, 24, false, .slc 29, some (.sl (.arr 3 (.int .u8))), [.one .nils]⟩),
  (65, ⟨1, 2, false, .sc, some (.int .u16), [.one (.int .u16 0)]⟩),
  (66, ⟨3, 48, true, .strct [(0, 1, false), (1, 1, false), (2, 1, false)], some (.pair .str (.pair (.int .i64) (.sl (.int .i64)))), [.one (.str []), .one (.int .i64 0), .one .nils]⟩),
  (67, ⟨3, 48, true, .strct [(0, 1, false), (1, 1, false), (2, 1, false)], some (.pair .str (.pair (.int .i64) (.sl (.int .i64)))), [.one (.str []), .one (.int .i64 0), .one .nils]⟩),
  (68, ⟨1, 8, false, .sc, some (.int .u64), [.one (.int .u64 0)]⟩),
  (70, ⟨1, 8, false, .sc, none, [.one .nilf]⟩),
  (72, ⟨1, 8, false, .sc, none, [.one .nilf]⟩),
  (74, ⟨1, 8, false, .sc, none, [.one .nilf]⟩),
  (75, ⟨2, 16, true, .strct [(0, 1, false), (1, 1, false)], some (.pair (.int .i64) (.int .i64)), [.one (.int .i64 0), .one (.int .i64 0)]⟩),
  (76, ⟨2, 16, true, .strct [(0, 1, false), (1, 1, false)], some (.pair (.int .i64) (.int .i64)), [.one (.int .i64 0), .one (.int .i64 0)]⟩),
  (77, ⟨1, 8, false, .sc, none, [.one .nilf]⟩),
  (78, ⟨1, 24, false, .slc 99, some (.sl (.pair .str (.pair (.int .i64) (.sl (.int .i64))))), [.one .nils]⟩),
  (79, ⟨1, 24, false, .slc 97, some (.sl (.pair .str (.pair (.int .i64) (.pair (.int .i64) (.pair (.int .i64) (.int .i64)))))), [.one .nils]⟩),
  (80, ⟨8, 80, true, .strct [(0, 1, false), (1, 7, true)], some (.pair (.sl (.int .i64)) (.pair (.pair (.int .i64) .bool) (.pair (.pair (.int .i64) (.pair (.int .i64) (.pair (.int .i64) (.int .i64)))) (.int .i64)))), [.one .nils, .one (.int .i64 0), .one (.bool false), .one (.int .i64 0), .one (.int .i64 0), .one (.int .i64 0), .one (.int .i64 0), .one (.int .i64 0)]⟩),
  (81, ⟨8, 80, true, .strct [(0, 1, false), (1, 7, true)], some (.pair (.sl (.int .i64)) (.pair (.pair (.int .i64) .bool) (.pair (.pair (.int .i64) (.pair (.int .i64) (.pair (.int .i64) (.int .i64)))) (.int .i64)))), [.one .nils, .one (.int .i64 0), .one (.bool false), .one (.int .i64 0), .one (.int .i64 0), .one (.int .i64 0), .one (.int .i64 0), .one (.int .i64 0)]⟩),
  (82, ⟨1, 8, false, .sc, none, [.one .nilf]⟩),
  (83, ⟨1, 8, false, .sc, none, [.one .nilf]⟩),
  (84, ⟨1, 8, false, .sc, none, [.one .nilf]⟩),
  (86, ⟨1, 8, false, .sc, none, [.one .nilf]⟩),
  (87, ⟨1, 24, false, .slc 67, some (.sl (.pair .str (.pair (.int .i64) (.sl (.int .i64))))), [.one .nils]⟩),
  (88, ⟨1, 8, false, .sc, none, [.one .nilf]⟩),
  (89, ⟨1, 24, false, .slc 119, some (.sl (.pair .str (.pair (.int .i64) (.pair (.int .i64) (.pair (.int .i64) (.int .i64)))))), [.one .nils]⟩),
  (90, ⟨1, 8, false, .sc, none, [.one .nilf]⟩),
  (91, ⟨1, 24, false, .slc 95, some (.sl (.arr 2 (.int .i64))), [.one .nils]⟩),
  (93, ⟨1, 8, false, .sc, none, [.one .nilf]⟩),
  (94, ⟨1, 8, false, .sc, none, [.one .nilf]⟩),
  (95, ⟨2, 16, true, .arr 2 3, some (.arr 2 (.int .i64)), [.arr 2 (.int .i64) (List.replicate 2 (Ty.d (.int .i64)))]⟩),
  (96, ⟨5, 48, true, .strct [(0, 1, false), (1, 1, false), (2, 1, false), (3, 1, false), (4, 1, false)], some (.pair .str (.pair (.int .i64) (.pair (.int .i64) (.pair (.int .i64) (.int .i64))))), [.one (.str []), .one (.int .i64 0), .one (.int .i64 0), .one (.int .i64 0), .one (.int .i64 0)]⟩),
  (97, ⟨5, 48, true, .strct [(0, 1, false), (1, 1, false), (2, 1, false), (3, 1, false), (4, 1, false)], some (.pair .str (.pair (.int .i64) (.pair (.int .i64) (.pair (.int .i64) (.int .i64))))), [.one (.str []), .one (.int .i64 0), .one (.int .i64 0), .one (.int .i64 0), .one (.int .i64 0)]⟩),
  (98, ⟨1, 8, false, .sc, none, [.one .nilf]⟩),
  (99, ⟨3, 48, true, .strct [(0, 1, false), (1, 1, false), (2, 1, false)], some (.pair .str (.pair (.int .i64) (.sl (.int .i64)))), [.one (.str []), .one (.int .i64 0), .one .nils]⟩),
  (100, ⟨1, 24, false, .slc 37, some (.sl (.pair (.int .i64) (.pair (.int .i64) (.pair (.int .i64) (.int .i64))))), [.one .nils]⟩),
  (102, ⟨1, 8, false, .sc, none, [.one .nilf]⟩),
  (103, ⟨1, 8, false, .sc, none, [.one .nilf]⟩),
  (104, ⟨1, 8, false, .sc, none, [.one .nilf]⟩),
  (105, ⟨1, 1, false, .sc, some (.int .i8), [.one (.int .i8 0)]⟩),
  (106, ⟨1, 8, false, .sc, none, [.one .nilf]⟩),
  (107, ⟨1, 24, false, .slc 110, some (.sl (.sl (.pair .str (.pair (.int .i64) (.pair (.int .i64) (.int .i64)))))), [.one .nils]⟩),
  (109, ⟨1, 8, false, .sc, none, [.one .nilf]⟩),
  (110, ⟨1, 24, false, .slc 116, some (.sl (.pair .str (.pair (.int .i64) (.pair (.int .i64) (.int .i64))))), [.one .nils]⟩),
  (112, ⟨1, 8, false, .sc, none, [.one .nilf]⟩),
  (113, ⟨2, 16, true, .strct [(0, 1, false), (1, 1, false)], some (.pair (.int .i64) (.int .i64)), [.one (.int .i64 0), .one (.int .i64 0)]⟩),
  (114, ⟨2, 16, true, .strct [(0, 1, false), (1, 1, false)], some (.pair (.int .i64) (.int .i64)), [.one (.int .i64 0), .one (.int .i64 0)]⟩),
  (115, ⟨4, 40, true, .strct [(0, 1, false), (1, 1, false), (2, 2, true)], some (.pair .str (.pair (.int .i64) (.pair (.int .i64) (.int .i64)))), [.one (.str []), .one (.int .i64 0), .one (.int .i64 0), .one (.int .i64 0)]⟩),
  (116, ⟨4, 40, true, .strct [(0, 1, false), (1, 1, false), (2, 2, true)], some (.pair .str (.pair (.int .i64) (.pair (.int .i64) (.int .i64)))), [.one (.str []), .one (.int .i64 0), .one (.int .i64 0), .one (.int .i64 0)]⟩),
  (118, ⟨1, 8, false, .sc, none, [.one .nilf]⟩),
  (119, ⟨5, 48, true, .strct [(0, 1, false), (1, 1, false), (2, 1, false), (3, 1, false), (4, 1, false)], some (.pair .str (.pair (.int .i64) (.pair (.int .i64) (.pair (.int .i64) (.int .i64))))), [.one (.str []), .one (.int .i64 0), .one (.int .i64 0), .one (.int .i64 0), .one (.int .i64 0)]⟩),
  (120, ⟨1, 8, false, .sc, none, [.one .nilf]⟩),
  (121, ⟨1, 24, false, .slc 125, some (.sl (.pair .str (.pair (.int .i64) (.int .i64)))), [.one .nils]⟩),
  (123, ⟨1, 8, false, .sc, none, [.one .nilf]⟩),
  (124, ⟨3, 32, true, .strct [(0, 1, false), (1, 2, true)], some (.pair .str (.pair (.int .i64) (.int .i64))), [.one (.str []), .one (.int .i64 0), .one (.int .i64 0)]⟩),
  (125, ⟨3, 32, true, .strct [(0, 1, false), (1, 2, true)], some (.pair .str (.pair (.int .i64) (.int .i64))), [.one (.str []), .one (.int .i64 0), .one (.int .i64 0)]⟩),
  (126, ⟨1, 8, false, .sc, none, [.one .nilf]⟩),
  (127, ⟨1, 8, false, .sc, none, [.one .nilf]⟩),
  (128, ⟨1, 8, false, .sc, none, [.one .nilf]⟩),
  (129, ⟨1, 8, false, .sc, none, [.one .nilf]⟩),
  (131, ⟨1, 8, false, .sc, none, [.one .nilf]⟩),
  (132, ⟨1, 8, false, .sc, none, [.one .nilf]⟩),
  (133, ⟨1, 8, false, .sc, none, [.one .nilf]⟩),
  (134, ⟨1, 8, false, .sc, none, [.one .nilf]⟩),
  (135, ⟨1, 8, false, .sc, none, [.one .nilf]⟩),
  (136, ⟨1, 8, false, .sc, none, [.one .nilf]⟩),
  (137, ⟨1, 8, false, .sc, none, [.one .nilf]⟩),
  (138, ⟨1, 8, false, .sc, none, [.one .nilf]⟩),
  (139, ⟨1, 8, false, .sc, none, [.one .nilf]⟩),
  (140, ⟨1, 8, false, .sc, none, [.one .nilf]⟩),
  (141, ⟨1, 8, false, .sc, none, [.one .nilf]⟩),
  (142, ⟨1, 8, false, .sc, none, [.one .nilf]⟩),
  (143, ⟨1, 8, false, .sc, none, [.one .nilf]⟩),
  (144, ⟨1, 8, false, .sc, none, [.one .nilf]⟩),
  (145, ⟨1, 8, false, .sc, none, [.one .nilf]⟩),
  (146, ⟨1, 24, false, .slc 32, some (.sl (.int .i64)), [.one .nils]⟩),
  (147, ⟨1, 8, false, .sc, none, [.one .nilf]⟩),
  (148, ⟨1, 8, false, .sc, none, [.one .nilf]⟩),
  (149, ⟨1, 8, false, .sc, none, [.one .nilf]⟩),
  (150, ⟨1, 8, false, .sc, none, [.one .nilf]⟩),
  (151, ⟨1, 8, false, .sc, none, [.one .nilf]⟩),
  (152, ⟨1, 8, false, .sc, none, [.one .nilf]⟩),
  (153, ⟨1, 8, false, .sc, none, [.one .nilf]⟩),
  (154, ⟨1, 8, true, .strct [(0, 1, false)], none, [.one .nilf]⟩),
  (155, ⟨1, 8, true, .strct [(0, 1, false)], none, [.one .nilf]⟩),
  (156, ⟨4, 32, true, .arr 4 155, none, [.one .nilf, .one .nilf, .one .nilf, .one .nilf]⟩),
  (157, ⟨1, 8, false, .sc, none, [.one .nilf]⟩),
  (158, ⟨1, 8, false, .sc, none, [.one .nilp]⟩),
  (159, ⟨1, 8, false, .sc, none, [.one .nilp]⟩),
  (160, ⟨1, 8, false, .sc, none, [.one .nilf]⟩),
  (161, ⟨1, 8, false, .sc, none, [.one .nilf]⟩),
  (162, ⟨8, 64, true, .strct [(0, 7, true), (7, 1, false)], some (.pair (.pair (.pair (.int .i64) .bool) (.pair (.pair (.int .i64) (.pair (.int .i64) (.pair (.int .i64) (.int .i64)))) (.int .i64))) (.int .i64)), [.one (.int .i64 0), .one (.bool false), .one (.int .i64 0), .one (.int .i64 0), .one (.int .i64 0), .one (.int .i64 0), .one (.int .i64 0), .one (.int .i64 0)]⟩),
  (163, ⟨8, 64, true, .strct [(0, 7, true), (7, 1, false)], some (.pair (.pair (.pair (.int .i64) .bool) (.pair (.pair (.int .i64) (.pair (.int .i64) (.pair (.int .i64) (.int .i64)))) (.int .i64))) (.int .i64)), [.one (.int .i64 0), .one (.bool false), .one (.int .i64 0), .one (.int .i64 0), .one (.int .i64 0), .one (.int .i64 0), .one (.int .i64 0), .one (.int .i64 0)]⟩),
  (164, ⟨1, 8, false, .sc, none, [.one .nilf]⟩),
  (165, ⟨1, 8, false, .sc, none, [.one .nilf]⟩),
  (166, ⟨1, 8, false, .sc, none, [.one .nilf]⟩),
  (167, ⟨4, 4, true, .arr 4 5, some (.arr 4 (.int .u8)), [.arr 4 (.int .u8) (List.replicate 4 (Ty.d (.int .u8)))]⟩),
  (168, ⟨5, 5, true, .arr 5 5, some (.arr 5 (.int .u8)), [.arr 5 (.int .u8) (List.replicate 5 (Ty.d (.int .u8)))]⟩),
  (169, ⟨1, 8, false, .sc, none, [.one .nilf]⟩),
  (170, ⟨1, 8, false, .sc, none, [.one .nilf]⟩),
  (171, ⟨1, 8, false, .sc, none, [.one .nilp]⟩),
  (172, ⟨1, 24, true, .strct [(0, 1, false)], some (.sl (.int .u8)), [.one .nils]⟩),
  (173, ⟨1, 24, true, .strct [(0, 1, false)], some (.sl (.int .u8)), [.one .nils]⟩),
  (174, ⟨1, 8, false, .sc, none, [.one .nilf]⟩),
  (176, ⟨1, 8, false, .sc, none, [.one .nilf]⟩),
  (177, ⟨1, 8, false, .sc, none, [.one .nilf]⟩),
  (178, ⟨1, 8, false, .sc, none, [.one .nilf]⟩),
  (179, ⟨1, 8, false, .sc, none, [.one .nilf]⟩),
  (180, ⟨1, 8, false, .sc, none, [.one .nilf]⟩),
  (181, ⟨1, 8, false, .sc, none, [.one .nilf]⟩),
  (183, ⟨1, 8, false, .sc, none, [.one .nilf]⟩),
  (184, ⟨1, 8, false, .sc, none, [.one .nilf]⟩),
  (185, ⟨1, 8, false, .sc, none, [.one .nilf]⟩),
  (186, ⟨1, 24, false, .slc 193, some (.sl (.pair (.pair .str (.pair (.int .i64) (.pair (.int .i64) (.pair (.int .i64) (.int .i64))))) (.int .i64))), [.one .nils]⟩),
  (187, ⟨1, 8, false, .map 9 67, none, [.one .nilm]⟩),
  (188, ⟨3, 40, true, .strct [(0, 1, false), (1, 1, false), (2, 1, false)], none, [.one .nils, .one (.int .i64 0), .one .nilm]⟩),
  (189, ⟨3, 40, true, .strct [(0, 1, false), (1, 1, false), (2, 1, false)], none, [.one .nils, .one (.int .i64 0), .one .nilm]⟩),
  (190, ⟨1, 8, false, .sc, none, [.one .nilf]⟩),
  (191, ⟨1, 8, false, .sc, none, [.one .nilf]⟩),
  (192, ⟨6, 56, true, .strct [(0, 5, true), (5, 1, false)], some (.pair (.pair .str (.pair (.int .i64) (.pair (.int .i64) (.pair (.int .i64) (.int .i64))))) (.int .i64)), [.one (.str []), .one (.int .i64 0), .one (.int .i64 0), .one (.int .i64 0), .one (.int .i64 0), .one (.int .i64 0)]⟩),
  (193, ⟨6, 56, true, .strct [(0, 5, true), (5, 1, false)], some (.pair (.pair .str (.pair (.int .i64) (.pair (.int .i64) (.pair (.int .i64) (.int .i64))))) (.int .i64)), [.one (.str []), .one (.int .i64 0), .one (.int .i64 0), .one (.int .i64 0), .one (.int .i64 0), .one (.int .i64 0)]⟩),
  (194, ⟨1, 8, false, .sc, none, [.one .nilf]⟩),
  (195, ⟨1, 8, false, .sc, none, [.one .nilf]⟩),
  (196, ⟨1, 8, false, .sc, none, [.one .nilf]⟩),
  (197, ⟨1, 8, false, .sc, none, [.one .nilf]⟩),
  (198, ⟨1, 8, false, .sc, none, [.one .nilf]⟩),
  (199, ⟨1, 8, false, .sc, none, [.one .nilf]⟩),
  (200, ⟨1, 8, false, .sc, none, [.one .nilf]⟩),
  (201, ⟨1, 8, false, .sc, none, [.one .nilf]⟩),
  (202, ⟨1, 8, false, .sc, none, [.one .nilf]⟩),
  (203, ⟨1, 8, false, .sc, none, [.one .nilf]⟩),
  (204, ⟨1, 8, false, .sc, none, [.one .nilf]⟩),
  (205, ⟨1, 8, false, .sc, none, [.one .nilf]⟩),
  (206, ⟨1, 8, true, .strct [(0, 1, false)], none, [.one .nilf]⟩),
  (207, ⟨1, 8, true, .strct [(0, 1, false)], none, [.one .nilf]⟩),
  (208, ⟨1, 8, false, .sc, none, [.one .nilf]⟩),
  (209, ⟨1, 8, false, .map 116 4, none, [.one .nilm]⟩),
  (210, ⟨1, 8, false, .sc, none, [.one .nilf]⟩),
  (211, ⟨1, 8, false, .sc, none, [.one .nilf]⟩),
  (212, ⟨1, 8, false, .sc, none, [.one .nilf]⟩),
  (213, ⟨1, 8, false, .sc, none, [.one .nilf]⟩),
  (214, ⟨1, 8, false, .sc, none, [.one .nilf]⟩),
  (215, ⟨1, 8, false, .sc, none, [.one .nilf]⟩),
  (216, ⟨1, 8, false, .sc, none, [.one .nilf]⟩),
  (217, ⟨1, 8, false, .sc, none, [.one .nilf]⟩),
  (218, ⟨3, 24, true, .arr 3 3, some (.arr 3 (.int .i64)), [.arr 3 (.int .i64) (List.replicate 3 (Ty.d (.int .i64)))]⟩),
  (219, ⟨1, 8, false, .sc, none, [.one .nilf]⟩),
  (220, ⟨1, 8, false, .sc, none, [.one .nilf]⟩),
  (221, ⟨1, 8, false, .sc, none, [.one .nilf]⟩),
  (222, ⟨1, 8, false, .sc, none, [.one .nilf]⟩),
  (223, ⟨1, 8, false, .sc, none, [.one .nilf]⟩),
  (224, ⟨1, 8, false, .sc, none, [.one .nilf]⟩),
  (225, ⟨1, 8, false, .sc, none, [.one .nilf]⟩),
  (226, ⟨1, 8, false, .sc, none, [.one .nilf]⟩),
  (227, ⟨1, 8, false, .sc, none, [.one .nilf]⟩),
  (228, ⟨1, 8, false, .sc, none, [.one .nilf]⟩),
  (229, ⟨1, 8, false, .sc, none, [.one .nilf]⟩),
  (231, ⟨1, 8, false, .sc, none, [.one .nilf]⟩),
  (232, ⟨1, 8, false, .sc, none, [.one .nilf]⟩),
  (233, ⟨1, 8, false, .sc, none, [.one .nilf]⟩),
  (234, ⟨1, 8, false, .sc, none, [.one .nilf]⟩),
  (235, ⟨1, 8, false, .sc, none, [.one .nilf]⟩),
  (236, ⟨1, 8, false, .sc, none, [.one .nilf]⟩),
  (237, ⟨1, 8, false, .sc, none, [.one .nilf]⟩),
  (238, ⟨1, 8, false, .sc, none, [.one .nilf]⟩),
  (239, ⟨1, 8, false, .sc, none, [.one .nilf]⟩),
  (240, ⟨1, 8, false, .sc, none, [.one .nilf]⟩),
  (241, ⟨1, 8, false, .sc, none, [.one .nilf]⟩),
  (242, ⟨1, 8, false, .sc, none, [.one .nilf]⟩),
  (243, ⟨4, 40, true, .strct [(0, 1, false), (1, 1, false), (2, 1, false), (3, 1, false)], none, [.one .nilp, .one .nilp, .one .nilp, .one (.str [])]⟩),
  (244, ⟨4, 40, true, .strct [(0, 1, false), (1, 1, false), (2, 1, false), (3, 1, false)], none, [.one .nilp, .one .nilp, .one .nilp, .one (.str [])]⟩),
  (248, ⟨1, 4, false, .sc, some (.int .u32), [.one (.int .u32 0)]⟩),
  (249, ⟨1, 1, false, .sc, some (.int .u8), [.one (.int .u8 0)]⟩),
  (250, ⟨1, 1, false, .sc, some (.int .u8), [.one (.int .u8 0)]⟩),
  (251, ⟨1, 8, false, .sc, none, [.one .nilf]⟩),
  (252, ⟨1, 8, false, .sc, none, [.one .nilp]⟩),
  (253, ⟨1, 4, false, .sc, some (.int .i32), [.one (.int .i32 0)]⟩),
  (254, ⟨1, 4, false, .sc, some (.int .i32), [.one (.int .i32 0)]⟩),
  (255, ⟨11, 48, true, .strct [(0, 1, false), (1, 1, false), (2, 1, false), (3, 1, false), (4, 1, false), (5, 1, false), (6, 1, false), (7, 1, false), (8, 1, false), (9, 1, false), (10, 1, false)], none, [.one (.int .u64 0), .one (.int .u64 0), .one (.int .u32 0), .one (.int .u8 0), .one (.int .u8 0), .one (.int .u8 0), .one (.int .u8 0), .one .nilf, .one .nilp, .one (.int .i32 0), .one (.int .i32 0)]⟩),
  (256, ⟨11, 48, true, .strct [(0, 1, false), (1, 1, false), (2, 1, false), (3, 1, false), (4, 1, false), (5, 1, false), (6, 1, false), (7, 1, false), (8, 1, false), (9, 1, false), (10, 1, false)], none, [.one (.int .u64 0), .one (.int .u64 0), .one (.int .u32 0), .one (.int .u8 0), .one (.int .u8 0), .one (.int .u8 0), .one (.int .u8 0), .one .nilf, .one .nilp, .one (.int .i32 0), .one (.int .i32 0)]⟩)]
/-- Types whose values are compared whole. -/
def eqs1 : List Nat := [9, 22, 23, 24, 25, 26, 27, 28, 29, 35, 37, 41, 44, 45, 46, 49, 50, 75, 76, 95, 96, 97, 113, 114, 115, 116, 119, 124, 125, 162, 163, 167, 168, 192, 193, 218]
end Go.Sx
