/- A verified symbolic run of functions, part 2: lemmas, no claim of their own. -/
import Derived.Test.YtlgimjcnnndbhaaS1
import Derived.OrdersIn
namespace Go.Sx
def frcCs : List Ch → (List Ch → Prop) → Prop
  | [], k => k []
  | .one c :: r, k => match c with
    | .int a b => frcCs r fun r => k (.one (.int a b) :: r)
    | .bool b => frcCs r fun r => k (.one (.bool b) :: r)
    | .str l => frcCs r fun r => k (.one (.str l) :: r)
    | .flt a b => frcCs r fun r => k (.one (.flt a b) :: r)
    | .cpx a b c => frcCs r fun r => k (.one (.cpx a b c) :: r)
    | .odd a b => frcCs r fun r => k (.one (.odd a b) :: r)
    | .sl t x => frcCs r fun r => k (.one (.sl t x) :: r)
    | .ref t x => frcCs r fun r => k (.one (.ref t x) :: r)
    | .ptr a b => frcCs r fun r => k (.one (.ptr a b) :: r)
    | .el a b c d e => frcCs r fun r => k (.one (.el a b c d e) :: r)
    | .own a => frcCs r fun r => k (.one (.own a) :: r)
    | .view a b c d e => frcCs r fun r => k (.one (.view a b c d e) :: r)
    | .frs t x => frcCs r fun r => k (.one (.frs t x) :: r)
    | .nilp => frcCs r fun r => k (.one .nilp :: r)
    | .nils => frcCs r fun r => k (.one .nils :: r)
    | .nilf => frcCs r fun r => k (.one .nilf :: r)
    | .fn f a b => frcCs r fun r => k (.one (.fn f a b) :: r)
    | .yl i => frcCs r fun r => k (.one (.yl i) :: r)
    | .vp a b c d e => frcCs r fun r => k (.one (.vp a b c d e) :: r)
    | .nilm => frcCs r fun r => k (.one .nilm :: r)
    | .err b => frcCs r fun r => k (.one (.err b) :: r)
    | .fnd f b t x => frcCs r fun r => k (.one (.fnd f b t x) :: r)
    | .mp a b c d l => frcCs r fun r => k (.one (.mp a b c d l) :: r)
    | .any => frcCs r fun r => k (.one .any :: r)
  | .arr n t xs :: r, k => frcCs r fun r => k (.arr n t xs :: r)
theorem frcCs_eq : ∀ (cs : List Ch) (k : List Ch → Prop), frcCs cs k = k cs
  | [], _ => rfl
  | .one c :: r, k => by cases c <;> simp only [frcCs, frcCs_eq r]
  | .arr n t xs :: r, k => by simp only [frcCs, frcCs_eq r]
def frcV : V → (V → Prop) → Prop
  | .one c, k => frcCs [.one c] fun
    | [.one c] => k (.one c)
    | _ => False
  | .agg cs, k => frcCs cs fun cs => k (.agg cs)
theorem frcV_eq (v : V) (k : V → Prop) : frcV v k = k v := by cases v <;> simp only [frcV, frcCs_eq]
def frcVs : List V → (List V → Prop) → Prop
  | [], k => k []
  | v :: r, k => frcV v fun v => frcVs r fun r => k (v :: r)
theorem frcVs_eq : ∀ (vs : List V) (k : List V → Prop), frcVs vs k = k vs
  | [], _ => rfl
  | v :: r, k => by simp only [frcVs, frcV_eq, frcVs_eq r]
def frcSV : SV → (SV → Prop) → Prop
  | .val v, k => frcV v fun v => k (.val v)
  | .tup vs, k => frcVs vs fun vs => k (.tup vs)
theorem frcSV_eq (v : SV) (k : SV → Prop) : frcSV v k = k v := by cases v <;> simp only [frcSV, frcV_eq, frcVs_eq]
def frcUp : List (Nat × Option AObj) → (List (Nat × Option AObj) → Prop) → Prop
  | [], k => k []
  | (i, none) :: r, k => frcUp r fun r => k ((i, none) :: r)
  | (i, some (.box cs)) :: r, k => frcCs cs fun cs => frcUp r fun r => k ((i, some (.box cs)) :: r)
  | (i, some (.sbox cs)) :: r, k => frcCs cs fun cs => frcUp r fun r => k ((i, some (.sbox cs)) :: r)
  | (i, some (.row t xs)) :: r, k => frcUp r fun r => k ((i, some (.row t xs)) :: r)
  | (i, some (.sit l n)) :: r, k => frcUp r fun r => k ((i, some (.sit l n)) :: r)
  | (i, some (.map a b c d l)) :: r, k => frcUp r fun r => k ((i, some (.map a b c d l)) :: r)
theorem frcUp_eq : ∀ (u : List (Nat × Option AObj)) (k : List (Nat × Option AObj) → Prop), frcUp u k = k u
  | [], _ => rfl
  | (i, none) :: r, k => by simp only [frcUp, frcUp_eq r]
  | (i, some (.box cs)) :: r, k => by simp only [frcUp, frcCs_eq, frcUp_eq r]
  | (i, some (.sbox cs)) :: r, k => by simp only [frcUp, frcCs_eq, frcUp_eq r]
  | (i, some (.row t xs)) :: r, k => by simp only [frcUp, frcUp_eq r]
  | (i, some (.sit l n)) :: r, k => by simp only [frcUp, frcUp_eq r]
  | (i, some (.map a b c d l)) :: r, k => by simp only [frcUp, frcUp_eq r]
def conj : List Prop → Prop → Prop
  | [], q => q
  | p :: r, q => p ∧ conj r q
structure GV where
  d : Nat
  g : Nat
  w : Bool
  v : SV
def gvOf : List GV → Nat → Option GV
  | [], _ => none
  | x :: r, t => if x.d == t then some x else gvOf r t
def gsFree (gs : List GV) (d : Nat) : Bool := gs.all fun x => x.d != d && x.g != d
def brings (gs : List GV) : Nat → List (Nat × Bool) → Nat → Bool → Bool
  | 0, _, _, _ => false
  | n + 1, ctx, g, w => ctx.any fun (t, u) => (t == g && u == w) || (match gvOf gs t with
      | some x => brings gs n [(x.g, x.w)] g w
      | none => false)
def evG (E : Env) (tm : List (Nat × SV)) (gs : List GV) (ctx : List (Nat × Bool)) : Operand → Option SV
  | .tmp t => match gvOf gs t with
    | some x => bif brings gs 8 ctx x.g x.w then some x.v else none
    | none => lookT tm t
  | x => evalO E (lookT tm) x
def hyps (tm : List (Nat × SV)) (gs : List GV) : Nat → Nat → Bool → Prop → Prop
  | 0, _, _, p => p
  | n + 1, g, w, p => match gvOf gs g with
    | some ⟨_, g', w', .val (.one (.bool e))⟩ => hyps tm gs n g' w' (e = w → p)
    | some _ => p
    | none => match lookT tm g with
      | some (.val (.one (.bool e))) => e = w → p
      | _ => p
def still (nx : Nat) (r : Res) : Option Res :=
  match r.up with
  | [] => some r
  | [(i, some (.row t xs))] => match r.v with
    | some (.val (.one (.own j))) => if i = j ∧ nx ≤ i then some ⟨r.cs, some (.val (.one (.sl t xs))), []⟩ else none
    | _ => none
  | _ => none
def W : Nat := 4
def stepG (E : Env) (tm : List (Nat × SV)) (gs : List GV) (ob : List (Nat × Option AObj)) (nx : Nat) (ctx : List (Nat × Bool)) (op : Op) : Option Res :=
  match op with
  | .pick (.tmp c) a b => match (evG E tm gs ctx (.tmp c)).bind one?, (evG E tm gs ((c, true) :: ctx) a).bind one?, (evG E tm gs ((c, false) :: ctx) b).bind one? with
    | some (.bool c), some (.bool a), some (.bool b) => rc (.bool (bif c then a else b))
    | _, _, _ => none
  | op => stepOp E (evG E tm gs ctx) (lookO ob) nx op
def delT (d : Nat) (tm : List (Nat × SV)) : List (Nat × SV) := tm.filter fun x => x.1 != d
abbrev Cont := SV → List (Nat × Option AObj) → Nat → LR → Prop
abbrev YF := List V → List (Nat × Option AObj) → Nat → LR → Cont → Prop
abbrev YT := Nat → Option YF
abbrev Inl := FuncId → List V → YT → List (Nat × Option AObj) → Nat → LR → Cont → Prop
def ptrVs (ps : List (Nat × Nat)) : List V := ps.map fun p => .one (.ptr p.1 p.2)
def callOf (ev : Operand → Option SV) : Op → Option (C × List V)
  | .call ⟨.value f, args, _⟩ => match (ev f).bind one?, evs ev args.toList with
    | some c, some vs => some (c, vs)
    | _, _ => none
  | _ => none
def subOf (E : Env) (inl : Inl) (yt : YT) (ob : List (Nat × Option AObj)) (nx : Nat) (lr : LR) : C × List V → Option (Cont → Prop)
  | (.fn f a b, vs) => match E.fb f with
    | some _ => some (inl f (ptrVs a ++ vs ++ ptrVs b) yt ob nx lr)
    | none => none
  | (.yl id, vs) => match yt id with
    | some y => some (y vs ob nx lr)
    | none => none
  | _ => none
def nhyps (tm : List (Nat × SV)) (gs : List GV) (g : Nat) (w : Bool) (p : Prop) : Prop :=
  match gvOf gs g with
  | some _ => p
  | none => match lookT tm g with
    | some (.val (.one (.bool e))) => e = !w → p
    | _ => p
def nilOf (E : Env) (ob : Nat → Option AObj) (ev : Operand → Option SV) : Op → Option (Bool × Nat)
  | .binOp op T x (.const (.slice none 0 0)) _ => match E.tt T, (ev x).bind one? with
    | some ⟨_, _, _, .slc _, _, _⟩, some c => match op, c with
      | _, .nils => none
      | .eql, c => (lenOf ob c).map fun n => (false, n)
      | .neq, c => (lenOf ob c).map fun n => (true, n)
      | _, _ => none
    | _, _ => none
  | _ => none
def nextOf (ob : Nat → Option AObj) (ev : Operand → Option SV) : Op → Option (Nat × List UInt8 × Nat)
  | .next x true => match (ev x).bind one? with
    | some (.ptr id 0) => match ob id with
      | some (.sit l pos) => some (id, l, pos)
      | _ => none
    | _ => none
  | _ => none
def runeOk (l : List UInt8) (pos c w : Nat) : Prop :=
  pos < l.length ∧ ((l.getD pos 0).toNat < 128 → c = (l.getD pos 0).toNat ∧ w = 1) ∧ (128 ≤ (l.getD pos 0).toNat → 128 ≤ c ∧ 1 ≤ w)
def runSeq (E : Env) (inl : Inl) (yt : YT) (ops : Array Oper) : List Oper → St → List GV → (St → Prop) → Prop
  | [], s, _, k => k s
  | o :: r, s, gs, k =>
    match o.guard with
    | none =>
      match (callOf (evG E s.tm gs []) o.op).bind (subOf E inl yt s.ob s.nx s.lr) with
      | some q => q fun v ob nx lr => match o.dst with
        | some d => if gsFree gs d then frcSV v fun v => runSeq E inl yt ops r ⟨(d, v) :: s.tm, ob, nx, lr⟩ gs k else False
        | none => runSeq E inl yt ops r ⟨s.tm, ob, nx, lr⟩ gs k
      | none =>
      match nilOf E (lookO s.ob) (evG E s.tm gs []) o.op, o.dst with
      | some (neg, n), some d => if gsFree gs d then ∀ b : Bool, (b = true → n = 0) → runSeq E inl yt ops r ⟨(d, .val (.one (.bool (b != neg)))) :: s.tm, s.ob, s.nx, s.lr⟩ gs k else False
      | _, _ =>
      match nextOf (lookO s.ob) (evG E s.tm gs []) o.op, o.dst with
      | some (id, l, pos), some d => if gsFree gs d then
          (l.length ≤ pos → runSeq E inl yt ops r ⟨(d, .tup [.one (.bool false)]) :: s.tm, s.ob, s.nx, s.lr⟩ gs k) ∧
          ∀ c w : Nat, runeOk l pos c w → runSeq E inl yt ops r ⟨(d, .tup [.one (.bool true), .one (.int .i64 pos), .one (.int .i32 c)]) :: s.tm, (id, some (.sit l (pos + w))) :: s.ob, s.nx, s.lr⟩ gs k
        else False
      | _, _ =>
      match stepG E s.tm gs s.ob s.nx [] o.op with
      | some res => conj res.cs (match o.dst, res.v with
        | some d, some v => if gsFree gs d then frcSV v fun v => frcUp res.up fun up => runSeq E inl yt ops r ⟨(d, v) :: s.tm, up ++ s.ob, s.nx + W, s.lr⟩ gs k else False
        | none, _ => frcUp res.up fun up => runSeq E inl yt ops r ⟨s.tm, up ++ s.ob, s.nx + W, s.lr⟩ gs k
        | _, _ => False)
      | none => False
    | some (j, w) =>
      match (ops[j]?).bind (·.dst), o.dst with
      | some g, some d =>
        match (callOf (evG E s.tm gs [(g, w)]) o.op).bind (subOf E inl yt s.ob s.nx s.lr) with
        | some q => if gsFree gs d && d != g then
            hyps s.tm gs 8 g w (q fun v ob nx lr => frcSV v fun v => runSeq E inl yt ops r ⟨delT d s.tm, ob, nx, lr⟩ (⟨d, g, w, v⟩ :: gs) k) ∧
            nhyps s.tm gs g w (runSeq E inl yt ops r ⟨delT d s.tm, s.ob, s.nx, s.lr⟩ (⟨d, g, w, .val (.one (.bool false))⟩ :: gs) k) else False
        | none =>
        match (stepG E s.tm gs s.ob s.nx [(g, w)] o.op).bind (still s.nx) with
        | some res => match res.v with
          | some v => if gsFree gs d && d != g then conj (res.cs.map (hyps s.tm gs 8 g w)) (frcSV v fun v => runSeq E inl yt ops r ⟨delT d s.tm, s.ob, s.nx + W, s.lr⟩ (⟨d, g, w, v⟩ :: gs) k) else False
          | none => False
        | none => False
      | _, _ => False
structure Rec where
  i : Nat
  d : Option Nat
  g : Option (Nat × Bool)
  v : SV
  up : List (Nat × Option AObj)
def ancs : List Oper → List Nat → List Nat
  | [], acc => acc
  | o :: r, acc => ancs r (acc ++ [o.after.toList.foldl (fun m e => if Region.binds .any e then m ||| 2 ^ e.on ||| acc.getD e.on 0 else m) 0])
def recTm (a : Nat → Bool) : List Rec → List (Nat × SV) → List (Nat × SV)
  | [], tm => tm
  | ⟨i, some d, none, v, _⟩ :: r, tm => bif a i then (d, v) :: recTm a r tm else recTm a r tm
  | ⟨i, some d, some _, _, _⟩ :: r, tm => bif a i then delT d (recTm a r tm) else recTm a r tm
  | ⟨_, none, _, _, _⟩ :: r, tm => recTm a r tm
def recGs (a : Nat → Bool) : List Rec → List GV
  | [] => []
  | ⟨i, some d, some (g, w), v, _⟩ :: r => bif a i then ⟨d, g, w, v⟩ :: recGs a r else recGs a r
  | _ :: r => recGs a r
def recOb (a : Nat → Bool) : List Rec → List (Nat × Option AObj)
  | [] => []
  | x :: r => bif a x.i then x.up ++ recOb a r else recOb a r
def C.ids : C → List Nat
  | .ptr id _ => [id]
  | .el id _ _ _ _ => [id]
  | .own id => [id]
  | .view id _ _ _ _ => [id]
  | .fn _ a b => a.map (·.1) ++ b.map (·.1)
  | .yl id => [id]
  | .vp id _ _ _ _ => [id]
  | _ => []
def Ch.ids : Ch → List Nat
  | .one c => c.ids
  | .arr .. => []
def V.ids : V → List Nat
  | .one c => c.ids
  | .agg cs => cs.flatMap Ch.ids
def SV.ids : SV → List Nat
  | .val v => v.ids
  | .tup vs => vs.flatMap V.ids
def tmpsOf (xs : List Operand) : List Nat := xs.filterMap fun | .tmp t => some t | _ => none
def looks (ops : Array Oper) (o : Oper) : List Nat :=
  tmpsOf o.op.operands.toList ++ (match o.guard with
    | some (g, _) => ((ops[g]?).bind (·.dst)).toList
    | none => [])
def keepT (l : List Nat) (tm : List (Nat × SV)) : List (Nat × SV) := tm.filter fun x => l.contains x.1
def objIds : Option AObj → List Nat
  | some (.box cs) => cs.flatMap Ch.ids
  | some (.sbox cs) => cs.flatMap Ch.ids
  | _ => []
def recOk (hd : List (Nat × Nat)) (nx0 i sl : Nat) (keys : List Nat) (v : SV) (up : List (Nat × Option AObj)) : Bool :=
  ((v.ids ++ up.flatMap fun x => objIds x.2).all fun id => (decide (id < nx0) || keys.contains id) && decide (id < nx0 + W * i + W)) &&
  up.all fun x => ((decide (nx0 + W * sl ≤ x.1) && decide (x.1 < nx0 + W * sl + W)) || (decide (x.1 < nx0) && hd.any fun y => y.1 == i && y.2 == x.1)) && x.2.isSome
def slotOf (nx0 i : Nat) : List (Nat × Option AObj) → Nat
  | [] => i
  | y :: _ => bif Nat.blt y.1 nx0 then i else (y.1 - nx0) / W
def Rec.sl (nx0 : Nat) (x : Rec) : Nat := slotOf nx0 x.i x.up
def stoAll (nx0 : Nat) (l : List (Oper × Nat × Nat)) (rs : List Rec) : Bool :=
  rs.all fun x => x.sl nx0 == x.i || ((rs.all fun y => y.sl nx0 != x.sl nx0 || y.i == y.sl nx0 || y.i == x.i) &&
    l.all fun q => q.2.1 != x.i || l.all fun y => !(Nat.testBit y.2.2 (x.sl nx0)) || Nat.testBit y.2.2 x.i || y.2.1 == x.i || Nat.testBit q.2.2 y.2.1)
def stepH (fl : Bool) (E : Env) (tm : List (Nat × SV)) (gs : List GV) (ob : List (Nat × Option AObj)) (nx : Nat) (op : Op) : Option Res :=
  match fl, op with
  | true, .buildSlice T 0 ⟨[]⟩ => match E.tt T with
    | some ⟨_, _, _, .slc e, _, _⟩ => match E.tt e with
      | some ⟨_, _, _, _, some t, _⟩ => some ⟨[], some (.val (.one (.frs t []))), []⟩
      | _ => none
    | _ => none
  | _, op => stepG E tm gs ob nx [] op
def appTo (d : Option Nat) (l : List (Oper × Nat)) : Bool := l.any fun x => match x.1.op with
  | .call ⟨.builtin .append, ⟨.tmp t :: _⟩, _⟩ => match d with
    | some d => t == d
    | none => false
  | _ => false
def valOr : Option Nat → Option SV → Option SV
  | _, some v => some v
  | none, none => some (.val (.one (.bool false)))
  | some _, none => none
def eatOb (a : Nat → Bool) : List (Nat × Nat) → List (Nat × Option AObj) → List (Nat × Option AObj)
  | [], ob => ob
  | (i, id) :: r, ob => bif a i then (id, none) :: eatOb a r ob else eatOb a r ob
def newHd (nx0 : Nat) (hd : List (Nat × Nat)) : List (Nat × Nat) := hd.filter fun y => Nat.ble nx0 y.2
def obAt (a : Nat → Bool) (nx0 : Nat) (hd : List (Nat × Nat)) (new old : List (Nat × Option AObj)) : List (Nat × Option AObj) :=
  eatOb a (newHd nx0 hd) (new ++ eatOb a hd old)
def keepU (up : List (Nat × Option AObj)) : List (Nat × Option AObj) := up.filter (·.2.isSome)
def eatOk (nx0 i : Nat) (hd : List (Nat × Nat)) (up : List (Nat × Option AObj)) : Bool :=
  up.all fun x => x.2.isSome || ((hd.any fun y => y.1 == i && y.2 == x.1) && up.all fun y => !y.2.isSome || y.1 != x.1)
def oldT (ops : Array Oper) (s : St) (t : Nat) : Option SV :=
  match ops.toList.find? fun o => o.dst == some t with
  | none => lookT s.tm t
  | some o => match o.op with
    | .move (.tmp u) => lookT s.tm u
    | _ => none
def frcHd : List (Nat × Nat) → (List (Nat × Nat) → Prop) → Prop
  | [], k => k []
  | x :: r, k => frcHd r fun r => k (x :: r)
theorem frcHd_eq : ∀ (u : List (Nat × Nat)) (k : List (Nat × Nat) → Prop), frcHd u k = k u
  | [], _ => rfl
  | x :: r, k => by simp only [frcHd, frcHd_eq r]
def eats (ops : Array Oper) (s : St) : Nat → List Oper → List (Nat × Nat)
  | _, [] => []
  | i, o :: r => match o.guard, o.op with
    | none, .call ⟨.builtin .append, ⟨.tmp t :: _⟩, _⟩ => match oldT ops s t with
      | some (.val (.one (.own id))) => (i, id) :: eats ops s (i + 1) r
      | _ => eats ops s (i + 1) r
    | _, _ => eats ops s (i + 1) r
def stoLike : Op → Bool
  | .store .. => true
  | .call ⟨.builtin .copy, _, _⟩ => true
  | _ => false
def preEat (E : Env) (nx0 : Nat) : List Oper → Nat → List (Nat × SV) → List (Nat × Option AObj) → List (Nat × Nat)
  | [], _, _, _ => []
  | o :: r, i, tm, ob => match o.guard, stepG E tm [] ob (nx0 + W * i) [] o.op with
    | none, some res => (res.up.filterMap fun x => bif !x.2.isSome || Nat.blt x.1 nx0 then some (i, x.1) else none) ++
        preEat E nx0 r (i + 1) (match o.dst, res.v with | some d, some v => (d, v) :: tm | _, _ => tm) (res.up ++ ob)
    | _, _ => preEat E nx0 r (i + 1) tm ob
def chained (l : List Oper) : Bool := l.any fun o => match o.op with
  | .call ⟨.builtin .append, ⟨.tmp t :: _⟩, _⟩ => l.any fun q => q.dst == some t && (match q.op with
    | .call ⟨.builtin .append, _, _⟩ => true
    | _ => false)
  | .buildSlice _ n _ => Nat.blt 0 n && l.any fun q => match q.op with
    | .build _ ⟨ps⟩ => ps.any fun p => match p.2 with
      | .tmp t => l.any fun u => u.dst == some t && (match u.op with
        | .call ⟨.value _, _, _⟩ => true
        | _ => false)
      | _ => false
    | _ => false
  | _ => false
def builtOf (l : List Oper) : Bool := l.any fun o => match o.op with
  | .buildSlice _ _ ⟨ps⟩ => ps.any fun p => match p.2 with
    | .tmp t => l.any fun u => u.dst == some t && (match u.op with
      | .call ⟨.value _, _, _⟩ => true
      | _ => false)
    | _ => false
  | .call ⟨.builtin .append, ⟨.tmp t :: _⟩, _⟩ => l.any fun u => u.dst == some t && (match u.op with
    | .call ⟨.value _, _, _⟩ => true
    | _ => false)
  | _ => false
def loadedApp (l : List Oper) : Bool := l.any fun o => match o.op with
  | .call ⟨.builtin .append, ⟨.tmp t :: _⟩, _⟩ => l.any fun q => q.dst == some t && (match q.op with
    | .load .. => true
    | _ => false)
  | _ => false
def hides (E : Env) (ops : Array Oper) (s : St) (l : List Oper) : List (Nat × Nat) :=
  eats ops s 0 l ++ bif (l.any fun o => stoLike o.op) || chained l || loadedApp l || builtOf l then (preEat E s.nx l 0 s.tm s.ob).filter (fun y => !(eats ops s 0 l).any fun x => x.1 == y.1 && x.2 == y.2) else []
def seesOld (r : List (Oper × Nat)) (i j : Nat) : Bool := Nat.blt i j && (match r[j - i - 1]? with
  | some x => Nat.testBit x.2 i
  | none => false)
def hidAt (r : List (Oper × Nat)) (i j : Nat) : Bool := j != i && !seesOld r i j
def frcL : List Nat → (List Nat → Prop) → Prop
  | [], k => k []
  | x :: r, k => frcL r fun r => k (x :: r)
theorem frcL_eq : ∀ (u : List Nat) (k : List Nat → Prop), frcL u k = k u
  | [], _ => rfl
  | x :: r, k => by simp only [frcL, frcL_eq r]
def frcTm : List (Nat × SV) → (List (Nat × SV) → Prop) → Prop
  | [], k => k []
  | (t, v) :: r, k => frcTm r fun r => k ((t, v) :: r)
theorem frcTm_eq : ∀ (u : List (Nat × SV)) (k : List (Nat × SV) → Prop), frcTm u k = k u
  | [], _ => rfl
  | (t, v) :: r, k => by simp only [frcTm, frcTm_eq r]
def frcGs : List GV → (List GV → Prop) → Prop
  | [], k => k []
  | ⟨d, g, w, v⟩ :: r, k => frcGs r fun r => k (⟨d, g, w, v⟩ :: r)
theorem frcGs_eq : ∀ (u : List GV) (k : List GV → Prop), frcGs u k = k u
  | [], _ => rfl
  | ⟨d, g, w, v⟩ :: r, k => by simp only [frcGs, frcGs_eq r]
def frcTmV : List (Nat × SV) → (List (Nat × SV) → Prop) → Prop
  | [], k => k []
  | (t, v) :: r, k => frcSV v fun v => frcTmV r fun r => k ((t, v) :: r)
theorem frcTmV_eq : ∀ (u : List (Nat × SV)) (k : List (Nat × SV) → Prop), frcTmV u k = k u
  | [], _ => rfl
  | (t, v) :: r, k => by simp only [frcTmV, frcSV_eq, frcTmV_eq r]
def frcN (n : Nat) (k : Nat → Prop) : Prop := match n with
  | 0 => k 0
  | m + 1 => k (m + 1)
theorem frcN_eq (n : Nat) (k : Nat → Prop) : frcN n k = k n := by cases n <;> rfl
def frcKeys : List (Nat × Option AObj) → (List (Nat × Option AObj) → Prop) → Prop
  | [], k => k []
  | (i, o) :: r, k => frcN i fun i => frcKeys r fun r => k ((i, o) :: r)
theorem frcKeys_eq : ∀ (u : List (Nat × Option AObj)) (k : List (Nat × Option AObj) → Prop), frcKeys u k = k u
  | [], _ => rfl
  | (i, o) :: r, k => by simp only [frcKeys, frcN_eq, frcKeys_eq r]
def frcSt (s : St) (k : St → Prop) : Prop := frcTmV s.tm fun tm => frcUp s.ob fun ob => frcKeys ob fun ob => frcN s.nx fun nx => k ⟨tm, ob, nx, s.lr⟩
theorem frcSt_eq (s : St) (k : St → Prop) : frcSt s k = k s := by simp only [frcSt, frcTmV_eq, frcUp_eq, frcKeys_eq, frcN_eq]
def runDraw (E : Env) (ops : Array Oper) (s : St) (hd : List (Nat × Nat)) : List (Oper × Nat) → Nat → List Rec → (List Rec → Prop) → Prop
  | [], _, rs, k => k rs
  | (o, m) :: r, i, rs, k =>
    if m < 2 ^ i then
      frcL (looks ops o) fun lk => frcTm (keepT lk (recTm (Nat.testBit m) rs s.tm)) fun tmD => frcGs (recGs (Nat.testBit m) rs) fun gsD =>
      match o.guard with
      | none =>
        match stepH (appTo o.dst r && !(hd.any fun y => y.2 == s.nx + W * i)) E tmD gsD (obAt (hidAt r i) s.nx hd (recOb (Nat.testBit m) rs) s.ob) (s.nx + W * i) o.op with
        | some res => match valOr o.dst res.v with
          | some v => conj res.cs (frcSV v fun v => frcUp (keepU res.up) fun up => if recOk hd s.nx i (slotOf s.nx i up) ((up ++ recOb (Nat.testBit m) rs).map (·.1)) v up && (slotOf s.nx i up == i || Nat.testBit m (slotOf s.nx i up)) && eatOk s.nx i hd res.up then runDraw E ops s hd r (i + 1) (⟨i, o.dst, none, v, up⟩ :: rs) k else False)
          | none => False
        | none => False
      | some (j, w) =>
        match (ops[j]?).bind (·.dst), o.dst with
        | some g, some d =>
          match (stepG E tmD gsD (obAt (hidAt r i) s.nx hd (recOb (Nat.testBit m) rs) s.ob) (s.nx + W * i) [(g, w)] o.op).bind (still (s.nx + W * i)) with
          | some res => match res.v with
            | some v => if Nat.testBit m j then conj (res.cs.map (hyps tmD gsD 8 g w))
                (frcSV v fun v => if recOk hd s.nx i i ((recOb (Nat.testBit m) rs).map (·.1)) v [] then runDraw E ops s hd r (i + 1) (⟨i, some d, some (g, w), v, []⟩ :: rs) k else False) else False
            | none => False
          | none => False
        | _, _ => False
    else False
def apart (ops : Array Oper) (x y : Oper × Nat × Nat) : Bool :=
  Nat.testBit x.2.2 y.2.1 || Nat.testBit y.2.2 x.2.1 ||
  ((match x.1.dst with
    | some d => !(looks ops y.1).contains d
    | none => true) &&
   (match y.1.dst with
    | some d => !(looks ops x.1).contains d
    | none => true))
def apartAll (ops : Array Oper) : List (Oper × Nat × Nat) → Bool
  | [] => true
  | x :: r => r.all (fun y => apart ops x y) && apartAll ops r
structure Mt where
  ps : List Prop
  ln : List (Nat × Option Nat)
  fz : List Nat
def lnOf : List (Nat × Option Nat) → Nat → Option (Option Nat)
  | [], _ => none
  | (k, v) :: r, t => if k == t then some v else lnOf r t
def link (m : Mt) (id' : Nat) (id : Option Nat) : Option Mt :=
  match lnOf m.ln id' with
  | none => some { m with ln := (id', id) :: m.ln }
  | some x => if x = id then some m else none
def links (m : Mt) : List (Nat × Nat) → List (Nat × Nat) → Option Mt
  | [], [] => some m
  | (i, o) :: r, (i', o') :: r' => if o = o' then (link m i' (some i)).bind fun m => links m r r' else none
  | _, _ => none
def Mt.eq (m : Mt) (p : Prop) : Option Mt := some { m with ps := p :: m.ps }
def castM {k k' t t' : Ty} (h : k = k') (q : t = t') (l : List (k.T × t.T)) : List (k'.T × t'.T) := h ▸ q ▸ l
def addFz (id : Nat) (l : List Nat) : List Nat := bif l.contains id then l else id :: l
def addFzs : List Nat → List Nat → List Nat
  | [], l => l
  | j :: r, l => addFzs r (addFz j l)
def sbRows (ob : Nat → Option AObj) (t : Ty) : List Ch → Option (List (List t.T) × List Nat)
  | [] => some ([], [])
  | .one (.own j) :: r => match ob j with
    | some (.row t' xs) => if h : t' = t then (sbRows ob t r).map fun x => ((h ▸ xs) :: x.1, j :: x.2) else none
    | _ => none
  | .one (.sl t' xs) :: r => if h : t' = t then (sbRows ob t r).map fun x => ((h ▸ xs) :: x.1, x.2) else none
  | _ => none
def anyChs (l : List Ch) : Bool := l.all fun | .one .any => true | _ => false
def mC (ob : Nat → Option AObj) (m : Mt) (c c' : C) : Option Mt :=
  match c' with
  | .any => match c with
    | .frs .. => none
    | _ => some m
  | .int k' n' => match c with
    | .int k n => if k = k' then m.eq (n = n') else none
    | _ => none
  | .bool b' => match c with
    | .bool b => m.eq (b = b')
    | _ => none
  | .str l' => match c with
    | .str l => m.eq (l = l')
    | _ => none
  | .flt k' n' => match c with
    | .flt k n => if k = k' then m.eq (n = n') else none
    | _ => none
  | .odd _ _ => none
  | .cpx k' a' b' => match c with
    | .cpx k a b => if k = k' then m.eq (a = a' ∧ b = b') else none
    | _ => none
  | .sl t' ys => match c with
    | .sl t xs => if h : t = t' then m.eq ((h ▸ xs : List t'.T) = ys) else none
    | .nils => m.eq (ys = [])
    | .own id => match ob id with
      | some (.row t xs) => if h : t = t' then some ⟨((h ▸ xs : List t'.T) = ys) :: m.ps, m.ln, addFz id m.fz⟩ else none
      | some (.sbox cs) => match t', ys with
        | .sl u, ys => (sbRows ob u cs).map fun x => ⟨(x.1 = ys) :: m.ps, m.ln, addFzs x.2 (addFz id m.fz)⟩
        | _, _ => none
      | _ => none
    | .view id off sz lo n => match ob id with
      | some (.row t xs) => if h : t = t' ∧ off = 0 ∧ sz = t.sz then some ⟨((h.1 ▸ List.take n (List.drop lo xs) : List t'.T) = ys) :: (lo + n ≤ List.length xs) :: m.ps, m.ln, addFz id m.fz⟩ else none
      | _ => none
    | _ => none
  | .ref t' x' => match c with
    | .ref t x => if h : t = t' then m.eq ((h ▸ x : t'.T) = x') else none
    | _ => none
  | .ptr id' o' => match c with
    | .ptr id o => if o = o' then link m id' (some id) else none
    | _ => none
  | .el id' o' z' i' s' => match c with
    | .el id o z i s => if o = o' ∧ z = z' ∧ s = s' then (link m id' (some id)).bind fun m => m.eq (i = i') else none
    | _ => none
  | .own id' => match c with
    | .own id => link m id' (some id)
    | .nils => link m id' none
    | _ => none
  | .view id' o' z' l' n' => match c with
    | .view id o z l n => if o = o' ∧ z = z' then (link m id' (some id)).bind fun m => m.eq (l = l' ∧ n = n') else none
    | _ => none
  | .yl id' => match c with
    | .yl id => link m id' (some id)
    | _ => none
  | .vp id' o' z' l' n' => match c with
    | .vp id o z l n => if o = o' ∧ z = z' ∧ n = n' then (link m id' (some id)).bind fun m => m.eq (l = l') else none
    | _ => none
  | .frs .. => none
  | .nilm => match c with
    | .nilm => some m
    | _ => none
  | .err b' => match c with
    | .err b => m.eq (b = b')
    | _ => none
  | .fnd f' b' t' x' => match c with
    | .fnd f b t x => if h : f = f' ∧ b = b' ∧ t = t' then m.eq ((h.2.2 ▸ x : t'.T) = x') else none
    | .fn f [] [(id, 0)] => if f = f' ∧ b' = true then match boxOfC ob (.ptr id 0) with
        | some ⟨t, x⟩ => if h : t = t' then some ⟨((h ▸ x : t'.T) = x') :: m.ps, m.ln, addFz id m.fz⟩ else none
        | none => none
      else none
    | _ => none
  | .mp gk' gt' k' t' l' => match c with
    | .mp gk gt k t l => if h : gk = gk' ∧ gt = gt' ∧ k = k' ∧ t = t' then m.eq (castM h.2.2.1 h.2.2.2 l = l') else none
    | .own id => match ob id with
      | some (.map gk gt k t l) => if h : gk = gk' ∧ gt = gt' ∧ k = k' ∧ t = t' then some ⟨(castM h.2.2.1 h.2.2.2 l = l') :: m.ps, m.ln, addFz id m.fz⟩ else none
      | _ => none
    | _ => none
  | .nilp => match c with
    | .nilp => some m
    | _ => none
  | .nils => match c with
    | .nils => some m
    | _ => none
  | .nilf => match c with
    | .nilf => some m
    | _ => none
  | .fn f' a' b' => match c with
    | .fn f a b => if f = f' then (links m a a').bind fun m => links m b b' else none
    | _ => none
def mChs (ob : Nat → Option AObj) (m : Mt) : List Ch → List Ch → Option Mt
  | [], [] => some m
  | .one c :: r, .one c' :: r' => (mC ob m c c').bind fun m => mChs ob m r r'
  | .arr n t xs :: r, .arr n' t' ys :: r' => if h : n = n' ∧ t = t' then (m.eq ((h.2 ▸ xs : List t'.T) = ys)).bind fun m => mChs ob m r r' else none
  | _, _ => none
def mV (ob : Nat → Option AObj) (m : Mt) : V → V → Option Mt
  | .one c, .one c' => mC ob m c c'
  | .agg a, .agg b => mChs ob m a b
  | _, _ => none
def mVs (ob : Nat → Option AObj) (m : Mt) : List V → List V → Option Mt
  | [], [] => some m
  | a :: r, b :: r' => (mV ob m a b).bind fun m => mVs ob m r r'
  | _, _ => none
def mSV (ob : Nat → Option AObj) (m : Mt) : SV → SV → Option Mt
  | .val a, .val b => mV ob m a b
  | .tup a, .tup b => mVs ob m a b
  | _, _ => none
def mTm (s : St) (m : Mt) : List (Nat × SV) → Option Mt
  | [] => some m
  | (t, v') :: r => match lookT s.tm t with
    | some v => (mSV (lookO s.ob) m v v').bind fun m => mTm s m r
    | none => none
def preLink (m : Mt) (id' : Nat) : Mt :=
  match lnOf m.ln id' with
  | some _ => m
  | none => { m with ln := (id', some id') :: m.ln }
def mOb (s : St) (m0 : Mt) : List (Nat × Option AObj) → Option Mt
  | [] => some m0
  | (_, none) :: _ => none
  | (id', some o') :: r => let m := preLink m0 id'
    match lnOf m.ln id', o' with
    | some none, .row _ ys => (m.eq (ys = [])).bind fun m => mOb s m r
    | some (some id), o' => match lookO s.ob id, o' with
      | some (.box a), .box b => (mChs (lookO s.ob) m a b).bind fun m => mOb s m r
      | some (.sbox a), .sbox b => (mChs (lookO s.ob) m a b).bind fun m => mOb s m r
      | some (.row t xs), .sbox b => if t.sz = 1 ∧ anyChs b = true then (m.eq (0 < xs.length ∧ xs.length = b.length)).bind fun m => mOb s m r else none
      | some (.row t xs), .row t' ys => if h : t = t' then (m.eq ((h ▸ xs : List t'.T) = ys)).bind fun m => mOb s m r else none
      | some (.sit l n), .sit l' n' => (m.eq (l = l' ∧ n = n')).bind fun m => mOb s m r
      | some (.map gk gt k t l), .map gk' gt' k' t' l' => if h : gk = gk' ∧ gt = gt' ∧ k = k' ∧ t = t' then (m.eq (castM h.2.2.1 h.2.2.2 l = l')).bind fun m => mOb s m r else none
      | _, _ => none
    | _, _ => none
def mOk (m : Mt) : Bool :=
  let l := m.ln.filterMap (·.2)
  (l.all fun x => !m.fz.contains x) && decide (m.fz.Nodup) && decide l.Nodup
def idsOk (s : St) : Bool :=
  (s.tm.all fun x => x.2.ids.all (· < s.nx)) && (s.ob.all fun x => x.1 < s.nx && (match x.2 with
    | some (.box cs) => cs.all (fun c => c.ids.all (· < s.nx))
    | some (.sbox cs) => cs.all (fun c => c.ids.all (· < s.nx))
    | _ => true)) && decide ((s.ob.map (·.1)).Nodup)
def lnFl (fl : Nat) (l : List (Nat × Option Nat)) : Bool := l.all fun x => decide (fl ≤ x.1) || decide (x.2 = some x.1)
def mtch (fl : Nat) (s s' : St) : Prop :=
  match (mTm s ⟨[], [], []⟩ s'.tm).bind fun m => mOb s m s'.ob with
  | some m => if mOk m && idsOk s' && lnFl fl m.ln && decide (fl ≤ s'.nx) && decide (s.lr = s'.lr) then conj m.ps.reverse True else False
  | none => False
def splitB (b : Bool) (A B : Prop) : Prop := match b with
  | true => A
  | false => B
theorem splitB_iff (b : Bool) (A B : Prop) : splitB b A B ↔ ((b = true → A) ∧ (b = false → B)) := by
  cases b <;> simp [splitB]
structure LInv where
  α : Type
  S : α → St
  J : α → Prop
  μ : α → Nat
def keyOf : Code → Nat
  | .region id _ _ => id
  | .seq a _ => keyOf a
  | .block _ c => keyOf c
  | .loop c => keyOf c
  | .scope c => keyOf c
  | .cond _ a _ => keyOf a
  | .rangeFunc _ _ _ b => keyOf b
  | _ => 0
structure Hints where
  inv : FuncId → Nat → St → Option LInv
  un : Nat
def zipAnc : Nat → List Oper → List Nat → List (Oper × Nat × Nat)
  | i, o :: r, m :: q => (o, i, m) :: zipAnc (i + 1) r q
  | _, _, _ => []
def headLen (fm : Nat) : List (Oper × Nat × Nat) → Nat
  | [] => 0
  | x :: r => match headLen fm r with
    | 0 => if Nat.lor x.2.2 (fm % 2 ^ x.2.1) + 1 = 2 ^ x.2.1 then 0 else x.2.1 + 1
    | n + 1 => n + 1
def isFloat (ops : Array Oper) (l : List (Oper × Nat × Nat)) (x : Oper × Nat × Nat) : Bool :=
  match x.1.op, x.1.guard, x.1.dst with
  | .extract _ _, none, some _ => l.all fun y =>
      (match y.1.op with | .select _ _ => false | .defer _ => false | _ => true) &&
      (y.2.1 == x.2.1 || Nat.testBit x.2.2 y.2.1 || y.1.after.any (fun e => Region.binds .any e && e.on == x.2.1) || x.1.apart ops y.1)
  | _, _, _ => false
def fmask (ops : Array Oper) (l : List (Oper × Nat × Nat)) : List (Oper × Nat × Nat) → Nat
  | [] => 0
  | x :: r => bif isFloat ops l x then Nat.lor (2 ^ x.2.1) (fmask ops l r) else fmask ops l r
def fmOf (ops : Array Oper) (l : List (Oper × Nat × Nat)) : Nat :=
  match fmask ops l (l.take (headLen 0 l)) with
  | 0 => 0
  | f + 1 => bif Nat.blt (f + 1) (2 ^ headLen (f + 1) l) then f + 1 else 0
def drawn (E : Env) (inl : Inl) (yt : YT) (ops : Array Oper) (s : St) (k : St → Prop) : Prop :=
    let l := zipAnc 0 ops.toList (ancs ops.toList [])
    let n := headLen (fmOf ops l) l
    if apartAll ops (l.take n) && decide ((ops.toList.filterMap (·.dst)).Nodup) then
      frcHd (hides E ops s (ops.toList.take n)) fun hd => if (hd.map (·.2)).Nodup then runDraw E ops s hd ((l.take n).map fun x => (x.1, x.2.2)) 0 [] fun rs => if stoAll s.nx (l.take n) rs then
        frcSt ⟨recTm (fun _ => true) rs s.tm, obAt (fun _ => true) s.nx hd (recOb (fun _ => true) rs) s.ob, s.nx + W * n, s.lr⟩ fun s1 => frcGs (recGs (fun _ => true) rs) fun g1 => runSeq E inl yt ops (ops.toList.drop n) s1 g1 k else False
      else False
    else False
def lateOf (ops : Array Oper) : Option Oper := match ops.back? with
  | some o => match o.op, o.guard with
    | .move _, none =>
      if o.after.all (fun e => !Region.binds .any e) &&
        ops.pop.toList.all (fun y => (match y.op with | .select _ _ => false | .defer _ => false | _ => true) &&
          (match y.guard with | some (g, _) => Nat.blt g ops.pop.size | none => true) &&
          y.after.all (fun e => !Region.binds .any e || Nat.blt e.on ops.pop.size) && o.apart ops y) &&
        Nat.blt (headLen (fmOf ops.pop (zipAnc 0 ops.pop.toList (ancs ops.pop.toList []))) (zipAnc 0 ops.pop.toList (ancs ops.pop.toList []))) ops.pop.size
      then some o else none
    | _, _ => none
  | none => none
def setPs : List Nat → List V → List (Nat × SV) → List (Nat × SV)
  | p :: ps, v :: vs, tm => setPs ps vs ((p, .val v) :: tm)
  | _, _, tm => tm
def loopN : Nat → (St → (Ex → St → Prop) → Prop) → St → (Ex → St → Prop) → Prop
  | 0, _, _, _ => False
  | n + 1, b, s, k => b s fun
    | .nrm, s' => loopN n b s' k
    | e, s' => k e s'
def exReg (E : Env) (inl : Inl) (yt : YT) (ops : Array Oper) (b : Bool) (s0 : St) (k : St → Prop) : Prop :=
  frcN s0.nx fun nx => (fun s : St => match b with
  | false => runSeq E inl yt ops ops.toList s [] k
  | true => match lateOf ops with
    | some o => runSeq E inl yt ops [o] s [] fun s => drawn E inl yt ops.pop s k
    | none => drawn E inl yt ops s k) ⟨s0.tm, s0.ob, nx, s0.lr⟩
def ex (E : Env) (h : Hints) (inl : Inl) (f : FuncId) (yt : YT) : Code → Nat → St → (Ex → St → Prop) → Prop
  | .skip, _, s, k => k .nrm s
  | .label _, _, s, k => k .nrm s
  | .exit id, _, s, k => k (.ext id) s
  | .goto l, _, s, k => k (.gto l) s
  | .ret, _, s, k => k .ret s
  | .region id ops b, fl, s, k => match h.inv f (1000000 + id) s with
    | some L => (∃ g, L.J g ∧ frcSt (L.S g) fun s' => mtch fl s s') ∧ ∀ g, L.J g → frcSt (L.S g) fun s' => exReg E inl yt ops b s' (k .nrm)
    | none => exReg E inl yt ops b s (k .nrm)
  | .seq a b, fl, s, k => ex E h inl f yt a fl s fun
    | .nrm, s => ex E h inl f yt b fl s k
    | e, s => k e s
  | .cond c a b, fl, s, k => match evalO E (lookT s.tm) c with
    | some (.val (.one (.bool e))) => splitB e (ex E h inl f yt a fl s k) (ex E h inl f yt b fl s k)
    | _ => False
  | .block id c, fl, s, k => ex E h inl f yt c fl s fun
    | .ext i, s => if i = id then k .nrm s else k (.ext i) s
    | e, s => k e s
  | .scope c, fl, s, k => ex E h inl f yt c fl s fun
    | .gto _, _ => False
    | e, s => k e s
  | .loop c, fl, s, k => match h.inv f (keyOf c) s with
    | some L => (∃ g, L.J g ∧ frcSt (L.S g) fun s' => mtch fl s s') ∧ ∀ g, L.J g → frcSt (L.S g) fun s1 => ex E h inl f yt c fl s1 fun
      | .nrm, s' => ∃ g', L.J g' ∧ L.μ g' < L.μ g ∧ frcSt (L.S g') fun s2 => mtch fl s' s2
      | e, s' => k e s'
    | none => loopN h.un (ex E h inl f yt c fl) s k
  | .rangeFunc g ps assign body, _, s, k =>
    match (evalO E (lookT s.tm) g).bind one? with
    | some (.fn f' a b) => match E.fb f' with
      | some _ => inl f' (ptrVs a ++ [.one (.yl s.nx)] ++ ptrVs b)
          (fun i => bif i == s.nx then some (fun vs ob nx lr k' => match lookL lr s.nx with
              | some none => if vs.length = ps.size then
                  ex E h inl f yt assign nx ⟨setPs ps.toList vs s.tm, ob, nx, delL s.nx lr⟩ fun
                    | .nrm, s1 => ex E h inl f yt body nx s1 fun
                      | .nrm, s2 => k' (.val (.one (.bool true))) s2.ob s2.nx ((s.nx, none) :: s2.lr)
                      | e, s2 => k' (.val (.one (.bool false))) s2.ob s2.nx ((s.nx, some e) :: s2.lr)
                    | _, _ => False
                else False
              | _ => False) else yt i)
          s.ob (s.nx + 1) ((s.nx, none) :: s.lr) fun _ ob nx lr => match lookL lr s.nx with
            | some none => k .nrm ⟨s.tm, ob, nx, delL s.nx lr⟩
            | some (some e) => k e ⟨s.tm, ob, nx, delL s.nx lr⟩
            | none => False
      | none => False
    | _ => False
  | _, _, _, _ => False
def resV (E : Env) (s : St) : List ResultVar → Option (List Prop × List V)
  | [] => some ([], [])
  | .tmp t :: r => match (lookT s.tm t).bind val? with
    | some v => (resV E s r).map fun x => (x.1, v :: x.2)
    | none => none
  | .cell a T :: r => match E.tt T, (lookT s.tm a).bind one? with
    | some d, some c => match loadC (lookO s.ob) c d.sz with
      | some (ps, cs) => (mkV d cs).bind fun v => (resV E s r).map fun x => (ps ++ x.1, v :: x.2)
      | none => none
    | _, _ => none
def resSV : List V → SV
  | [v] => .val v
  | vs => .tup vs
def argTm : Nat → List V → List (Nat × SV)
  | _, [] => []
  | i, v :: r => (i, .val v) :: argTm (i + 1) r
def mRes (ob : Nat → Option AObj) (m : Mt) : V → V → Option Mt
  | .one (.own id), .one (.frs t' ys) => match ob id with
    | some (.row t xs) => if h : t = t' then match lnOf m.ln id with
        | none => some ⟨((h ▸ xs : List t'.T) = ys) :: m.ps, (id, some id) :: m.ln, m.fz⟩
        | some _ => none
      else none
    | _ => none
  | .one .nils, .one (.frs _ ys) => m.eq (ys = [])
  | a, b => mV ob m a b
def mRess (ob : Nat → Option AObj) (m : Mt) : List V → List V → Option Mt
  | [], [] => some m
  | a :: r, b :: r' => (mRes ob m a b).bind fun m => mRess ob m r r'
  | _, _ => none
def resOk (ob : Nat → Option AObj) (r r' : SV) : Prop :=
  match (match r, r' with
    | .val a, .val b => match aggFr b with
      | none => mRes ob ⟨[], [], []⟩ a b
      | some ys => match a with
        | .agg cs => (chsV cs).bind fun xs => mRess ob ⟨[], [], []⟩ xs ys
        | .one _ => none
    | .tup a, .tup b => mRess ob ⟨[], [], []⟩ a b
    | _, _ => none) with
  | some m => if mOk m then conj m.ps.reverse True else False
  | none => False
def inlN (E : Env) (h : Hints) : Nat → Inl
  | 0, _, _, _, _, _, _, _ => False
  | n + 1, f, vs, yt, ob, nx, lr, k => match E.fb f with
    | some fn => match fn.body with
      | some c => if vs.length ≤ fn.ntmps then ex E h (inlN E h n) f yt c nx ⟨argTm 0 vs, ob, nx, lr⟩ fun
          | .nrm, s | .ret, s => match resV E s fn.results.toList with
            | some (ps, vs) => conj ps (frcSV (resSV vs) fun v => k v s.ob s.nx s.lr)
            | none => False
          | _, _ => False
        else False
      | none => False
    | none => False
def exF (E : Env) (h : Hints) (d : Nat) (f : FuncId) (fn : Func) (args : List V) (r : SV) : Prop :=
  match fn.body with
  | some c => ex E h (inlN E h d) f (fun _ => none) c 0 ⟨argTm 0 args, [], 0, []⟩ fun
    | .nrm, s | .ret, s => match resV E s fn.results.toList with
      | some (ps, vs) => conj ps (resOk (lookO s.ob) (resSV vs) r)
      | none => False
    | _, _ => False
  | none => False
end Go.Sx

namespace Go.Sx
def foldTy : List (Option Ty) → Option Ty
  | [] => none
  | [x] => x
  | x :: r => x.bind fun a => (foldTy r).map fun b => .pair a b
def tyOf (P : Program) : Nat → TypeId → Option Ty
  | 0, _ => none
  | n + 1, t => match P.underlying t with
    | some (.int k) => some (.int k)
    | some .bool => some .bool
    | some .string => some .str
    | some (.float k) => some (.flt k)
    | some (.complex k) => some (.cpx k)
    | some (.func ..) => some .fnp
    | some (.slice e) => (tyOf P n e).map .sl
    | some (.array m e) => (tyOf P n e).map (.arr m)
    | some (.struct fs) => foldTy (fs.toList.map fun f => tyOf P n f.type)
    | _ => none
def aggOf (P : Program) (t : TypeId) : Bool :=
  match P.underlying t with
  | some (.struct _) | some (.array _ _) => true
  | _ => false
end Go.Sx

namespace Go.Sx
def lookTT : List (Nat × TD) → Nat → Option TD
  | [], _ => none
  | (k, v) :: r, t => if k == t then some v else lookTT r t
def tab1 : List (Nat × TD) := [
  (1, ⟨1, 8, false, .sc, some .fnp, [.one .nilf]⟩),
  (2, ⟨1, 8, false, .sc, some (.int .i64), [.one (.int .i64 0)]⟩),
  (3, ⟨1, 8, false, .sc, some (.int .i64), [.one (.int .i64 0)]⟩),
  (4, ⟨1, 1, false, .sc, some .bool, [.one (.bool false)]⟩),
  (5, ⟨1, 1, false, .sc, some (.int .u8), [.one (.int .u8 0)]⟩),
  (6, ⟨1, 1, false, .sc, some (.int .u8), [.one (.int .u8 0)]⟩),
  (7, ⟨4, 24, true, .strct [(0, 1, false), (1, 1, false), (2, 1, false), (3, 1, false)], some (.pair (.int .i64) (.pair (.int .i64) (.pair .bool (.int .u8)))), [.one (.int .i64 0), .one (.int .i64 0), .one (.bool false), .one (.int .u8 0)]⟩),
  (8, ⟨4, 24, true, .strct [(0, 1, false), (1, 1, false), (2, 1, false), (3, 1, false)], some (.pair (.int .i64) (.pair (.int .i64) (.pair .bool (.int .u8)))), [.one (.int .i64 0), .one (.int .i64 0), .one (.bool false), .one (.int .u8 0)]⟩),
  (9, ⟨1, 16, false, .sc, some .str, [.one (.str [])]⟩),
  (10, ⟨1, 16, false, .sc, some .str, [.one (.str [])]⟩),
  (11, ⟨1, 16, false, .sc, some .str, [.one (.str [])]⟩),
  (12, ⟨1, 8, false, .sc, some (.int .u64), [.one (.int .u64 0)]⟩),
  (13, ⟨2, 24, true, .strct [(0, 1, false), (1, 1, false)], some (.pair .str (.int .u64)), [.one (.str []), .one (.int .u64 0)]⟩),
  (14, ⟨2, 24, true, .strct [(0, 1, false), (1, 1, false)], some (.pair .str (.int .u64)), [.one (.str []), .one (.int .u64 0)]⟩),
  (15, ⟨1, 8, false, .sc, none, [.one .nilp]⟩),
  (16, ⟨1, 8, false, .sc, none, [.one .nilp]⟩),
  (17, ⟨1, 8, false, .sc, none, [.one .nilp]⟩),
  (18, ⟨1, 8, true, .strct [(0, 1, false)], none, [.one .nilp]⟩),
  (19, ⟨1, 8, true, .strct [(0, 1, false)], none, [.one .nilp]⟩),
  (21, ⟨1, 4, false, .sc, some (.int .i32), [.one (.int .i32 0)]⟩),
  (22, ⟨1, 24, false, .slc 28, some (.sl (.flt .f32)), [.one .nils]⟩),
  (23, ⟨4, 56, true, .strct [(0, 1, false), (1, 1, false), (2, 1, false), (3, 1, false)], some (.pair .str (.pair (.int .i64) (.pair (.int .i64) (.sl (.flt .f32))))), [.one (.str []), .one (.int .i64 0), .one (.int .i64 0), .one .nils]⟩),
  (24, ⟨4, 56, true, .strct [(0, 1, false), (1, 1, false), (2, 1, false), (3, 1, false)], some (.pair .str (.pair (.int .i64) (.pair (.int .i64) (.sl (.flt .f32))))), [.one (.str []), .one (.int .i64 0), .one (.int .i64 0), .one .nils]⟩),
  (25, ⟨2, 2, true, .arr 2 5, some (.arr 2 (.int .u8)), [.arr 2 (.int .u8) (List.replicate 2 (Ty.d (.int .u8)))]⟩),
  (26, ⟨1, 8, false, .sc, some .fnp, [.one .nilf]⟩),
  (27, ⟨1, 8, false, .sc, some .fnp, [.one .nilf]⟩),
  (28, ⟨1, 4, false, .sc, some (.flt .f32), [.one (.flt .f32 0)]⟩),
  (29, ⟨4, 56, true, .strct [(0, 1, false), (1, 1, false), (2, 1, false), (3, 1, false)], some (.pair .str (.pair (.int .i64) (.pair (.int .i64) (.sl (.flt .f32))))), [.one (.str []), .one (.int .i64 0), .one (.int .i64 0), .one .nils]⟩),
  (30, ⟨1, 8, false, .sc, some (.int .i64), [.one (.int .i64 0)]⟩),
  (32, ⟨1, 8, false, .sc, some .fnp, [.one .nilf]⟩),
  (33, ⟨1, 8, false, .sc, some .fnp, [.one .nilf]⟩),
  (34, ⟨1, 8, false, .sc, some .fnp, [.one .nilf]⟩),
  (35, ⟨4, 32, true, .arr 4 3, some (.arr 4 (.int .i64)), [.arr 4 (.int .i64) (List.replicate 4 (Ty.d (.int .i64)))]⟩),
  (36, ⟨16, 224, true, .arr 4 29, some (.arr 4 (.pair .str (.pair (.int .i64) (.pair (.int .i64) (.sl (.flt .f32)))))), [.arr 4 (.pair .str (.pair (.int .i64) (.pair (.int .i64) (.sl (.flt .f32))))) (List.replicate 4 (Ty.d (.pair .str (.pair (.int .i64) (.pair (.int .i64) (.sl (.flt .f32)))))))]⟩),
  (38, ⟨1, 8, false, .sc, some .fnp, [.one .nilf]⟩),
  (39, ⟨8, 112, true, .arr 2 29, some (.arr 2 (.pair .str (.pair (.int .i64) (.pair (.int .i64) (.sl (.flt .f32)))))), [.arr 2 (.pair .str (.pair (.int .i64) (.pair (.int .i64) (.sl (.flt .f32))))) (List.replicate 2 (Ty.d (.pair .str (.pair (.int .i64) (.pair (.int .i64) (.sl (.flt .f32)))))))]⟩),
  (40, ⟨2, 16, true, .strct [(0, 1, false), (1, 1, false)], some (.pair (.int .i64) (.int .i64)), [.one (.int .i64 0), .one (.int .i64 0)]⟩),
  (41, ⟨2, 16, true, .strct [(0, 1, false), (1, 1, false)], some (.pair (.int .i64) (.int .i64)), [.one (.int .i64 0), .one (.int .i64 0)]⟩),
  (42, ⟨4, 32, true, .arr 2 41, some (.arr 2 (.pair (.int .i64) (.int .i64))), [.arr 2 (.pair (.int .i64) (.int .i64)) (List.replicate 2 (Ty.d (.pair (.int .i64) (.int .i64))))]⟩),
  (43, ⟨1, 8, false, .sc, some .fnp, [.one .nilf]⟩),
  (45, ⟨1, 8, false, .sc, some .fnp, [.one .nilf]⟩),
  (46, ⟨1, 8, false, .sc, some .fnp, [.one .nilf]⟩),
  (47, ⟨1, 8, false, .sc, some .fnp, [.one .nilf]⟩),
  (48, ⟨1, 24, false, .slc 5, some (.sl (.int .u8)), [.one .nils]⟩),
  (50, ⟨1, 8, false, .sc, some .fnp, [.one .nilf]⟩),
  (51, ⟨1, 24, false, .slc 48, some (.sl (.sl (.int .u8))), [.one .nils]⟩),
  (52, ⟨10, 10, true, .arr 10 5, some (.arr 10 (.int .u8)), [.arr 10 (.int .u8) (List.replicate 10 (Ty.d (.int .u8)))]⟩),
  (53, ⟨12, 32, true, .strct [(0, 1, false), (1, 1, false), (2, 10, true)], some (.pair (.int .i64) (.pair (.int .i64) (.arr 10 (.int .u8)))), [.one (.int .i64 0), .one (.int .i64 0), .arr 10 (.int .u8) (List.replicate 10 (Ty.d (.int .u8)))]⟩),
  (54, ⟨12, 32, true, .strct [(0, 1, false), (1, 1, false), (2, 10, true)], some (.pair (.int .i64) (.pair (.int .i64) (.arr 10 (.int .u8)))), [.one (.int .i64 0), .one (.int .i64 0), .arr 10 (.int .u8) (List.replicate 10 (Ty.d (.int .u8)))]⟩),
  (55, ⟨16, 16, true, .arr 16 5, some (.arr 16 (.int .u8)), [.arr 16 (.int .u8) (List.replicate 16 (Ty.d (.int .u8)))]⟩),
  (57, ⟨1, 8, false, .sc, some .fnp, [.one .nilf]⟩),
  (58, ⟨1, 24, false, .slc 54, some (.sl (.pair (.int .i64) (.pair (.int .i64) (.arr 10 (.int .u8))))), [.one .nils]⟩),
  (59, ⟨1, 24, false, .slc 41, some (.sl (.pair (.int .i64) (.int .i64))), [.one .nils]⟩),
  (61, ⟨1, 8, false, .sc, some .fnp, [.one .nilf]⟩),
  (62, ⟨1, 8, false, .sc, some .fnp, [.one .nilf]⟩),
  (63, ⟨1, 8, false, .sc, some .fnp, [.one .nilf]⟩),
  (64, ⟨1, 24, false, .slc 3, some (.sl (.int .i64)), [.one .nils]⟩),
  (66, ⟨1, 8, false, .sc, some .fnp, [.one .nilf]⟩),
  (67, ⟨1, 8, false, .sc, some .fnp, [.one .nilf]⟩),
  (68, ⟨1, 8, false, .sc, some .fnp, [.one .nilf]⟩),
  (69, ⟨1, 8, false, .sc, some .fnp, [.one .nilf]⟩),
  (70, ⟨1, 8, false, .sc, some .fnp, [.one .nilf]⟩),
  (71, ⟨2, 16, true, .strct [(0, 1, false), (1, 1, false)], some (.pair (.int .i64) (.int .i64)), [.one (.int .i64 0), .one (.int .i64 0)]⟩),
  (72, ⟨2, 16, true, .strct [(0, 1, false), (1, 1, false)], some (.pair (.int .i64) (.int .i64)), [.one (.int .i64 0), .one (.int .i64 0)]⟩),
  (73, ⟨1, 24, false, .slc 72, some (.sl (.pair (.int .i64) (.int .i64))), [.one .nils]⟩),
  (74, ⟨1, 24, false, .slc 72, some (.sl (.pair (.int .i64) (.int .i64))), [.one .nils]⟩),
  (75, ⟨1, 8, false, .sc, some .fnp, [.one .nilf]⟩),
  (76, ⟨1, 8, false, .sc, some .fnp, [.one .nilf]⟩),
  (77, ⟨1, 8, false, .sc, some .fnp, [.one .nilf]⟩),
  (78, ⟨2, 16, true, .strct [(0, 1, false), (1, 1, false)], some (.pair (.int .i64) (.int .i64)), [.one (.int .i64 0), .one (.int .i64 0)]⟩),
  (79, ⟨2, 16, true, .strct [(0, 1, false), (1, 1, false)], some (.pair (.int .i64) (.int .i64)), [.one (.int .i64 0), .one (.int .i64 0)]⟩),
  (80, ⟨1, 8, false, .sc, some .fnp, [.one .nilf]⟩),
  (81, ⟨1, 8, false, .sc, some .fnp, [.one .nilf]⟩),
  (82, ⟨1, 8, false, .sc, some .fnp, [.one .nilf]⟩),
  (83, ⟨1, 8, false, .sc, some .fnp, [.one .nilf]⟩),
  (84, ⟨1, 8, false, .sc, some .fnp, [.one .nilf]⟩),
  (85, ⟨1, 8, false, .sc, some .fnp, [.one .nilf]⟩),
  (86, ⟨1, 8, false, .sc, some .fnp, [.one .nilf]⟩),
  (87, ⟨1, 8, false, .sc, some .fnp, [.one .nilf]⟩),
  (88, ⟨1, 8, false, .sc, some .fnp, [.one .nilf]⟩),
  (89, ⟨1, 24, false, .slc 22, some (.sl (.sl (.flt .f32))), [.one .nils]⟩),
  (90, ⟨1, 8, false, .sc, some .fnp, [.one .nilf]⟩),
  (91, ⟨1, 8, false, .sc, some .fnp, [.one .nilf]⟩),
  (92, ⟨1, 8, false, .sc, some .fnp, [.one .nilf]⟩),
  (93, ⟨1, 8, false, .sc, some .fnp, [.one .nilf]⟩),
  (94, ⟨1, 8, false, .sc, some .fnp, [.one .nilf]⟩),
  (95, ⟨1, 8, false, .sc, some .fnp, [.one .nilf]⟩),
  (96, ⟨1, 8, false, .sc, some .fnp, [.one .nilf]⟩),
  (97, ⟨1, 4, false, .sc, some (.int .u32), [.one (.int .u32 0)]⟩),
  (98, ⟨1, 8, false, .sc, some .fnp, [.one .nilf]⟩),
  (99, ⟨1, 8, false, .sc, some .fnp, [.one .nilf]⟩),
  (100, ⟨1, 8, false, .sc, some .fnp, [.one .nilf]⟩),
  (101, ⟨1, 8, false, .sc, some .fnp, [.one .nilf]⟩),
  (102, ⟨1, 8, false, .sc, some .fnp, [.one .nilf]⟩),
  (103, ⟨1, 8, false, .sc, some .fnp, [.one .nilf]⟩),
  (104, ⟨1, 8, false, .sc, some .fnp, [.one .nilf]⟩),
  (106, ⟨1, 8, false, .sc, some .fnp, [.one .nilf]⟩),
  (107, ⟨1, 8, false, .sc, none, [.one .nilp]⟩),
  (108, ⟨2, 32, true, .strct [(0, 1, false), (1, 1, false)], some (.pair (.sl (.int .u8)) .bool), [.one .nils, .one (.bool false)]⟩),
  (109, ⟨2, 32, true, .strct [(0, 1, false), (1, 1, false)], some (.pair (.sl (.int .u8)) .bool), [.one .nils, .one (.bool false)]⟩),
  (110, ⟨1, 8, false, .sc, some .fnp, [.one .nilf]⟩),
  (111, ⟨1, 8, false, .sc, some .fnp, [.one .nilf]⟩),
  (112, ⟨1, 8, false, .sc, some .fnp, [.one .nilf]⟩),
  (113, ⟨1, 8, false, .sc, some .fnp, [.one .nilf]⟩),
  (114, ⟨1, 8, false, .sc, some .fnp, [.one .nilf]⟩),
  (115, ⟨1, 24, false, .slc 30, some (.sl (.int .i64)), [.one .nils]⟩),
  (116, ⟨1, 8, false, .sc, some .fnp, [.one .nilf]⟩),
  (117, ⟨1, 8, false, .sc, some .fnp, [.one .nilf]⟩),
  (118, ⟨1, 8, false, .sc, some .fnp, [.one .nilf]⟩),
  (119, ⟨1, 8, false, .sc, some .fnp, [.one .nilf]⟩),
  (120, ⟨1, 8, false, .sc, some .fnp, [.one .nilf]⟩),
  (121, ⟨1, 8, false, .sc, some .fnp, [.one .nilf]⟩),
  (122, ⟨1, 8, false, .sc, some .fnp, [.one .nilf]⟩),
  (123, ⟨1, 8, false, .sc, some .fnp, [.one .nilf]⟩),
  (124, ⟨1, 8, false, .sc, some .fnp, [.one .nilf]⟩),
  (125, ⟨1, 8, false, .sc, some .fnp, [.one .nilf]⟩),
  (126, ⟨1, 8, false, .sc, some .fnp, [.one .nilf]⟩),
  (127, ⟨1, 8, false, .sc, some .fnp, [.one .nilf]⟩),
  (128, ⟨1, 8, false, .sc, some .fnp, [.one .nilf]⟩),
  (129, ⟨1, 8, false, .sc, some .fnp, [.one .nilf]⟩),
  (130, ⟨1, 8, false, .sc, some .fnp, [.one .nilf]⟩),
  (131, ⟨1, 8, false, .sc, some .fnp, [.one .nilf]⟩),
  (132, ⟨1, 8, false, .sc, some (.int .u64), [.one (.int .u64 0)]⟩),
  (133, ⟨1, 8, false, .sc, some .fnp, [.one .nilf]⟩),
  (134, ⟨1, 8, false, .sc, some .fnp, [.one .nilf]⟩),
  (135, ⟨1, 8, false, .sc, some .fnp, [.one .nilf]⟩),
  (136, ⟨1, 8, false, .sc, some .fnp, [.one .nilf]⟩),
  (137, ⟨1, 8, false, .sc, some .fnp, [.one .nilf]⟩),
  (138, ⟨1, 8, false, .sc, some .fnp, [.one .nilf]⟩),
  (139, ⟨1, 8, false, .sc, some .fnp, [.one .nilf]⟩),
  (140, ⟨1, 8, false, .sc, some .fnp, [.one .nilf]⟩),
  (141, ⟨1, 8, false, .sc, some .fnp, [.one .nilf]⟩),
  (142, ⟨1, 8, false, .sc, some .fnp, [.one .nilf]⟩),
  (143, ⟨1, 8, false, .sc, some .fnp, [.one .nilf]⟩),
  (144, ⟨1, 8, false, .sc, some (.flt .f64), [.one (.flt .f64 0)]⟩),
  (145, ⟨1, 8, false, .sc, some .fnp, [.one .nilf]⟩),
  (146, ⟨1, 8, false, .sc, some .fnp, [.one .nilf]⟩),
  (147, ⟨1, 8, false, .sc, some .fnp, [.one .nilf]⟩),
  (148, ⟨1, 8, false, .sc, some .fnp, [.one .nilf]⟩),
  (149, ⟨1, 8, false, .sc, some (.int .u64), [.one (.int .u64 0)]⟩),
  (150, ⟨1, 8, false, .sc, some .fnp, [.one .nilf]⟩),
  (152, ⟨1, 8, false, .sc, some .fnp, [.one .nilf]⟩),
  (153, ⟨1, 8, false, .sc, some .fnp, [.one .nilf]⟩),
  (154, ⟨1, 8, false, .sc, some .fnp, [.one .nilf]⟩),
  (155, ⟨4, 40, true, .strct [(0, 1, false), (1, 1, false), (2, 1, false), (3, 1, false)], none, [.one .nilp, .one .nilp, .one .nilp, .one (.str [])]⟩),
  (156, ⟨4, 40, true, .strct [(0, 1, false), (1, 1, false), (2, 1, false), (3, 1, false)], none, [.one .nilp, .one .nilp, .one .nilp, .one (.str [])]⟩),
  (160, ⟨1, 8, false, .sc, some .fnp, [.one .nilf]⟩),
  (161, ⟨1, 1, false, .sc, some (.int .u8), [.one (.int .u8 0)]⟩),
  (162, ⟨1, 1, false, .sc, some (.int .u8), [.one (.int .u8 0)]⟩),
  (163, ⟨1, 8, false, .sc, some .fnp, [.one .nilf]⟩),
  (164, ⟨1, 8, false, .sc, none, [.one .nilp]⟩),
  (165, ⟨1, 4, false, .sc, some (.int .i32), [.one (.int .i32 0)]⟩),
  (166, ⟨1, 4, false, .sc, some (.int .i32), [.one (.int .i32 0)]⟩),
  (167, ⟨11, 48, true, .strct [(0, 1, false), (1, 1, false), (2, 1, false), (3, 1, false), (4, 1, false), (5, 1, false), (6, 1, false), (7, 1, false), (8, 1, false), (9, 1, false), (10, 1, false)], none, [.one (.int .u64 0), .one (.int .u64 0), .one (.int .u32 0), .one (.int .u8 0), .one (.int .u8 0), .one (.int .u8 0), .one (.int .u8 0), .one .nilf, .one .nilp, .one (.int .i32 0), .one (.int .i32 0)]⟩),
  (168, ⟨11, 48, true, .strct [(0, 1, false), (1, 1, false), (2, 1, false), (3, 1, false), (4, 1, false), (5, 1, false), (6, 1, false), (7, 1, false), (8, 1, false), (9, 1, false), (10, 1, false)], none, [.one (.int .u64 0), .one (.int .u64 0), .one (.int .u32 0), .one (.int .u8 0), .one (.int .u8 0), .one (.int .u8 0), .one (.int .u8 0), .one .nilf, .one .nilp, .one (.int .i32 0), .one (.int .i32 0)]⟩),
  (169, ⟨1, 8, false, .sc, some .fnp, [.one .nilf]⟩)]
def eqs1 : List Nat := [9, 25, 35, 40, 41, 42, 52, 53, 54, 55, 71, 72, 78, 79]
end Go.Sx

namespace Go.Sx
open Go.RowKit
section chunks
variable {ρ : Nat → Value} {H : IH}
theorem chsSz_append : ∀ (a b : List Ch), chsSz (a ++ b) = chsSz a + chsSz b
  | [], b => by simp [chsSz]
  | c :: a, b => by simp [chsSz, chsSz_append a b, Nat.add_assoc]
theorem DenChs.len : ∀ {cs : List Ch} {vs : List Value}, DenChs ρ H cs vs → vs.length = chsSz cs
  | [], _, h => by rw [show _ = _ from h]; rfl
  | .one c :: r, vs, h => by
    obtain ⟨v, vs', rfl, _, h'⟩ := h
    simp [chsSz, Ch.sz, DenChs.len h', Nat.add_comm]
  | .arr n t xs :: r, vs, h => by
    have h1 := Rd.len _ _ _ h.1
    have h2 := DenChs.len h.2
    simp only [Ty.sz, List.length_take, List.length_drop] at h1 h2
    simp only [chsSz, Ch.sz]
    omega
theorem DenChs.append : ∀ {a b : List Ch} {us vs : List Value}, DenChs ρ H a us → DenChs ρ H b vs → DenChs ρ H (a ++ b) (us ++ vs)
  | [], b, us, vs, h, k => by rw [show us = [] from h]; exact k
  | .one c :: r, b, us, vs, h, k => by
    obtain ⟨v, vs', rfl, hc, h'⟩ := h
    exact ⟨v, vs' ++ vs, rfl, hc, DenChs.append h' k⟩
  | .arr n t xs :: r, b, us, vs, h, k => by
    have h1 := Rd.len _ _ _ h.1
    simp only [Ty.sz, List.length_take] at h1
    have hle : n * t.sz ≤ us.length := by omega
    refine ⟨?_, ?_⟩
    · rw [List.take_append_of_le_length hle]; exact h.1
    · rw [List.drop_append_of_le_length hle]; exact DenChs.append h.2 k
theorem DenChs.split : ∀ {a b : List Ch} {vs : List Value}, DenChs ρ H (a ++ b) vs → DenChs ρ H a (vs.take (chsSz a)) ∧ DenChs ρ H b (vs.drop (chsSz a))
  | [], b, vs, h => ⟨by simp [chsSz, DenChs], by simpa [chsSz] using h⟩
  | .one c :: r, b, vs, h => by
    obtain ⟨v, vs', rfl, hc, h'⟩ := h
    obtain ⟨h1, h2⟩ := DenChs.split h'
    simp only [chsSz, Ch.sz, Nat.add_comm 1]
    exact ⟨⟨v, _, rfl, hc, h1⟩, h2⟩
  | .arr n t xs :: r, b, vs, h => by
    obtain ⟨h0, h'⟩ := h
    obtain ⟨h1, h2⟩ := DenChs.split h'
    simp only [chsSz, Ch.sz]
    refine ⟨⟨?_, ?_⟩, ?_⟩
    · rw [List.take_take, Nat.min_eq_left (by omega)]; exact h0
    · rw [List.drop_take]
      rw [show n * t.sz + chsSz r - n * t.sz = chsSz r by omega]; exact h1
    · rw [← List.drop_drop]; exact h2
theorem takeCh_spec : ∀ {cs : List Ch} {n : Nat} {a : List Ch}, takeCh cs n = some a → ∃ b, cs = a ++ b ∧ chsSz a = n
  | cs, 0, a, h => by simp [takeCh] at h; subst h; exact ⟨cs, rfl, rfl⟩
  | [], n + 1, a, h => by simp [takeCh] at h
  | c :: r, n + 1, a, h => by
    simp only [takeCh] at h
    split at h
    · rename_i hc
      obtain ⟨a', ha, rfl⟩ := Option.map_eq_some_iff.1 h
      obtain ⟨b, rfl, hb⟩ := takeCh_spec ha
      exact ⟨b, rfl, by simp only [chsSz]; omega⟩
    · simp at h
theorem dropCh_spec : ∀ {cs : List Ch} {n : Nat} {b : List Ch}, dropCh cs n = some b → ∃ a, cs = a ++ b ∧ chsSz a = n
  | cs, 0, b, h => by simp [dropCh] at h; subst h; exact ⟨[], rfl, rfl⟩
  | [], n + 1, b, h => by simp [dropCh] at h
  | c :: r, n + 1, b, h => by
    simp only [dropCh] at h
    split at h
    · rename_i hc
      obtain ⟨a, rfl, ha⟩ := dropCh_spec h
      exact ⟨c :: a, rfl, by simp only [chsSz]; omega⟩
    · simp at h
theorem cutCh_spec {cs : List Ch} {off n : Nat} {x : List Ch} (h : cutCh cs off n = some x) : ∃ a b, cs = a ++ (x ++ b) ∧ chsSz a = off ∧ chsSz x = n := by
  obtain ⟨d, hd, ht⟩ := Option.bind_eq_some_iff.1 h
  obtain ⟨a, rfl, ha⟩ := dropCh_spec hd
  obtain ⟨b, rfl, hb⟩ := takeCh_spec ht
  exact ⟨a, b, rfl, ha, hb⟩
theorem cutCh_den {cs : List Ch} {off n : Nat} {x : List Ch} {vs : List Value} (h : cutCh cs off n = some x) (hd : DenChs ρ H cs vs) :
    DenChs ρ H x ((vs.drop off).take n) ∧ off + n ≤ vs.length := by
  obtain ⟨a, b, rfl, ha, hx⟩ := cutCh_spec h
  have hl := hd.len
  obtain ⟨_, h2⟩ := hd.split
  obtain ⟨h3, _⟩ := h2.split
  rw [ha, hx] at h3
  refine ⟨h3, ?_⟩
  rw [hl, chsSz_append, chsSz_append]; omega
theorem takeCh_dropCh : ∀ {cs : List Ch} {n : Nat} {a b : List Ch}, takeCh cs n = some a → dropCh cs n = some b → cs = a ++ b
  | cs, 0, a, b, h, k => by simp [takeCh] at h; simp [dropCh] at k; subst h; subst k; rfl
  | [], n + 1, a, b, h, k => by simp [takeCh] at h
  | c :: r, n + 1, a, b, h, k => by
    simp only [takeCh] at h
    simp only [dropCh] at k
    split at h
    · rename_i hc
      rw [if_pos hc] at k
      obtain ⟨a', ha, rfl⟩ := Option.map_eq_some_iff.1 h
      rw [takeCh_dropCh ha k]; rfl
    · simp at h
theorem putCh_spec {cs : List Ch} {off n : Nat} {new y : List Ch} (h : putCh cs off n new = some y) :
    ∃ a x b, cs = a ++ (x ++ b) ∧ chsSz a = off ∧ chsSz x = n ∧ y = a ++ (new ++ b) := by
  obtain ⟨a, ha, h2⟩ := Option.bind_eq_some_iff.1 h
  obtain ⟨b, hb, rfl⟩ := Option.map_eq_some_iff.1 h2
  obtain ⟨c, hc, hb⟩ := Option.bind_eq_some_iff.1 hb
  obtain ⟨_, _, hsa⟩ := takeCh_spec ha
  obtain ⟨x, rfl, hx⟩ := dropCh_spec hb
  exact ⟨a, x, b, takeCh_dropCh ha hc, hsa, hx, rfl⟩
theorem putCh_den {cs : List Ch} {off n : Nat} {new y : List Ch} {vs us : List Value} (h : putCh cs off n new = some y) (hd : DenChs ρ H cs vs) (hn : DenChs ρ H new us) :
    DenChs ρ H y (vs.take off ++ (us ++ vs.drop (off + n))) ∧ off + n ≤ vs.length := by
  obtain ⟨a, x, b, rfl, ha, hx, rfl⟩ := putCh_spec h
  have hl := hd.len
  obtain ⟨h1, h2⟩ := hd.split
  obtain ⟨_, h3⟩ := h2.split
  rw [ha] at h1 h3
  rw [hx, List.drop_drop] at h3
  refine ⟨h1.append (hn.append h3), ?_⟩
  rw [hl, chsSz_append, chsSz_append]; omega
theorem toChs_den : ∀ (t : Ty) (x : t.T) (vs : List Value), Rd H t x vs → DenChs ρ H (toChs t x) vs
  | .int k, n, vs, h => ⟨_, [], by rw [show vs = _ from h], rfl, rfl⟩
  | .bool, n, vs, h => ⟨_, [], by rw [show vs = _ from h], rfl, rfl⟩
  | .str, n, vs, h => ⟨_, [], by rw [show vs = _ from h], rfl, rfl⟩
  | .flt k, n, vs, h => ⟨_, [], by rw [show vs = _ from h], rfl, rfl⟩
  | .cpx k, n, vs, h => ⟨_, [], by rw [show vs = _ from h], rfl, rfl⟩
  | .fnp, none, vs, h => ⟨_, [], by rw [show vs = _ from h]; rfl, rfl, rfl⟩
  | .fnp, some f, vs, h => ⟨_, [], by rw [show vs = _ from h]; rfl, ⟨[], [], rfl, rfl, rfl⟩, rfl⟩
  | .opq e, x, vs, h => by
    have h1 := Rd.one (.opq e) x vs h
    obtain ⟨v, rfl, _⟩ := h
    exact ⟨v, [], rfl, h1 v (by simp), rfl⟩
  | .sl t, xs, vs, h => by
    obtain ⟨a, cap, rfl, h2⟩ := h
    exact ⟨_, [], rfl, ⟨a, cap, rfl, h2⟩, rfl⟩
  | .arr n t, xs, vs, h => by
    have hl := Rd.len _ _ _ h
    simp only [Ty.sz] at hl
    refine ⟨?_, ?_⟩
    · rw [List.take_of_length_le (by omega)]; exact h
    · show _ = _
      rw [List.drop_of_length_le (by omega)]
  | .pair a b, x, vs, h => by
    have := (toChs_den a x.1 _ h.1).append (toChs_den b x.2 _ h.2)
    rwa [List.take_append_drop] at this
theorem ofC_den : ∀ {t : Ty} {c : C} {x : t.T} {v : Value}, ofC t c = some x → DenC ρ H c v → Rd H t x [v] ∧ t.sz = 1 := by
  intro t c x v h hd
  cases t <;> cases c <;> simp only [ofC, reduceCtorEq] at h
  case int.int k k' n =>
    split at h
    · rename_i hk; subst hk; cases h; exact ⟨by rw [show v = _ from hd]; rfl, rfl⟩
    · cases h
  case bool.bool => cases h; exact ⟨by rw [show v = _ from hd]; rfl, rfl⟩
  case str.str => cases h; exact ⟨by rw [show v = _ from hd]; rfl, rfl⟩
  case flt.flt =>
    split at h
    · rename_i hk; subst hk; cases h; exact ⟨by rw [show v = _ from hd]; rfl, rfl⟩
    · cases h
  case cpx.cpx =>
    split at h
    · rename_i hk; subst hk; cases h; exact ⟨by rw [show v = _ from hd]; rfl, rfl⟩
    · cases h
  case fnp.nilf => cases h; exact ⟨by rw [show v = _ from hd]; rfl, rfl⟩
  case fnp.fn f first caps =>
    cases first <;> cases caps <;> simp only [reduceCtorEq, Option.some.injEq] at h
    subst h
    obtain ⟨a, b, rfl, h1, h2⟩ := hd
    cases (show a = [] from h1)
    cases (show b = [] from h2)
    exact ⟨rfl, rfl⟩
  case sl.sl =>
    split at h
    · rename_i hk; subst hk; cases h; exact ⟨hd, rfl⟩
    · cases h
  case sl.nils => cases h; exact ⟨⟨none, 0, by rw [show v = _ from hd]; rfl, Nat.le_refl _, .inl rfl⟩, rfl⟩
theorem ofChs_one {t : Ty} {c : C} {r : List Ch} {y : t.T × List Ch} {vs : List Value} (h : (ofC t c).map (·, r) = some y) (hd : DenChs ρ H (.one c :: r) vs) :
    Rd H t y.1 (vs.take t.sz) ∧ DenChs ρ H y.2 (vs.drop t.sz) := by
  obtain ⟨x, hx, rfl⟩ := Option.map_eq_some_iff.1 h
  obtain ⟨v, vs', rfl, hc, hr⟩ := hd
  obtain ⟨h1, h2⟩ := ofC_den hx hc
  rw [h2]
  exact ⟨h1, hr⟩
theorem ofChs_den : ∀ (t : Ty) {cs : List Ch} {y : t.T × List Ch} {vs : List Value}, ofChs t cs = some y → DenChs ρ H cs vs → Rd H t y.1 (vs.take t.sz) ∧ DenChs ρ H y.2 (vs.drop t.sz)
  | .arr n t, .arr n' t' xs :: r, y, vs, h, hd => by
    simp only [ofChs] at h
    split at h
    · rename_i hk; obtain ⟨rfl, rfl⟩ := hk; cases h; exact hd
    · cases h
  | .pair a b, cs, y, vs, h, hd => by
    simp only [ofChs] at h
    obtain ⟨x, hx, h⟩ := Option.bind_eq_some_iff.1 h
    obtain ⟨z, hz, h⟩ := Option.bind_eq_some_iff.1 h
    cases h
    obtain ⟨h1, h2⟩ := ofChs_den a hx hd
    obtain ⟨h3, h4⟩ := ofChs_den b hz h2
    simp only [Ty.sz]
    refine ⟨⟨?_, ?_⟩, ?_⟩
    · rw [List.take_take, Nat.min_eq_left (by omega)]; exact h1
    · rw [List.drop_take, show a.sz + b.sz - a.sz = b.sz by omega]; exact h3
    · rw [← List.drop_drop]; exact h4
  | .int k, .one c :: r, y, vs, h, hd => ofChs_one h hd
  | .bool, .one c :: r, y, vs, h, hd => ofChs_one h hd
  | .str, .one c :: r, y, vs, h, hd => ofChs_one h hd
  | .flt k, .one c :: r, y, vs, h, hd => ofChs_one h hd
  | .cpx k, .one c :: r, y, vs, h, hd => ofChs_one h hd
  | .fnp, .one c :: r, y, vs, h, hd => ofChs_one h hd
  | .sl t, .one c :: r, y, vs, h, hd => ofChs_one h hd
  | .arr n t, [], y, vs, h, hd => by simp [ofChs] at h
  | .arr n t, .one c :: r, y, vs, h, hd => by simp [ofChs] at h
  | .int k, [], y, vs, h, hd => by simp [ofChs] at h
  | .bool, [], y, vs, h, hd => by simp [ofChs] at h
  | .str, [], y, vs, h, hd => by simp [ofChs] at h
  | .flt k, [], y, vs, h, hd => by simp [ofChs] at h
  | .cpx k, [], y, vs, h, hd => by simp [ofChs] at h
  | .fnp, [], y, vs, h, hd => by simp [ofChs] at h
  | .sl t, [], y, vs, h, hd => by simp [ofChs] at h
  | .int k, .arr .. :: r, y, vs, h, hd => by simp [ofChs] at h
  | .bool, .arr .. :: r, y, vs, h, hd => by simp [ofChs] at h
  | .str, .arr .. :: r, y, vs, h, hd => by simp [ofChs] at h
  | .flt k, .arr .. :: r, y, vs, h, hd => by simp [ofChs] at h
  | .cpx k, .arr .. :: r, y, vs, h, hd => by simp [ofChs] at h
  | .fnp, .arr .. :: r, y, vs, h, hd => by simp [ofChs] at h
  | .sl t, .arr .. :: r, y, vs, h, hd => by simp [ofChs] at h
  | .opq _, _, y, vs, h, hd => by simp [ofChs] at h
theorem ofChs_all {t : Ty} {cs : List Ch} {x : t.T} {vs : List Value} (h : ofChs t cs = some (x, [])) (hd : DenChs ρ H cs vs) : Rd H t x vs ∧ vs.length = t.sz := by
  obtain ⟨h1, h2⟩ := ofChs_den t h hd
  have hl := Rd.len _ _ _ h1
  have h3 : vs.drop t.sz = [] := h2
  have h4 : vs.length ≤ t.sz := List.drop_eq_nil_iff.1 h3
  rw [List.take_of_length_le h4] at h1 hl
  exact ⟨h1, hl⟩
theorem DenV.cells {v : V} {u : Value} (hρ : ∀ id, (ρ id).oneCell' = true) (h : DenV ρ H v u) : DenChs ρ H (Ch.chs v) u.cells.toList := by
  cases v with
  | one c =>
    have h1 := DenC.one hρ h
    refine ⟨u, [], ?_, h, rfl⟩
    cases u <;> first | rfl | simp [Value.oneCell'] at h1
  | agg cs => obtain ⟨vs, rfl, h⟩ := h; exact h
theorem ofV_den {t : Ty} {v : V} {x : t.T} {u : Value} (hρ : ∀ id, (ρ id).oneCell' = true) (h : ofV t v = some x) (hd : DenV ρ H v u) : Rd H t x u.cells.toList := by
  unfold ofV at h
  split at h
  · rename_i x' hx
    cases h
    exact (ofChs_all hx (hd.cells hρ)).1
  · cases h
theorem subT_den : ∀ (t : Ty) (x : t.T) (off n : Nat) {y : (u : Ty) × u.T} {vs : List Value}, subT t x off n = some y → Rd H t x vs → y.1.sz = n ∧ Rd H y.1 y.2 ((vs.drop off).take n) := by
  intro t
  have base : ∀ (t : Ty) (x : t.T) (off n : Nat) {y : (u : Ty) × u.T} {vs : List Value}, (if off = 0 ∧ n = t.sz then some (⟨t, x⟩ : (u : Ty) × u.T) else none) = some y → Rd H t x vs → y.1.sz = n ∧ Rd H y.1 y.2 ((vs.drop off).take n) := by
    intro t x off n y vs h hr
    split at h
    · rename_i hk
      obtain ⟨rfl, rfl⟩ := hk
      cases h
      refine ⟨rfl, ?_⟩
      rw [List.drop_zero, List.take_of_length_le (by rw [Rd.len _ _ _ hr]; exact Nat.le_refl _)]
      exact hr
    · cases h
  induction t with
  | pair a b iha ihb =>
    intro x off n y vs h hr
    simp only [subT] at h
    split at h
    · rename_i hk
      obtain ⟨rfl, rfl⟩ := hk
      cases h
      refine ⟨rfl, ?_⟩
      rw [List.drop_zero, List.take_of_length_le (by rw [Rd.len _ _ _ hr]; exact Nat.le_refl _)]
      exact hr
    · have la := Rd.len _ _ _ hr.1
      have lb := Rd.len _ _ _ hr.2
      simp only [List.length_take, List.length_drop] at la lb
      split at h
      · rename_i hlt
        obtain ⟨h1, h2⟩ := iha x.1 off n h hr.1
        refine ⟨h1, ?_⟩
        have l2 := Rd.len _ _ _ h2
        rw [List.drop_take, List.take_take] at h2 l2
        simp only [List.length_take, List.length_drop] at l2
        rw [h1] at l2
        have hc : n ≤ a.sz - off := by omega
        rwa [Nat.min_eq_left hc] at h2
      · rename_i hlt
        obtain ⟨h1, h2⟩ := ihb x.2 (off - a.sz) n h hr.2
        refine ⟨h1, ?_⟩
        rw [List.drop_drop, show a.sz + (off - a.sz) = off by omega] at h2
        exact h2
  | int k => exact fun x off n y vs h hr => base _ x off n (by simpa only [subT] using h) hr
  | bool => exact fun x off n y vs h hr => base _ x off n (by simpa only [subT] using h) hr
  | str => exact fun x off n y vs h hr => base _ x off n (by simpa only [subT] using h) hr
  | flt k => exact fun x off n y vs h hr => base _ x off n (by simpa only [subT] using h) hr
  | cpx k => exact fun x off n y vs h hr => base _ x off n (by simpa only [subT] using h) hr
  | fnp => exact fun x off n y vs h hr => base _ x off n (by simpa only [subT] using h) hr
  | opq => exact fun x off n y vs h hr => base _ x off n (by simpa only [subT] using h) hr
  | sl t _ => exact fun x off n y vs h hr => base _ x off n (by simpa only [subT] using h) hr
  | arr m t _ => exact fun x off n y vs h hr => base _ x off n (by simpa only [subT] using h) hr
end chunks
end Go.Sx
