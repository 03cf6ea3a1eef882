/- A verified symbolic run of functions, part 11: lemmas, no claim of their own. -/
import Derived.Test.YtpbipfdpoijgoaaGreatDoorS10
import Derived.KernelRfl
import Derived.Lib.ItoaNum
import Derived.Test.YtpbipfdpoijgoaaGreatDoorProg
namespace Go.Sx
def chkAll (P : Program) (l : List (Nat × TD)) : Bool := l.all fun x => tdChk P x.1 x.2
theorem tab1_ok : chkAll Proofs.Tryz.prog tab1 = true := by
  decide +kernel
theorem lookTT_mem : ∀ {l : List (Nat × TD)} {t : Nat} {d : TD}, lookTT l t = some d → (t, d) ∈ l
  | [], _, _, h => by simp [lookTT] at h
  | (k, v) :: r, t, d, h => by
    simp only [lookTT] at h
    split at h
    · rename_i e; cases h; simp at e; subst e; simp
    · exact List.mem_cons_of_mem _ (lookTT_mem h)
theorem tt_ok {P : Program} {l : List (Nat × TD)} (ha : chkAll P l = true) : ∀ t d, lookTT l t = some d → TDok P t d := by
  intro t d h
  exact tdChk_ok (List.all_eq_true.1 ha _ (lookTT_mem h))
noncomputable abbrev P1 : Program := Proofs.Tryz.prog
def eqOk1 (P : Program) (l : List Nat) : Bool := l.all fun t => match lookTT tab1 t with
  | some d => match d.ty with
    | some u => eqChk P (lookTT tab1) 16 t u && !P.eqGuardType P.depth t
    | none => false
  | none => false
theorem eqs1_ok : eqOk1 P1 eqs1 = true := by decide +kernel
theorem eq1 : ∀ t d u, eqs1.contains t = true → lookTT tab1 t = some d → d.ty = some u → eqChk P1 (lookTT tab1) 16 t u = true ∧ P1.eqGuardType P1.depth t = false := by
  intro t d u h1 h2 h3
  have := List.all_eq_true.1 eqs1_ok t (by simpa using h1)
  rw [h2] at this
  simp only [h3, Bool.and_eq_true, Bool.not_eq_true'] at this
  exact this
def gl1 : Nat → Option ((t : Ty) × t.T) := fun g => match g with
  | 0 => some ⟨.arr 4 (.int .u8), [82, 69, 69, 76]⟩
  | 1 => some ⟨.pair (.int .i64) (.int .i64), (1, 1)⟩
  | 2 => some ⟨.arr 3 (.int .i64), [24, 25, 30]⟩
  | 3 => some ⟨.opq false, ()⟩
  | 4 => some ⟨.arr 20 (.int .u64), Lib.pow10Tab⟩
  | 7 => some ⟨.opq true, ()⟩
  | 8 => some ⟨.opq true, ()⟩
  | _ => none
def lookF : List (Nat × Func) → Nat → Option Func
  | [], _ => none
  | (k, v) :: r, t => if k == t then some v else lookF r t
def fbOk (P : Program) : List (Nat × Func) → Prop
  | [] => True
  | (f, fn) :: r => (P.funcs[f]? = some fn ∧ (fn.name == "runtime.NumGoroutine") = false ∧ ∃ c, fn.body = some c ∧ codeOk fn.ntmps c = true) ∧ fbOk P r
theorem fb_ok {P : Program} : ∀ {l : List (Nat × Func)}, fbOk P l → ∀ f fn, lookF l f = some fn → P.funcs[f]? = some fn ∧ (fn.name == "runtime.NumGoroutine") = false ∧ ∃ c, fn.body = some c ∧ codeOk fn.ntmps c = true
  | [], _, f, fn, h => by simp [lookF] at h
  | (k, v) :: r, hl, f, fn, h => by
    simp only [lookF] at h
    split at h
    · rename_i e
      simp at e
      subst e
      cases h
      exact hl.1
    · exact fb_ok hl.2 f fn h
def lookS : List (Nat × FSpec) → Nat → Option FSpec
  | [], _ => none
  | (k, v) :: r, t => if k == t then some v else lookS r t
def spOk (P : Program) : List (Nat × FSpec) → Prop
  | [] => True
  | (f, s) :: r => (SpecOk P gl1 f s ∧ ∃ fn c, P.funcs[f]? = some fn ∧ fn.body = some c ∧ (fn.name == "runtime.NumGoroutine") = false) ∧ spOk P r
theorem sp_ok {P : Program} : ∀ {l : List (Nat × FSpec)}, spOk P l → ∀ f s, lookS l f = some s → SpecOk P gl1 f s ∧ ∃ fn c, P.funcs[f]? = some fn ∧ fn.body = some c ∧ (fn.name == "runtime.NumGoroutine") = false
  | [], _, f, s, h => by simp [lookS] at h
  | (k, v) :: r, hl, f, s, h => by
    simp only [lookS] at h
    split at h
    · rename_i e
      simp at e
      subst e
      cases h
      exact hl.1
    · exact sp_ok hl.2 f s h
theorem mix1 : P1.follows .mixedOrders = true := by kernel_rfl
def h0 : Hints := ⟨fun _ _ _ => none, 0⟩
noncomputable def env (tdv : Bool) (sp : List (Nat × FSpec)) (fb : List (Nat × Func)) : Env := { P := P1, tt := lookTT tab1, gl := gl1, sp := lookS sp, fb := lookF fb, eq := fun t => eqs1.contains t, tdv := tdv, pt := fun _ => none }
theorem env_ok (tdv : Bool) {sp : List (Nat × FSpec)} {fb : List (Nat × Func)} (h1 : spOk P1 sp) (h2 : fbOk P1 fb) : EnvOk (env tdv sp fb) := ⟨tt_ok tab1_ok, sp_ok h1, eq1, fun _ _ h => (by cases h), fb_ok h2, fun _ _ h => (by cases h)⟩
@[reducible] def iV (n : Int) : V := .one (.int .i64 n)
@[reducible] def bV (b : Bool) : V := .one (.bool b)
@[reducible] def uV (n : Int) : V := .one (.int .u8 n)
@[reducible] def sV (l : List UInt8) : V := .one (.str l)
@[reducible] def nilB : List UInt8 := []
def hu (n : Nat) : Hints := ⟨fun _ _ _ => none, n⟩
end Go.Sx

namespace Go.Sx.U
def whenE (b : Bool) (e : Int) : Int := if b then e else 0
def within (n lo hi : Int) : Int := if n < lo ∨ hi < n then 3 else 0
def first : List Int → Int
  | [] => 0
  | x :: r => if x = 0 then first r else x
def Bytes (s : List Int) : Prop := ∀ b ∈ s, 0 ≤ b ∧ b ≤ 255
end Go.Sx.U
namespace Go.Sx
open U
def liveO : List Nat → List (Nat × Option AObj) → List (Nat × Option AObj)
  | _, [] => []
  | seen, (k, v) :: r => if seen.contains k then liveO seen r else match v with
    | some o => (k, some o) :: liveO (k :: seen) r
    | none => liveO (k :: seen) r
def St.at (s : St) (keep : List Nat) (new : List (Nat × SV)) : St := ⟨new ++ keepT keep s.tm, liveO [] s.ob, s.nx, s.lr⟩
@[reducible] def tI (t : Nat) (n : Int) : Nat × SV := (t, .val (iV n))
def listOf (s : St) (t : Nat) : Option ((u : Ty) × List u.T) := match lookT s.tm t with
  | some (.val (.one c)) => rowOf (lookO s.ob) c
  | _ => none
def hFirst (tl tn ti : Nat) (s : St) : Option LInv := match listOf s tl with
  | some ⟨.int .i64, xs⟩ => some ⟨Nat, fun i => s.at [tl, tn] [tI ti i], fun i => i ≤ List.length xs ∧ first xs = first (List.drop i xs), fun i => List.length xs - i⟩
  | _ => none
@[reducible] def aV (n : Nat) (d : List Int) : V := .agg [.arr n (.int .u8) d]
def listAs (s : St) (t : Nat) (u : Ty) : Option (List u.T) := match lookT s.tm t with
  | some (.val (.one c)) => rowAs (lookO s.ob) u c
  | _ => none
def intOfT (s : St) (t : Nat) : Option Int := match lookT s.tm t with
  | some (.val (.one (.int .i64 n))) => some n
  | _ => none
def ownOf (s : St) (t : Nat) : List Nat := match lookT s.tm t with
  | some (.val (.one (.own id))) => [id]
  | _ => []
def lessO (s : St) (ts : List Nat) : List (Nat × Option AObj) := (liveO [] s.ob).filter fun x => !(ts.flatMap (ownOf s)).contains x.1
theorem getD_of {α : Type} {xs : List α} {i : Nat} {d : α} (h : i < xs.length) : List.getD xs i d = xs[i] := by
  rw [List.getD_eq_getElem?_getD, List.getElem?_eq_getElem h]; rfl
def Sp1 (f : FuncId) (s : FSpec) : Prop := SpecOk P1 gl1 f s ∧ ∃ fn c, P1.funcs[f]? = some fn ∧ fn.body = some c ∧ (fn.name == "runtime.NumGoroutine") = false
theorem fn_of (tdv : Bool) (sp : List (Nat × FSpec)) (fb : List (Nat × Func)) (hn : Hints) (d : Nat) (fn : Func) {f : FuncId} {c : Code} {args : List V} {r : SV} (h1 : spOk P1 sp) (h2 : fbOk P1 fb) (hf : P1.funcs[f]? = some fn) (hb : fn.body = some c) (hc : codeOk fn.ntmps c = true)
    (hlen : Nat.ble args.length fn.ntmps = true) (hpa : args.all pureV = true) (hpr : resPure r = true) (h : exF (env tdv sp fb) hn d f fn args r) : Fn P1 gl1 f args r false :=
  exF_sound (E := env tdv sp fb) (env_ok tdv h1 h2) mix1 hf hb hc (Nat.le_of_ble_eq_true hlen) hpa hpr h
theorem fn_ofr (tdv : Bool) (sp : List (Nat × FSpec)) (fb : List (Nat × Func)) (hn : Hints) (d : Nat) (fn : Func) {f : FuncId} {c : Code} {args : List V} {r : SV} (h1 : spOk P1 sp) (h2 : fbOk P1 fb) (hf : P1.funcs[f]? = some fn) (hb : fn.body = some c) (hc : codeOk fn.ntmps c = true)
    (hlen : Nat.ble args.length fn.ntmps = true) (hpa : args.all pureV = true) (hpr : resPure r = true) (h : exFr (env tdv sp fb) hn d f fn args r) : Fn P1 gl1 f args r true :=
  exFr_sound (E := env tdv sp fb) (env_ok tdv h1 h2) mix1 hf hb hc (Nat.le_of_ble_eq_true hlen) hpa hpr h
theorem first_drop (xs : List Int) (g : Nat) (h : g < xs.length) : first (xs.drop g) = if xs[g] = 0 then first (xs.drop (g + 1)) else xs[g] := by
  rw [List.drop_eq_getElem_cons h]; rfl
theorem eqT_int (k : IntKind) (n : Nat) (a b : List Int) (ha : a.length = n) (hb : b.length = n) : eqT (.arr n (.int k)) a b = decide (a = b) := by
  have h : eqT (.arr n (.int k)) a b = (List.range n).all fun i => (List.getD a i 0 == List.getD b i 0) := rfl
  rw [h, Bool.eq_iff_iff]
  simp only [List.all_eq_true, List.mem_range, beq_iff_eq, decide_eq_true_eq]
  constructor
  · intro h
    refine List.ext_getElem (by omega) fun i h1 h2 => ?_
    have := h i (by omega)
    rwa [getD_of h1, getD_of h2] at this
  · rintro rfl i _; rfl
theorem byDrop {s : List Int} (h : Bytes s) (n : Nat) : Bytes (s.drop n) := fun x hx => h x (List.mem_of_mem_drop hx)
theorem byTake {s : List Int} (h : Bytes s) (n : Nat) : Bytes (s.take n) := fun x hx => h x (List.mem_of_mem_take hx)
end Go.Sx

namespace Go.Sx.U
def nameAt (l : List UInt8) (i : Nat) : Bool :=
  ((65 ≤ (l.getD i 0).toNat && (l.getD i 0).toNat ≤ 90) || (97 ≤ (l.getD i 0).toNat && (l.getD i 0).toNat ≤ 122)) || (i != 0 && ((48 ≤ (l.getD i 0).toNat && (l.getD i 0).toNat ≤ 57) || (l.getD i 0).toNat == 95))
def isName (l : List UInt8) : Bool := (List.range l.length).all (nameAt l) && (decide (l ≠ []) && decide (l.length ≤ 24))
def plain (l : List UInt8) : Bool := l.all fun b => decide (b.toNat < 128)
def wf16 (l : List Int) : List Int := l.map fun n => within n 0 65535
def checkReel (nm : List UInt8) (f : Int) (l : List Int) : Int :=
  if first [whenE (!isName nm) 8, within f 0 10000000, whenE (decide (l.length = 0)) 12, whenE (decide (256 < l.length)) 5] = 0 then
    if first (wf16 l) = 0 then whenE (decide (10000000 < f + (l.length : Int))) 4 else first (wf16 l)
  else first [whenE (!isName nm) 8, within f 0 10000000, whenE (decide (l.length = 0)) 12, whenE (decide (256 < l.length)) 5]
def record (k a b : Int) : List Int := [k, a / 256 % 256, a % 256, b / 256 % 256, b % 256]
def tframe (i c : Int) : List Int := record 70 c ((263 * (263 * i + c) + 97) % 65521)
def isum (l : List Int) : Int := l.foldl (· + ·) 0
def tlast (l : List Int) : List Int := record 69 (l.length : Int) (isum l % 65521)
def number (s : List Int) : Int := s.foldl (fun x b => 256 * x + b) 0
end Go.Sx.U
namespace Go.Sx
open U
def h106 : Hints := ⟨fun f k s => match f, k with
  | 106, 2 => hFirst 5 6 7 s
  | _, _ => none, 0⟩
def h110 : Hints := ⟨fun f k s => match f, k with
  | 110, 3 => match listAs s 8 (.int .i64) with
    | some xs => some ⟨Nat, fun i => ⟨[tI 10 i, (5, .val (.one (.own s.nx)))] ++ keepT [1, 8, 9] s.tm, (s.nx, some (.row (.int .i64) ((List.take i xs).map fun n => within n 0 65535))) :: lessO s [5], s.nx + 1, s.lr⟩, fun i => i ≤ List.length xs, fun i => List.length xs - i⟩
    | _ => none
  | _, _ => none, 0⟩
def hStr (t : Nat) (keep : List Nat) (q : List UInt8 → Nat → Prop) (s : St) : Option LInv := match lookT s.tm t with
  | some (.val (.one (.ptr id 0))) => match lookO s.ob id with
    | some (.sit l _) => some ⟨Nat, fun i => ⟨keepT (t :: keep) s.tm, [(id, some (.sit l i))], s.nx, s.lr⟩, fun i => i ≤ List.length l ∧ q l i, fun i => List.length l - i⟩
    | _ => none
  | _ => none
def nameTo (l : List UInt8) (i : Nat) : Prop := ∀ j, j < i → nameAt l j = true
def plainTo (l : List UInt8) (i : Nat) : Prop := ∀ j, j < i → (l.getD j 0).toNat < 128
def h108 : Hints := ⟨fun f k s => match f, k with
  | 108, 2 => hStr 7 [0] nameTo s
  | _, _ => none, 0⟩
def h172 : Hints := ⟨fun f k s => match f, k with
  | 172, 2 => hStr 6 [0] plainTo s
  | _, _ => none, 0⟩
def h101 : Hints := ⟨fun f k s => match f, k with
  | 101, 3 => match listAs s 6 (.int .i64) with
    | some xs => some ⟨Nat, fun i => s.at [0, 2, 6, 7] [tI 8 i, tI 3 (isum (List.take i xs))], fun i => i ≤ List.length xs, fun i => List.length xs - i⟩
    | _ => none
  | _, _ => none, 0⟩
def h173 : Hints := ⟨fun f k s => match f, k with
  | 173, 3 => match listAs s 6 (.int .u8) with
    | some xs => some ⟨Nat, fun i => s.at [6, 7] [tI 8 i, tI 3 (number (List.take i xs))], fun i => i ≤ List.length xs, fun i => List.length xs - i⟩
    | _ => none
  | _, _ => none, 0⟩
def h44 : Hints := ⟨fun f k s => match f, k with
  | 44, 4 => match listAs s 0 (.int .i64), listAs s 1 (.int .i64) with
    | some xs, some ys => some ⟨Nat, fun i => s.at [0, 1] [tI 5 i], fun i => i ≤ List.length xs ∧ List.take i xs = List.take i ys, fun i => List.length xs - i⟩
    | _, _ => none
  | _, _ => none, 0⟩
@[reducible] noncomputable def fb107 : Nat × Func := (107, Proofs.Tryz.f107)
@[reducible] noncomputable def fb111 : Nat × Func := (111, Proofs.Tryz.f111)
@[reducible] noncomputable def fb168 : Nat × Func := (168, Proofs.Tryz.f168)
end Go.Sx

namespace Go.Sx
open U
theorem vc107 (b : Bool) (e : Int) : exF (env false [] []) h0 0 107 Proofs.Tryz.f107 [bV b, iV e] (.val (iV (U.whenE b e))) = (splitB b (e = whenE b e ∧ True) ((0 : Int) = whenE b e ∧ True)) := by
  kernel_rfl
theorem vc109 (n lo hi : Int) : exF (env false [] [fb107]) h0 1 109 Proofs.Tryz.f109 [iV n, iV lo, iV hi] (.val (iV (U.within n lo hi))) = (splitB (bif decide (n < lo) then true else decide (hi < n)) ((3 : Int) = within n lo hi ∧ True) ((0 : Int) = within n lo hi ∧ True)) := by
  kernel_rfl
theorem vc106 (xs : List Int) : exF (env false [] []) h106 0 106 Proofs.Tryz.f106 [.one (.sl (.int .i64) xs)] (.val (iV (U.first xs))) = (let q0 := (↑(List.length xs) : Int); (∃ (g : Nat), (g ≤ List.length xs ∧ first xs = first (List.drop g xs)) ∧ (0 : Int) = (↑g : Int) ∧ q0 = q0 ∧ xs = xs ∧ True) ∧ ∀ (g : Nat), g ≤ List.length xs ∧ first xs = first (List.drop g xs) → splitB (decide ((↑g : Int) < q0)) (((0 : Int) ≤ (↑g : Int) ∧ (↑g : Int) < q0) ∧ splitB (List.getD xs g (0 : Int) != (0 : Int)) (List.getD xs g (0 : Int) = first xs ∧ True) (fits IntKind.i64 ((↑g : Int) + (1 : Int)) ∧ ∃ (g' : Nat), (g' ≤ List.length xs ∧ first xs = first (List.drop g' xs)) ∧ List.length xs - g' < List.length xs - g ∧ (↑g : Int) + (1 : Int) = (↑g' : Int) ∧ q0 = q0 ∧ xs = xs ∧ True)) ((0 : Int) = first xs ∧ True)) := by
  kernel_rfl
theorem vc108 (l : List UInt8) : exF (env false [] []) h108 0 108 Proofs.Tryz.f108 [sV l] (.val (bV (U.isName l))) = ((∃ (g : Nat), (g ≤ List.length l ∧ ∀ (j : Nat), j < g → nameAt l j = true) ∧ l = l ∧ (l = l ∧ (0 : Nat) = g) ∧ True) ∧ ∀ (g : Nat), let q0 := (List.getD l g (0 : UInt8)); (g ≤ List.length l ∧ ∀ (j : Nat), j < g → nameAt l j = true) → (List.length l ≤ g → (bif l != Array.toList (ByteArray.data { data := #[] }) then decide ((↑(List.length l) : Int) ≤ (24 : Int)) else false) = isName l ∧ True) ∧ ∀ (c w : Nat), g < List.length l ∧ (UInt8.toNat q0 < (128 : Nat) → c = UInt8.toNat q0 ∧ w = (1 : Nat)) ∧ ((128 : Nat) ≤ UInt8.toNat q0 → (128 : Nat) ≤ c ∧ (1 : Nat) ≤ w) → splitB (bif !bif bif decide ((65 : Int) ≤ (↑c : Int)) then decide ((↑c : Int) ≤ (90 : Int)) else false then true else bif decide ((97 : Int) ≤ (↑c : Int)) then decide ((↑c : Int) ≤ (122 : Int)) else false then bif (↑g : Int) == (0 : Int) then true else bif bif decide ((↑c : Int) < (48 : Int)) then true else decide ((57 : Int) < (↑c : Int)) then (↑c : Int) != (95 : Int) else false else false) (false = isName l ∧ True) (∃ (g' : Nat), (g' ≤ List.length l ∧ ∀ (j : Nat), j < g' → nameAt l j = true) ∧ List.length l - g' < List.length l - g ∧ l = l ∧ (l = l ∧ g + w = g') ∧ True)) := by
  kernel_rfl
theorem vc172 (l : List UInt8) : exF (env false [] []) h172 0 172 Proofs.Tryz.f172 [sV l] (.val (bV (U.plain l))) = ((∃ (g : Nat), (g ≤ List.length l ∧ ∀ (j : Nat), j < g → UInt8.toNat (List.getD l j (0 : UInt8)) < (128 : Nat)) ∧ l = l ∧ (l = l ∧ (0 : Nat) = g) ∧ True) ∧ ∀ (g : Nat), let q0 := (List.getD l g (0 : UInt8)); (g ≤ List.length l ∧ ∀ (j : Nat), j < g → UInt8.toNat (List.getD l j (0 : UInt8)) < (128 : Nat)) → (List.length l ≤ g → true = plain l ∧ True) ∧ ∀ (c w : Nat), g < List.length l ∧ (UInt8.toNat q0 < (128 : Nat) → c = UInt8.toNat q0 ∧ w = (1 : Nat)) ∧ ((128 : Nat) ≤ UInt8.toNat q0 → (128 : Nat) ≤ c ∧ (1 : Nat) ≤ w) → splitB (decide ((127 : Int) < (↑c : Int))) (false = plain l ∧ True) (∃ (g' : Nat), (g' ≤ List.length l ∧ ∀ (j : Nat), j < g' → UInt8.toNat (List.getD l j (0 : UInt8)) < (128 : Nat)) ∧ List.length l - g' < List.length l - g ∧ l = l ∧ (l = l ∧ g + w = g') ∧ True)) := by
  kernel_rfl
theorem vc101 (l : List Int) : exF (env false [] [fb168]) h101 1 101 Proofs.Tryz.f101 [.one (.sl (.int .i64) l)] (.val (aV 5 (U.tlast l))) = (let q0 := (↑(List.length l) : Int); let q1 := ((0 : Int) ≤ (8 : Int) ∧ (8 : Nat) ≤ IntKind.bits IntKind.i64); (∃ (g : Nat), Nat.le g (List.length l) ∧ (0 : Int) = (↑g : Int) ∧ (0 : Int) = isum (List.take g l) ∧ q0 = q0 ∧ l = l ∧ l = l ∧ List.replicate (5 : Nat) (0 : Int) = List.replicate (5 : Nat) (0 : Int) ∧ True) ∧ ∀ (g : Nat), let q2 := (List.take g l); Nat.le g (List.length l) → splitB (decide ((↑g : Int) < q0)) (((0 : Int) ≤ (↑g : Int) ∧ (↑g : Int) < q0) ∧ fits IntKind.i64 (isum q2 + List.getD l g (0 : Int)) ∧ fits IntKind.i64 ((↑g : Int) + (1 : Int)) ∧ ∃ (g' : Nat), Nat.le g' (List.length l) ∧ List.length l - g' < List.length l - g ∧ (↑g : Int) + (1 : Int) = (↑g' : Int) ∧ isum q2 + List.getD l g (0 : Int) = isum (List.take g' l) ∧ q0 = q0 ∧ l = l ∧ l = l ∧ List.replicate (5 : Nat) (0 : Int) = List.replicate (5 : Nat) (0 : Int) ∧ True) (((0 : Int) ≤ isum q2 ∧ (0 : Int) < (65521 : Int)) ∧ q1 ∧ q1 ∧ [(69 : Int), q0 / (256 : Int) % (256 : Int), q0 % (256 : Int), isum q2 % (65521 : Int) / (256 : Int) % (256 : Int), isum q2 % (65521 : Int) % (256 : Int)] = tlast l ∧ True)) := by
  kernel_rfl
theorem vc100 (i c : Int) : exF (env false [] [fb168]) h0 1 100 Proofs.Tryz.f100 [iV i, iV c] (.val (aV 5 (U.tframe i c))) = (let q2 := ((263 : Int) * i + c); let q0 := ((263 : Int) * q2 + (97 : Int)); let q1 := ((0 : Int) ≤ (8 : Int) ∧ (8 : Nat) ≤ IntKind.bits IntKind.i64); fits IntKind.i64 ((263 : Int) * i) ∧ fits IntKind.i64 q2 ∧ fits IntKind.i64 ((263 : Int) * q2) ∧ fits IntKind.i64 q0 ∧ ((0 : Int) ≤ (263 : Int) * q2 + (97 : Int) ∧ (0 : Int) < (65521 : Int)) ∧ q1 ∧ q1 ∧ [(70 : Int), c / (256 : Int) % (256 : Int), c % (256 : Int), q0 % (65521 : Int) / (256 : Int) % (256 : Int), q0 % (65521 : Int) % (256 : Int)] = tframe i c ∧ True) := by
  kernel_rfl
theorem vc173 (s : List Int) : exF (env false [] []) h173 0 173 Proofs.Tryz.f173 [.one (.sl (.int .u8) s)] (.val (iV (U.number s))) = (let q0 := (↑(List.length s) : Int); (∃ (g : Nat), Nat.le g (List.length s) ∧ (0 : Int) = (↑g : Int) ∧ (0 : Int) = number (List.take g s) ∧ q0 = q0 ∧ s = s ∧ True) ∧ ∀ (g : Nat), Nat.le g (List.length s) → splitB (decide ((↑g : Int) < q0)) (((0 : Int) ≤ (↑g : Int) ∧ (↑g : Int) < q0) ∧ ((0 : Int) ≤ (8 : Int) ∧ (8 : Nat) ≤ IntKind.bits IntKind.i64 ∧ fits IntKind.i64 (number (List.take g s) * (256 : Int))) ∧ fits IntKind.i64 (List.getD s g (0 : Int)) ∧ fits IntKind.i64 ((↑g : Int) + (1 : Int)) ∧ ∃ (g' : Nat), Nat.le g' (List.length s) ∧ List.length s - g' < List.length s - g ∧ (↑g : Int) + (1 : Int) = (↑g' : Int) ∧ bits BinOp.or IntKind.i64 (number (List.take g s) * (256 : Int)) (List.getD s g (0 : Int)) = number (List.take g' s) ∧ q0 = q0 ∧ s = s ∧ True) (number (List.take g s) = number s ∧ True)) := by
  kernel_rfl
theorem vc44 (xs ys : List Int) : exF (env false [] []) h44 0 44 Proofs.Tryz.f44 [.one (.sl (.int .i64) xs), .one (.sl (.int .i64) ys)] (.val (bV (decide (xs = ys)))) = (let q0 := (↑(List.length xs) : Int); splitB (q0 != (↑(List.length ys) : Int)) (false = decide (xs = ys) ∧ True) ((∃ (g : Nat), (g ≤ List.length xs ∧ List.take g xs = List.take g ys) ∧ (0 : Int) = (↑g : Int) ∧ xs = xs ∧ ys = ys ∧ True) ∧ ∀ (g : Nat), g ≤ List.length xs ∧ List.take g xs = List.take g ys → splitB (decide ((↑g : Int) < q0)) (((0 : Int) ≤ (↑g : Int) ∧ (↑g : Int) < q0) ∧ ((0 : Int) ≤ (↑g : Int) ∧ (↑g : Int) < (↑(List.length ys) : Int)) ∧ splitB (List.getD xs g (0 : Int) != List.getD ys g (0 : Int)) (false = decide (xs = ys) ∧ True) (fits IntKind.i64 ((↑g : Int) + (1 : Int)) ∧ ∃ (g' : Nat), (g' ≤ List.length xs ∧ List.take g' xs = List.take g' ys) ∧ List.length xs - g' < List.length xs - g ∧ (↑g : Int) + (1 : Int) = (↑g' : Int) ∧ xs = xs ∧ ys = ys ∧ True)) (true = decide (xs = ys) ∧ True))) := by
  kernel_rfl
end Go.Sx

namespace Go.Sx
open U
theorem fn107 (b : Bool) (e : Int) : Fn P1 gl1 107 [bV b, iV e] (.val (iV (whenE b e))) true := by
  refine Fn.flat ?_ rfl
  refine fn_of false [] [] h0 0 Proofs.Tryz.f107 trivial trivial (by kernel_rfl) rfl (by kernel_rfl) rfl rfl rfl ?_
  rw [vc107]
  try simp only [splitB_iff, -eq_self]
  cases b <;> simp [whenE]
theorem fn109 (n lo hi : Int) : Fn P1 gl1 109 [iV n, iV lo, iV hi] (.val (iV (within n lo hi))) true := by
  refine Fn.flat ?_ rfl
  refine fn_of false [] [fb107] h0 1 Proofs.Tryz.f109 trivial ⟨⟨by kernel_rfl, by kernel_rfl, _, rfl, by kernel_rfl⟩, trivial⟩ (by kernel_rfl) rfl (by kernel_rfl) rfl rfl rfl ?_
  rw [vc109]
  try simp only [splitB_iff, -eq_self]
  unfold within
  by_cases h1 : n < lo <;> by_cases h2 : hi < n <;> simp [h1, h2]
theorem fn106 (xs : List Int) (hl : xs.length ≤ 1000000000) : Fn P1 gl1 106 [.one (.sl (.int .i64) xs)] (.val (iV (first xs))) true := by
  refine Fn.flat ?_ rfl
  refine fn_of false [] [] h106 0 Proofs.Tryz.f106 trivial trivial (by kernel_rfl) rfl (by kernel_rfl) rfl rfl rfl ?_
  rw [vc106]
  try simp only [splitB_iff, -eq_self]
  refine ⟨⟨0, by simp, by simp⟩, fun g hg => ⟨fun hlt => ?_, fun hge => ?_⟩⟩
  · have hlt' : g < xs.length := by simpa using hlt
    rw [getD_of hlt', hg.2, first_drop xs g hlt']
    refine ⟨by omega, fun h => ?_, fun h => ⟨by simp only [fits]; omega, g + 1, ⟨by omega, ?_⟩, by omega, by simp⟩⟩
    · rw [if_neg (by simpa using h)]; simp
    · rw [if_pos (by simpa using h)]
  · have hge' : ¬ g < xs.length := by simpa using hge
    rw [hg.2, List.drop_of_length_le (by omega)]
    simp [first]
theorem isName_of {l : List UInt8} (h : ∀ j, j < l.length → nameAt l j = true) : isName l = (decide (l ≠ []) && decide (l.length ≤ 24)) := by
  unfold isName
  have : (List.range l.length).all (nameAt l) = true := by
    rw [List.all_eq_true]
    intro j hj
    exact h j (List.mem_range.1 hj)
  rw [this]; rfl
theorem isName_not {l : List UInt8} {j : Nat} (hj : j < l.length) (h : nameAt l j = false) : isName l = false := by
  unfold isName
  have : (List.range l.length).all (nameAt l) = false := by
    rw [List.all_eq_false]
    exact ⟨j, List.mem_range.2 hj, by simp [h]⟩
  rw [this]; rfl
theorem rune_name {l : List UInt8} {g c w : Nat} (h : (UInt8.toNat (List.getD l g (0 : UInt8)) < 128 → c = UInt8.toNat (List.getD l g (0 : UInt8)) ∧ w = 1) ∧ (128 ≤ UInt8.toNat (List.getD l g (0 : UInt8)) → 128 ≤ c ∧ 1 ≤ w)) :
    (bif !bif bif decide ((65 : Int) ≤ (c : Int)) then decide ((c : Int) ≤ (90 : Int)) else false then true else bif decide ((97 : Int) ≤ (c : Int)) then decide ((c : Int) ≤ (122 : Int)) else false then bif (g : Int) == (0 : Int) then true else bif bif decide ((c : Int) < (48 : Int)) then true else decide ((57 : Int) < (c : Int)) then (c : Int) != (95 : Int) else false else false) = !nameAt l g := by
  unfold nameAt
  generalize UInt8.toNat (List.getD l g 0) = b at *
  have e0 : ((g : Int) == 0) = decide (g = 0) := by
    by_cases hg : g = 0 <;> simp [hg]
  have e95 : ((c : Int) != 95) = decide (c ≠ 95) := by
    by_cases hg : c = 95
    · subst hg; rfl
    · simp [hg]; omega
  rw [e0, e95]
  have key : ∀ (p1 p2 p3 p4 p5 p6 p7 p8 : Bool), (bif !bif bif p1 then p2 else false then true else bif p3 then p4 else false then bif p5 then true else bif bif p6 then true else p7 then p8 else false else false) = !((p1 && p2) || (p3 && p4) || (!p5 && ((!p6 && !p7) || !p8))) := by decide
  rw [key]
  congr 1
  have hb : (bne g 0) = !decide (g = 0) := by by_cases hg : g = 0 <;> simp [hg]
  rw [hb]
  by_cases hlt : b < 128
  · obtain ⟨rfl, _⟩ := h.1 hlt
    have f1 : decide ((65 : Int) ≤ (c : Int)) = decide (65 ≤ c) := decide_eq_decide.2 (by omega)
    have f2 : decide ((c : Int) ≤ 90) = decide (c ≤ 90) := decide_eq_decide.2 (by omega)
    have f3 : decide ((97 : Int) ≤ (c : Int)) = decide (97 ≤ c) := decide_eq_decide.2 (by omega)
    have f4 : decide ((c : Int) ≤ 122) = decide (c ≤ 122) := decide_eq_decide.2 (by omega)
    have f5 : (!decide ((c : Int) < 48)) = decide (48 ≤ c) := by rw [← decide_not]; exact decide_eq_decide.2 (by omega)
    have f6 : (!decide ((57 : Int) < (c : Int))) = decide (c ≤ 57) := by rw [← decide_not]; exact decide_eq_decide.2 (by omega)
    have f7 : (!decide (c ≠ 95)) = (c == 95) := by by_cases h95 : c = 95 <;> simp [h95]
    rw [f1, f2, f3, f4, f5, f6, f7]
  · obtain ⟨hc, _⟩ := h.2 (by omega)
    have f1 : decide ((c : Int) ≤ 90) = false := by simp; omega
    have f2 : decide ((c : Int) ≤ 122) = false := by simp; omega
    have f3 : decide ((57 : Int) < (c : Int)) = true := by simp; omega
    have f4 : decide (c ≠ 95) = true := by simp; omega
    have f5 : decide (b ≤ 90) = false := by simp; omega
    have f6 : decide (b ≤ 122) = false := by simp; omega
    have f7 : decide (b ≤ 57) = false := by simp; omega
    have f8 : (b == 95) = false := by simp; omega
    rw [f1, f2, f3, f4, f5, f6, f7, f8]
    simp
theorem fn108 (l : List UInt8) : Fn P1 gl1 108 [sV l] (.val (bV (isName l))) true := by
  refine Fn.flat ?_ rfl
  refine fn_of false [] [] h108 0 Proofs.Tryz.f108 trivial trivial (by kernel_rfl) rfl (by kernel_rfl) rfl rfl rfl ?_
  rw [vc108]
  try simp only [splitB_iff, -eq_self]
  refine ⟨⟨0, ⟨Nat.zero_le _, fun j hj => absurd hj (Nat.not_lt_zero _)⟩, rfl, ⟨rfl, rfl⟩, trivial⟩, fun g hg => ⟨fun hge => ⟨?_, trivial⟩, fun c w hc => ⟨fun h => ⟨?_, trivial⟩, fun h => ?_⟩⟩⟩
  · have e : g = l.length := by omega
    subst e
    rw [isName_of hg.2]
    show (bif l != [] then _ else _) = _
    cases l with
    | nil => rfl
    | cons a t =>
      have : ((((a :: t).length : Nat) : Int) ≤ 24) = ((a :: t).length ≤ 24) := by simp only [eq_iff_iff]; omega
      simp only [this]
      rfl
  · rw [rune_name hc.2] at h
    rw [isName_not hc.1 (by simpa using h)]
  · rw [rune_name hc.2] at h
    have hn : nameAt l g = true := by simpa using h
    have hw : w = 1 := by
      by_cases hlt : UInt8.toNat (List.getD l g 0) < 128
      · exact (hc.2.1 hlt).2
      · exfalso
        have h9 := hn
        unfold nameAt at h9
        generalize UInt8.toNat (List.getD l g 0) = b at *
        simp only [Bool.or_eq_true, Bool.and_eq_true, decide_eq_true_eq, beq_iff_eq] at h9
        omega
    subst hw
    refine ⟨g + 1, ⟨hc.1, fun j hj => ?_⟩, by omega, rfl, ⟨rfl, rfl⟩, trivial⟩
    rcases Nat.lt_succ_iff_lt_or_eq.1 hj with h1 | rfl
    · exact hg.2 j h1
    · exact hn
theorem fn172 (l : List UInt8) : Fn P1 gl1 172 [sV l] (.val (bV (plain l))) true := by
  refine Fn.flat ?_ rfl
  refine fn_of false [] [] h172 0 Proofs.Tryz.f172 trivial trivial (by kernel_rfl) rfl (by kernel_rfl) rfl rfl rfl ?_
  rw [vc172]
  try simp only [splitB_iff, -eq_self]
  refine ⟨⟨0, ⟨Nat.zero_le _, fun j hj => absurd hj (Nat.not_lt_zero _)⟩, rfl, ⟨rfl, rfl⟩, trivial⟩, fun g hg => ⟨fun hge => ⟨?_, trivial⟩, fun c w hc => ⟨fun h => ⟨?_, trivial⟩, fun h => ?_⟩⟩⟩
  · have e : g = l.length := by omega
    subst e
    symm
    unfold plain
    rw [List.all_eq_true]
    intro b hb
    obtain ⟨j, hj, rfl⟩ := List.mem_iff_getElem.1 hb
    have := hg.2 j hj
    rw [getD_of hj] at this
    simpa using this
  · have h' : 127 < c := by simp at h; omega
    symm
    unfold plain
    rw [List.all_eq_false]
    refine ⟨l[g], List.getElem_mem hc.1, ?_⟩
    rw [getD_of hc.1] at hc
    by_cases hlt : UInt8.toNat l[g] < 128
    · have := hc.2.1 hlt; omega
    · simp [hlt]
  · have h' : ¬ 127 < c := by simp at h; omega
    have hlt : UInt8.toNat (List.getD l g 0) < 128 := by
      by_cases hlt : UInt8.toNat (List.getD l g 0) < 128
      · exact hlt
      · have := hc.2.2 (by omega); omega
    obtain ⟨_, rfl⟩ := hc.2.1 hlt
    refine ⟨g + 1, ⟨hc.1, fun j hj => ?_⟩, by omega, rfl, ⟨rfl, rfl⟩, trivial⟩
    rcases Nat.lt_succ_iff_lt_or_eq.1 hj with h1 | rfl
    · exact hg.2 j h1
    · exact hlt
def W16 (l : List Int) : Prop := ∀ x ∈ l, 0 ≤ x ∧ x ≤ 65535
theorem isum_bd {l : List Int} (h : W16 l) : 0 ≤ isum l ∧ isum l ≤ 65535 * l.length := by
  have key : ∀ (l : List Int) (x : Int), W16 l → 0 ≤ x → x ≤ l.foldl (· + ·) x ∧ l.foldl (· + ·) x ≤ x + 65535 * l.length := by
    intro l
    induction l with
    | nil => intro x _ _; simp
    | cons a l ih =>
      intro x h hx
      have ha := h a (by simp)
      have := ih (x + a) (fun y hy => h y (by simp [hy])) (by omega)
      simp only [List.foldl_cons, List.length_cons]
      omega
  have := key l 0 h (by omega)
  unfold isum
  omega
theorem isum_snoc (xs : List Int) (g : Nat) (h : g < xs.length) : isum (xs.take (g + 1)) = isum (xs.take g) + xs[g] := by
  unfold isum
  rw [List.take_succ_eq_append_getElem h, List.foldl_append]
  rfl
theorem W16.take {l : List Int} (h : W16 l) (n : Nat) : W16 (l.take n) := fun x hx => h x (List.mem_of_mem_take hx)
theorem fn101 (l : List Int) (hl : l.length ≤ 1000000) (h : W16 l) : Fn P1 gl1 101 [.one (.sl (.int .i64) l)] (.val (aV 5 (tlast l))) true := by
  refine Fn.flat ?_ rfl
  refine fn_of false [] [fb168] h101 1 Proofs.Tryz.f101 trivial ⟨⟨by kernel_rfl, by kernel_rfl, _, rfl, by kernel_rfl⟩, trivial⟩ (by kernel_rfl) rfl (by kernel_rfl) rfl rfl rfl ?_
  rw [vc101]
  try simp only [splitB_iff, -eq_self]
  refine ⟨⟨0, Nat.zero_le _, rfl, rfl, rfl, rfl, rfl, rfl, trivial⟩, fun g hg => ⟨fun hlt => ?_, fun hge => ?_⟩⟩
  · have hlt' : g < l.length := by simpa using hlt
    rw [getD_of hlt']
    have h1 := isum_bd (h.take g)
    have h2 := h _ (List.getElem_mem hlt')
    simp only [List.length_take] at h1
    refine ⟨by omega, by simp only [fits]; omega, by simp only [fits]; omega, g + 1, hlt', by omega, by simp, (isum_snoc l g hlt').symm, rfl, rfl, rfl, rfl, trivial⟩
  · have hge' : ¬ g < l.length := by simpa using hge
    rw [List.take_of_length_le (by omega)]
    have h1 := isum_bd h
    exact ⟨by omega, by decide, by decide, rfl, trivial⟩
theorem fn100 (i c : Int) (hi : 0 ≤ i ∧ i ≤ 1000000) (hc : 0 ≤ c ∧ c ≤ 1000000) : Fn P1 gl1 100 [iV i, iV c] (.val (aV 5 (tframe i c))) true := by
  refine Fn.flat ?_ rfl
  refine fn_of false [] [fb168] h0 1 Proofs.Tryz.f100 trivial ⟨⟨by kernel_rfl, by kernel_rfl, _, rfl, by kernel_rfl⟩, trivial⟩ (by kernel_rfl) rfl (by kernel_rfl) rfl rfl rfl ?_
  rw [vc100]
  try simp only [-eq_self]
  exact ⟨by simp only [fits]; omega, by simp only [fits]; omega, by simp only [fits]; omega, by simp only [fits]; omega, by omega, by decide, by decide, rfl, trivial⟩
theorem bor256 (x b : Int) (h0 : 0 ≤ x) (h1 : x * 256 + 255 ≤ 9223372036854775807) (hb : 0 ≤ b ∧ b ≤ 255) : bits .or .i64 (x * 256) b = 256 * x + b := by
  obtain ⟨n, rfl⟩ := Int.eq_ofNat_of_zero_le h0
  obtain ⟨m, rfl⟩ := Int.eq_ofNat_of_zero_le hb.1
  have hm : m < 256 := by omega
  show IntKind.wrap .i64 (((BitVec.ofInt 64 ((n : Int) * 256) ||| BitVec.ofInt 64 (m : Int)).toNat : Nat) : Int) = _
  have e1 : (BitVec.ofInt 64 ((n : Int) * 256) ||| BitVec.ofInt 64 (m : Int)).toNat = n * 256 + m := by
    rw [BitVec.toNat_or]
    have h2 : (BitVec.ofInt 64 ((n : Int) * 256)).toNat = n * 256 := by
      rw [BitVec.toNat_ofInt]; omega
    have h3 : (BitVec.ofInt 64 (m : Int)).toNat = m := by
      rw [BitVec.toNat_ofInt]; omega
    rw [h2, h3]
    have := Nat.two_pow_add_eq_or_of_lt (i := 8) (b := m) (by omega) n
    rw [show (2 : Nat) ^ 8 = 256 from rfl] at this
    rw [Nat.mul_comm n 256]
    exact this.symm
  rw [e1]
  have : IntKind.wrap .i64 ((n * 256 + m : Nat) : Int) = ((n * 256 + m : Nat) : Int) := fits_wrap (by simp only [fits]; omega)
  rw [this]
  omega
theorem number_bd : ∀ (n : Nat) (s : List Int), Bytes s → s.length ≤ n → 0 ≤ number s ∧ number s < 256 ^ n := by
  have key : ∀ (s : List Int) (x : Int) (n m : Nat), Bytes s → 0 ≤ x → x < 256 ^ m → s.length + m ≤ n → 0 ≤ s.foldl (fun x b => 256 * x + b) x ∧ s.foldl (fun x b => 256 * x + b) x < 256 ^ n := by
    intro s
    induction s with
    | nil =>
      intro x n m _ h0 h1 h2
      refine ⟨h0, Int.lt_of_lt_of_le h1 ?_⟩
      have e : ∀ k : Nat, (256 : Int) ^ k = ((256 ^ k : Nat) : Int) := fun k => by simp
      rw [e, e]
      exact Int.ofNat_le.2 (Nat.pow_le_pow_right (by decide) (by simpa using h2))
    | cons b s ih =>
      intro x n m hb h0 h1 h2
      have hb0 := hb b (by simp)
      refine ih (256 * x + b) n (m + 1) (fun y hy => hb y (by simp [hy])) (by omega) ?_ (by simp at h2; omega)
      rw [Int.pow_succ]
      omega
  intro n s hb hl
  exact key s 0 n 0 hb (by omega) (by decide) (by omega)
theorem number_snoc (xs : List Int) (g : Nat) (h : g < xs.length) : number (xs.take (g + 1)) = 256 * number (xs.take g) + xs[g] := by
  unfold number
  rw [List.take_succ_eq_append_getElem h, List.foldl_append]
  rfl
theorem fn173 (s : List Int) (hl : s.length ≤ 4) (hb : Bytes s) : Fn P1 gl1 173 [.one (.sl (.int .u8) s)] (.val (iV (number s))) true := by
  refine Fn.flat ?_ rfl
  refine fn_of false [] [] h173 0 Proofs.Tryz.f173 trivial trivial (by kernel_rfl) rfl (by kernel_rfl) rfl rfl rfl ?_
  rw [vc173]
  try simp only [splitB_iff, -eq_self]
  refine ⟨⟨0, Nat.zero_le _, rfl, rfl, rfl, rfl, trivial⟩, fun g hg => ⟨fun hlt => ?_, fun hge => ?_⟩⟩
  · have hlt' : g < s.length := by simpa using hlt
    rw [getD_of hlt']
    have h1 := number_bd 4 (s.take g) (fun y hy => hb y (List.mem_of_mem_take hy)) (by simp; omega)
    have h2 := hb _ (List.getElem_mem hlt')
    have e4 : (256 : Int) ^ 4 = 4294967296 := by decide
    rw [e4] at h1
    refine ⟨by omega, ⟨by decide, by decide, by simp only [fits]; omega⟩, by simp only [fits]; omega, by simp only [fits]; omega, g + 1, hlt', by omega, by simp, ?_, rfl, rfl, trivial⟩
    rw [bor256 _ _ h1.1 (by omega) h2, number_snoc s g hlt']
  · have hge' : ¬ g < s.length := by simpa using hge
    rw [List.take_of_length_le (by omega)]
    exact ⟨rfl, trivial⟩
theorem fn44 (xs ys : List Int) (hl : xs.length ≤ 1000000000) : Fn P1 gl1 44 [.one (.sl (.int .i64) xs), .one (.sl (.int .i64) ys)] (.val (bV (decide (xs = ys)))) true := by
  refine Fn.flat ?_ rfl
  refine fn_of false [] [] h44 0 Proofs.Tryz.f44 trivial trivial (by kernel_rfl) rfl (by kernel_rfl) rfl rfl rfl ?_
  rw [vc44]
  try simp only [splitB_iff, -eq_self]
  refine ⟨fun h => ⟨?_, trivial⟩, fun h => ⟨⟨0, ⟨Nat.zero_le _, rfl⟩, rfl, rfl, rfl, trivial⟩, fun g hg => ⟨fun hlt => ?_, fun hge => ⟨?_, trivial⟩⟩⟩⟩
  · symm
    rw [decide_eq_false_iff_not]
    rintro rfl
    simp at h
  · have hlt' : g < xs.length := by simpa using hlt
    have he : xs.length = ys.length := by simp at h; omega
    have hlt2 : g < ys.length := by omega
    rw [getD_of hlt', getD_of hlt2]
    refine ⟨by omega, by omega, fun h => ⟨?_, trivial⟩, fun h => ⟨by simp only [fits]; omega, g + 1, ⟨hlt', ?_⟩, by omega, by simp, rfl, rfl, trivial⟩⟩
    · symm
      rw [decide_eq_false_iff_not]
      rintro rfl
      simp at h
    · rw [List.take_succ_eq_append_getElem hlt', List.take_succ_eq_append_getElem hlt2, hg.2]
      simp at h
      rw [h]
  · have he : xs.length = ys.length := by simp at h; omega
    have hge' : ¬ g < xs.length := by simpa using hge
    have := hg.2
    rw [List.take_of_length_le (by omega), List.take_of_length_le (by omega)] at this
    simp [this]
end Go.Sx

namespace Go.Sx.U
def four (f : Int) : List Int := [f / 16777216 % 256, f / 65536 % 256, f / 256 % 256, f % 256]
def head (nm : List UInt8) (f : Int) : List Int := [82, 69, 69, 76] ++ [(nm.length : Int) % 256] ++ strNs nm ++ four f
def recs (l : List Int) : Nat → List Int
  | 0 => []
  | i + 1 => recs l i ++ tframe i (l.getD i 0)
def stream (nm : List UInt8) (f : Int) (l : List Int) : List Int := head nm f ++ recs l l.length ++ tlast l
end Go.Sx.U
namespace Go.Sx
open U
@[reducible] def rV (nm : List UInt8) (f : Int) (l : List Int) : V := .agg [.one (.str nm), .one (.int .i64 f), .one (.sl (.int .i64) l)]
def sp107 : FSpec := ⟨fun vs => match vs with
  | [.one (.bool b), .one (.int .i64 e)] => some ([], .val (iV (whenE b e)))
  | _ => none, true⟩
def sp109 : FSpec := ⟨fun vs => match vs with
  | [.one (.int .i64 n), .one (.int .i64 lo), .one (.int .i64 hi)] => some ([], .val (iV (within n lo hi)))
  | _ => none, true⟩
def sp106 : FSpec := ⟨fun vs => match vs with
  | [.one (.sl (.int .i64) xs)] => some ([List.length xs ≤ 1000000000], .val (iV (first xs)))
  | _ => none, true⟩
def sp108 : FSpec := ⟨fun vs => match vs with
  | [.one (.str l)] => some ([], .val (bV (isName l)))
  | _ => none, true⟩
def sp172 : FSpec := ⟨fun vs => match vs with
  | [.one (.str l)] => some ([], .val (bV (plain l)))
  | _ => none, true⟩
def sp100 : FSpec := ⟨fun vs => match vs with
  | [.one (.int .i64 i), .one (.int .i64 c)] => some ([(0 ≤ i ∧ i ≤ 1000000) ∧ (0 ≤ c ∧ c ≤ 1000000)], .val (aV 5 (tframe i c)))
  | _ => none, true⟩
def sp101 : FSpec := ⟨fun vs => match vs with
  | [.one (.sl (.int .i64) l)] => some ([List.length l ≤ 1000000 ∧ W16 l], .val (aV 5 (tlast l)))
  | _ => none, true⟩
def sp173 : FSpec := ⟨fun vs => match vs with
  | [.one (.sl (.int .u8) s)] => some ([List.length s ≤ 4 ∧ Bytes s], .val (iV (number s)))
  | _ => none, true⟩
def sp44 : FSpec := ⟨fun vs => match vs with
  | [.one (.sl (.int .i64) xs), .one (.sl (.int .i64) ys)] => some ([List.length xs ≤ 1000000000], .val (bV (decide (xs = ys))))
  | _ => none, true⟩
theorem so107_ : SpecOk P1 gl1 107 sp107 := by
  intro vs ps r h _
  simp only [sp107] at h
  split at h
  · cases h; exact fn107 _ _
  · cases h
theorem so107 : Sp1 107 sp107 := ⟨so107_, Proofs.Tryz.f107, _, by kernel_rfl, rfl, by kernel_rfl⟩
theorem so109_ : SpecOk P1 gl1 109 sp109 := by
  intro vs ps r h _
  simp only [sp109] at h
  split at h
  · cases h; exact fn109 _ _ _
  · cases h
theorem so109 : Sp1 109 sp109 := ⟨so109_, Proofs.Tryz.f109, _, by kernel_rfl, rfl, by kernel_rfl⟩
theorem so106_ : SpecOk P1 gl1 106 sp106 := by
  intro vs ps r h hp
  simp only [sp106] at h
  split at h
  · cases h; exact fn106 _ (hp _ (List.mem_singleton.2 rfl))
  · cases h
theorem so106 : Sp1 106 sp106 := ⟨so106_, Proofs.Tryz.f106, _, by kernel_rfl, rfl, by kernel_rfl⟩
theorem so108_ : SpecOk P1 gl1 108 sp108 := by
  intro vs ps r h _
  simp only [sp108] at h
  split at h
  · cases h; exact fn108 _
  · cases h
theorem so108 : Sp1 108 sp108 := ⟨so108_, Proofs.Tryz.f108, _, by kernel_rfl, rfl, by kernel_rfl⟩
theorem so172_ : SpecOk P1 gl1 172 sp172 := by
  intro vs ps r h _
  simp only [sp172] at h
  split at h
  · cases h; exact fn172 _
  · cases h
theorem so172 : Sp1 172 sp172 := ⟨so172_, Proofs.Tryz.f172, _, by kernel_rfl, rfl, by kernel_rfl⟩
theorem so100_ : SpecOk P1 gl1 100 sp100 := by
  intro vs ps r h hp
  simp only [sp100] at h
  split at h
  · cases h
    have := hp _ (List.mem_singleton.2 rfl)
    exact fn100 _ _ this.1 this.2
  · cases h
theorem so100 : Sp1 100 sp100 := ⟨so100_, Proofs.Tryz.f100, _, by kernel_rfl, rfl, by kernel_rfl⟩
theorem so101_ : SpecOk P1 gl1 101 sp101 := by
  intro vs ps r h hp
  simp only [sp101] at h
  split at h
  · cases h
    have := hp _ (List.mem_singleton.2 rfl)
    exact fn101 _ this.1 this.2
  · cases h
theorem so101 : Sp1 101 sp101 := ⟨so101_, Proofs.Tryz.f101, _, by kernel_rfl, rfl, by kernel_rfl⟩
theorem so173_ : SpecOk P1 gl1 173 sp173 := by
  intro vs ps r h hp
  simp only [sp173] at h
  split at h
  · cases h
    have := hp _ (List.mem_singleton.2 rfl)
    exact fn173 _ this.1 this.2
  · cases h
theorem so173 : Sp1 173 sp173 := ⟨so173_, Proofs.Tryz.f173, _, by kernel_rfl, rfl, by kernel_rfl⟩
theorem so44_ : SpecOk P1 gl1 44 sp44 := by
  intro vs ps r h hp
  simp only [sp44] at h
  split at h
  · cases h
    exact fn44 _ _ (hp _ (List.mem_singleton.2 rfl))
  · cases h
theorem so44 : Sp1 44 sp44 := ⟨so44_, Proofs.Tryz.f44, _, by kernel_rfl, rfl, by kernel_rfl⟩
@[reducible] noncomputable def fb112 : Nat × Func := (112, Proofs.Tryz.f112)
@[reducible] noncomputable def fb99 : Nat × Func := (99, Proofs.Tryz.f99)
@[reducible] noncomputable def fb110 : Nat × Func := (110, Proofs.Tryz.f110)
end Go.Sx

namespace Go.Sx
open U
theorem vc23 (nm : List UInt8) (f : Int) (l : List Int) : exF (env false [(107, sp107), (109, sp109), (106, sp106), (108, sp108)] [fb112, fb110, fb111]) h110 3 23 Proofs.Tryz.f23 [rV nm f l] (.val (iV (U.checkReel nm f l))) = (let q0 := (↑(List.length l) : Int); let q1 := (decide ((256 : Int) < q0)); let q2 := (10000000 : Int); let q3 := (q0 == (0 : Int)); (4 : Nat) ≤ (1000000000 : Nat) ∧ splitB (first [whenE (!isName nm) (8 : Int), within f (0 : Int) q2, whenE q3 (12 : Int), whenE q1 (5 : Int)] != (0 : Int)) (first [whenE (!isName nm) (8 : Int), within f (0 : Int) q2, whenE q3 (12 : Int), whenE q1 (5 : Int)] = checkReel nm f l ∧ True) ((∃ (g : Nat), Nat.le g (List.length l) ∧ (0 : Int) = (↑g : Int) ∧ q0 = q0 ∧ l = l ∧ List.map (fun (n : Int) => within n (0 : Int) (65535 : Int)) (List.take g l) = [] ∧ [whenE (!isName nm) (8 : Int), within f (0 : Int) q2, whenE q3 (12 : Int), whenE q1 (5 : Int)] = [whenE (!isName nm) (8 : Int), within f (0 : Int) q2, whenE q3 (12 : Int), whenE q1 (5 : Int)] ∧ nm = nm ∧ f = f ∧ l = l ∧ True) ∧ ∀ (g : Nat), let q4 := (List.take g l); Nat.le g (List.length l) → splitB (decide ((↑g : Int) < q0)) (((0 : Int) ≤ (↑g : Int) ∧ (↑g : Int) < q0) ∧ room (List.length (List.map (fun (n : Int) => within n (0 : Int) (65535 : Int)) q4) + (1 : Nat)) (8 : Nat) ∧ fits IntKind.i64 ((↑g : Int) + (1 : Int)) ∧ ∃ (g' : Nat), Nat.le g' (List.length l) ∧ List.length l - g' < List.length l - g ∧ (↑g : Int) + (1 : Int) = (↑g' : Int) ∧ q0 = q0 ∧ l = l ∧ List.map (fun (n : Int) => within n (0 : Int) (65535 : Int)) q4 ++ [within (List.getD l g (0 : Int)) (0 : Int) (65535 : Int)] = List.map (fun (n : Int) => within n (0 : Int) (65535 : Int)) (List.take g' l) ∧ [whenE (!isName nm) (8 : Int), within f (0 : Int) q2, whenE q3 (12 : Int), whenE q1 (5 : Int)] = [whenE (!isName nm) (8 : Int), within f (0 : Int) q2, whenE q3 (12 : Int), whenE q1 (5 : Int)] ∧ nm = nm ∧ f = f ∧ l = l ∧ True) (List.length (List.map (fun (n : Int) => within n (0 : Int) (65535 : Int)) q4) ≤ (1000000000 : Nat) ∧ splitB (first (List.map (fun (n : Int) => within n (0 : Int) (65535 : Int)) q4) != (0 : Int)) (first (List.map (fun (n : Int) => within n (0 : Int) (65535 : Int)) q4) = checkReel nm f l ∧ True) (fits IntKind.i64 (f + q0) ∧ whenE (decide (q2 < f + q0)) (4 : Int) = checkReel nm f l ∧ True)))) := by
  kernel_rfl
end Go.Sx

namespace Go.Sx
open U
theorem first_zero_iff : ∀ (l : List Int), first l = 0 ↔ ∀ x ∈ l, x = 0
  | [] => by simp [first]
  | x :: r => by
    have := first_zero_iff r
    by_cases h : x = 0 <;> simp [first, h, this]
theorem len_beq (l : List Int) : ((l.length : Int) == 0) = decide (l.length = 0) := by
  by_cases h : l.length = 0
  · simp [h]
  · simp only [h, decide_false]
    simp
    intro e
    simp [e] at h
theorem len_256 (l : List Int) : decide ((256 : Int) < (l.length : Int)) = decide (256 < l.length) := decide_eq_decide.2 (by omega)
theorem within_zero {n lo hi : Int} : within n lo hi = 0 ↔ lo ≤ n ∧ n ≤ hi := by
  unfold within
  split <;> constructor <;> intro h <;> first | omega | rfl
theorem whenE_zero {b : Bool} {e : Int} (he : e ≠ 0) : whenE b e = 0 ↔ b = false := by
  cases b <;> simp [whenE, he]
theorem fn23 (nm : List UInt8) (f : Int) (l : List Int) (hl : l.length ≤ 1000000) : Fn P1 gl1 23 [rV nm f l] (.val (iV (checkReel nm f l))) true := by
  refine Fn.flat ?_ rfl
  refine fn_of false [(107, sp107), (109, sp109), (106, sp106), (108, sp108)] [fb112, fb110, fb111] h110 3 Proofs.Tryz.f23 ⟨so107, so109, so106, so108, trivial⟩
    ⟨⟨by kernel_rfl, by kernel_rfl, _, rfl, by kernel_rfl⟩, ⟨by kernel_rfl, by kernel_rfl, _, rfl, by kernel_rfl⟩, ⟨by kernel_rfl, by kernel_rfl, _, rfl, by kernel_rfl⟩, trivial⟩ (by kernel_rfl) rfl (by kernel_rfl) rfl rfl rfl ?_
  rw [vc23]
  try simp only [splitB_iff, -eq_self]
  rw [len_beq, len_256]
  refine ⟨by decide, fun h => ?_, fun h => ?_⟩
  · have h' := h
    simp only [bne_iff_ne, ne_eq] at h'
    unfold checkReel
    rw [if_neg h']
    exact ⟨rfl, trivial⟩
  · have h' := h
    simp only [bne_eq_false_iff_eq] at h'
    refine ⟨⟨0, Nat.zero_le _, rfl, rfl, rfl, rfl, rfl, rfl, rfl, rfl, trivial⟩, fun g hg => ⟨fun hlt => ?_, fun hge => ?_⟩⟩
    · have hlt' : g < l.length := by simpa using hlt
      refine ⟨by omega, by simp only [room, List.length_map, List.length_take]; omega, by simp only [fits]; omega, g + 1, hlt', by omega, by simp, rfl, rfl, ?_, rfl, rfl, rfl, rfl, trivial⟩
      rw [getD_of hlt', List.take_succ_eq_append_getElem hlt', List.map_append]
      rfl
    · have hge' : ¬ g < l.length := by simpa using hge
      rw [List.take_of_length_le (by omega)]
      unfold checkReel
      rw [if_pos h']
      have hz := (first_zero_iff _).1 h'
      have hf := within_zero.1 (hz (within f 0 10000000) (by simp))
      refine ⟨by simp only [List.length_map]; omega, fun h2 => ?_, fun h2 => ?_⟩
      · have h2' : ¬ first (wf16 l) = 0 := by simpa [wf16] using h2
        rw [if_neg h2']
        exact ⟨rfl, trivial⟩
      · have h2' : first (wf16 l) = 0 := by simpa [wf16] using h2
        rw [if_pos h2']
        exact ⟨by simp only [fits]; omega, rfl, trivial⟩
def sp23 : FSpec := ⟨fun vs => match vs with
  | [.agg [.one (.str nm), .one (.int .i64 f), .one (.sl (.int .i64) l)]] => some ([List.length l ≤ 1000000], .val (iV (checkReel nm f l)))
  | _ => none, true⟩
theorem so23_ : SpecOk P1 gl1 23 sp23 := by
  intro vs ps r h hp
  simp only [sp23] at h
  split at h
  · cases h
    exact fn23 _ _ _ (hp _ (List.mem_singleton.2 rfl))
  · cases h
theorem so23 : Sp1 23 sp23 := ⟨so23_, Proofs.Tryz.f23, _, by kernel_rfl, rfl, by kernel_rfl⟩
structure ReelOk (nm : List UInt8) (f : Int) (l : List Int) : Prop where
  name : isName nm = true
  start : 0 ≤ f ∧ f ≤ 10000000
  ne : l.length ≠ 0
  len : l.length ≤ 256
  w : W16 l
  fin : f + (l.length : Int) ≤ 10000000
theorem checkReel_zero {nm : List UInt8} {f : Int} {l : List Int} : checkReel nm f l = 0 ↔ ReelOk nm f l := by
  unfold checkReel
  constructor
  · intro h
    split at h
    · rename_i h1
      split at h
      · rename_i h2
        have hz := (first_zero_iff _).1 h1
        have hw := (first_zero_iff _).1 h2
        refine ⟨by simpa using (whenE_zero (e := 8) (by decide)).1 (hz (whenE (!isName nm) 8) (by simp)), within_zero.1 (hz (within f 0 10000000) (by simp)), ?_, ?_, fun x hx => ?_, ?_⟩
        · simpa using (whenE_zero (e := 12) (by decide)).1 (hz (whenE (decide (l.length = 0)) 12) (by simp))
        · simpa using (whenE_zero (e := 5) (by decide)).1 (hz (whenE (decide (256 < l.length)) 5) (by simp))
        · exact within_zero.1 (hw _ (List.mem_map.2 ⟨x, hx, rfl⟩))
        · simpa using (whenE_zero (e := 4) (by decide)).1 h
      · rename_i h2; exact absurd h h2
    · rename_i h1; exact absurd h h1
  · rintro ⟨h1, h2, h3, h4, h5, h6⟩
    have e1 : whenE (!isName nm) 8 = 0 := by rw [h1]; rfl
    have e2 : within f 0 10000000 = 0 := within_zero.2 h2
    have e3 : whenE (decide (l.length = 0)) 12 = 0 := by rw [decide_eq_false h3]; rfl
    have e4 : whenE (decide (256 < l.length)) 5 = 0 := by rw [decide_eq_false (by omega)]; rfl
    have e5 : first (wf16 l) = 0 := (first_zero_iff _).2 fun x hx => by
      obtain ⟨y, hy, rfl⟩ := List.mem_map.1 hx
      exact within_zero.2 (h5 y hy)
    have e6 : whenE (decide (10000000 < f + (l.length : Int))) 4 = 0 := by rw [decide_eq_false (by omega)]; rfl
    rw [e1, e2, e3, e4, e5, e6]
    rfl
def h19 : Hints := ⟨fun f k s => match f, k with
  | 19, 9 => match listAs s 47 (.int .i64), listAs s 5 (.int .u8) with
    | some xs, some out => some ⟨Nat, fun i => ⟨[tI 49 i, (5, .val (.one (.own s.nx)))] ++ keepT [1, 47, 48] s.tm, (s.nx, some (.row (.int .u8) (out ++ recs xs i))) :: lessO s [5], s.nx + 1, s.lr⟩, fun i => i ≤ List.length xs, fun i => List.length xs - i⟩
    | _, _ => none
  | _, _ => none, 0⟩
end Go.Sx

namespace Go.Sx
open U
theorem vc19 (nm : List UInt8) (f : Int) (l : List Int) : exF (env false [(23, sp23), (100, sp100), (101, sp101)] [fb99]) h19 3 19 Proofs.Tryz.f19 [rV nm f l] (.tup [.one (.frs (.int .u8) (stream nm f l)), iV 0]) = (let q0 := (↑(List.length nm) : Int); let q1 := (16777216 : Int); let q9 := (List.length l); let q2 := (↑q9 : Int); let q3 := ((0 : Int) ≤ (0 : Int) ∧ (0 : Int) ≤ (5 : Int) ∧ (5 : Int) ≤ (5 : Int)); let q8 := (List.take (5 : Nat) (tlast l)); let q10 := ((0 : Int) ≤ (24 : Int) ∧ (24 : Nat) ≤ IntKind.bits IntKind.i64); let q11 := ((0 : Int) ≤ (16 : Int) ∧ (16 : Nat) ≤ IntKind.bits IntKind.i64); let q12 := ((0 : Int) ≤ (8 : Int) ∧ (8 : Nat) ≤ IntKind.bits IntKind.i64); List.length l ≤ (1000000 : Nat) ∧ splitB (checkReel nm f l != (0 : Int)) (stream nm f l = [] ∧ checkReel nm f l = (0 : Int) ∧ True) (((0 : Int) ≤ (0 : Int) ∧ (0 : Int) ≤ (4 : Int) ∧ (4 : Int) ≤ (4 : Int)) ∧ ∀ (b : Bool), (b = true → (4 : Nat) = (0 : Nat)) → splitB (b != false) (room (1 : Nat) (1 : Nat) ∧ room ((1 : Nat) + List.length nm) (1 : Nat) ∧ q10 ∧ q11 ∧ q12 ∧ room (List.length ([q0 % (256 : Int)] ++ strNs nm) + (4 : Nat)) (1 : Nat) ∧ (∃ (g : Nat), Nat.le g q9 ∧ (0 : Int) = (↑g : Int) ∧ q2 = q2 ∧ l = l ∧ [q0 % (256 : Int)] ++ strNs nm ++ [f / q1 % (256 : Int), f / (65536 : Int) % (256 : Int), f / (256 : Int) % (256 : Int), f % (256 : Int)] = [q0 % (256 : Int)] ++ strNs nm ++ [f / q1 % (256 : Int), f / (65536 : Int) % (256 : Int), f / (256 : Int) % (256 : Int), f % (256 : Int)] ++ recs l g ∧ [f / q1 % (256 : Int), f / (65536 : Int) % (256 : Int), f / (256 : Int) % (256 : Int), f % (256 : Int)] = [f / q1 % (256 : Int), f / (65536 : Int) % (256 : Int), f / (256 : Int) % (256 : Int), f % (256 : Int)] ∧ [q0 % (256 : Int)] = [q0 % (256 : Int)] ∧ nm = nm ∧ f = f ∧ l = l ∧ True) ∧ ∀ (g : Nat), let q5 := ([q0 % (256 : Int)] ++ strNs nm ++ [f / q1 % (256 : Int), f / (65536 : Int) % (256 : Int), f / (256 : Int) % (256 : Int), f % (256 : Int)] ++ recs l g); let q6 := (tframe (↑g : Int) (List.getD l g (0 : Int))); Nat.le g q9 → splitB (decide ((↑g : Int) < q2)) (((0 : Int) ≤ (↑g : Int) ∧ (↑g : Int) < q2) ∧ (((0 : Int) ≤ (↑g : Int) ∧ (↑g : Int) ≤ (1000000 : Int)) ∧ (0 : Int) ≤ List.getD l g (0 : Int) ∧ List.getD l g (0 : Int) ≤ (1000000 : Int)) ∧ q3 ∧ List.length (List.take (5 : Nat) q6) = (5 : Nat) ∧ room (List.length q5 + List.length (List.take (5 : Nat) q6)) (1 : Nat) ∧ fits IntKind.i64 ((↑g : Int) + (1 : Int)) ∧ ∃ (g' : Nat), Nat.le g' q9 ∧ List.length l - g' < List.length l - g ∧ (↑g : Int) + (1 : Int) = (↑g' : Int) ∧ q2 = q2 ∧ l = l ∧ [q0 % (256 : Int)] ++ strNs nm ++ [f / q1 % (256 : Int), f / (65536 : Int) % (256 : Int), f / (256 : Int) % (256 : Int), f % (256 : Int)] ++ recs l g ++ List.take (5 : Nat) q6 = [q0 % (256 : Int)] ++ strNs nm ++ [f / q1 % (256 : Int), f / (65536 : Int) % (256 : Int), f / (256 : Int) % (256 : Int), f % (256 : Int)] ++ recs l g' ∧ [f / q1 % (256 : Int), f / (65536 : Int) % (256 : Int), f / (256 : Int) % (256 : Int), f % (256 : Int)] = [f / q1 % (256 : Int), f / (65536 : Int) % (256 : Int), f / (256 : Int) % (256 : Int), f % (256 : Int)] ∧ [q0 % (256 : Int)] = [q0 % (256 : Int)] ∧ nm = nm ∧ f = f ∧ l = l ∧ True) ((List.length l ≤ (1000000 : Nat) ∧ ∀ (x : Int), x ∈ l → (0 : Int) ≤ x ∧ x ≤ (65535 : Int)) ∧ q3 ∧ List.length q8 = (5 : Nat) ∧ room (List.length q5 + List.length q8) (1 : Nat) ∧ [q0 % (256 : Int)] ++ strNs nm ++ [f / q1 % (256 : Int), f / (65536 : Int) % (256 : Int), f / (256 : Int) % (256 : Int), f % (256 : Int)] ++ recs l g ++ List.take (5 : Nat) (tlast l) = stream nm f l ∧ (0 : Int) = (0 : Int) ∧ True)) (room (4 : Nat) (1 : Nat) ∧ room (5 : Nat) (1 : Nat) ∧ room (List.length ([(82 : Int), (69 : Int), (69 : Int), (76 : Int)] ++ [q0 % (256 : Int)]) + List.length nm) (1 : Nat) ∧ q10 ∧ q11 ∧ q12 ∧ room (List.length ([(82 : Int), (69 : Int), (69 : Int), (76 : Int)] ++ [q0 % (256 : Int)] ++ strNs nm) + (4 : Nat)) (1 : Nat) ∧ (∃ (g : Nat), Nat.le g q9 ∧ (0 : Int) = (↑g : Int) ∧ q2 = q2 ∧ l = l ∧ [(82 : Int), (69 : Int), (69 : Int), (76 : Int)] ++ [q0 % (256 : Int)] ++ strNs nm ++ [f / q1 % (256 : Int), f / (65536 : Int) % (256 : Int), f / (256 : Int) % (256 : Int), f % (256 : Int)] = [(82 : Int), (69 : Int), (69 : Int), (76 : Int)] ++ [q0 % (256 : Int)] ++ strNs nm ++ [f / q1 % (256 : Int), f / (65536 : Int) % (256 : Int), f / (256 : Int) % (256 : Int), f % (256 : Int)] ++ recs l g ∧ [f / q1 % (256 : Int), f / (65536 : Int) % (256 : Int), f / (256 : Int) % (256 : Int), f % (256 : Int)] = [f / q1 % (256 : Int), f / (65536 : Int) % (256 : Int), f / (256 : Int) % (256 : Int), f % (256 : Int)] ∧ [q0 % (256 : Int)] = [q0 % (256 : Int)] ∧ nm = nm ∧ f = f ∧ l = l ∧ True) ∧ ∀ (g : Nat), let q4 := ([(82 : Int), (69 : Int), (69 : Int), (76 : Int)] ++ [q0 % (256 : Int)] ++ strNs nm ++ [f / q1 % (256 : Int), f / (65536 : Int) % (256 : Int), f / (256 : Int) % (256 : Int), f % (256 : Int)] ++ recs l g); let q7 := (tframe (↑g : Int) (List.getD l g (0 : Int))); Nat.le g q9 → splitB (decide ((↑g : Int) < q2)) (((0 : Int) ≤ (↑g : Int) ∧ (↑g : Int) < q2) ∧ (((0 : Int) ≤ (↑g : Int) ∧ (↑g : Int) ≤ (1000000 : Int)) ∧ (0 : Int) ≤ List.getD l g (0 : Int) ∧ List.getD l g (0 : Int) ≤ (1000000 : Int)) ∧ q3 ∧ List.length (List.take (5 : Nat) q7) = (5 : Nat) ∧ room (List.length q4 + List.length (List.take (5 : Nat) q7)) (1 : Nat) ∧ fits IntKind.i64 ((↑g : Int) + (1 : Int)) ∧ ∃ (g' : Nat), Nat.le g' q9 ∧ List.length l - g' < List.length l - g ∧ (↑g : Int) + (1 : Int) = (↑g' : Int) ∧ q2 = q2 ∧ l = l ∧ [(82 : Int), (69 : Int), (69 : Int), (76 : Int)] ++ [q0 % (256 : Int)] ++ strNs nm ++ [f / q1 % (256 : Int), f / (65536 : Int) % (256 : Int), f / (256 : Int) % (256 : Int), f % (256 : Int)] ++ recs l g ++ List.take (5 : Nat) q7 = [(82 : Int), (69 : Int), (69 : Int), (76 : Int)] ++ [q0 % (256 : Int)] ++ strNs nm ++ [f / q1 % (256 : Int), f / (65536 : Int) % (256 : Int), f / (256 : Int) % (256 : Int), f % (256 : Int)] ++ recs l g' ∧ [f / q1 % (256 : Int), f / (65536 : Int) % (256 : Int), f / (256 : Int) % (256 : Int), f % (256 : Int)] = [f / q1 % (256 : Int), f / (65536 : Int) % (256 : Int), f / (256 : Int) % (256 : Int), f % (256 : Int)] ∧ [q0 % (256 : Int)] = [q0 % (256 : Int)] ∧ nm = nm ∧ f = f ∧ l = l ∧ True) ((List.length l ≤ (1000000 : Nat) ∧ ∀ (x : Int), x ∈ l → (0 : Int) ≤ x ∧ x ≤ (65535 : Int)) ∧ q3 ∧ List.length q8 = (5 : Nat) ∧ room (List.length q4 + List.length q8) (1 : Nat) ∧ [(82 : Int), (69 : Int), (69 : Int), (76 : Int)] ++ [q0 % (256 : Int)] ++ strNs nm ++ [f / q1 % (256 : Int), f / (65536 : Int) % (256 : Int), f / (256 : Int) % (256 : Int), f % (256 : Int)] ++ recs l g ++ List.take (5 : Nat) (tlast l) = stream nm f l ∧ (0 : Int) = (0 : Int) ∧ True)))) := by
  kernel_rfl
end Go.Sx

namespace Go.Sx
open U
theorem tframe_len (i c : Int) : (tframe i c).length = 5 := rfl
theorem tlast_len (l : List Int) : (tlast l).length = 5 := rfl
theorem recs_len (l : List Int) : ∀ n, (recs l n).length = 5 * n
  | 0 => rfl
  | n + 1 => by simp only [recs, List.length_append, recs_len l n, tframe_len]; omega
theorem strNs_len (l : List UInt8) : (strNs l).length = l.length := by simp [strNs]
theorem isName_len {nm : List UInt8} (h : isName nm = true) : nm.length ≤ 24 ∧ nm ≠ [] := by
  unfold isName at h
  simp only [Bool.and_eq_true, decide_eq_true_eq] at h
  exact ⟨h.2.2, h.2.1⟩
theorem fn19 (nm : List UInt8) (f : Int) (l : List Int) (h : ReelOk nm f l) : Fn P1 gl1 19 [rV nm f l] (.tup [.one (.frs (.int .u8) (stream nm f l)), iV 0]) true := by
  refine Fn.flat ?_ rfl
  refine fn_of false [(23, sp23), (100, sp100), (101, sp101)] [fb99] h19 3 Proofs.Tryz.f19 ⟨so23, so100, so101, trivial⟩ ⟨⟨by kernel_rfl, by kernel_rfl, _, rfl, by kernel_rfl⟩, trivial⟩ (by kernel_rfl) rfl (by kernel_rfl) rfl rfl rfl ?_
  rw [vc19]
  try simp only [splitB_iff, -eq_self]
  have hlen := h.len
  have hz : checkReel nm f l = 0 := checkReel_zero.2 h
  have hnm := isName_len h.name
  refine ⟨by omega, fun h1 => ?_, fun _ => ⟨by decide, fun b hb => ⟨fun h1 => ?_, fun _ => ?_⟩⟩⟩
  · rw [hz] at h1; cases h1
  · cases b with
    | true => exact absurd (hb rfl) (by decide)
    | false => cases h1
  · have hr : ∀ g, g ≤ l.length → ([(82 : Int), 69, 69, 76] ++ [(nm.length : Int) % 256] ++ strNs nm ++ [f / 16777216 % 256, f / 65536 % 256, f / 256 % 256, f % 256] ++ recs l g).length ≤ 2000 := by
      intro g hg
      simp only [List.length_append, recs_len, strNs_len, List.length_cons, List.length_nil]
      omega
    refine ⟨by simp only [room]; omega, by simp only [room]; omega, ?_, by decide, by decide, by decide, ?_, ⟨0, Nat.zero_le _, rfl, rfl, rfl, by simp [recs], rfl, rfl, rfl, rfl, rfl, trivial⟩, fun g hg => ⟨fun hlt => ?_, fun hge => ?_⟩⟩
    · simp only [room, List.length_append, List.length_cons, List.length_nil]; omega
    · simp only [room, List.length_append, List.length_cons, List.length_nil, strNs_len]; omega
    · have hlt' : g < l.length := by simpa using hlt
      have hx := h.w _ (List.getElem_mem hlt')
      have h5 := hr g hg
      rw [getD_of hlt']
      have e5 : List.take 5 (tframe (g : Int) l[g]) = tframe (g : Int) l[g] := rfl
      rw [e5]
      refine ⟨by omega, by omega, by decide, rfl, ?_, by simp only [fits]; omega, g + 1, hlt', by omega, by simp, rfl, rfl, ?_, rfl, rfl, rfl, rfl, rfl, trivial⟩
      · simp only [room, tframe_len]; omega
      · simp only [recs, getD_of hlt', List.append_assoc]
    · have hge' : ¬ g < l.length := by simpa using hge
      have e : g = l.length := by have : g ≤ l.length := hg; omega
      subst e
      have h5 := hr l.length hg
      have e5 : List.take 5 (tlast l) = tlast l := rfl
      rw [e5]
      refine ⟨⟨by omega, h.w⟩, by decide, rfl, ?_, rfl, rfl, trivial⟩
      simp only [room, tlast_len]; omega
def sp19 : FSpec := ⟨fun vs => match vs with
  | [.agg [.one (.str nm), .one (.int .i64 f), .one (.sl (.int .i64) l)]] => some ([ReelOk nm f l], .tup [.one (.frs (.int .u8) (stream nm f l)), iV 0])
  | _ => none, true⟩
theorem so19_ : SpecOk P1 gl1 19 sp19 := by
  intro vs ps r h hp
  simp only [sp19] at h
  split at h
  · cases h
    exact fn19 _ _ _ (hp _ (List.mem_singleton.2 rfl))
  · cases h
theorem so19 : Sp1 19 sp19 := ⟨so19_, Proofs.Tryz.f19, _, by kernel_rfl, rfl, by kernel_rfl⟩
end Go.Sx

namespace Go.Sx.U
def rdBegin (s : List Int) : Int × List UInt8 × Int × List Int :=
  if s.length < 4 then (28, [], 0, []) else
  if s.take 4 = [82, 69, 69, 76] then
    if (s.drop 4).length < 1 then (28, [], 0, []) else
    if ((s.drop 4).drop 1).length < ((s.drop 4).getD 0 0).toNat then (28, [], 0, []) else
    if plain (bytesOf (((s.drop 4).drop 1).take ((s.drop 4).getD 0 0).toNat)) && isName (bytesOf (((s.drop 4).drop 1).take ((s.drop 4).getD 0 0).toNat)) then
      if (((s.drop 4).drop 1).drop ((s.drop 4).getD 0 0).toNat).length < 4 then (28, [], 0, []) else
      (whenE (decide (10000000 < number ((((s.drop 4).drop 1).drop ((s.drop 4).getD 0 0).toNat).take 4))) 1, bytesOf (((s.drop 4).drop 1).take ((s.drop 4).getD 0 0).toNat),
        number ((((s.drop 4).drop 1).drop ((s.drop 4).getD 0 0).toNat).take 4), (((s.drop 4).drop 1).drop ((s.drop 4).getD 0 0).toNat).drop 4)
    else (1, [], 0, [])
  else (1, [], 0, [])
def chk (r : List Int) (j : Nat) : Int := number (((r.drop (5 * j)).drop 1).take 2)
def chks (r : List Int) (i : Nat) : List Int := (List.range i).map (chk r)
def recErr (k : Int) (n : Nat) : Int := first [whenE (!(k == 69) && (k != 70)) 1, whenE (!(k == 69) && ((n : Int) == 256)) 5]
def rdRec (s : List Int) (l : List Int) : Int × Bool × Int :=
  if s.length < 1 then (28, false, 0) else
  if recErr (s.getD 0 0) l.length = 0 then
    if s.length < 5 then (28, false, 0) else
    (whenE (!decide (s.take 5 = if (s.getD 0 0 == 69) = true then tlast l else tframe l.length (number ((s.drop 1).take 2)))) 27, s.getD 0 0 == 69, number ((s.drop 1).take 2))
  else (recErr (s.getD 0 0) l.length, false, 0)
def rdAll : Nat → List Int → List Int → Int × List Int × List Int
  | 0, s, l => (28, l, s)
  | n + 1, s, l => if (rdRec s l).1 = 0 then (if (rdRec s l).2.1 then (0, l, s.drop 5) else rdAll n (s.drop 5) (l ++ [(rdRec s l).2.2])) else ((rdRec s l).1, l, s)
def readS (s : List Int) : (List UInt8 × Int × List Int) × Int :=
  if (rdBegin s).1 = 0 then
    if (rdAll (s.length + 1) (rdBegin s).2.2.2 []).1 = 0 then
      if first [whenE (decide (0 < (rdAll (s.length + 1) (rdBegin s).2.2.2 []).2.2.length)) 23, checkReel (rdBegin s).2.1 (rdBegin s).2.2.1 (rdAll (s.length + 1) (rdBegin s).2.2.2 []).2.1] = 0 then
        (((rdBegin s).2.1, (rdBegin s).2.2.1, (rdAll (s.length + 1) (rdBegin s).2.2.2 []).2.1), 0)
      else (([], 0, []), first [whenE (decide (0 < (rdAll (s.length + 1) (rdBegin s).2.2.2 []).2.2.length)) 23, checkReel (rdBegin s).2.1 (rdBegin s).2.2.1 (rdAll (s.length + 1) (rdBegin s).2.2.2 []).2.1])
    else (([], 0, []), (rdAll (s.length + 1) (rdBegin s).2.2.2 []).1)
  else (([], 0, []), (rdBegin s).1)
def rbAll (f : Int) : Nat → List Int → List Int → List Int
  | 0, _, l => l
  | n + 1, s, l => if (rdRec s l).1 = 0 ∧ (rdRec s l).2.1 = false ∧ f + (l.length : Int) < 10000000 then rbAll f n (s.drop 5) (l ++ [(rdRec s l).2.2]) else l
def rebuilt (s : List Int) : (List UInt8 × Int × List Int) × Bool × Int :=
  if (rdBegin s).1 = 0 then
    if (rbAll (rdBegin s).2.2.1 (s.length + 1) (rdBegin s).2.2.2 []).length = 0 then (([], 0, []), false, 12)
    else (((rdBegin s).2.1, (rdBegin s).2.2.1, rbAll (rdBegin s).2.2.1 (s.length + 1) (rdBegin s).2.2.2 []), decide ((readS s).2 = 0), 0)
  else (([], 0, []), false, (rdBegin s).1)
end Go.Sx.U
namespace Go.Sx
open U
def boxAt (s : St) (t : Nat) : Option (Nat × List Ch) := match lookT s.tm t with
  | some (.val (.one (.ptr id 0))) => match lookO s.ob id with
    | some (.box cs) => some (id, cs)
    | _ => none
  | _ => none
def hRecs (tr tl t2 : Nat) (keep : List Nat) (q : List Int → List UInt8 → Int → Nat → Prop) (s : St) : Option LInv := match boxAt s tr, boxAt s tl, boxAt s t2 with
  | some (ir, [.one (.sl (.int .u8) r)]), some (il, [.one (.str nm), .one (.int .i64 f), _]), some (i2, c2) =>
    some ⟨Nat, fun i => ⟨keepT (tr :: tl :: t2 :: keep) s.tm, [(i2, some (.box c2)), (ir, some (.box [.one (.sl (.int .u8) (List.drop (5 * i) r))])), (il, some (.box [.one (.str nm), .one (.int .i64 f), .one (.own s.nx)])), (s.nx, some (.row (.int .i64) (chks r i)))], s.nx + 1, s.lr⟩,
      fun i => 5 * i ≤ List.length r ∧ i ≤ 256 ∧ q r nm f i, fun i => List.length r - 5 * i⟩
  | _, _, _ => none
def rdAt (r : List Int) (_ : List UInt8) (_ : Int) (i : Nat) : Prop := ∀ n, rdAll (n + i) r [] = rdAll n (List.drop (5 * i) r) (chks r i)
def rbAt (r : List Int) (_ : List UInt8) (f : Int) (i : Nat) : Prop := ∀ n, rbAll f (n + i) r [] = rbAll f n (List.drop (5 * i) r) (chks r i)
def h27 : Hints := ⟨fun f k s => match f, k with
  | 27, 5 => hRecs 4 5 2 [] rdAt s
  | _, _ => none, 0⟩
def h29 : Hints := ⟨fun f k s => match f, k with
  | 29, 5 => hRecs 5 6 2 [0] rbAt s
  | _, _ => none, 0⟩
@[reducible] noncomputable def fb116 : Nat × Func := (116, Proofs.Tryz.f116)
@[reducible] noncomputable def fb117 : Nat × Func := (117, Proofs.Tryz.f117)
@[reducible] noncomputable def fb171 : Nat × Func := (171, Proofs.Tryz.f171)
end Go.Sx

namespace Go.Sx
open U
theorem vc27 (s : List Int) : exFr (env false [(23, sp23), (100, sp100), (101, sp101), (106, sp106), (107, sp107), (108, sp108), (172, sp172), (173, sp173)] [fb116, fb117, fb171]) h27 3 27 Proofs.Tryz.f27 [.one (.sl (.int .u8) s)] (.tup [rV (U.readS s).1.1 (U.readS s).1.2.1 (U.readS s).1.2.2, iV (U.readS s).2]) = (let q8 := (List.drop (4 : Nat) s); let q14 := (List.take (1 : Nat) q8); let q29 := (List.getD q14 (0 : Nat) (0 : Int)); let q0 := (List.drop (Int.toNat q29) (List.drop (1 : Nat) q8)); let q2 := (List.take (Int.toNat q29) (List.drop (1 : Nat) q8)); let q3 := (List.drop (4 : Nat) q0); let q5 := ([] = (readS s).1.1 ∧ (0 : Int) = (readS s).1.2.1 ∧ (readS s).1.2.2 = [] ∧ (28 : Int) = (readS s).2 ∧ True); let q10 := (List.take (4 : Nat) q0); let q13 := (↑(List.length (List.drop (1 : Nat) q8)) : Int); let q17 := ([] = (readS s).1.1 ∧ (0 : Int) = (readS s).1.2.1 ∧ (readS s).1.2.2 = [] ∧ (1 : Int) = (readS s).2 ∧ True); let q18 := (Ty.arr (5 : Nat) (Ty.int IntKind.u8)); let q22 := (↑(List.length q8) : Int); let q23 := (↑(List.length q0) : Int); let q25 := (↑(List.length s) : Int); splitB (decide (q25 < (4 : Int))) q5 (((0 : Int) ≤ (0 : Int) ∧ (0 : Int) ≤ (4 : Int) ∧ (4 : Int) ≤ q25) ∧ ((0 : Int) ≤ (4 : Int) ∧ (4 : Int) ≤ q25 ∧ q25 ≤ q25) ∧ (4 : Nat) ≤ List.length (List.take (4 : Nat) s) ∧ splitB (!eqT (Ty.arr (4 : Nat) (Ty.int IntKind.u8)) (List.take (4 : Nat) (List.take (4 : Nat) s)) [(82 : Int), (69 : Int), (69 : Int), (76 : Int)]) q17 (splitB (decide (q22 < (1 : Int))) q5 (((0 : Int) ≤ (0 : Int) ∧ (0 : Int) ≤ (1 : Int) ∧ (1 : Int) ≤ q22) ∧ ((0 : Int) ≤ (1 : Int) ∧ (1 : Int) ≤ q22 ∧ q22 ≤ q22) ∧ ((0 : Int) ≤ (0 : Int) ∧ (0 : Int) < (↑(List.length q14) : Int)) ∧ fits IntKind.i64 q29 ∧ splitB (decide (q13 < List.getD q14 (0 : Nat) (0 : Int))) q5 (((0 : Int) ≤ (0 : Int) ∧ (0 : Int) ≤ List.getD q14 (0 : Nat) (0 : Int) ∧ List.getD q14 (0 : Nat) (0 : Int) ≤ q13) ∧ ((0 : Int) ≤ List.getD q14 (0 : Nat) (0 : Int) ∧ List.getD q14 (0 : Nat) (0 : Int) ≤ q13 ∧ q13 ≤ q13) ∧ splitB (bif !plain (bytesOf q2) then true else !isName (bytesOf q2)) q17 (splitB (decide (q23 < (4 : Int))) q5 (((0 : Int) ≤ (0 : Int) ∧ (0 : Int) ≤ (4 : Int) ∧ (4 : Int) ≤ q23) ∧ ((0 : Int) ≤ (4 : Int) ∧ (4 : Int) ≤ q23 ∧ q23 ≤ q23) ∧ (List.length q10 ≤ (4 : Nat) ∧ Bytes q10) ∧ splitB (whenE (decide ((10000000 : Int) < number q10)) (1 : Int) != (0 : Int)) ([] = (readS s).1.1 ∧ (0 : Int) = (readS s).1.2.1 ∧ (readS s).1.2.2 = [] ∧ whenE (decide ((10000000 : Int) < number q10)) (1 : Int) = (readS s).2 ∧ True) ((∃ (g : Nat), ((5 : Nat) * g ≤ List.length q3 ∧ g ≤ (256 : Nat) ∧ ∀ (n : Nat), rdAll (n + g) q3 [] = rdAll n (List.drop ((5 : Nat) * g) q3) (chks q3 g)) ∧ nilB = [] ∧ (0 : Int) = (0 : Int) ∧ List.drop (4 : Nat) q0 = List.drop ((5 : Nat) * g) q3 ∧ bytesOf q2 = bytesOf q2 ∧ number q10 = number q10 ∧ chks q3 g = [] ∧ True) ∧ ∀ (g : Nat), let q1 := (List.drop ((5 : Nat) * g) q3); let q12 := (List.drop (1 : Nat) q1); let q27 := (decide ((0 : Int) < (↑(List.length (List.drop (4 : Nat) q12)) : Int))); let q4 := (List.length (chks q3 g) ≤ (1000000 : Nat) ∧ (2 : Nat) ≤ (1000000000 : Nat) ∧ splitB (first [whenE q27 (23 : Int), checkReel (bytesOf q2) (number q10) (chks q3 g)] != (0 : Int)) ([] = (readS s).1.1 ∧ (0 : Int) = (readS s).1.2.1 ∧ (readS s).1.2.2 = [] ∧ first [whenE q27 (23 : Int), checkReel (bytesOf q2) (number q10) (chks q3 g)] = (readS s).2 ∧ True) (bytesOf q2 = (readS s).1.1 ∧ number q10 = (readS s).1.2.1 ∧ chks q3 g = (readS s).1.2.2 ∧ (0 : Int) = (readS s).2 ∧ True)); let q11 := (List.take (1 : Nat) q1); let q6 := ([List.getD q11 (0 : Nat) (0 : Int)] ++ List.take (4 : Nat) q12); let q31 := (List.take (4 : Nat) q12); let q7 := (List.take (2 : Nat) q31); let q16 := (bif !List.getD q11 (0 : Nat) (0 : Int) == (69 : Int) then List.getD q11 (0 : Nat) (0 : Int) != (70 : Int) else false); let q15 := (↑(List.length (chks q3 g)) : Int); let q21 := (bif !List.getD q11 (0 : Nat) (0 : Int) == (69 : Int) then q15 == (256 : Int) else false); let q9 := (first [whenE q16 (1 : Int), whenE q21 (5 : Int)] != (0 : Int)); let q19 := (List.getD q11 (0 : Nat) (0 : Int) == (69 : Int)); let q20 := (↑(List.length q12) : Int); let q24 := (↑(List.length q1) : Int); let q26 := (List.take (5 : Nat) q6); let q28 := (List.length (chks q3 g) + (1 : Nat)); let q30 := ((0 : Int) ≤ (0 : Int) ∧ (0 : Int) < (↑(List.length q11) : Int)); ((5 : Nat) * g ≤ List.length q3 ∧ g ≤ (256 : Nat) ∧ ∀ (n : Nat), rdAll (n + g) q3 [] = rdAll n q1 (chks q3 g)) → splitB (decide (q24 < (1 : Int))) q5 (((0 : Int) ≤ (0 : Int) ∧ (0 : Int) ≤ (1 : Int) ∧ (1 : Int) ≤ q24) ∧ ((0 : Int) ≤ (1 : Int) ∧ (1 : Int) ≤ q24 ∧ q24 ≤ q24) ∧ q30 ∧ ((!List.getD q11 (0 : Nat) (0 : Int) == (69 : Int)) = true → (0 : Int) ≤ (0 : Int) ∧ (0 : Int) < (↑(List.length q11) : Int)) ∧ (2 : Nat) ≤ (1000000000 : Nat) ∧ splitB q9 (splitB q9 ([] = (readS s).1.1 ∧ (0 : Int) = (readS s).1.2.1 ∧ (readS s).1.2.2 = [] ∧ first [whenE q16 (1 : Int), whenE q21 (5 : Int)] = (readS s).2 ∧ True) (room q28 (8 : Nat) ∧ ∃ (g' : Nat), ((5 : Nat) * g' ≤ List.length q3 ∧ g' ≤ (256 : Nat) ∧ ∀ (n : Nat), rdAll (n + g') q3 [] = rdAll n (List.drop ((5 : Nat) * g') q3) (chks q3 g')) ∧ List.length q3 - (5 : Nat) * g' < List.length q3 - (5 : Nat) * g ∧ nilB = [] ∧ (0 : Int) = (0 : Int) ∧ List.drop (1 : Nat) q1 = List.drop ((5 : Nat) * g') q3 ∧ bytesOf q2 = bytesOf q2 ∧ number q10 = number q10 ∧ chks q3 g ++ [(0 : Int)] = chks q3 g' ∧ True)) (splitB (decide (q20 < (4 : Int))) q5 (((0 : Int) ≤ (0 : Int) ∧ (0 : Int) ≤ (4 : Int) ∧ (4 : Int) ≤ q20) ∧ ((0 : Int) ≤ (4 : Int) ∧ (4 : Int) ≤ q20 ∧ q20 ≤ q20) ∧ q30 ∧ room ((1 : Nat) + List.length q31) (1 : Nat) ∧ (5 : Nat) ≤ List.length q6 ∧ List.length q26 = (5 : Nat) ∧ ((0 : Int) ≤ (0 : Int) ∧ (0 : Int) ≤ (2 : Int) ∧ (2 : Int) ≤ (↑(List.length q31) : Int)) ∧ (List.length q7 ≤ (4 : Nat) ∧ Bytes q7) ∧ (((0 : Int) ≤ q15 ∧ q15 ≤ (1000000 : Int)) ∧ (0 : Int) ≤ number q7 ∧ number q7 ≤ (1000000 : Int)) ∧ splitB q19 ((List.length (chks q3 g) ≤ (1000000 : Nat) ∧ ∀ (x : Int), x ∈ chks q3 g → (0 : Int) ≤ x ∧ x ≤ (65535 : Int)) ∧ splitB (whenE (!eqT q18 q26 (tlast (chks q3 g))) (27 : Int) != (0 : Int)) ([] = (readS s).1.1 ∧ (0 : Int) = (readS s).1.2.1 ∧ (readS s).1.2.2 = [] ∧ whenE (!eqT q18 q26 (tlast (chks q3 g))) (27 : Int) = (readS s).2 ∧ True) (splitB q19 q4 (room q28 (8 : Nat) ∧ ∃ (g' : Nat), ((5 : Nat) * g' ≤ List.length q3 ∧ g' ≤ (256 : Nat) ∧ ∀ (n : Nat), rdAll (n + g') q3 [] = rdAll n (List.drop ((5 : Nat) * g') q3) (chks q3 g')) ∧ List.length q3 - (5 : Nat) * g' < List.length q3 - (5 : Nat) * g ∧ nilB = [] ∧ (0 : Int) = (0 : Int) ∧ List.drop (4 : Nat) q12 = List.drop ((5 : Nat) * g') q3 ∧ bytesOf q2 = bytesOf q2 ∧ number q10 = number q10 ∧ chks q3 g ++ [number q7] = chks q3 g' ∧ True))) (splitB (whenE (!eqT q18 q26 (tframe q15 (number q7))) (27 : Int) != (0 : Int)) ([] = (readS s).1.1 ∧ (0 : Int) = (readS s).1.2.1 ∧ (readS s).1.2.2 = [] ∧ whenE (!eqT q18 q26 (tframe q15 (number q7))) (27 : Int) = (readS s).2 ∧ True) (splitB q19 q4 (room q28 (8 : Nat) ∧ ∃ (g' : Nat), ((5 : Nat) * g' ≤ List.length q3 ∧ g' ≤ (256 : Nat) ∧ ∀ (n : Nat), rdAll (n + g') q3 [] = rdAll n (List.drop ((5 : Nat) * g') q3) (chks q3 g')) ∧ List.length q3 - (5 : Nat) * g' < List.length q3 - (5 : Nat) * g ∧ nilB = [] ∧ (0 : Int) = (0 : Int) ∧ List.drop (4 : Nat) q12 = List.drop ((5 : Nat) * g') q3 ∧ bytesOf q2 = bytesOf q2 ∧ number q10 = number q10 ∧ chks q3 g ++ [number q7] = chks q3 g' ∧ True)))))))))))))) := by
  kernel_rfl
end Go.Sx
