/- A verified symbolic run of functions, part 11: lemmas, no claim of their own. -/
import Derived.Test.YtpfngnmgipnmlaaDoorS10
/- Contracts. -/
namespace Go.Sx
open U
theorem bneZ {n : Int} : (n != 0) = true ↔ n ≠ 0 := by simp
theorem bneF {n : Int} : (n != 0) = false ↔ n = 0 := by simp
theorem eqT_key : ∀ {k : Ty}, keyTy k = true → ∀ (x y : k.T), eqT k x y = true ↔ x = y
  | .int _, _, x, y => by simp [eqT]
  | .bool, _, x, y => by simp [eqT]
  | .str, _, x, y => by simp [eqT]
  | .pair a b, hk, x, y => by
    simp only [keyTy, Bool.and_eq_true] at hk
    simp only [eqT, Bool.and_eq_true, eqT_key hk.1, eqT_key hk.2]
    exact ⟨fun h => Prod.ext h.1 h.2, fun h => by rw [h]; exact ⟨rfl, rfl⟩⟩
  | .flt _, hk, _, _ => by simp [keyTy] at hk
  | .cpx _, hk, _, _ => by simp [keyTy] at hk
  | .sl _, hk, _, _ => by simp [keyTy] at hk
  | .arr _ _, hk, _, _ => by simp [keyTy] at hk
theorem bcond_r (a b : Bool) : (bif a then b else false) = (a && b) := by cases a <;> rfl
theorem bcond_l (a b : Bool) : (bif a then true else b) = (a || b) := by cases a <;> rfl
theorem fn97 (b : Bool) (e : Int)  : Fn P1 gl1 97 [bV b, iV e] (.val (iV (whenE b e))) true := by
  refine Fn.flat ?_ rfl
  refine fn_of false [] [] h0 0 Proofs.Tryd.f97 trivial trivial (by kernel_rfl) rfl (by kernel_rfl) rfl rfl rfl ?_
  rw [vc97]
  try simp only [splitB_iff, -eq_self]
  cases b <;> simp [whenE]
theorem so97_ : SpecOk P1 gl1 97 sp97 := by
  intro vs ps r h _
  simp only [sp97] at h
  split at h
  · cases h; exact fn97 _ _ 
  · cases h
theorem so97 : Sp1 97 sp97 := ⟨so97_, Proofs.Tryd.f97, _, by kernel_rfl, rfl, by kernel_rfl⟩

theorem fn46 (n lo hi : Int)  : Fn P1 gl1 46 [iV n, iV lo, iV hi] (.val (iV (within n lo hi))) true := by
  refine Fn.flat ?_ rfl
  refine fn_of false [(97, sp97)] [] h0 0 Proofs.Tryd.f46 ⟨so97, trivial⟩ trivial (by kernel_rfl) rfl (by kernel_rfl) rfl rfl rfl ?_
  rw [vc46]
  try simp only [splitB_iff, -eq_self]
  unfold within
  by_cases h1 : n < lo <;> by_cases h2 : hi < n <;> simp [h1, h2, whenE]
theorem so46_ : SpecOk P1 gl1 46 sp46 := by
  intro vs ps r h _
  simp only [sp46] at h
  split at h
  · cases h; exact fn46 _ _ _ 
  · cases h
theorem so46 : Sp1 46 sp46 := ⟨so46_, Proofs.Tryd.f46, _, by kernel_rfl, rfl, by kernel_rfl⟩

theorem fn44 (xs : List Int) (hl : xs.length ≤ 1000000000) : Fn P1 gl1 44 [.one (.sl (.int .i64) xs)] (.val (iV (first xs))) true := by
  refine Fn.flat ?_ rfl
  refine fn_of false [] [] h44 0 Proofs.Tryd.f44 trivial trivial (by kernel_rfl) rfl (by kernel_rfl) rfl rfl rfl ?_
  rw [vc44]
  try simp only [splitB_iff, -eq_self]
  refine ⟨⟨0, by simp, by simp⟩, fun g hg => ⟨fun hlt => ?_, fun hge => ?_⟩⟩
  · have hlt' : g < xs.length := by simpa using hlt
    rw [getD_of hlt', hg.2, first_drop xs g hlt']
    refine ⟨by omega, fun h => ⟨by omega, ?_⟩, fun h => ⟨by simp only [fits]; omega, g + 1, ⟨by omega, ?_⟩, by omega, by simp⟩⟩
    · rw [if_neg (by simpa using h)]; simp
    · rw [if_pos (by simpa using h)]
  · have hge' : ¬ g < xs.length := by simpa using hge
    rw [hg.2, List.drop_of_length_le (by omega)]
    simp [first]
theorem so44_ : SpecOk P1 gl1 44 sp44 := by
  intro vs ps r h hp
  simp only [sp44] at h
  split at h
  · cases h; exact fn44 _ (hp _ (.head _))
  · cases h
theorem so44 : Sp1 44 sp44 := ⟨so44_, Proofs.Tryd.f44, _, by kernel_rfl, rfl, by kernel_rfl⟩


end Go.Sx

/- Plain functions and hints. -/
namespace Go.Sx.U
abbrev Rl := List UInt8 × Int × List Int
abbrev Ed := List UInt8 × Int × Int × Int × Int
abbrev Pl := Ed × Int
abbrev Tk := List UInt8 × Int × Int × Int
def r0 : Rl := ([], 0, [])
def e0 : Ed := ([], 0, 0, 0, 0)
/-- The index of the first reel with a name; how many there are, if there is none. -/
def idxN (nm : List UInt8) (R : List Rl) : Nat := R.findIdx fun r => decide (r.1 = nm)
def dupR (R : List Rl) (i : Nat) : Bool := decide (idxN (R.getD i r0).1 (R.take i) < i)
def chkRl (R : List Rl) (i : Nat) : Int := first [checkReel (R.getD i r0).1 (R.getD i r0).2.1 (R.getD i r0).2.2, whenE (dupR R i) 9]
def upTo (f : Nat → Int) : Nat → Int
  | 0 => 0
  | i + 1 => if upTo f i = 0 then f i else upTo f i
def chkRs (R : List Rl) : Int := if 8 < R.length then 5 else upTo (chkRl R) R.length
/-- The number of the frame at which an edit begins. -/
def begN (L : List Ed) : Nat → Int
  | 0 => 0
  | i + 1 => begN L i + ((L.getD i e0).2.2.1 - (L.getD i e0).2.1)
def plTo (L : List Ed) : Nat → List Pl
  | 0 => []
  | i + 1 => plTo L i ++ [(L.getD i e0, begN L i)]
/-- The reels by their names. -/
def mapR (R : List Rl) : Nat → List (List UInt8 × Rl)
  | 0 => []
  | i + 1 => U.mapPut .str (.pair .str (.pair (.int .i64) (.sl (.int .i64)))) (mapR R i) (R.getD i r0).1 (R.getD i r0)
/-- Edits within the times of reels. -/
def EdsIn (L : List Ed) : Prop := L.length ≤ 16 ∧ ∀ x ∈ L, 0 ≤ x.2.1 ∧ x.2.1 < x.2.2.1 ∧ x.2.2.1 ≤ 10000000
def lowN (n d : Int) : Int × Int := (n / (Nat.gcd n.toNat d.toNat : Int), d / (Nat.gcd n.toNat d.toNat : Int))
end Go.Sx.U
namespace Go.Sx
open U
abbrev rlT : Ty := .pair .str (.pair (.int .i64) (.sl (.int .i64)))
abbrev edT : Ty := .pair .str (.pair (.int .i64) (.pair (.int .i64) (.pair (.int .i64) (.int .i64))))
abbrev plT : Ty := .pair (.pair .str (.pair (.int .i64) (.pair (.int .i64) (.pair (.int .i64) (.int .i64))))) (.int .i64)
abbrev tkT : Ty := .pair .str (.pair (.int .i64) (.pair (.int .i64) (.int .i64)))
@[reducible] def edV (x : Ed) : V := .agg [.one (.str x.1), .one (.int .i64 x.2.1), .one (.int .i64 x.2.2.1), .one (.int .i64 x.2.2.2.1), .one (.int .i64 x.2.2.2.2)]
@[reducible] def plV (x : Pl) : V := .agg [.one (.str x.1.1), .one (.int .i64 x.1.2.1), .one (.int .i64 x.1.2.2.1), .one (.int .i64 x.1.2.2.2.1), .one (.int .i64 x.1.2.2.2.2), .one (.int .i64 x.2)]
@[reducible] def tkV (x : Tk) : V := .agg [.one (.str x.1), .one (.int .i64 x.2.1), .one (.int .i64 x.2.2.1), .one (.int .i64 x.2.2.2)]
/-- The list of placed edits, its length, the reels. -/
@[reducible] def lsV (p : List Pl) (n : Int) (m : List (List UInt8 × Rl)) : V := .agg [.one (.sl plT p), .one (.int .i64 n), .one (.mp false true .str rlT m)]
/-- The string in a box that a function has caught. -/
def nmOf (s : St) (t : Nat) : Option (List UInt8) := match lookT s.tm t with
  | some (.val (.one (.fn _ [] [(id, _)]))) => match lookO s.ob id with
    | some (.box (.one (.str nm) :: _)) => some nm
    | _ => none
  | _ => none
def hFind (s : St) : Option LInv := match listAs s 6 rlT, nmOf s 1 with
  | some xs, some nm => some ⟨Nat, fun i => s.at [0, 1, 6, 7] [tI 8 i], fun i => i ≤ idxN nm xs, fun i => List.length xs - i⟩
  | _, _ => none
def h103 : Hints := ⟨fun f k s => match f, k with
  | 103, 4 => match listAs s 10 rlT with
    | some xs => some ⟨Nat, fun i => s.at [0, 10, 11] [tI 12 i], fun i => i ≤ List.length xs ∧ upTo (chkRl xs) i = 0, fun i => List.length xs - i⟩
    | _ => none
  | 141, 2 => hFind s
  | _, _ => none, 0⟩
def ownM (s : St) (t : Nat) : Option Nat := match lookT s.tm t with
  | some (.val (.one (.own id))) => some id
  | _ => none
def ptrId (s : St) (t : Nat) : Option Nat := match lookT s.tm t with
  | some (.val (.one (.ptr id 0))) => some id
  | _ => none
def h88 : Hints := ⟨fun f k s => match f, k with
  | 88, 3 => match listAs s 0 rlT, ownM s 10 with
    | some R, some m => some ⟨Nat, fun i => ⟨(14, .val (iV i)) :: keepT [0, 1, 4, 5, 12, 13] s.tm, (m, some (.map false true .str rlT (mapR R i))) :: (liveO [] s.ob).filter (fun x => x.1 != m), s.nx, s.lr⟩, fun i => i ≤ List.length R, fun i => List.length R - i⟩
    | _, _ => none
  | 88, 8 => match listAs s 1 edT, ptrId s 5 with
    | some L, some b => match lookO s.ob b with
      | some (.box [_, _, .one (.own m)]) => some ⟨Nat, fun i => ⟨(26, .val (iV i)) :: keepT [0, 1, 4, 5, 24, 25] s.tm,
          (b, some (.box [.one (.own s.nx), .one (.int .i64 (begN L i)), .one (.own m)])) :: (s.nx, some (.row plT (plTo L i))) :: (liveO [] s.ob).filter (fun x => x.1 != b), s.nx + 1, s.lr⟩, fun i => i ≤ List.length L, fun i => List.length L - i⟩
      | _ => none
    | _, _ => none
  | _, _ => none, 0⟩
def h145 : Hints := ⟨fun f k s => match f, k with
  | 145, 2 => match intOfT s 0, intOfT s 1 with
    | some n, some d => some ⟨Nat × Nat, fun g => s.at [0, 1, 4] [tI 5 g.1, tI 6 g.2], fun g => 0 < g.1 ∧ Nat.gcd g.1 g.2 = Nat.gcd n.toNat d.toNat, fun g => g.2⟩
    | _, _ => none
  | _, _ => none, 0⟩
@[reducible] noncomputable def fb138 : Nat × Func := (138, Proofs.Tryd.f138)
@[reducible] noncomputable def fb139 : Nat × Func := (139, Proofs.Tryd.f139)
@[reducible] noncomputable def fb141 : Nat × Func := (141, Proofs.Tryd.f141)
end Go.Sx
namespace Go.Sx
open U
def sp129 : FSpec := ⟨fun vs => match vs with
  | [.agg [.one (.str _a), .one (.int .i64 b), .one (.int .i64 c), .one (.int .i64 _d), .one (.int .i64 _e)]] => some ([fits .i64 (c - b)], .val (iV (c - b)))
  | _ => none, true⟩
def sp105 : FSpec := ⟨fun vs => match vs with
  | [.agg [.one (.str _a), .one (.int .i64 _b), .one (.int .i64 _c), .one (.int .i64 _d), .one (.int .i64 e), .one (.int .i64 f)]] => some ([fits .i64 (f + e)], .val (iV (f + e)))
  | _ => none, true⟩
def sp145 : FSpec := ⟨fun vs => match vs with
  | [.one (.int .i64 n), .one (.int .i64 d)] => some ([0 < n, 0 < d, n ≤ 1000000 ∧ d ≤ 1000000], .val (.agg [.one (.int .i64 (lowN n d).1), .one (.int .i64 (lowN n d).2)]))
  | _ => none, true⟩
def sp103 : FSpec := ⟨fun vs => match vs with
  | [.one (.sl (.pair .str (.pair (.int .i64) (.sl (.int .i64)))) R)] => some ([List.length R ≤ 1000000000, ∀ r ∈ (show List Rl from R), List.length r.2.2 ≤ 1000000], .val (iV (chkRs R)))
  | _ => none, true⟩
def sp88 : FSpec := ⟨fun vs => match vs with
  | [.one (.sl (.pair .str (.pair (.int .i64) (.sl (.int .i64)))) R), .one (.sl (.pair .str (.pair (.int .i64) (.pair (.int .i64) (.pair (.int .i64) (.int .i64))))) L)] => some ([List.length R ≤ 1000000000, EdsIn L], .val (lsV (plTo L (List.length L)) (begN L (List.length L)) (mapR R (List.length R))))
  | _ => none, false⟩
end Go.Sx

/- What the engine asks, written out (printed by a program). -/
namespace Go.Sx
open U
theorem vc129 (x : Ed) : exF (env false [] []) h0 0 129 Proofs.Tryd.f129 [edV x] (.val (iV (x.2.2.1 - x.2.1))) = (fits IntKind.i64 (Prod.fst (Prod.snd (Prod.snd x)) - Prod.fst (Prod.snd x)) ∧ Prod.fst (Prod.snd (Prod.snd x)) - Prod.fst (Prod.snd x) = Prod.fst (Prod.snd (Prod.snd x)) - Prod.fst (Prod.snd x) ∧ True) := by
  kernel_rfl
theorem vc105 (x : Pl) : exF (env false [] []) h0 0 105 Proofs.Tryd.f105 [plV x] (.val (iV (x.2 + x.1.2.2.2.2))) = (fits IntKind.i64 (Prod.snd x + Prod.snd (Prod.snd (Prod.snd (Prod.snd (Prod.fst x))))) ∧ Prod.snd x + Prod.snd (Prod.snd (Prod.snd (Prod.snd (Prod.fst x)))) = Prod.snd x + Prod.snd (Prod.snd (Prod.snd (Prod.snd (Prod.fst x)))) ∧ True) := by
  kernel_rfl
theorem vc145 (n d : Int) : exF (env false [] []) h145 0 145 Proofs.Tryd.f145 [iV n, iV d] (.val (.agg [.one (.int .i64 (lowN n d).1), .one (.int .i64 (lowN n d).2)])) = ((∃ (g : Nat × Nat), ((0 : Nat) < Prod.fst g ∧ Nat.gcd (Prod.fst g) (Prod.snd g) = Nat.gcd (Int.toNat n) (Int.toNat d)) ∧ n = (↑(Prod.fst g) : Int) ∧ d = (↑(Prod.snd g) : Int) ∧ n = n ∧ d = d ∧ (0 : Int) = (0 : Int) ∧ (0 : Int) = (0 : Int) ∧ True) ∧ ∀ (g : Nat × Nat), (0 : Nat) < Prod.fst g ∧ Nat.gcd (Prod.fst g) (Prod.snd g) = Nat.gcd (Int.toNat n) (Int.toNat d) → splitB ((↑(Prod.snd g) : Int) != (0 : Int)) (((0 : Int) ≤ (↑(Prod.fst g) : Int) ∧ (0 : Int) < (↑(Prod.snd g) : Int)) ∧ ∃ (g' : Nat × Nat), ((0 : Nat) < Prod.fst g' ∧ Nat.gcd (Prod.fst g') (Prod.snd g') = Nat.gcd (Int.toNat n) (Int.toNat d)) ∧ Prod.snd g' < Prod.snd g ∧ (↑(Prod.snd g) : Int) = (↑(Prod.fst g') : Int) ∧ (↑(Prod.fst g) : Int) % (↑(Prod.snd g) : Int) = (↑(Prod.snd g') : Int) ∧ n = n ∧ d = d ∧ (0 : Int) = (0 : Int) ∧ (0 : Int) = (0 : Int) ∧ True) (((0 : Int) ≤ n ∧ (0 : Int) < (↑(Prod.fst g) : Int) ∧ fits IntKind.i64 (n / (↑(Prod.fst g) : Int))) ∧ ((0 : Int) ≤ d ∧ (0 : Int) < (↑(Prod.fst g) : Int) ∧ fits IntKind.i64 (d / (↑(Prod.fst g) : Int))) ∧ n / (↑(Prod.fst g) : Int) = Prod.fst (lowN n d) ∧ d / (↑(Prod.fst g) : Int) = Prod.snd (lowN n d) ∧ True)) := by
  kernel_rfl
theorem vc103 (R : List Rl) : exF (env false [(71, sp71), (79, sp79), (78, sp78)] [fb138, fb139, fb141]) h103 3 103 Proofs.Tryd.f103 [.one (.sl rlT R)] (.val (iV (chkRs R))) = (splitB (decide ((8 : Int) < (↑(List.length R) : Int))) ((5 : Int) = chkRs R ∧ True) ((∃ (g : Nat), (g ≤ List.length R ∧ upTo (chkRl R) g = (0 : Int)) ∧ (0 : Int) = (↑g : Int) ∧ (↑(List.length R) : Int) = (↑(List.length R) : Int) ∧ R = R ∧ R = R ∧ True) ∧ ∀ (g : Nat), g ≤ List.length R ∧ upTo (chkRl R) g = (0 : Int) → splitB (decide ((↑g : Int) < (↑(List.length R) : Int))) (((0 : Int) ≤ (↑g : Int) ∧ (↑g : Int) < (↑(List.length R) : Int)) ∧ ((0 : Int) ≤ (0 : Int) ∧ (0 : Int) ≤ (↑g : Int) ∧ (↑g : Int) ≤ (↑(List.length R) : Int)) ∧ (∃ (g_1 : Nat), Nat.le g_1 (idxN (Prod.fst (List.getD R g ([], (0 : Int), []))) (List.take g R)) ∧ (0 : Int) = (↑g_1 : Int) ∧ (↑(List.length (List.take g R)) : Int) = (↑(List.length (List.take g R)) : Int) ∧ List.take g R = List.take g R ∧ List.take g R = List.take g R ∧ Prod.fst (List.getD R g ([], (0 : Int), [])) = Prod.fst (List.getD R g ([], (0 : Int), [])) ∧ Prod.fst (Prod.snd (List.getD R g ([], (0 : Int), []))) = Prod.fst (Prod.snd (List.getD R g ([], (0 : Int), []))) ∧ Prod.snd (Prod.snd (List.getD R g ([], (0 : Int), []))) = Prod.snd (Prod.snd (List.getD R g ([], (0 : Int), []))) ∧ True) ∧ ∀ (g_1 : Nat), Nat.le g_1 (idxN (Prod.fst (List.getD R g ([], (0 : Int), []))) (List.take g R)) → splitB (decide ((↑g_1 : Int) < (↑(List.length (List.take g R)) : Int))) (((0 : Int) ≤ (↑g_1 : Int) ∧ (↑g_1 : Int) < (↑(List.length (List.take g R)) : Int)) ∧ splitB (Prod.fst (List.getD (List.take g R) g_1 ([], (0 : Int), [])) == Prod.fst (List.getD R g ([], (0 : Int), []))) (List.length (Prod.snd (Prod.snd (List.getD R g ([], (0 : Int), [])))) ≤ (1000000 : Nat) ∧ (2 : Nat) ≤ (1000000000 : Nat) ∧ splitB (first [checkReel (Prod.fst (List.getD R g ([], (0 : Int), []))) (Prod.fst (Prod.snd (List.getD R g ([], (0 : Int), [])))) (Prod.snd (Prod.snd (List.getD R g ([], (0 : Int), [])))), whenE (decide ((0 : Int) ≤ (↑g_1 : Int))) (9 : Int)] != (0 : Int)) (first [checkReel (Prod.fst (List.getD R g ([], (0 : Int), []))) (Prod.fst (Prod.snd (List.getD R g ([], (0 : Int), [])))) (Prod.snd (Prod.snd (List.getD R g ([], (0 : Int), [])))), whenE (decide ((0 : Int) ≤ (↑g_1 : Int))) (9 : Int)] = chkRs R ∧ True) (fits IntKind.i64 ((↑g : Int) + (1 : Int)) ∧ ∃ (g' : Nat), (g' ≤ List.length R ∧ upTo (chkRl R) g' = (0 : Int)) ∧ List.length R - g' < List.length R - g ∧ (↑g : Int) + (1 : Int) = (↑g' : Int) ∧ (↑(List.length R) : Int) = (↑(List.length R) : Int) ∧ R = R ∧ R = R ∧ True)) (fits IntKind.i64 ((↑g_1 : Int) + (1 : Int)) ∧ ∃ (g' : Nat), Nat.le g' (idxN (Prod.fst (List.getD R g ([], (0 : Int), []))) (List.take g R)) ∧ List.length (List.take g R) - g' < List.length (List.take g R) - g_1 ∧ (↑g_1 : Int) + (1 : Int) = (↑g' : Int) ∧ (↑(List.length (List.take g R)) : Int) = (↑(List.length (List.take g R)) : Int) ∧ List.take g R = List.take g R ∧ List.take g R = List.take g R ∧ Prod.fst (List.getD R g ([], (0 : Int), [])) = Prod.fst (List.getD R g ([], (0 : Int), [])) ∧ Prod.fst (Prod.snd (List.getD R g ([], (0 : Int), []))) = Prod.fst (Prod.snd (List.getD R g ([], (0 : Int), []))) ∧ Prod.snd (Prod.snd (List.getD R g ([], (0 : Int), []))) = Prod.snd (Prod.snd (List.getD R g ([], (0 : Int), []))) ∧ True)) (List.length (Prod.snd (Prod.snd (List.getD R g ([], (0 : Int), [])))) ≤ (1000000 : Nat) ∧ (2 : Nat) ≤ (1000000000 : Nat) ∧ splitB (first [checkReel (Prod.fst (List.getD R g ([], (0 : Int), []))) (Prod.fst (Prod.snd (List.getD R g ([], (0 : Int), [])))) (Prod.snd (Prod.snd (List.getD R g ([], (0 : Int), [])))), whenE (decide ((0 : Int) ≤ (-1 : Int))) (9 : Int)] != (0 : Int)) (first [checkReel (Prod.fst (List.getD R g ([], (0 : Int), []))) (Prod.fst (Prod.snd (List.getD R g ([], (0 : Int), [])))) (Prod.snd (Prod.snd (List.getD R g ([], (0 : Int), [])))), whenE (decide ((0 : Int) ≤ (-1 : Int))) (9 : Int)] = chkRs R ∧ True) (fits IntKind.i64 ((↑g : Int) + (1 : Int)) ∧ ∃ (g' : Nat), (g' ≤ List.length R ∧ upTo (chkRl R) g' = (0 : Int)) ∧ List.length R - g' < List.length R - g ∧ (↑g : Int) + (1 : Int) = (↑g' : Int) ∧ (↑(List.length R) : Int) = (↑(List.length R) : Int) ∧ R = R ∧ R = R ∧ True))) ((0 : Int) = chkRs R ∧ True))) := by
  kernel_rfl
theorem vc88 (R : List Rl) (L : List Ed) : exF (env false [(129, sp129)] []) h88 0 88 Proofs.Tryd.f88 [.one (.sl rlT R), .one (.sl edT L)] (.val (lsV (plTo L L.length) (begN L L.length) (mapR R R.length))) = ((∃ (g : Nat), Nat.le g (List.length R) ∧ (0 : Int) = (↑g : Int) ∧ (↑(List.length R) : Int) = (↑(List.length R) : Int) ∧ R = R ∧ R = R ∧ L = L ∧ [] = mapR R g ∧ (0 : Int) = (0 : Int) ∧ (0 : Int) = (0 : Int) ∧ True) ∧ ∀ (g : Nat), Nat.le g (List.length R) → splitB (decide ((↑g : Int) < (↑(List.length R) : Int))) (((0 : Int) ≤ (↑g : Int) ∧ (↑g : Int) < (↑(List.length R) : Int)) ∧ fits IntKind.i64 ((↑g : Int) + (1 : Int)) ∧ ∃ (g' : Nat), Nat.le g' (List.length R) ∧ List.length R - g' < List.length R - g ∧ (↑g : Int) + (1 : Int) = (↑g' : Int) ∧ (↑(List.length R) : Int) = (↑(List.length R) : Int) ∧ R = R ∧ R = R ∧ L = L ∧ mapPut Ty.str (Ty.pair Ty.str (Ty.pair (Ty.int IntKind.i64) (Ty.sl (Ty.int IntKind.i64)))) (mapR R g) (Prod.fst (List.getD R g ([], (0 : Int), []))) (Prod.fst (List.getD R g ([], (0 : Int), [])), Prod.fst (Prod.snd (List.getD R g ([], (0 : Int), []))), Prod.snd (Prod.snd (List.getD R g ([], (0 : Int), [])))) = mapR R g' ∧ (0 : Int) = (0 : Int) ∧ (0 : Int) = (0 : Int) ∧ True) ((∃ (g_1 : Nat), Nat.le g_1 (List.length L) ∧ (0 : Int) = (↑g_1 : Int) ∧ (↑(List.length L) : Int) = (↑(List.length L) : Int) ∧ L = L ∧ R = R ∧ L = L ∧ (0 : Int) = begN L g_1 ∧ plTo L g_1 = [] ∧ mapR R g = mapR R g ∧ (0 : Int) = (0 : Int) ∧ True) ∧ ∀ (g_1 : Nat), Nat.le g_1 (List.length L) → splitB (decide ((↑g_1 : Int) < (↑(List.length L) : Int))) (((0 : Int) ≤ (↑g_1 : Int) ∧ (↑g_1 : Int) < (↑(List.length L) : Int)) ∧ room (List.length (plTo L g_1) + (1 : Nat)) (56 : Nat) ∧ fits IntKind.i64 (Prod.fst (Prod.snd (Prod.snd (List.getD L g_1 ([], (0 : Int), (0 : Int), (0 : Int), (0 : Int))))) - Prod.fst (Prod.snd (List.getD L g_1 ([], (0 : Int), (0 : Int), (0 : Int), (0 : Int))))) ∧ fits IntKind.i64 (begN L g_1 + (Prod.fst (Prod.snd (Prod.snd (List.getD L g_1 ([], (0 : Int), (0 : Int), (0 : Int), (0 : Int))))) - Prod.fst (Prod.snd (List.getD L g_1 ([], (0 : Int), (0 : Int), (0 : Int), (0 : Int)))))) ∧ fits IntKind.i64 ((↑g_1 : Int) + (1 : Int)) ∧ ∃ (g' : Nat), Nat.le g' (List.length L) ∧ List.length L - g' < List.length L - g_1 ∧ (↑g_1 : Int) + (1 : Int) = (↑g' : Int) ∧ (↑(List.length L) : Int) = (↑(List.length L) : Int) ∧ L = L ∧ R = R ∧ L = L ∧ begN L g_1 + (Prod.fst (Prod.snd (Prod.snd (List.getD L g_1 ([], (0 : Int), (0 : Int), (0 : Int), (0 : Int))))) - Prod.fst (Prod.snd (List.getD L g_1 ([], (0 : Int), (0 : Int), (0 : Int), (0 : Int))))) = begN L g' ∧ plTo L g_1 ++ [((Prod.fst (List.getD L g_1 ([], (0 : Int), (0 : Int), (0 : Int), (0 : Int))), Prod.fst (Prod.snd (List.getD L g_1 ([], (0 : Int), (0 : Int), (0 : Int), (0 : Int)))), Prod.fst (Prod.snd (Prod.snd (List.getD L g_1 ([], (0 : Int), (0 : Int), (0 : Int), (0 : Int))))), Prod.fst (Prod.snd (Prod.snd (Prod.snd (List.getD L g_1 ([], (0 : Int), (0 : Int), (0 : Int), (0 : Int)))))), Prod.snd (Prod.snd (Prod.snd (Prod.snd (List.getD L g_1 ([], (0 : Int), (0 : Int), (0 : Int), (0 : Int))))))), begN L g_1)] = plTo L g' ∧ mapR R g = mapR R g ∧ (0 : Int) = (0 : Int) ∧ True) (plTo L g_1 = plTo L (List.length L) ∧ begN L g_1 = begN L (List.length L) ∧ mapR R g = mapR R (List.length R) ∧ True))) := by
  kernel_rfl
end Go.Sx

/- Contracts. -/
namespace Go.Sx
open U
theorem upTo_stay {f : Nat → Int} {i : Nat} (h : upTo f i ≠ 0) : ∀ k, upTo f (i + k) = upTo f i
  | 0 => rfl
  | k + 1 => by
    have ih := upTo_stay h k
    rw [← Nat.add_assoc]
    show (if upTo f (i + k) = 0 then _ else _) = _
    rw [ih, if_neg h]
theorem idxN_le (nm : List UInt8) (R : List Rl) : idxN nm R ≤ R.length := List.findIdx_le_length
theorem idxN_at {nm : List UInt8} {R : List Rl} {j : Nat} {d : Rl} (h : j < R.length) (hn : (R.getD j d).1 = nm) : idxN nm R ≤ j := by
  apply Nat.le_of_not_lt
  intro hlt
  have := List.not_of_lt_findIdx hlt
  rw [getD_of h] at hn
  simp [hn] at this
theorem idxN_next {nm : List UInt8} {R : List Rl} {j : Nat} {d : Rl} (hj : j ≤ idxN nm R) (h : j < R.length) (hn : (R.getD j d).1 ≠ nm) : j + 1 ≤ idxN nm R := by
  apply Classical.byContradiction
  intro hc
  have e : idxN nm R = j := by omega
  have hlt : R.findIdx (fun r => decide (r.1 = nm)) < R.length := by show idxN nm R < _; omega
  have h2 := List.findIdx_getElem (w := hlt)
  simp only [decide_eq_true_eq] at h2
  apply hn
  rw [getD_of h, ← h2]
  have e' : R.findIdx (fun r => decide (r.1 = nm)) = j := e
  simp only [e']
theorem getD_mem {α : Type} {l : List α} {i : Nat} {d : α} (h : i < l.length) : l.getD i d ∈ l := by
  rw [getD_of h]
  exact List.getElem_mem h
theorem plTo_len (L : List Ed) : ∀ i, (plTo L i).length = i
  | 0 => rfl
  | i + 1 => by simp [plTo, plTo_len L i]
theorem begN_bd {L : List Ed} (h : EdsIn L) : ∀ i, i ≤ L.length → (i : Int) ≤ begN L i ∧ begN L i ≤ 10000000 * i
  | 0, _ => by simp [begN]
  | i + 1, hi => by
    have ih := begN_bd h i (by omega)
    have := h.2 _ (getD_mem (d := e0) (show i < L.length by omega))
    simp only [begN]
    omega
theorem fn129 (x : Ed) (h : fits .i64 (x.2.2.1 - x.2.1)) : Fn P1 gl1 129 [edV x] (.val (iV (x.2.2.1 - x.2.1))) true := by
  refine Fn.flat ?_ rfl
  refine fn_of false [] [] h0 0 Proofs.Tryd.f129 trivial trivial (by kernel_rfl) rfl (by kernel_rfl) rfl rfl rfl ?_
  rw [vc129]
  try simp only [splitB_iff, -eq_self]
  exact ⟨h, rfl, trivial⟩
theorem so129_ : SpecOk P1 gl1 129 sp129 := by
  intro vs ps r h hp
  simp only [sp129] at h
  split at h
  · cases h; exact fn129 (_, _, _, _, _) (hp _ (.head _))
  · cases h
theorem so129 : Sp1 129 sp129 := ⟨so129_, Proofs.Tryd.f129, _, by kernel_rfl, rfl, by kernel_rfl⟩

theorem fn105 (x : Pl) (h : fits .i64 (x.2 + x.1.2.2.2.2)) : Fn P1 gl1 105 [plV x] (.val (iV (x.2 + x.1.2.2.2.2))) true := by
  refine Fn.flat ?_ rfl
  refine fn_of false [] [] h0 0 Proofs.Tryd.f105 trivial trivial (by kernel_rfl) rfl (by kernel_rfl) rfl rfl rfl ?_
  rw [vc105]
  try simp only [splitB_iff, -eq_self]
  exact ⟨h, rfl, trivial⟩
theorem so105_ : SpecOk P1 gl1 105 sp105 := by
  intro vs ps r h hp
  simp only [sp105] at h
  split at h
  · cases h; exact fn105 ((_, _, _, _, _), _) (hp _ (.head _))
  · cases h
theorem so105 : Sp1 105 sp105 := ⟨so105_, Proofs.Tryd.f105, _, by kernel_rfl, rfl, by kernel_rfl⟩

theorem fn145 (n d : Int) (hn : 0 < n) (hd : 0 < d) (hf : n ≤ 1000000 ∧ d ≤ 1000000) : Fn P1 gl1 145 [iV n, iV d] (.val (.agg [.one (.int .i64 (lowN n d).1), .one (.int .i64 (lowN n d).2)])) true := by
  refine Fn.flat ?_ rfl
  refine fn_of false [] [] h145 0 Proofs.Tryd.f145 trivial trivial (by kernel_rfl) rfl (by kernel_rfl) rfl rfl rfl ?_
  rw [vc145]
  try simp only [splitB_iff, -eq_self]
  refine ⟨⟨(n.toNat, d.toNat), ⟨by dsimp only; omega, rfl⟩, by dsimp only; omega, by dsimp only; omega, rfl, rfl, rfl, rfl, trivial⟩, fun g hg => ⟨fun h => ?_, fun h => ?_⟩⟩
  · have h' : g.2 ≠ 0 := by simpa using h
    refine ⟨⟨by omega, by omega⟩, (g.2, g.1 % g.2), ⟨by dsimp only; omega, ?_⟩, by dsimp only; exact Nat.mod_lt _ (by omega), rfl, by dsimp only; omega, rfl, rfl, rfl, rfl, trivial⟩
    dsimp only
    rw [Nat.gcd_comm, ← Nat.gcd_rec, Nat.gcd_comm]
    exact hg.2
  · have h' : g.2 = 0 := by simpa using h
    have hg2 := hg.2
    rw [h', Nat.gcd_zero_right] at hg2
    have e : ((g.1 : Nat) : Int) = (Nat.gcd n.toNat d.toNat : Int) := by rw [hg2]
    have hpos : (0 : Int) < (Nat.gcd n.toNat d.toNat : Int) := by omega
    unfold lowN
    rw [e]
    have b1 := Int.ediv_nonneg (a := n) (b := (Nat.gcd n.toNat d.toNat : Int)) (by omega) (by omega)
    have b2 := Int.ediv_le_self (a := n) (Nat.gcd n.toNat d.toNat : Int) (by omega)
    have b3 := Int.ediv_nonneg (a := d) (b := (Nat.gcd n.toNat d.toNat : Int)) (by omega) (by omega)
    have b4 := Int.ediv_le_self (a := d) (Nat.gcd n.toNat d.toNat : Int) (by omega)
    exact ⟨⟨by omega, hpos, by simp only [fits]; omega⟩, ⟨by omega, hpos, by simp only [fits]; omega⟩, rfl, rfl, trivial⟩
theorem so145_ : SpecOk P1 gl1 145 sp145 := by
  intro vs ps r h hp
  simp only [sp145] at h
  split at h
  · cases h; exact fn145 _ _ (hp _ (.head _)) (hp _ (.tail _ (.head _))) (hp _ (.tail _ (.tail _ (.head _))))
  · cases h
theorem so145 : Sp1 145 sp145 := ⟨so145_, Proofs.Tryd.f145, _, by kernel_rfl, rfl, by kernel_rfl⟩

theorem fn103 (R : List Rl) (hl : R.length ≤ 1000000000) (hR : ∀ r ∈ R, r.2.2.length ≤ 1000000) : Fn P1 gl1 103 [.one (.sl rlT R)] (.val (iV (chkRs R))) true := by
  refine Fn.flat ?_ rfl
  refine fn_of false [(71, sp71), (79, sp79), (78, sp78)] [fb138, fb139, fb141] h103 3 Proofs.Tryd.f103 ⟨so71, so79, so78, trivial⟩ ⟨⟨by kernel_rfl, by kernel_rfl, _, rfl, by kernel_rfl⟩, ⟨by kernel_rfl, by kernel_rfl, _, rfl, by kernel_rfl⟩, ⟨by kernel_rfl, by kernel_rfl, _, rfl, by kernel_rfl⟩, trivial⟩ (by kernel_rfl) rfl (by kernel_rfl) rfl rfl rfl ?_
  rw [vc103]
  try simp only [splitB_iff, -eq_self]
  constructor
  · intro h
    have h8 : 8 < R.length := by have : (8 : Int) < (R.length : Int) := by simpa using h
                                 omega
    unfold chkRs
    rw [if_pos h8]
    exact ⟨rfl, trivial⟩
  · intro h
    have h8 : ¬ 8 < R.length := by have : ¬ (8 : Int) < (R.length : Int) := by simpa using h
                                   omega
    have hc : chkRs R = upTo (chkRl R) R.length := by unfold chkRs; rw [if_neg h8]
    rw [hc]
    refine ⟨⟨0, ⟨Nat.zero_le _, rfl⟩, rfl, rfl, rfl, rfl, trivial⟩, fun g hg => ⟨fun hlt => ?_, fun hge => ?_⟩⟩
    · have hlt' : g < R.length := by simpa using hlt
      have hT : (R.take g).length = g := by rw [List.length_take]; omega
      have fin : ∀ e : Int, e = chkRl R g → ((e != 0) = true → e = upTo (chkRl R) R.length ∧ True) ∧ ((e != 0) = false → fits .i64 ((g : Int) + 1) ∧ ∃ g', (g' ≤ R.length ∧ upTo (chkRl R) g' = 0) ∧ R.length - g' < R.length - g ∧ (g : Int) + 1 = (g' : Int) ∧ (R.length : Int) = (R.length : Int) ∧ R = R ∧ R = R ∧ True) := by
        rintro e rfl
        have h1 : upTo (chkRl R) (g + 1) = chkRl R g := by
          show (if upTo (chkRl R) g = 0 then _ else _) = _
          rw [if_pos hg.2]
        refine ⟨fun h => ⟨?_, trivial⟩, fun h => ⟨by simp only [fits]; omega, g + 1, ⟨hlt', ?_⟩, by omega, by simp, rfl, rfl, rfl, trivial⟩⟩
        · have hne : upTo (chkRl R) (g + 1) ≠ 0 := by rw [h1]; simpa using h
          have := upTo_stay hne (R.length - (g + 1))
          rw [show g + 1 + (R.length - (g + 1)) = R.length by omega, h1] at this
          exact this.symm
        · rw [h1]; simpa using h
      have hRg : (R.getD g ([], 0, [])).2.2.length ≤ 1000000 := hR _ (getD_mem hlt')
      refine ⟨by omega, by omega, ⟨0, Nat.zero_le _, rfl, rfl, rfl, rfl, rfl, rfl, rfl, trivial⟩, fun j hj => ⟨fun hjl => ?_, fun hjg => ?_⟩⟩
      · have hjl' : j < (R.take g).length := by simpa using hjl
        refine ⟨by omega, fun hq => ⟨hRg, by decide, fin _ ?_⟩, fun hq => ⟨by simp only [fits]; omega, j + 1, ?_, by omega, by simp, rfl, rfl, rfl, rfl, rfl, rfl, trivial⟩⟩
        · have := idxN_at hjl' (by simpa using hq)
          unfold chkRl dupR
          have hd : decide (idxN (R.getD g r0).1 (R.take g) < g) = true := by
            rw [decide_eq_true_eq]
            have : idxN (R.getD g r0).1 (R.take g) ≤ j := this
            omega
          have h0 : decide ((0 : Int) ≤ (j : Int)) = true := by simp
          rw [hd, h0]
          rfl
        · exact idxN_next hj hjl' (by simpa using hq)
      · have hjg' : ¬ j < (R.take g).length := by simpa using hjg
        refine ⟨hRg, by decide, fin _ ?_⟩
        unfold chkRl dupR
        have hj' : j ≤ idxN (R.getD g r0).1 (R.take g) := hj
        have hd : decide (idxN (R.getD g r0).1 (R.take g) < g) = false := by
          rw [decide_eq_false_iff_not]
          omega
        rw [hd]
        rfl
    · have hge' : ¬ g < R.length := by simpa using hge
      have : g = R.length := by omega
      rw [← this, hg.2]
      exact ⟨rfl, trivial⟩
theorem so103_ : SpecOk P1 gl1 103 sp103 := by
  intro vs ps r h hp
  simp only [sp103] at h
  split at h
  · cases h; exact fn103 _ (hp _ (.head _)) (hp _ (.tail _ (.head _)))
  · cases h
theorem so103 : Sp1 103 sp103 := ⟨so103_, Proofs.Tryd.f103, _, by kernel_rfl, rfl, by kernel_rfl⟩

theorem fn88 (R : List Rl) (L : List Ed) (hl : R.length ≤ 1000000000) (hL : EdsIn L) : Fn P1 gl1 88 [.one (.sl rlT R), .one (.sl edT L)] (.val (lsV (plTo L L.length) (begN L L.length) (mapR R R.length))) false := by
  refine fn_of false [(129, sp129)] [] h88 0 Proofs.Tryd.f88 ⟨so129, trivial⟩ trivial (by kernel_rfl) rfl (by kernel_rfl) rfl rfl rfl ?_
  rw [vc88]
  try simp only [splitB_iff, -eq_self]
  refine ⟨⟨0, Nat.zero_le _, rfl, rfl, rfl, rfl, rfl, rfl, rfl, rfl, trivial⟩, fun g hg => ⟨fun hlt => ?_, fun hge => ?_⟩⟩
  · have hlt' : g < R.length := by simpa using hlt
    exact ⟨by omega, by simp only [fits]; omega, g + 1, hlt', by omega, by simp, rfl, rfl, rfl, rfl, rfl, rfl, rfl, trivial⟩
  · have hge' : ¬ g < R.length := by simpa using hge
    have hgR : g = R.length := by have : g ≤ R.length := hg; omega
    subst hgR
    refine ⟨⟨0, Nat.zero_le _, rfl, rfl, rfl, rfl, rfl, rfl, rfl, rfl, rfl, trivial⟩, fun i hi => ⟨fun hlt => ?_, fun hge => ?_⟩⟩
    · have hlt' : i < L.length := by simpa using hlt
      have h16 := hL.1
      have hb := begN_bd hL i (by omega)
      have hb2 := begN_bd hL (i + 1) hlt'
      have hx := hL.2 _ (getD_mem (d := e0) hlt')
      have e2 : begN L (i + 1) = begN L i + ((L.getD i e0).2.2.1 - (L.getD i e0).2.1) := rfl
      refine ⟨by omega, by simp only [room, plTo_len]; omega, ?_, ?_, by simp only [fits]; omega, i + 1, hlt', by omega, by simp, rfl, rfl, rfl, rfl, rfl, rfl, rfl, rfl, trivial⟩
      · show fits .i64 ((L.getD i e0).2.2.1 - (L.getD i e0).2.1)
        simp only [fits]; omega
      · show fits .i64 (begN L i + ((L.getD i e0).2.2.1 - (L.getD i e0).2.1))
        rw [← e2]
        simp only [fits]; omega
    · have hge' : ¬ i < L.length := by simpa using hge
      have hiL : i = L.length := by have : i ≤ L.length := hi; omega
      subst hiL
      exact ⟨rfl, rfl, rfl, trivial⟩
theorem so88_ : SpecOk P1 gl1 88 sp88 := by
  intro vs ps r h hp
  simp only [sp88] at h
  split at h
  · cases h; exact fn88 _ _ (hp _ (.head _)) (hp _ (.tail _ (.head _)))
  · cases h
theorem so88 : Sp1 88 sp88 := ⟨so88_, Proofs.Tryd.f88, _, by kernel_rfl, rfl, by kernel_rfl⟩

end Go.Sx

/- Plain functions and hints. -/
namespace Go.Sx.U
def pl0 : Pl := (([], 0, 0, 0, 0), 0)
def rlOf (R : List Rl) (nm : List UInt8) : Rl := R.getD (idxN nm R) r0
def endR (r : Rl) : Int := r.2.1 + (r.2.2.length : Int)
def prs (x : Ed) : Int := first [within x.2.2.2.1 0 (x.2.2.1 - x.2.1), within x.2.2.2.2 (-100) 100]
/-- The error of an edit. -/
def chkE (R : List Rl) (x : Ed) (b : Option Ed) : Int :=
  if R.length ≤ idxN x.1 R then 10 else
  if x.2.2.1 ≤ x.2.1 ∨ x.2.1 < (rlOf R x.1).2.1 ∨ endR (rlOf R x.1) < x.2.2.1 then 14 else
  if prs x ≠ 0 then prs x else
  match b with
  | none => whenE (decide (x ≠ (x.1, x.2.1, x.2.2.1, 0, 0))) 21
  | some b => whenE (decide (endR (rlOf R b.1) < b.2.2.1 + x.2.2.2.1)) 16
def chkEd (R : List Rl) (L : List Ed) (i : Nat) : Int := chkE R (L.getD i e0) (if i = 0 then none else some (L.getD (i - 1) e0))
def sndN (x : Pl) : Int := x.2 + x.1.2.2.2.2
def begP (x : Pl) : Int := x.2
/-- The frames at which the sound of an edit is heard. -/
def heardN (p : List Pl) (n : Int) (i : Nat) : Int × Int := (sndN (p.getD i pl0), if i + 1 < p.length then sndN (p.getD (i + 1) pl0) else n)
def lastTo (g : Pl → Int) (p : List Pl) (fr : Int) : Nat → Nat
  | 0 => 0
  | i + 1 => if g (p.getD i pl0) ≤ fr then i else lastTo g p fr i
/-- What is heard at a frame. -/
def soundN (p : List Pl) (fr : Int) : Tk := ((p.getD (lastTo sndN p fr p.length) pl0).1.1, (p.getD (lastTo sndN p fr p.length) pl0).1.2.1 + fr - (p.getD (lastTo sndN p fr p.length) pl0).2, 1, 1)
/-- The takes at a frame of an edit, behind another one. -/
def takesE (x b : Ed) (j : Int) : List Tk :=
  if x.2.2.2.1 ≤ j then [(x.1, x.2.1 + j, 1, 1)] else
  [(b.1, b.2.2.1 + j, lowN (x.2.2.2.1 - j) (x.2.2.2.1 + 1)), (x.1, x.2.1 + j, lowN (j + 1) (x.2.2.2.1 + 1))]
def takesN (p : List Pl) (fr : Int) : List Tk :=
  takesE (p.getD (lastTo begP p fr p.length) pl0).1 (p.getD (lastTo begP p fr p.length - 1) pl0).1 (fr - (p.getD (lastTo begP p fr p.length) pl0).2)
/-- Placed edits that the numbers allow. -/
def PlsOk (p : List Pl) : Prop := 0 < p.length ∧ p.length ≤ 16 ∧ (∀ x ∈ p, (0 ≤ x.1.2.1 ∧ x.1.2.1 ≤ 10000000) ∧ (0 ≤ x.1.2.2.1 ∧ x.1.2.2.1 ≤ 10000000) ∧ (0 ≤ x.1.2.2.2.1 ∧ x.1.2.2.2.1 ≤ 100000) ∧ (-100 ≤ x.1.2.2.2.2 ∧ x.1.2.2.2.2 ≤ 100) ∧ (0 ≤ x.2 ∧ x.2 ≤ 100000)) ∧ (p.getD 0 pl0).2 = 0 ∧ (p.getD 0 pl0).1.2.2.2.1 = 0
end Go.Sx.U
namespace Go.Sx
open U
def h104 : Hints := ⟨fun f k s => match f, k with
  | 141, 2 => hFind s
  | _, _ => none, 0⟩
/-- The number that a function takes of a placed edit. -/
def hLast (s : St) : Option LInv := match listAs s 11 plT, intOfT s 1, lookT s.tm 2 with
  | some p, some fr, some (.val (.one (.fn 144 [] []))) => some ⟨Nat, fun i => s.at [0, 1, 2, 3, 11, 12] [tI 13 i, tI 7 (lastTo begP p fr i)], fun i => i ≤ List.length p, fun i => List.length p - i⟩
  | some p, some fr, some (.val (.one (.fn 105 [] []))) => some ⟨Nat, fun i => s.at [0, 1, 2, 3, 11, 12] [tI 13 i, tI 7 (lastTo sndN p fr i)], fun i => i ≤ List.length p, fun i => List.length p - i⟩
  | _, _, _ => none
def hLastH : Hints := ⟨fun f k s => match f, k with
  | 135, 3 => hLast s
  | _, _ => none, 0⟩
@[reducible] noncomputable def fb142 : Nat × Func := (142, Proofs.Tryd.f142)
@[reducible] noncomputable def fb144 : Nat × Func := (144, Proofs.Tryd.f144)
def sp135 : FSpec := ⟨fun vs => match vs with
  | [.agg [.one (.sl (.pair (.pair .str (.pair (.int .i64) (.pair (.int .i64) (.pair (.int .i64) (.int .i64))))) (.int .i64)) p), .one (.int .i64 _), .one (.mp false true .str (.pair .str (.pair (.int .i64) (.sl (.int .i64)))) _)], .one (.int .i64 fr), .one (.fn g [] [])] =>
    if g = 144 then some ([List.length p ≤ 1000000], .val (iV (lastTo begP p fr (List.length p)))) else
    if g = 105 then some ([List.length p ≤ 1000000, ∀ x ∈ (show List Pl from p), fits .i64 (sndN x)], .val (iV (lastTo sndN p fr (List.length p)))) else none
  | _ => none, true⟩
def sp104 : FSpec := ⟨fun vs => match vs with
  | [.one (.sl (.pair .str (.pair (.int .i64) (.sl (.int .i64)))) R), .one (.sl (.pair .str (.pair (.int .i64) (.pair (.int .i64) (.pair (.int .i64) (.int .i64))))) L), .one (.int .i64 i)] =>
    some ([chkRs R = 0, ((Int.toNat i : Nat) : Int) = i, Int.toNat i < List.length L, List.length L ≤ 1000000, 0 < Int.toNat i → chkEd R L (Int.toNat i - 1) = 0], .val (iV (chkEd R L (Int.toNat i))))
  | _ => none, true⟩
def sp106 : FSpec := ⟨fun vs => match vs with
  | [.agg [.one (.sl (.pair (.pair .str (.pair (.int .i64) (.pair (.int .i64) (.pair (.int .i64) (.int .i64))))) (.int .i64)) p), .one (.int .i64 n), .one (.mp false true .str (.pair .str (.pair (.int .i64) (.sl (.int .i64)))) _)], .one (.int .i64 i)] =>
    some ([((Int.toNat i : Nat) : Int) = i, Int.toNat i < List.length p, ∀ x ∈ (show List Pl from p), fits .i64 (sndN x), List.length p ≤ 1000000], .val (.agg [.one (.int .i64 (heardN p n (Int.toNat i)).1), .one (.int .i64 (heardN p n (Int.toNat i)).2)]))
  | _ => none, true⟩
def sp98 : FSpec := ⟨fun vs => match vs with
  | [.agg [.one (.sl (.pair (.pair .str (.pair (.int .i64) (.pair (.int .i64) (.pair (.int .i64) (.int .i64))))) (.int .i64)) p), .one (.int .i64 _), .one (.mp false true .str (.pair .str (.pair (.int .i64) (.sl (.int .i64)))) _)], .one (.int .i64 fr)] =>
    some ([PlsOk p, 0 ≤ fr ∧ fr ≤ 100000], .val (tkV (soundN p fr)))
  | _ => none, true⟩
def sp133 : FSpec := ⟨fun vs => match vs with
  | [.agg [.one (.sl (.pair (.pair .str (.pair (.int .i64) (.pair (.int .i64) (.pair (.int .i64) (.int .i64))))) (.int .i64)) p), .one (.int .i64 _), .one (.mp false true .str (.pair .str (.pair (.int .i64) (.sl (.int .i64)))) _)], .one (.int .i64 fr)] =>
    some ([PlsOk p, 0 ≤ fr ∧ fr ≤ 100000], .val (.one (.sl tkT (takesN p fr))))
  | _ => none, false⟩
end Go.Sx
namespace Go.Sx
open U
def sp140 : FSpec := ⟨fun vs => match vs with
  | [.one (.str nm), .one (.ref (.sl (.pair .str (.pair (.int .i64) (.sl (.int .i64))))) R)] => some ([List.length (show List Rl from R) ≤ 1000000000], .val (iV (if idxN nm R < List.length (show List Rl from R) then (idxN nm R : Int) else -1)))
  | _ => none, true⟩
end Go.Sx

/- What the engine asks, written out (printed by a program). -/
namespace Go.Sx
open U
theorem vc135 (p : List Pl) (n : Int) (m : List (List UInt8 × Rl)) (fr : Int) : exF (env false [] [fb144]) hLastH 3 135 Proofs.Tryd.f135 [lsV p n m, iV fr, .one (.fn 144 [] [])] (.val (iV (lastTo begP p fr p.length))) = ((∃ (g : Nat), Nat.le g (List.length p) ∧ (0 : Int) = (↑g : Int) ∧ (0 : Int) = (↑(lastTo begP p fr g) : Int) ∧ (↑(List.length p) : Int) = (↑(List.length p) : Int) ∧ p = p ∧ p = p ∧ n = n ∧ m = m ∧ fr = fr ∧ p = p ∧ n = n ∧ m = m ∧ True) ∧ ∀ (g : Nat), Nat.le g (List.length p) → splitB (decide ((↑g : Int) < (↑(List.length p) : Int))) (((0 : Int) ≤ (↑g : Int) ∧ (↑g : Int) < (↑(List.length p) : Int)) ∧ splitB (decide (Prod.snd (List.getD p g (([], (0 : Int), (0 : Int), (0 : Int), (0 : Int)), (0 : Int))) ≤ fr)) (fits IntKind.i64 ((↑g : Int) + (1 : Int)) ∧ ∃ (g' : Nat), Nat.le g' (List.length p) ∧ List.length p - g' < List.length p - g ∧ (↑g : Int) + (1 : Int) = (↑g' : Int) ∧ (↑g : Int) = (↑(lastTo begP p fr g') : Int) ∧ (↑(List.length p) : Int) = (↑(List.length p) : Int) ∧ p = p ∧ p = p ∧ n = n ∧ m = m ∧ fr = fr ∧ p = p ∧ n = n ∧ m = m ∧ True) (fits IntKind.i64 ((↑g : Int) + (1 : Int)) ∧ ∃ (g' : Nat), Nat.le g' (List.length p) ∧ List.length p - g' < List.length p - g ∧ (↑g : Int) + (1 : Int) = (↑g' : Int) ∧ (↑(lastTo begP p fr g) : Int) = (↑(lastTo begP p fr g') : Int) ∧ (↑(List.length p) : Int) = (↑(List.length p) : Int) ∧ p = p ∧ p = p ∧ n = n ∧ m = m ∧ fr = fr ∧ p = p ∧ n = n ∧ m = m ∧ True)) ((↑(lastTo begP p fr g) : Int) = (↑(lastTo begP p fr (List.length p)) : Int) ∧ True)) := by
  kernel_rfl
theorem vc135b (p : List Pl) (n : Int) (m : List (List UInt8 × Rl)) (fr : Int) : exF (env false [(105, sp105)] []) hLastH 0 135 Proofs.Tryd.f135 [lsV p n m, iV fr, .one (.fn 105 [] [])] (.val (iV (lastTo sndN p fr p.length))) = ((∃ (g : Nat), Nat.le g (List.length p) ∧ (0 : Int) = (↑g : Int) ∧ (0 : Int) = (↑(lastTo sndN p fr g) : Int) ∧ (↑(List.length p) : Int) = (↑(List.length p) : Int) ∧ p = p ∧ p = p ∧ n = n ∧ m = m ∧ fr = fr ∧ p = p ∧ n = n ∧ m = m ∧ True) ∧ ∀ (g : Nat), Nat.le g (List.length p) → splitB (decide ((↑g : Int) < (↑(List.length p) : Int))) (((0 : Int) ≤ (↑g : Int) ∧ (↑g : Int) < (↑(List.length p) : Int)) ∧ fits IntKind.i64 (Prod.snd (List.getD p g (([], (0 : Int), (0 : Int), (0 : Int), (0 : Int)), (0 : Int))) + Prod.snd (Prod.snd (Prod.snd (Prod.snd (Prod.fst (List.getD p g (([], (0 : Int), (0 : Int), (0 : Int), (0 : Int)), (0 : Int)))))))) ∧ splitB (decide (Prod.snd (List.getD p g (([], (0 : Int), (0 : Int), (0 : Int), (0 : Int)), (0 : Int))) + Prod.snd (Prod.snd (Prod.snd (Prod.snd (Prod.fst (List.getD p g (([], (0 : Int), (0 : Int), (0 : Int), (0 : Int)), (0 : Int))))))) ≤ fr)) (fits IntKind.i64 ((↑g : Int) + (1 : Int)) ∧ ∃ (g' : Nat), Nat.le g' (List.length p) ∧ List.length p - g' < List.length p - g ∧ (↑g : Int) + (1 : Int) = (↑g' : Int) ∧ (↑g : Int) = (↑(lastTo sndN p fr g') : Int) ∧ (↑(List.length p) : Int) = (↑(List.length p) : Int) ∧ p = p ∧ p = p ∧ n = n ∧ m = m ∧ fr = fr ∧ p = p ∧ n = n ∧ m = m ∧ True) (fits IntKind.i64 ((↑g : Int) + (1 : Int)) ∧ ∃ (g' : Nat), Nat.le g' (List.length p) ∧ List.length p - g' < List.length p - g ∧ (↑g : Int) + (1 : Int) = (↑g' : Int) ∧ (↑(lastTo sndN p fr g) : Int) = (↑(lastTo sndN p fr g') : Int) ∧ (↑(List.length p) : Int) = (↑(List.length p) : Int) ∧ p = p ∧ p = p ∧ n = n ∧ m = m ∧ fr = fr ∧ p = p ∧ n = n ∧ m = m ∧ True)) ((↑(lastTo sndN p fr g) : Int) = (↑(lastTo sndN p fr (List.length p)) : Int) ∧ True)) := by
  kernel_rfl
theorem vc140 (nm : List UInt8) (R : List Rl) : exF (env false [] [fb142, fb141]) h104 3 140 Proofs.Tryd.f140 [.one (.str nm), .one (.ref (.sl rlT) R)] (.val (iV (if idxN nm R < R.length then (idxN nm R : Int) else -1))) = ((∃ (g : Nat), Nat.le g (idxN nm R) ∧ (0 : Int) = (↑g : Int) ∧ (↑(List.length R) : Int) = (↑(List.length R) : Int) ∧ R = R ∧ R = R ∧ nm = nm ∧ True) ∧ ∀ (g : Nat), Nat.le g (idxN nm R) → splitB (decide ((↑g : Int) < (↑(List.length R) : Int))) (((0 : Int) ≤ (↑g : Int) ∧ (↑g : Int) < (↑(List.length R) : Int)) ∧ splitB (Prod.fst (List.getD R g ([], (0 : Int), [])) == nm) (((↑g : Int) = if idxN nm R < List.length R then (↑(idxN nm R) : Int) else (-1 : Int)) ∧ True) (fits IntKind.i64 ((↑g : Int) + (1 : Int)) ∧ ∃ (g' : Nat), Nat.le g' (idxN nm R) ∧ List.length R - g' < List.length R - g ∧ (↑g : Int) + (1 : Int) = (↑g' : Int) ∧ (↑(List.length R) : Int) = (↑(List.length R) : Int) ∧ R = R ∧ R = R ∧ nm = nm ∧ True)) (((-1 : Int) = if idxN nm R < List.length R then (↑(idxN nm R) : Int) else (-1 : Int)) ∧ True)) := by
  kernel_rfl
theorem vc104 (R : List Rl) (L : List Ed) (i : Nat) : exF (env false [(77, sp77), (129, sp129), (122, sp122), (78, sp78), (79, sp79), (140, sp140)] []) h0 0 104 Proofs.Tryd.f104 [.one (.sl rlT R), .one (.sl edT L), iV i] (.val (iV (chkEd R L i))) = (((0 : Int) ≤ (↑i : Int) ∧ (↑i : Int) < (↑(List.length L) : Int)) ∧ List.length R ≤ (1000000000 : Nat) ∧ splitB (decide ((if idxN (Prod.fst (List.getD L i ([], (0 : Int), (0 : Int), (0 : Int), (0 : Int)))) R < List.length R then (↑(idxN (Prod.fst (List.getD L i ([], (0 : Int), (0 : Int), (0 : Int), (0 : Int)))) R) : Int) else (-1 : Int)) < (0 : Int))) ((10 : Int) = chkEd R L i ∧ True) ((decide (Prod.fst (Prod.snd (Prod.snd (List.getD L i ([], (0 : Int), (0 : Int), (0 : Int), (0 : Int))))) ≤ Prod.fst (Prod.snd (List.getD L i ([], (0 : Int), (0 : Int), (0 : Int), (0 : Int))))) = false → ((0 : Int) ≤ if idxN (Prod.fst (List.getD L i ([], (0 : Int), (0 : Int), (0 : Int), (0 : Int)))) R < List.length R then (↑(idxN (Prod.fst (List.getD L i ([], (0 : Int), (0 : Int), (0 : Int), (0 : Int)))) R) : Int) else (-1 : Int)) ∧ (if idxN (Prod.fst (List.getD L i ([], (0 : Int), (0 : Int), (0 : Int), (0 : Int)))) R < List.length R then (↑(idxN (Prod.fst (List.getD L i ([], (0 : Int), (0 : Int), (0 : Int), (0 : Int)))) R) : Int) else (-1 : Int)) < (↑(List.length R) : Int)) ∧ ((bif decide (Prod.fst (Prod.snd (Prod.snd (List.getD L i ([], (0 : Int), (0 : Int), (0 : Int), (0 : Int))))) ≤ Prod.fst (Prod.snd (List.getD L i ([], (0 : Int), (0 : Int), (0 : Int), (0 : Int))))) then true else decide (Prod.fst (Prod.snd (List.getD L i ([], (0 : Int), (0 : Int), (0 : Int), (0 : Int)))) < Prod.fst (Prod.snd (List.getD R (Int.toNat (if idxN (Prod.fst (List.getD L i ([], (0 : Int), (0 : Int), (0 : Int), (0 : Int)))) R < List.length R then (↑(idxN (Prod.fst (List.getD L i ([], (0 : Int), (0 : Int), (0 : Int), (0 : Int)))) R) : Int) else (-1 : Int))) ([], (0 : Int), []))))) = false → ((0 : Int) ≤ if idxN (Prod.fst (List.getD L i ([], (0 : Int), (0 : Int), (0 : Int), (0 : Int)))) R < List.length R then (↑(idxN (Prod.fst (List.getD L i ([], (0 : Int), (0 : Int), (0 : Int), (0 : Int)))) R) : Int) else (-1 : Int)) ∧ (if idxN (Prod.fst (List.getD L i ([], (0 : Int), (0 : Int), (0 : Int), (0 : Int)))) R < List.length R then (↑(idxN (Prod.fst (List.getD L i ([], (0 : Int), (0 : Int), (0 : Int), (0 : Int)))) R) : Int) else (-1 : Int)) < (↑(List.length R) : Int)) ∧ ((bif decide (Prod.fst (Prod.snd (Prod.snd (List.getD L i ([], (0 : Int), (0 : Int), (0 : Int), (0 : Int))))) ≤ Prod.fst (Prod.snd (List.getD L i ([], (0 : Int), (0 : Int), (0 : Int), (0 : Int))))) then true else decide (Prod.fst (Prod.snd (List.getD L i ([], (0 : Int), (0 : Int), (0 : Int), (0 : Int)))) < Prod.fst (Prod.snd (List.getD R (Int.toNat (if idxN (Prod.fst (List.getD L i ([], (0 : Int), (0 : Int), (0 : Int), (0 : Int)))) R < List.length R then (↑(idxN (Prod.fst (List.getD L i ([], (0 : Int), (0 : Int), (0 : Int), (0 : Int)))) R) : Int) else (-1 : Int))) ([], (0 : Int), []))))) = false → fits IntKind.i64 (Prod.fst (Prod.snd (List.getD R (Int.toNat (if idxN (Prod.fst (List.getD L i ([], (0 : Int), (0 : Int), (0 : Int), (0 : Int)))) R < List.length R then (↑(idxN (Prod.fst (List.getD L i ([], (0 : Int), (0 : Int), (0 : Int), (0 : Int)))) R) : Int) else (-1 : Int))) ([], (0 : Int), []))) + (↑(List.length (Prod.snd (Prod.snd (List.getD R (Int.toNat (if idxN (Prod.fst (List.getD L i ([], (0 : Int), (0 : Int), (0 : Int), (0 : Int)))) R < List.length R then (↑(idxN (Prod.fst (List.getD L i ([], (0 : Int), (0 : Int), (0 : Int), (0 : Int)))) R) : Int) else (-1 : Int))) ([], (0 : Int), []))))) : Int))) ∧ splitB (bif bif decide (Prod.fst (Prod.snd (Prod.snd (List.getD L i ([], (0 : Int), (0 : Int), (0 : Int), (0 : Int))))) ≤ Prod.fst (Prod.snd (List.getD L i ([], (0 : Int), (0 : Int), (0 : Int), (0 : Int))))) then true else decide (Prod.fst (Prod.snd (List.getD L i ([], (0 : Int), (0 : Int), (0 : Int), (0 : Int)))) < Prod.fst (Prod.snd (List.getD R (Int.toNat (if idxN (Prod.fst (List.getD L i ([], (0 : Int), (0 : Int), (0 : Int), (0 : Int)))) R < List.length R then (↑(idxN (Prod.fst (List.getD L i ([], (0 : Int), (0 : Int), (0 : Int), (0 : Int)))) R) : Int) else (-1 : Int))) ([], (0 : Int), [])))) then true else decide (Prod.fst (Prod.snd (List.getD R (Int.toNat (if idxN (Prod.fst (List.getD L i ([], (0 : Int), (0 : Int), (0 : Int), (0 : Int)))) R < List.length R then (↑(idxN (Prod.fst (List.getD L i ([], (0 : Int), (0 : Int), (0 : Int), (0 : Int)))) R) : Int) else (-1 : Int))) ([], (0 : Int), []))) + (↑(List.length (Prod.snd (Prod.snd (List.getD R (Int.toNat (if idxN (Prod.fst (List.getD L i ([], (0 : Int), (0 : Int), (0 : Int), (0 : Int)))) R < List.length R then (↑(idxN (Prod.fst (List.getD L i ([], (0 : Int), (0 : Int), (0 : Int), (0 : Int)))) R) : Int) else (-1 : Int))) ([], (0 : Int), []))))) : Int) < Prod.fst (Prod.snd (Prod.snd (List.getD L i ([], (0 : Int), (0 : Int), (0 : Int), (0 : Int))))))) ((14 : Int) = chkEd R L i ∧ True) (fits IntKind.i64 (Prod.fst (Prod.snd (Prod.snd (List.getD L i ([], (0 : Int), (0 : Int), (0 : Int), (0 : Int))))) - Prod.fst (Prod.snd (List.getD L i ([], (0 : Int), (0 : Int), (0 : Int), (0 : Int))))) ∧ (2 : Nat) ≤ (1000000000 : Nat) ∧ splitB (first [within (Prod.fst (Prod.snd (Prod.snd (Prod.snd (List.getD L i ([], (0 : Int), (0 : Int), (0 : Int), (0 : Int))))))) (0 : Int) (Prod.fst (Prod.snd (Prod.snd (List.getD L i ([], (0 : Int), (0 : Int), (0 : Int), (0 : Int))))) - Prod.fst (Prod.snd (List.getD L i ([], (0 : Int), (0 : Int), (0 : Int), (0 : Int))))), within (Prod.snd (Prod.snd (Prod.snd (Prod.snd (List.getD L i ([], (0 : Int), (0 : Int), (0 : Int), (0 : Int))))))) (-100 : Int) (100 : Int)] != (0 : Int)) (first [within (Prod.fst (Prod.snd (Prod.snd (Prod.snd (List.getD L i ([], (0 : Int), (0 : Int), (0 : Int), (0 : Int))))))) (0 : Int) (Prod.fst (Prod.snd (Prod.snd (List.getD L i ([], (0 : Int), (0 : Int), (0 : Int), (0 : Int))))) - Prod.fst (Prod.snd (List.getD L i ([], (0 : Int), (0 : Int), (0 : Int), (0 : Int))))), within (Prod.snd (Prod.snd (Prod.snd (Prod.snd (List.getD L i ([], (0 : Int), (0 : Int), (0 : Int), (0 : Int))))))) (-100 : Int) (100 : Int)] = chkEd R L i ∧ True) (splitB ((↑i : Int) == (0 : Int)) (whenE (!eqT (Ty.pair Ty.str (Ty.pair (Ty.int IntKind.i64) (Ty.pair (Ty.int IntKind.i64) (Ty.pair (Ty.int IntKind.i64) (Ty.int IntKind.i64))))) (Prod.fst (List.getD L i ([], (0 : Int), (0 : Int), (0 : Int), (0 : Int))), Prod.fst (Prod.snd (List.getD L i ([], (0 : Int), (0 : Int), (0 : Int), (0 : Int)))), Prod.fst (Prod.snd (Prod.snd (List.getD L i ([], (0 : Int), (0 : Int), (0 : Int), (0 : Int))))), Prod.fst (Prod.snd (Prod.snd (Prod.snd (List.getD L i ([], (0 : Int), (0 : Int), (0 : Int), (0 : Int)))))), Prod.snd (Prod.snd (Prod.snd (Prod.snd (List.getD L i ([], (0 : Int), (0 : Int), (0 : Int), (0 : Int))))))) (Prod.fst (List.getD L i ([], (0 : Int), (0 : Int), (0 : Int), (0 : Int))), Prod.fst (Prod.snd (List.getD L i ([], (0 : Int), (0 : Int), (0 : Int), (0 : Int)))), Prod.fst (Prod.snd (Prod.snd (List.getD L i ([], (0 : Int), (0 : Int), (0 : Int), (0 : Int))))), (0 : Int), (0 : Int))) (21 : Int) = chkEd R L i ∧ True) (fits IntKind.i64 ((↑i : Int) - (1 : Int)) ∧ ((0 : Int) ≤ (↑i : Int) - (1 : Int) ∧ (↑i : Int) - (1 : Int) < (↑(List.length L) : Int)) ∧ fits IntKind.i64 (Prod.fst (Prod.snd (Prod.snd (List.getD L (Int.toNat ((↑i : Int) - (1 : Int))) ([], (0 : Int), (0 : Int), (0 : Int), (0 : Int))))) + Prod.fst (Prod.snd (Prod.snd (Prod.snd (List.getD L i ([], (0 : Int), (0 : Int), (0 : Int), (0 : Int))))))) ∧ List.length R ≤ (1000000000 : Nat) ∧ (((0 : Int) ≤ if idxN (Prod.fst (List.getD L (Int.toNat ((↑i : Int) - (1 : Int))) ([], (0 : Int), (0 : Int), (0 : Int), (0 : Int)))) R < List.length R then (↑(idxN (Prod.fst (List.getD L (Int.toNat ((↑i : Int) - (1 : Int))) ([], (0 : Int), (0 : Int), (0 : Int), (0 : Int)))) R) : Int) else (-1 : Int)) ∧ (if idxN (Prod.fst (List.getD L (Int.toNat ((↑i : Int) - (1 : Int))) ([], (0 : Int), (0 : Int), (0 : Int), (0 : Int)))) R < List.length R then (↑(idxN (Prod.fst (List.getD L (Int.toNat ((↑i : Int) - (1 : Int))) ([], (0 : Int), (0 : Int), (0 : Int), (0 : Int)))) R) : Int) else (-1 : Int)) < (↑(List.length R) : Int)) ∧ fits IntKind.i64 (Prod.fst (Prod.snd (List.getD R (Int.toNat (if idxN (Prod.fst (List.getD L (Int.toNat ((↑i : Int) - (1 : Int))) ([], (0 : Int), (0 : Int), (0 : Int), (0 : Int)))) R < List.length R then (↑(idxN (Prod.fst (List.getD L (Int.toNat ((↑i : Int) - (1 : Int))) ([], (0 : Int), (0 : Int), (0 : Int), (0 : Int)))) R) : Int) else (-1 : Int))) ([], (0 : Int), []))) + (↑(List.length (Prod.snd (Prod.snd (List.getD R (Int.toNat (if idxN (Prod.fst (List.getD L (Int.toNat ((↑i : Int) - (1 : Int))) ([], (0 : Int), (0 : Int), (0 : Int), (0 : Int)))) R < List.length R then (↑(idxN (Prod.fst (List.getD L (Int.toNat ((↑i : Int) - (1 : Int))) ([], (0 : Int), (0 : Int), (0 : Int), (0 : Int)))) R) : Int) else (-1 : Int))) ([], (0 : Int), []))))) : Int)) ∧ whenE (decide (Prod.fst (Prod.snd (List.getD R (Int.toNat (if idxN (Prod.fst (List.getD L (Int.toNat ((↑i : Int) - (1 : Int))) ([], (0 : Int), (0 : Int), (0 : Int), (0 : Int)))) R < List.length R then (↑(idxN (Prod.fst (List.getD L (Int.toNat ((↑i : Int) - (1 : Int))) ([], (0 : Int), (0 : Int), (0 : Int), (0 : Int)))) R) : Int) else (-1 : Int))) ([], (0 : Int), []))) + (↑(List.length (Prod.snd (Prod.snd (List.getD R (Int.toNat (if idxN (Prod.fst (List.getD L (Int.toNat ((↑i : Int) - (1 : Int))) ([], (0 : Int), (0 : Int), (0 : Int), (0 : Int)))) R < List.length R then (↑(idxN (Prod.fst (List.getD L (Int.toNat ((↑i : Int) - (1 : Int))) ([], (0 : Int), (0 : Int), (0 : Int), (0 : Int)))) R) : Int) else (-1 : Int))) ([], (0 : Int), []))))) : Int) < Prod.fst (Prod.snd (Prod.snd (List.getD L (Int.toNat ((↑i : Int) - (1 : Int))) ([], (0 : Int), (0 : Int), (0 : Int), (0 : Int))))) + Prod.fst (Prod.snd (Prod.snd (Prod.snd (List.getD L i ([], (0 : Int), (0 : Int), (0 : Int), (0 : Int)))))))) (16 : Int) = chkEd R L i ∧ True))))) := by
  kernel_rfl
theorem vc106 (p : List Pl) (n : Int) (m : List (List UInt8 × Rl)) (i : Nat) : exF (env false [(105, sp105)] []) h0 0 106 Proofs.Tryd.f106 [lsV p n m, iV i] (.val (.agg [.one (.int .i64 (heardN p n i).1), .one (.int .i64 (heardN p n i).2)])) = (((0 : Int) ≤ (↑i : Int) ∧ (↑i : Int) < (↑(List.length p) : Int)) ∧ fits IntKind.i64 (Prod.snd (List.getD p i (([], (0 : Int), (0 : Int), (0 : Int), (0 : Int)), (0 : Int))) + Prod.snd (Prod.snd (Prod.snd (Prod.snd (Prod.fst (List.getD p i (([], (0 : Int), (0 : Int), (0 : Int), (0 : Int)), (0 : Int)))))))) ∧ fits IntKind.i64 ((↑i : Int) + (1 : Int)) ∧ splitB (decide ((↑i : Int) + (1 : Int) < (↑(List.length p) : Int))) (fits IntKind.i64 ((↑i : Int) + (1 : Int)) ∧ ((0 : Int) ≤ (↑i : Int) + (1 : Int) ∧ (↑i : Int) + (1 : Int) < (↑(List.length p) : Int)) ∧ fits IntKind.i64 (Prod.snd (List.getD p (Int.toNat ((↑i : Int) + (1 : Int))) (([], (0 : Int), (0 : Int), (0 : Int), (0 : Int)), (0 : Int))) + Prod.snd (Prod.snd (Prod.snd (Prod.snd (Prod.fst (List.getD p (Int.toNat ((↑i : Int) + (1 : Int))) (([], (0 : Int), (0 : Int), (0 : Int), (0 : Int)), (0 : Int)))))))) ∧ Prod.snd (List.getD p i (([], (0 : Int), (0 : Int), (0 : Int), (0 : Int)), (0 : Int))) + Prod.snd (Prod.snd (Prod.snd (Prod.snd (Prod.fst (List.getD p i (([], (0 : Int), (0 : Int), (0 : Int), (0 : Int)), (0 : Int))))))) = Prod.fst (heardN p n i) ∧ Prod.snd (List.getD p (Int.toNat ((↑i : Int) + (1 : Int))) (([], (0 : Int), (0 : Int), (0 : Int), (0 : Int)), (0 : Int))) + Prod.snd (Prod.snd (Prod.snd (Prod.snd (Prod.fst (List.getD p (Int.toNat ((↑i : Int) + (1 : Int))) (([], (0 : Int), (0 : Int), (0 : Int), (0 : Int)), (0 : Int))))))) = Prod.snd (heardN p n i) ∧ True) (Prod.snd (List.getD p i (([], (0 : Int), (0 : Int), (0 : Int), (0 : Int)), (0 : Int))) + Prod.snd (Prod.snd (Prod.snd (Prod.snd (Prod.fst (List.getD p i (([], (0 : Int), (0 : Int), (0 : Int), (0 : Int)), (0 : Int))))))) = Prod.fst (heardN p n i) ∧ n = Prod.snd (heardN p n i) ∧ True)) := by
  kernel_rfl
theorem vc98 (p : List Pl) (n : Int) (m : List (List UInt8 × Rl)) (fr : Int) : exF (env false [(135, sp135)] []) h0 0 98 Proofs.Tryd.f98 [lsV p n m, iV fr] (.val (tkV (soundN p fr))) = (List.length p ≤ (1000000 : Nat) ∧ (∀ (x : Pl), x ∈ p → fits IntKind.i64 (sndN x)) ∧ ((0 : Int) ≤ (↑(lastTo sndN p fr (List.length p)) : Int) ∧ (↑(lastTo sndN p fr (List.length p)) : Int) < (↑(List.length p) : Int)) ∧ fits IntKind.i64 (Prod.fst (Prod.snd (Prod.fst (List.getD p (lastTo sndN p fr (List.length p)) (([], (0 : Int), (0 : Int), (0 : Int), (0 : Int)), (0 : Int))))) + fr) ∧ fits IntKind.i64 (Prod.fst (Prod.snd (Prod.fst (List.getD p (lastTo sndN p fr (List.length p)) (([], (0 : Int), (0 : Int), (0 : Int), (0 : Int)), (0 : Int))))) + fr - Prod.snd (List.getD p (lastTo sndN p fr (List.length p)) (([], (0 : Int), (0 : Int), (0 : Int), (0 : Int)), (0 : Int)))) ∧ Prod.fst (Prod.fst (List.getD p (lastTo sndN p fr (List.length p)) (([], (0 : Int), (0 : Int), (0 : Int), (0 : Int)), (0 : Int)))) = Prod.fst (soundN p fr) ∧ Prod.fst (Prod.snd (Prod.fst (List.getD p (lastTo sndN p fr (List.length p)) (([], (0 : Int), (0 : Int), (0 : Int), (0 : Int)), (0 : Int))))) + fr - Prod.snd (List.getD p (lastTo sndN p fr (List.length p)) (([], (0 : Int), (0 : Int), (0 : Int), (0 : Int)), (0 : Int))) = Prod.fst (Prod.snd (soundN p fr)) ∧ (1 : Int) = Prod.fst (Prod.snd (Prod.snd (soundN p fr))) ∧ (1 : Int) = Prod.snd (Prod.snd (Prod.snd (soundN p fr))) ∧ True) := by
  kernel_rfl
theorem vc133 (p : List Pl) (n : Int) (m : List (List UInt8 × Rl)) (fr : Int) : exF (env false [(145, sp145), (135, sp135)] []) h0 0 133 Proofs.Tryd.f133 [lsV p n m, iV fr] (.val (.one (.sl tkT (takesN p fr)))) = (List.length p ≤ (1000000 : Nat) ∧ ((0 : Int) ≤ (↑(lastTo begP p fr (List.length p)) : Int) ∧ (↑(lastTo begP p fr (List.length p)) : Int) < (↑(List.length p) : Int)) ∧ fits IntKind.i64 (fr - Prod.snd (List.getD p (lastTo begP p fr (List.length p)) (([], (0 : Int), (0 : Int), (0 : Int), (0 : Int)), (0 : Int)))) ∧ splitB (decide (Prod.fst (Prod.snd (Prod.snd (Prod.snd (Prod.fst (List.getD p (lastTo begP p fr (List.length p)) (([], (0 : Int), (0 : Int), (0 : Int), (0 : Int)), (0 : Int))))))) ≤ fr - Prod.snd (List.getD p (lastTo begP p fr (List.length p)) (([], (0 : Int), (0 : Int), (0 : Int), (0 : Int)), (0 : Int))))) (fits IntKind.i64 (Prod.fst (Prod.snd (Prod.fst (List.getD p (lastTo begP p fr (List.length p)) (([], (0 : Int), (0 : Int), (0 : Int), (0 : Int)), (0 : Int))))) + (fr - Prod.snd (List.getD p (lastTo begP p fr (List.length p)) (([], (0 : Int), (0 : Int), (0 : Int), (0 : Int)), (0 : Int))))) ∧ [(Prod.fst (Prod.fst (List.getD p (lastTo begP p fr (List.length p)) (([], (0 : Int), (0 : Int), (0 : Int), (0 : Int)), (0 : Int)))), Prod.fst (Prod.snd (Prod.fst (List.getD p (lastTo begP p fr (List.length p)) (([], (0 : Int), (0 : Int), (0 : Int), (0 : Int)), (0 : Int))))) + (fr - Prod.snd (List.getD p (lastTo begP p fr (List.length p)) (([], (0 : Int), (0 : Int), (0 : Int), (0 : Int)), (0 : Int)))), (1 : Int), (1 : Int))] = takesN p fr ∧ True) (fits IntKind.i64 ((↑(lastTo begP p fr (List.length p)) : Int) - (1 : Int)) ∧ ((0 : Int) ≤ (↑(lastTo begP p fr (List.length p)) : Int) - (1 : Int) ∧ (↑(lastTo begP p fr (List.length p)) : Int) - (1 : Int) < (↑(List.length p) : Int)) ∧ fits IntKind.i64 (Prod.fst (Prod.snd (Prod.snd (Prod.fst (List.getD p (Int.toNat ((↑(lastTo begP p fr (List.length p)) : Int) - (1 : Int))) (([], (0 : Int), (0 : Int), (0 : Int), (0 : Int)), (0 : Int)))))) + (fr - Prod.snd (List.getD p (lastTo begP p fr (List.length p)) (([], (0 : Int), (0 : Int), (0 : Int), (0 : Int)), (0 : Int))))) ∧ fits IntKind.i64 (Prod.fst (Prod.snd (Prod.snd (Prod.snd (Prod.fst (List.getD p (lastTo begP p fr (List.length p)) (([], (0 : Int), (0 : Int), (0 : Int), (0 : Int)), (0 : Int))))))) - (fr - Prod.snd (List.getD p (lastTo begP p fr (List.length p)) (([], (0 : Int), (0 : Int), (0 : Int), (0 : Int)), (0 : Int))))) ∧ fits IntKind.i64 (Prod.fst (Prod.snd (Prod.snd (Prod.snd (Prod.fst (List.getD p (lastTo begP p fr (List.length p)) (([], (0 : Int), (0 : Int), (0 : Int), (0 : Int)), (0 : Int))))))) + (1 : Int)) ∧ (0 : Int) < Prod.fst (Prod.snd (Prod.snd (Prod.snd (Prod.fst (List.getD p (lastTo begP p fr (List.length p)) (([], (0 : Int), (0 : Int), (0 : Int), (0 : Int)), (0 : Int))))))) - (fr - Prod.snd (List.getD p (lastTo begP p fr (List.length p)) (([], (0 : Int), (0 : Int), (0 : Int), (0 : Int)), (0 : Int)))) ∧ (0 : Int) < Prod.fst (Prod.snd (Prod.snd (Prod.snd (Prod.fst (List.getD p (lastTo begP p fr (List.length p)) (([], (0 : Int), (0 : Int), (0 : Int), (0 : Int)), (0 : Int))))))) + (1 : Int) ∧ (Prod.fst (Prod.snd (Prod.snd (Prod.snd (Prod.fst (List.getD p (lastTo begP p fr (List.length p)) (([], (0 : Int), (0 : Int), (0 : Int), (0 : Int)), (0 : Int))))))) - (fr - Prod.snd (List.getD p (lastTo begP p fr (List.length p)) (([], (0 : Int), (0 : Int), (0 : Int), (0 : Int)), (0 : Int)))) ≤ (1000000 : Int) ∧ Prod.fst (Prod.snd (Prod.snd (Prod.snd (Prod.fst (List.getD p (lastTo begP p fr (List.length p)) (([], (0 : Int), (0 : Int), (0 : Int), (0 : Int)), (0 : Int))))))) + (1 : Int) ≤ (1000000 : Int)) ∧ fits IntKind.i64 (Prod.fst (Prod.snd (Prod.fst (List.getD p (lastTo begP p fr (List.length p)) (([], (0 : Int), (0 : Int), (0 : Int), (0 : Int)), (0 : Int))))) + (fr - Prod.snd (List.getD p (lastTo begP p fr (List.length p)) (([], (0 : Int), (0 : Int), (0 : Int), (0 : Int)), (0 : Int))))) ∧ fits IntKind.i64 (fr - Prod.snd (List.getD p (lastTo begP p fr (List.length p)) (([], (0 : Int), (0 : Int), (0 : Int), (0 : Int)), (0 : Int))) + (1 : Int)) ∧ fits IntKind.i64 (Prod.fst (Prod.snd (Prod.snd (Prod.snd (Prod.fst (List.getD p (lastTo begP p fr (List.length p)) (([], (0 : Int), (0 : Int), (0 : Int), (0 : Int)), (0 : Int))))))) + (1 : Int)) ∧ (0 : Int) < fr - Prod.snd (List.getD p (lastTo begP p fr (List.length p)) (([], (0 : Int), (0 : Int), (0 : Int), (0 : Int)), (0 : Int))) + (1 : Int) ∧ (0 : Int) < Prod.fst (Prod.snd (Prod.snd (Prod.snd (Prod.fst (List.getD p (lastTo begP p fr (List.length p)) (([], (0 : Int), (0 : Int), (0 : Int), (0 : Int)), (0 : Int))))))) + (1 : Int) ∧ (fr - Prod.snd (List.getD p (lastTo begP p fr (List.length p)) (([], (0 : Int), (0 : Int), (0 : Int), (0 : Int)), (0 : Int))) + (1 : Int) ≤ (1000000 : Int) ∧ Prod.fst (Prod.snd (Prod.snd (Prod.snd (Prod.fst (List.getD p (lastTo begP p fr (List.length p)) (([], (0 : Int), (0 : Int), (0 : Int), (0 : Int)), (0 : Int))))))) + (1 : Int) ≤ (1000000 : Int)) ∧ [(Prod.fst (Prod.fst (List.getD p (Int.toNat ((↑(lastTo begP p fr (List.length p)) : Int) - (1 : Int))) (([], (0 : Int), (0 : Int), (0 : Int), (0 : Int)), (0 : Int)))), Prod.fst (Prod.snd (Prod.snd (Prod.fst (List.getD p (Int.toNat ((↑(lastTo begP p fr (List.length p)) : Int) - (1 : Int))) (([], (0 : Int), (0 : Int), (0 : Int), (0 : Int)), (0 : Int)))))) + (fr - Prod.snd (List.getD p (lastTo begP p fr (List.length p)) (([], (0 : Int), (0 : Int), (0 : Int), (0 : Int)), (0 : Int)))), Prod.fst (lowN (Prod.fst (Prod.snd (Prod.snd (Prod.snd (Prod.fst (List.getD p (lastTo begP p fr (List.length p)) (([], (0 : Int), (0 : Int), (0 : Int), (0 : Int)), (0 : Int))))))) - (fr - Prod.snd (List.getD p (lastTo begP p fr (List.length p)) (([], (0 : Int), (0 : Int), (0 : Int), (0 : Int)), (0 : Int))))) (Prod.fst (Prod.snd (Prod.snd (Prod.snd (Prod.fst (List.getD p (lastTo begP p fr (List.length p)) (([], (0 : Int), (0 : Int), (0 : Int), (0 : Int)), (0 : Int))))))) + (1 : Int))), Prod.snd (lowN (Prod.fst (Prod.snd (Prod.snd (Prod.snd (Prod.fst (List.getD p (lastTo begP p fr (List.length p)) (([], (0 : Int), (0 : Int), (0 : Int), (0 : Int)), (0 : Int))))))) - (fr - Prod.snd (List.getD p (lastTo begP p fr (List.length p)) (([], (0 : Int), (0 : Int), (0 : Int), (0 : Int)), (0 : Int))))) (Prod.fst (Prod.snd (Prod.snd (Prod.snd (Prod.fst (List.getD p (lastTo begP p fr (List.length p)) (([], (0 : Int), (0 : Int), (0 : Int), (0 : Int)), (0 : Int))))))) + (1 : Int)))), (Prod.fst (Prod.fst (List.getD p (lastTo begP p fr (List.length p)) (([], (0 : Int), (0 : Int), (0 : Int), (0 : Int)), (0 : Int)))), Prod.fst (Prod.snd (Prod.fst (List.getD p (lastTo begP p fr (List.length p)) (([], (0 : Int), (0 : Int), (0 : Int), (0 : Int)), (0 : Int))))) + (fr - Prod.snd (List.getD p (lastTo begP p fr (List.length p)) (([], (0 : Int), (0 : Int), (0 : Int), (0 : Int)), (0 : Int)))), Prod.fst (lowN (fr - Prod.snd (List.getD p (lastTo begP p fr (List.length p)) (([], (0 : Int), (0 : Int), (0 : Int), (0 : Int)), (0 : Int))) + (1 : Int)) (Prod.fst (Prod.snd (Prod.snd (Prod.snd (Prod.fst (List.getD p (lastTo begP p fr (List.length p)) (([], (0 : Int), (0 : Int), (0 : Int), (0 : Int)), (0 : Int))))))) + (1 : Int))), Prod.snd (lowN (fr - Prod.snd (List.getD p (lastTo begP p fr (List.length p)) (([], (0 : Int), (0 : Int), (0 : Int), (0 : Int)), (0 : Int))) + (1 : Int)) (Prod.fst (Prod.snd (Prod.snd (Prod.snd (Prod.fst (List.getD p (lastTo begP p fr (List.length p)) (([], (0 : Int), (0 : Int), (0 : Int), (0 : Int)), (0 : Int))))))) + (1 : Int))))] = takesN p fr ∧ True)) := by
  kernel_rfl
end Go.Sx

/- Contracts. -/
namespace Go.Sx
open U
theorem lastTo_lt (g : Pl → Int) (p : List Pl) (fr : Int) : ∀ n, 0 < n → lastTo g p fr n < n
  | n + 1, _ => by
    simp only [lastTo]
    split
    · omega
    · cases n with
      | zero => exact Nat.zero_lt_one
      | succ n => have := lastTo_lt g p fr (n + 1) (by omega); omega
theorem lastTo_le {g : Pl → Int} {p : List Pl} {fr : Int} (h : g (p.getD 0 pl0) ≤ fr) : ∀ n, g (p.getD (lastTo g p fr n) pl0) ≤ fr
  | 0 => h
  | n + 1 => by
    simp only [lastTo]
    split
    · assumption
    · exact lastTo_le h n
theorem fn135 (p : List Pl) (n : Int) (m : List (List UInt8 × Rl)) (fr : Int) (hp : p.length ≤ 1000000) : Fn P1 gl1 135 [lsV p n m, iV fr, .one (.fn 144 [] [])] (.val (iV (lastTo begP p fr p.length))) true := by
  refine Fn.flat ?_ rfl
  refine fn_of false [] [fb144] hLastH 3 Proofs.Tryd.f135 trivial ⟨⟨by kernel_rfl, by kernel_rfl, _, rfl, by kernel_rfl⟩, trivial⟩ (by kernel_rfl) rfl (by kernel_rfl) rfl rfl rfl ?_
  rw [vc135]
  try simp only [splitB_iff, -eq_self]
  refine ⟨⟨0, Nat.zero_le _, rfl, rfl, by simp⟩, fun g hg => ⟨fun hlt => ?_, fun hge => ?_⟩⟩
  · have hlt' : g < p.length := by simpa using hlt
    refine ⟨by omega, fun h => ⟨by simp only [fits]; omega, g + 1, hlt', by omega, by simp, ?_, by simp⟩, fun h => ⟨by simp only [fits]; omega, g + 1, hlt', by omega, by simp, ?_, by simp⟩⟩
    · have h' : begP (p.getD g pl0) ≤ fr := of_decide_eq_true h
      simp only [lastTo]
      rw [if_pos h']
    · have h' : ¬ begP (p.getD g pl0) ≤ fr := of_decide_eq_false h
      simp only [lastTo]
      rw [if_neg h']
  · have hge' : ¬ g < p.length := by simpa using hge
    have : g = p.length := by have : g ≤ p.length := hg
                              omega
    subst this
    exact ⟨rfl, trivial⟩
theorem fn135b (p : List Pl) (n : Int) (m : List (List UInt8 × Rl)) (fr : Int) (hp : p.length ≤ 1000000) (hs : ∀ x ∈ p, fits .i64 (sndN x)) : Fn P1 gl1 135 [lsV p n m, iV fr, .one (.fn 105 [] [])] (.val (iV (lastTo sndN p fr p.length))) true := by
  refine Fn.flat ?_ rfl
  refine fn_of false [(105, sp105)] [] hLastH 0 Proofs.Tryd.f135 ⟨so105, trivial⟩ trivial (by kernel_rfl) rfl (by kernel_rfl) rfl rfl rfl ?_
  rw [vc135b]
  try simp only [splitB_iff, -eq_self]
  refine ⟨⟨0, Nat.zero_le _, rfl, rfl, by simp⟩, fun g hg => ⟨fun hlt => ?_, fun hge => ?_⟩⟩
  · have hlt' : g < p.length := by simpa using hlt
    refine ⟨by omega, hs _ (getD_mem hlt'), fun h => ⟨by simp only [fits]; omega, g + 1, hlt', by omega, by simp, ?_, by simp⟩, fun h => ⟨by simp only [fits]; omega, g + 1, hlt', by omega, by simp, ?_, by simp⟩⟩
    · have h' : sndN (p.getD g pl0) ≤ fr := of_decide_eq_true h
      simp only [lastTo]
      rw [if_pos h']
    · have h' : ¬ sndN (p.getD g pl0) ≤ fr := of_decide_eq_false h
      simp only [lastTo]
      rw [if_neg h']
  · have hge' : ¬ g < p.length := by simpa using hge
    have : g = p.length := by have : g ≤ p.length := hg
                              omega
    subst this
    exact ⟨rfl, trivial⟩
theorem so135_ : SpecOk P1 gl1 135 sp135 := by
  intro vs ps r h hp
  simp only [sp135] at h
  split at h
  · split at h
    · rename_i e; subst e; cases h
      exact fn135 _ _ _ _ (hp _ (.head _))
    · split at h
      · rename_i e; subst e; cases h
        exact fn135b _ _ _ _ (hp _ (.head _)) (hp _ (.tail _ (.head _)))
      · cases h
  · cases h
theorem so135 : Sp1 135 sp135 := ⟨so135_, Proofs.Tryd.f135, _, by kernel_rfl, rfl, by kernel_rfl⟩

theorem fn140 (nm : List UInt8) (R : List Rl) (hR : R.length ≤ 1000000000) : Fn P1 gl1 140 [.one (.str nm), .one (.ref (.sl rlT) R)] (.val (iV (if idxN nm R < R.length then (idxN nm R : Int) else -1))) true := by
  refine Fn.flat ?_ rfl
  refine fn_of false [] [fb142, fb141] h104 3 Proofs.Tryd.f140 trivial ⟨⟨by kernel_rfl, by kernel_rfl, _, rfl, by kernel_rfl⟩, ⟨by kernel_rfl, by kernel_rfl, _, rfl, by kernel_rfl⟩, trivial⟩ (by kernel_rfl) rfl (by kernel_rfl) rfl rfl rfl ?_
  rw [vc140]
  try simp only [splitB_iff, -eq_self]
  refine ⟨⟨0, Nat.zero_le _, rfl, rfl, by simp⟩, fun g hg => ⟨fun hlt => ?_, fun hge => ?_⟩⟩
  · have hlt' : g < R.length := by simpa using hlt
    refine ⟨by omega, fun h => ⟨?_, trivial⟩, fun h => ⟨by simp only [fits]; omega, g + 1, ?_, by omega, by simp, by simp⟩⟩
    · have h1 := idxN_at hlt' (by simpa using h)
      have h2 : g ≤ idxN nm R := hg
      have e : idxN nm R = g := by omega
      rw [e, if_pos hlt']
    · exact idxN_next hg hlt' (by simpa using h)
  · have hge' : ¬ g < R.length := by simpa using hge
    have h2 : g ≤ idxN nm R := hg
    rw [if_neg (by omega)]
    exact ⟨rfl, trivial⟩
theorem so140_ : SpecOk P1 gl1 140 sp140 := by
  intro vs ps r h hp
  simp only [sp140] at h
  split at h
  · cases h; exact fn140 _ _ (hp _ (.head _))
  · cases h
theorem so140 : Sp1 140 sp140 := ⟨so140_, Proofs.Tryd.f140, _, by kernel_rfl, rfl, by kernel_rfl⟩

theorem rs_at {R : List Rl} (h : chkRs R = 0) : R.length ≤ 8 ∧ ∀ r ∈ R, ReelOk r.1 r.2.1 r.2.2 := by
  unfold chkRs at h
  split at h
  · cases h
  · refine ⟨by omega, fun r hr => ?_⟩
    obtain ⟨i, hi, rfl⟩ := List.mem_iff_getElem.1 hr
    have key : ∀ n, upTo (chkRl R) n = 0 → ∀ j, j < n → chkRl R j = 0 := by
      intro n
      induction n with
      | zero => intro _ j hj; omega
      | succ n ih =>
        intro h0 j hj
        simp only [upTo] at h0
        split at h0
        · rename_i h1
          by_cases e : j = n
          · subst e; exact h0
          · exact ih h1 j (by omega)
        · rename_i h1; exact absurd h0 h1
    have h2 := (first_zero_iff _).1 (key _ h i hi) _ (List.mem_cons_self)
    rw [getD_of hi] at h2
    exact checkReel_zero.1 h2
theorem chkE_ok {R : List Rl} {x : Ed} {b : Option Ed} (h : chkE R x b = 0) : idxN x.1 R < R.length ∧ (rlOf R x.1).2.1 ≤ x.2.1 ∧ x.2.1 < x.2.2.1 ∧ x.2.2.1 ≤ endR (rlOf R x.1) ∧ (0 ≤ x.2.2.2.1 ∧ x.2.2.2.1 ≤ x.2.2.1 - x.2.1) ∧ (-100 ≤ x.2.2.2.2 ∧ x.2.2.2.2 ≤ 100) := by
  unfold chkE at h
  split at h
  · cases h
  · split at h
    · cases h
    · split at h
      · rename_i h1; exact absurd h h1
      · rename_i h1 h2 h3
        have hp := (first_zero_iff _).1 (show prs x = 0 from Classical.byContradiction h3)
        have p1 := within_zero.1 (hp _ (List.mem_cons_self))
        have p2 := within_zero.1 (hp _ (List.mem_cons_of_mem _ List.mem_cons_self))
        exact ⟨by omega, by omega, by omega, by omega, p1, p2⟩
theorem fn104 (R : List Rl) (L : List Ed) (i : Nat) (hR : chkRs R = 0) (hi : i < L.length) (hL : L.length ≤ 1000000) (hb : 0 < i → chkEd R L (i - 1) = 0) : Fn P1 gl1 104 [.one (.sl rlT R), .one (.sl edT L), iV i] (.val (iV (chkEd R L i))) true := by
  refine Fn.flat ?_ rfl
  refine fn_of false [(77, sp77), (129, sp129), (122, sp122), (78, sp78), (79, sp79), (140, sp140)] [] h0 0 Proofs.Tryd.f104 ⟨so77, so129, so122, so78, so79, so140, trivial⟩ trivial (by kernel_rfl) rfl (by kernel_rfl) rfl rfl rfl ?_
  rw [vc104]
  try simp only [splitB_iff, -eq_self]
  obtain ⟨h8, hro⟩ := rs_at hR
  have hx : L.getD i ([], 0, 0, 0, 0) = L.getD i e0 := rfl
  rw [hx]
  generalize hX : L.getD i e0 = x at *
  have hE : chkEd R L i = chkE R x (if i = 0 then none else some (L.getD (i - 1) e0)) := by unfold chkEd; rw [hX]
  rw [hE]
  have hend : ∀ nm : List UInt8, idxN nm R < R.length → (0 ≤ (rlOf R nm).2.1 ∧ (rlOf R nm).2.1 ≤ 10000000) ∧ 0 ≤ endR (rlOf R nm) ∧ endR (rlOf R nm) ≤ 10000000 := by
    intro nm h
    have hr := hro _ (getD_mem (d := r0) h)
    have h1 := hr.start
    have h2 := hr.fin
    simp only [rlOf, endR]
    omega
  by_cases hk : idxN x.1 R < R.length
  · have hn := hend _ hk
    have hkk : ((idxN x.1 R : Nat) : Int).toNat = idxN x.1 R := by omega
    have hrl : R.getD (idxN x.1 R) ([], 0, []) = rlOf R x.1 := rfl
    rw [if_pos hk, hkk, hrl]
    generalize hrr : rlOf R x.1 = r at *
    refine ⟨by omega, by omega, fun h => ?_, fun _ => ⟨fun _ => by omega, fun _ => by omega, fun _ => ?_, fun h => ?_, fun h => ?_⟩⟩
    · have := of_decide_eq_true h
      omega
    · show fits .i64 (endR r)
      simp only [fits]; omega
    · simp only [bcond_l, Bool.or_eq_true, decide_eq_true_eq] at h
      have hc : x.2.2.1 ≤ x.2.1 ∨ x.2.1 < r.2.1 ∨ endR r < x.2.2.1 := by unfold endR; omega
      unfold chkE
      rw [if_neg (by omega), hrr, if_pos hc]
      exact ⟨rfl, trivial⟩
    · simp only [bcond_l, Bool.or_eq_false_iff, decide_eq_false_iff_not] at h
      have hc : ¬ (x.2.2.1 ≤ x.2.1 ∨ x.2.1 < r.2.1 ∨ endR r < x.2.2.1) := by unfold endR; omega
      have hchk : ∀ b, chkE R x b = if prs x ≠ 0 then prs x else match b with
          | none => whenE (decide (x ≠ (x.1, x.2.1, x.2.2.1, 0, 0))) 21
          | some b => whenE (decide (endR (rlOf R b.1) < b.2.2.1 + x.2.2.2.1)) 16 := by
        intro b
        conv => lhs; unfold chkE
        rw [if_neg (by omega), hrr, if_neg hc]
        all_goals (cases b <;> rfl)
      have hp : first [within x.2.2.2.1 0 (x.2.2.1 - x.2.1), within x.2.2.2.2 (-100) 100] = prs x := rfl
      rw [hp]
      refine ⟨by simp only [fits]; omega, by decide, fun h2 => ⟨?_, trivial⟩, fun h2 => ⟨fun h3 => ⟨?_, trivial⟩, fun h3 => ?_⟩⟩
      · rw [hchk, if_pos (by simpa using h2)]
      · have i0 : i = 0 := by have : (i : Int) = 0 := by simpa using h3
                              omega
        rw [hchk, if_neg (show ¬ prs x ≠ 0 by simpa using h2), if_pos i0]
        dsimp only
        congr 1
        rw [Bool.eq_iff_iff, Bool.not_eq_true', decide_eq_true_eq, ← Bool.not_eq_true, eqT_key rfl]
      · have i0 : i ≠ 0 := by have : ¬ (i : Int) = 0 := by simpa using h3
                              omega
        have e1 : ((i : Int) - 1).toNat = i - 1 := by omega
        have hy : L.getD (i - 1) ([], 0, 0, 0, 0) = L.getD (i - 1) e0 := rfl
        rw [hchk, if_neg (show ¬ prs x ≠ 0 by simpa using h2), if_neg i0, e1, hy]
        have hok := chkE_ok (hb (by omega))
        generalize L.getD (i - 1) e0 = y at *
        have hny := hend _ hok.1
        have hky : ((idxN y.1 R : Nat) : Int).toNat = idxN y.1 R := by omega
        have hrly : R.getD (idxN y.1 R) ([], 0, []) = rlOf R y.1 := rfl
        have hpz := (first_zero_iff _).1 (show prs x = 0 by simpa using h2)
        have p1 := within_zero.1 (hpz _ (List.mem_cons_self))
        rw [if_pos hok.1, hky, hrly]
        refine ⟨by simp only [fits]; omega, by omega, by simp only [fits]; omega, by omega, by omega, ?_, rfl, trivial⟩
        show fits .i64 (endR (rlOf R y.1))
        simp only [fits]; omega
  · rw [if_neg hk]
    refine ⟨by omega, by omega, fun _ => ⟨?_, trivial⟩, fun h => ?_⟩
    · unfold chkE
      rw [if_pos (by omega)]
    · have := of_decide_eq_false h
      omega

theorem fn106 (p : List Pl) (n : Int) (m : List (List UInt8 × Rl)) (i : Nat) (hi : i < p.length) (hp : ∀ x ∈ p, fits .i64 (sndN x)) (hl : p.length ≤ 1000000) : Fn P1 gl1 106 [lsV p n m, iV i] (.val (.agg [.one (.int .i64 (heardN p n i).1), .one (.int .i64 (heardN p n i).2)])) true := by
  refine Fn.flat ?_ rfl
  refine fn_of false [(105, sp105)] [] h0 0 Proofs.Tryd.f106 ⟨so105, trivial⟩ trivial (by kernel_rfl) rfl (by kernel_rfl) rfl rfl rfl ?_
  rw [vc106]
  try simp only [splitB_iff, -eq_self]
  have e1 : ((i : Int) + 1).toNat = i + 1 := by omega
  have f1 : ∀ j, j < p.length → fits .i64 (sndN (p.getD j pl0)) := fun j hj => hp _ (getD_mem hj)
  refine ⟨by omega, f1 i hi, by simp only [fits]; omega, fun h => ?_, fun h => ?_⟩
  · have h' : i + 1 < p.length := by have : (i : Int) + 1 < (p.length : Int) := by simpa using h
                                     omega
    rw [e1]
    refine ⟨by simp only [fits]; omega, by omega, f1 (i + 1) h', rfl, ?_, trivial⟩
    unfold heardN
    rw [if_pos h']
    rfl
  · have h' : ¬ i + 1 < p.length := by have : ¬ (i : Int) + 1 < (p.length : Int) := by simpa using h
                                       omega
    refine ⟨rfl, ?_, trivial⟩
    unfold heardN
    rw [if_neg h']

theorem fn98 (p : List Pl) (n : Int) (m : List (List UInt8 × Rl)) (fr : Int) (hp : PlsOk p) (hf : 0 ≤ fr ∧ fr ≤ 100000) : Fn P1 gl1 98 [lsV p n m, iV fr] (.val (tkV (soundN p fr))) true := by
  refine Fn.flat ?_ rfl
  refine fn_of false [(135, sp135)] [] h0 0 Proofs.Tryd.f98 ⟨so135, trivial⟩ trivial (by kernel_rfl) rfl (by kernel_rfl) rfl rfl rfl ?_
  rw [vc98]
  try simp only [splitB_iff, -eq_self]
  obtain ⟨h0, h16, hx, _, _⟩ := hp
  have hl := lastTo_lt sndN p fr p.length h0
  have hk := hx _ (getD_mem (d := pl0) hl)
  refine ⟨by omega, fun x h => ?_, by omega, ?_, ?_, rfl, rfl, rfl, rfl, trivial⟩
  · have := hx x h
    simp only [fits, sndN]; omega
  · show fits .i64 ((p.getD (lastTo sndN p fr p.length) pl0).1.2.1 + fr)
    simp only [fits]; omega
  · show fits .i64 ((p.getD (lastTo sndN p fr p.length) pl0).1.2.1 + fr - (p.getD (lastTo sndN p fr p.length) pl0).2)
    simp only [fits]; omega

theorem fn133 (p : List Pl) (n : Int) (m : List (List UInt8 × Rl)) (fr : Int) (hp : PlsOk p) (hf : 0 ≤ fr ∧ fr ≤ 100000) : Fn P1 gl1 133 [lsV p n m, iV fr] (.val (.one (.sl tkT (takesN p fr)))) false := by
  refine fn_of false [(145, sp145), (135, sp135)] [] h0 0 Proofs.Tryd.f133 ⟨so145, so135, trivial⟩ trivial (by kernel_rfl) rfl (by kernel_rfl) rfl rfl rfl ?_
  rw [vc133]
  try simp only [splitB_iff, -eq_self]
  obtain ⟨h0, h16, hx, hb0, hf0⟩ := hp
  have hl := lastTo_lt begP p fr p.length h0
  have hle : begP (p.getD (lastTo begP p fr p.length) pl0) ≤ fr := lastTo_le (by show (p.getD 0 pl0).2 ≤ fr; omega) _
  have hk := hx _ (getD_mem (d := pl0) hl)
  have hT : takesN p fr = takesE (p.getD (lastTo begP p fr p.length) pl0).1 (p.getD (lastTo begP p fr p.length - 1) pl0).1 (fr - (p.getD (lastTo begP p fr p.length) pl0).2) := rfl
  rw [hT]
  generalize lastTo begP p fr p.length = k at *
  change (p.getD k pl0).2 ≤ fr at hle
  change _ ∧ _ ∧ fits .i64 (fr - (p.getD k pl0).2) ∧ _
  refine ⟨by omega, by omega, by simp only [fits]; omega, fun h => ?_, fun h => ?_⟩
  · have h' : (p.getD k pl0).1.2.2.2.1 ≤ fr - (p.getD k pl0).2 := of_decide_eq_true h
    refine ⟨?_, ?_, trivial⟩
    · show fits .i64 ((p.getD k pl0).1.2.1 + (fr - (p.getD k pl0).2))
      simp only [fits]; omega
    · unfold takesE
      rw [if_pos h']
      rfl
  · have h' : ¬ (p.getD k pl0).1.2.2.2.1 ≤ fr - (p.getD k pl0).2 := of_decide_eq_false h
    have hk1 : 0 < k := by
      apply Nat.pos_of_ne_zero
      rintro rfl
      omega
    have e1 : ((k : Int) - 1).toNat = k - 1 := by omega
    have hb := hx _ (getD_mem (d := pl0) (show k - 1 < p.length by omega))
    rw [e1, show ((([], 0, 0, 0, 0), 0) : Pl) = pl0 from rfl]
    unfold takesE
    rw [if_neg h']
    refine ⟨?_, ?_, ?_, ?_, ?_, ?_, ?_, ?_, ?_, ?_, ?_, ?_, ?_, ?_, ?_⟩ <;> first | omega | (simp only [fits]; omega) | trivial | skip
theorem so104_ : SpecOk P1 gl1 104 sp104 := by
  intro vs ps r h hp
  simp only [sp104] at h
  split at h
  · cases h
    have e := (hp _ (.tail _ (.head _)))
    have := fn104 _ _ _ (hp _ (.head _)) (hp _ (.tail _ (.tail _ (.head _)))) (hp _ (.tail _ (.tail _ (.tail _ (.head _))))) (hp _ (.tail _ (.tail _ (.tail _ (.tail _ (.head _))))))
    rwa [e] at this
  · cases h
theorem so104 : Sp1 104 sp104 := ⟨so104_, Proofs.Tryd.f104, _, by kernel_rfl, rfl, by kernel_rfl⟩
theorem so106_ : SpecOk P1 gl1 106 sp106 := by
  intro vs ps r h hp
  simp only [sp106] at h
  split at h
  · cases h
    rename_i p n m i
    have e := (hp _ (.head _))
    have := fn106 p n m _ (hp _ (.tail _ (.head _))) (hp _ (.tail _ (.tail _ (.head _)))) (hp _ (.tail _ (.tail _ (.tail _ (.head _)))))
    rwa [e] at this
  · cases h
theorem so106 : Sp1 106 sp106 := ⟨so106_, Proofs.Tryd.f106, _, by kernel_rfl, rfl, by kernel_rfl⟩
theorem so98_ : SpecOk P1 gl1 98 sp98 := by
  intro vs ps r h hp
  simp only [sp98] at h
  split at h
  · cases h
    exact fn98 _ _ _ _ (hp _ (.head _)) (hp _ (.tail _ (.head _)))
  · cases h
theorem so98 : Sp1 98 sp98 := ⟨so98_, Proofs.Tryd.f98, _, by kernel_rfl, rfl, by kernel_rfl⟩
theorem so133_ : SpecOk P1 gl1 133 sp133 := by
  intro vs ps r h hp
  simp only [sp133] at h
  split at h
  · cases h
    exact fn133 _ _ _ _ (hp _ (.head _)) (hp _ (.tail _ (.head _)))
  · cases h
theorem so133 : Sp1 133 sp133 := ⟨so133_, Proofs.Tryd.f133, _, by kernel_rfl, rfl, by kernel_rfl⟩

end Go.Sx
