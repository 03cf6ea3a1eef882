/- A verified symbolic run of functions, part 16: lemmas, no claim of their own. -/
import Derived.Test.YtjbfcdgbjgjliaaGreatDoorS15
import Derived.Shelf.Strconv.Itoa3
import Derived.Shelf.Strings.OnBuilder
import Derived.Shelf.LaysM
import Derived.Test.YtjbfcdgbjgjliaaGreatDoorProg
import Derived.Shelf.Spec.SlicesGrow
/- Structures of the shelf at this program, in plain words. -/
namespace Go.Proofs
open Go.Shelf
def Tryz.lays156_ren : Go.Shelf.Ren := ⟨fun | 156 => 152 | 165 => 185 | 166 => 186 | 169 => 187 | 240 => 203 | 241 => 204 | 276 => 221 | 277 => 222 | n => n, fun | 31 => 155 | 9 => 9 | 3 => 3 | 4 => 4 | 0 => 0 | 20 => 20 | 72 => 250 | 76 => 254 | 70 => 247 | 37 => 248 | 75 => 253 | 127 => 266 | 164 => 281 | 5 => 5 | 80 => 256 | n => n, fun | n => n⟩
theorem Tryz.lays156 : Go.Proofs.Lays.n156 Tryz.prog Tryz.lays156_ren := {
  mixed := by kernel_rfl
  f156 := Tryz.func152.trans (congrArg some (by kernel_rfl))
  f165 := Tryz.func185.trans (congrArg some (by kernel_rfl))
  f166 := Tryz.func186.trans (congrArg some (by kernel_rfl))
  f169 := Tryz.func187.trans (congrArg some (by kernel_rfl))
  f240 := Tryz.func203.trans (congrArg some (by kernel_rfl))
  f241 := Tryz.func204.trans (congrArg some (by kernel_rfl))
  f276 := Tryz.func221.trans (congrArg some (by kernel_rfl))
  f277 := Tryz.func222.trans (congrArg some (by kernel_rfl))
  t0 := Tryz.underlying0
  a0 := Tryz.isAgg0
  z0 := Tryz.sizeOf0
  v0 := Tryz.zeroValue0
  t3 := Tryz.underlying3
  a3 := Tryz.isAgg3
  z3 := Tryz.sizeOf3
  v3 := Tryz.zeroValue3
  t4 := Tryz.underlying4
  a4 := Tryz.isAgg4
  z4 := Tryz.sizeOf4
  v4 := Tryz.zeroValue4
  t9 := Tryz.underlying9
  a9 := Tryz.isAgg9
  z9 := Tryz.sizeOf9
  v9 := Tryz.zeroValue9
  t20 := Tryz.underlying20
  a20 := Tryz.isAgg20
  z20 := Tryz.sizeOf20
  v20 := Tryz.zeroValue20
  t31 := Tryz.underlying155
  a31 := Tryz.isAgg155
  z31 := Tryz.sizeOf155
  v31 := Tryz.zeroValue155
  t37 := Tryz.underlying248
  a37 := Tryz.isAgg248
  z37 := Tryz.sizeOf248
  v37 := Tryz.zeroValue248
  t70 := Tryz.underlying247
  a70 := Tryz.isAgg247
  z70 := Tryz.sizeOf247
  v70 := Tryz.zeroValue247
  t72 := Tryz.underlying250
  a72 := Tryz.isAgg250
  z72 := Tryz.sizeOf250
  v72 := Tryz.zeroValue250
  t75 := Tryz.underlying253
  a75 := Tryz.isAgg253
  z75 := Tryz.sizeOf253
  v75 := Tryz.zeroValue253
  t76 := Tryz.underlying254
  a76 := Tryz.isAgg254
  z76 := Tryz.sizeOf254
  v76 := Tryz.zeroValue254
  t127 := Tryz.underlying266
  a127 := Tryz.isAgg266
  z127 := Tryz.sizeOf266
  v127 := Tryz.zeroValue266
  t164 := Tryz.underlying281
  a164 := Tryz.isAgg281
  z164 := Tryz.sizeOf281
  v164 := Tryz.zeroValue281 }
theorem Tryz.Builder_Extra_156 : Builder.Extra Tryz.prog Tryz.lays156_ren := {
  sizeBuilder := by kernel_rfl
  liesBuilder := by kernel_rfl
  t5 := Tryz.underlying5
  a5 := Tryz.isAgg5
  z5 := Tryz.sizeOf5
  v5 := Tryz.zeroValue5
  infoByte := by kernel_rfl
  cellsByte := by kernel_rfl
  sizeByte := by kernel_rfl
  neB5 := by decide }
def Tryz.laysM171_ren : Go.Shelf.Ren := ⟨fun | 171 => 151 | 243 => 184 | 246 => 202 | 283 => 217 | 284 => 218 | 285 => 219 | 286 => 220 | 129 => 238 | 317 => 237 | 318 => 239 | 319 => 240 | 320 => 241 | 337 => 251 | 338 => 252 | n => n, fun | 3 => 3 | 9 => 9 | 2 => 2 | 4 => 4 | 171 => 276 | 0 => 0 | 53 => 272 | 37 => 248 | 5 => 5 | 173 => 279 | 212 => 296 | 51 => 297 | 20 => 20 | 213 => 298 | 46 => 299 | 232 => 318 | 233 => 319 | n => n, fun | 17 => 2 | 18 => 8 | 19 => 9 | n => n⟩
theorem Tryz.laysM171 : Go.Proofs.LaysM.n171 Tryz.prog Tryz.laysM171_ren := {
  mixed := by kernel_rfl
  f129 := Tryz.func238.trans (congrArg some (by kernel_rfl))
  f171 := Tryz.func151.trans (congrArg some (by kernel_rfl))
  f243 := Tryz.func184.trans (congrArg some (by kernel_rfl))
  f246 := Tryz.func202.trans (congrArg some (by kernel_rfl))
  f283 := Tryz.func217.trans (congrArg some (by kernel_rfl))
  f284 := Tryz.func218.trans (congrArg some (by kernel_rfl))
  f285 := Tryz.func219.trans (congrArg some (by kernel_rfl))
  f286 := Tryz.func220.trans (congrArg some (by kernel_rfl))
  f317 := Tryz.func237.trans (congrArg some (by kernel_rfl))
  f318 := Tryz.func239.trans (congrArg some (by kernel_rfl))
  f319 := Tryz.func240.trans (congrArg some (by kernel_rfl))
  f320 := Tryz.func241.trans (congrArg some (by kernel_rfl))
  f337 := Tryz.func251.trans (congrArg some (by kernel_rfl))
  f338 := Tryz.func252.trans (congrArg some (by kernel_rfl))
  t0 := Tryz.underlying0
  a0 := Tryz.isAgg0
  z0 := Tryz.sizeOf0
  v0 := Tryz.zeroValue0
  t2 := Tryz.underlying2
  a2 := Tryz.isAgg2
  z2 := Tryz.sizeOf2
  v2 := Tryz.zeroValue2
  t3 := Tryz.underlying3
  a3 := Tryz.isAgg3
  z3 := Tryz.sizeOf3
  v3 := Tryz.zeroValue3
  t4 := Tryz.underlying4
  a4 := Tryz.isAgg4
  z4 := Tryz.sizeOf4
  v4 := Tryz.zeroValue4
  t5 := Tryz.underlying5
  a5 := Tryz.isAgg5
  z5 := Tryz.sizeOf5
  v5 := Tryz.zeroValue5
  t9 := Tryz.underlying9
  a9 := Tryz.isAgg9
  z9 := Tryz.sizeOf9
  v9 := Tryz.zeroValue9
  t20 := Tryz.underlying20
  a20 := Tryz.isAgg20
  z20 := Tryz.sizeOf20
  v20 := Tryz.zeroValue20
  t37 := Tryz.underlying248
  a37 := Tryz.isAgg248
  z37 := Tryz.sizeOf248
  v37 := Tryz.zeroValue248
  t46 := Tryz.underlying299
  a46 := Tryz.isAgg299
  z46 := Tryz.sizeOf299
  v46 := Tryz.zeroValue299
  t51 := Tryz.underlying297
  a51 := Tryz.isAgg297
  z51 := Tryz.sizeOf297
  v51 := Tryz.zeroValue297
  t53 := Tryz.underlying272
  a53 := Tryz.isAgg272
  z53 := Tryz.sizeOf272
  v53 := Tryz.zeroValue272
  t171 := Tryz.underlying276
  a171 := Tryz.isAgg276
  z171 := Tryz.sizeOf276
  v171 := Tryz.zeroValue276
  t173 := Tryz.underlying279
  a173 := Tryz.isAgg279
  z173 := Tryz.sizeOf279
  v173 := Tryz.zeroValue279
  t212 := Tryz.underlying296
  a212 := Tryz.isAgg296
  z212 := Tryz.sizeOf296
  v212 := Tryz.zeroValue296
  t213 := Tryz.underlying298
  a213 := Tryz.isAgg298
  z213 := Tryz.sizeOf298
  t232 := Tryz.underlying318
  a232 := Tryz.isAgg318
  z232 := Tryz.sizeOf318
  v232 := Tryz.zeroValue318
  t233 := Tryz.underlying319
  a233 := Tryz.isAgg319
  z233 := Tryz.sizeOf319
  v233 := Tryz.zeroValue319
  g17 := by kernel_rfl
  g18 := by kernel_rfl
  g19 := by kernel_rfl
  i0 := by kernel_rfl
  i2 := by kernel_rfl
  i3 := by kernel_rfl
  i4 := by kernel_rfl
  i5 := by kernel_rfl
  i9 := by kernel_rfl
  i20 := by kernel_rfl
  i37 := by kernel_rfl
  i46 := by kernel_rfl
  i51 := by kernel_rfl
  i53 := by kernel_rfl
  i171 := by kernel_rfl
  i173 := by kernel_rfl
  i212 := by kernel_rfl
  i232 := by kernel_rfl
  i233 := by kernel_rfl
  m17 := by kernel_rfl
  m18 := by kernel_rfl
  m19 := by kernel_rfl }
end Go.Proofs

/- The library's contracts in this seat. -/
namespace Go.Sx
theorem itoa1 (n : Int) (hn : fits .i64 n) : Fn P1 gl1 151 [iV n] (.val (sV (Lib.itoa n))) true :=
  itoa_fn Proofs.Tryz.laysM171 (g := 2) (by kernel_rfl) rfl n hn
theorem join1 (xs : List (List UInt8)) (sep : List UInt8) (h1 : xs.length ≤ 1000000) (h2 : (Lib.join xs sep).length ≤ 140737488355328) : Fn P1 gl1 152 [.one (.sl .str xs), sV sep] (.val (sV (Lib.join xs sep))) true :=
  join_fn Proofs.Tryz.lays156 Proofs.Tryz.Builder_Extra_156 xs sep h1 h2
end Go.Sx

/- Plain functions and hints. -/
namespace Go.Sx.U
def lineW (w : List UInt8) (l : List Nat) : List UInt8 := Lib.join (w :: (sixs l).map Lib.itoa) [32] ++ [10]
def prtN (y u v : List Nat) : List UInt8 := lineW [108, 117, 109, 97] y ++ lineW [117] u ++ lineW [118] v
def prN (y u v : List Nat) : List UInt8 := if chkPt y u v = 0 then prtN y u v else []
def fldM : List (Int × List UInt8 × Option Nat) := [(0, [108, 117, 109, 97], some 181), (1, [117], some 182), (2, [118], some 183)]
end Go.Sx.U
namespace Go.Sx
open U
abbrev fieldT : Ty := .pair .str .fnp
def h88 : Hints := ⟨fun f k s => match f, k with
  | 150, 3 => hMapG (.int .i64) .str Lib.itoa 8 10 5 [1, 9] s
  | _, _ => none, 4⟩
def sp151 : FSpec := ⟨fun vs => match vs with
  | [.one (.int .i64 n)] => some ([fits .i64 n], .val (.one (.str (Lib.itoa n))))
  | _ => none, true⟩
def sp152 : FSpec := ⟨fun vs => match vs with
  | [.one (.sl .str xs), .one (.str sep)] => some ([List.length xs ≤ 1000000, List.length (Lib.join xs sep) ≤ 140737488355328], .val (.one (.str (Lib.join xs sep))))
  | _ => none, true⟩
end Go.Sx
namespace Go.Sx
open U
def sp150 : FSpec := ⟨fun vs => match vs with
  | [.one (.sl (.int .i64) l), .one (.fn 151 [] [])] => some ([List.length l ≤ 1000000, Bd 1000000 l], .val (.one (.frs .str (List.map Lib.itoa l))))
  | _ => none, true⟩
def sp149 : FSpec := ⟨fun vs => match vs with
  | [] => some ([], .val (.one (.mp false true (.int .i64) fieldT fldM)))
  | _ => none, false⟩
end Go.Sx

/- What the engine asks, written out (printed by a program). -/
namespace Go.Sx
open U
theorem vc150 (l : List Int) : exF (env false [(151, sp151)] []) h88 0 150 Proofs.Tryz.f150 [.one (.sl (.int .i64) l), .one (.fn 151 [] [])] (.val (.one (.frs .str (l.map Lib.itoa)))) = (let q0 := (↑(List.length l) : Int); (∃ (g : Nat), Nat.le g (List.length l) ∧ (0 : Int) = (↑g : Int) ∧ q0 = q0 ∧ l = l ∧ List.map Lib.itoa (List.take g l) = [] ∧ True) ∧ ∀ (g : Nat), Nat.le g (List.length l) → splitB (decide ((↑g : Int) < q0)) (((0 : Int) ≤ (↑g : Int) ∧ (↑g : Int) < q0) ∧ fits IntKind.i64 (List.getD l g (0 : Int)) ∧ room (List.length (List.map Lib.itoa (List.take g l)) + (1 : Nat)) (16 : Nat) ∧ fits IntKind.i64 ((↑g : Int) + (1 : Int)) ∧ ∃ (g' : Nat), Nat.le g' (List.length l) ∧ List.length l - g' < List.length l - g ∧ (↑g : Int) + (1 : Int) = (↑g' : Int) ∧ q0 = q0 ∧ l = l ∧ List.map Lib.itoa (List.take g l) ++ [Lib.itoa (List.getD l g (0 : Int))] = List.map Lib.itoa (List.take g' l) ∧ True) (List.map Lib.itoa (List.take g l) = List.map Lib.itoa l ∧ True)) := by
  kernel_rfl
theorem vc149 (_u : Unit) : exF (env false [] []) h0 0 149 Proofs.Tryz.f149 [] (.val (.one (.mp false true (.int .i64) fieldT fldM))) = (mapPut (Ty.int IntKind.i64) (Ty.pair Ty.str Ty.fnp) (mapPut (Ty.int IntKind.i64) (Ty.pair Ty.str Ty.fnp) (mapPut (Ty.int IntKind.i64) (Ty.pair Ty.str Ty.fnp) [] (0 : Int) (Array.toList (ByteArray.data { data := #[(108 : UInt8), (117 : UInt8), (109 : UInt8), (97 : UInt8)] }), some (181 : Nat))) (1 : Int) (Array.toList (ByteArray.data { data := #[(117 : UInt8)] }), some (182 : Nat))) (2 : Int) (Array.toList (ByteArray.data { data := #[(118 : UInt8)] }), some (183 : Nat)) = fldM ∧ True) := by
  kernel_rfl
theorem vc88 (y u v : List Nat) : exF (env false [(26, sp26), (108, sp108), (150, sp150), (152, sp152), (149, sp149)] []) h88 0 88 Proofs.Tryz.f88 [ptV y u v] (.tup [sV (prN y u v), iV (chkPt y u v)]) = (let q2 := (Array.toList (ByteArray.data { data := #[(32 : UInt8)] })); let q4 := ([(Option.getD (mapGet (Ty.int IntKind.i64) (Ty.pair Ty.str Ty.fnp) fldM (0 : Int)) ([], none)).1] ++ List.map Lib.itoa (sixs y)); let q5 := (ByteArray.data { data := #[(10 : UInt8)] }); let q0 := (Lib.join q4 q2 ++ Array.toList q5); let q1 := ([(Option.getD (mapGet (Ty.int IntKind.i64) (Ty.pair Ty.str Ty.fnp) fldM (1 : Int)) ([], none)).1] ++ List.map Lib.itoa (sixs u)); let q3 := ([(Option.getD (mapGet (Ty.int IntKind.i64) (Ty.pair Ty.str Ty.fnp) fldM (2 : Int)) ([], none)).1] ++ List.map Lib.itoa (sixs v)); let q6 := (9223372036854775807 : Nat); let q7 := (ByteArray.data { data := #[] }); let q8 := (1000000 : Nat); let q9 := (Lib.join q1 q2 ++ Array.toList q5); List.length y ≤ (1000000000 : Nat) ∧ splitB (chkPt y u v != (0 : Int)) (Array.toList q7 = prN y u v ∧ chkPt y u v = chkPt y u v ∧ True) (List.length y ≤ q8 ∧ OkS y ∧ List.length (sixs y) ≤ q8 ∧ Bd (1000000 : Int) (sixs y) ∧ room ((1 : Nat) + List.length (List.map Lib.itoa (sixs y))) (16 : Nat) ∧ List.length q4 ≤ q8 ∧ List.length (Lib.join q4 q2) ≤ (140737488355328 : Nat) ∧ List.length (Lib.join q4 q2) + List.length (Array.toList q5) ≤ q6 ∧ List.length (Array.toList q7) + List.length q0 ≤ q6 ∧ fits IntKind.i64 (1 : Int) ∧ List.length u ≤ q8 ∧ OkS u ∧ List.length (sixs u) ≤ q8 ∧ Bd (1000000 : Int) (sixs u) ∧ room ((1 : Nat) + List.length (List.map Lib.itoa (sixs u))) (16 : Nat) ∧ List.length q1 ≤ q8 ∧ List.length (Lib.join q1 q2) ≤ (140737488355328 : Nat) ∧ List.length (Lib.join q1 q2) + List.length (Array.toList q5) ≤ q6 ∧ List.length (Array.toList q7 ++ q0) + List.length q9 ≤ q6 ∧ fits IntKind.i64 (2 : Int) ∧ List.length v ≤ q8 ∧ OkS v ∧ List.length (sixs v) ≤ q8 ∧ Bd (1000000 : Int) (sixs v) ∧ room ((1 : Nat) + List.length (List.map Lib.itoa (sixs v))) (16 : Nat) ∧ List.length q3 ≤ q8 ∧ List.length (Lib.join q3 q2) ≤ (140737488355328 : Nat) ∧ List.length (Lib.join q3 q2) + List.length (Array.toList q5) ≤ q6 ∧ List.length (Array.toList q7 ++ q0 ++ q9) + List.length (Lib.join q3 q2 ++ Array.toList q5) ≤ q6 ∧ fits IntKind.i64 (3 : Int) ∧ Array.toList q7 ++ q0 ++ q9 ++ (Lib.join q3 q2 ++ Array.toList q5) = prN y u v ∧ (0 : Int) = chkPt y u v ∧ True)) := by
  kernel_rfl
end Go.Sx

/- Contracts. -/
namespace Go.Sx
open U
theorem so151 : Sp1 151 sp151 := by
  refine ⟨fun vs ps r h hp => ?_, Proofs.Tryz.f151, _, by kernel_rfl, rfl, by kernel_rfl⟩
  simp only [sp151] at h
  split at h
  · cases h; exact itoa1 _ (hp _ (by simp))
  · cases h
theorem so152 : Sp1 152 sp152 := by
  refine ⟨fun vs ps r h hp => ?_, Proofs.Tryz.f152, _, by kernel_rfl, rfl, by kernel_rfl⟩
  simp only [sp152] at h
  split at h
  · cases h; exact join1 _ _ (hp _ (by simp)) (hp _ (by simp))
  · cases h
theorem get0 : (Option.getD (U.mapGet (.int .i64) (.pair .str .fnp) fldM 0) ([], none)).1 = [108, 117, 109, 97] := rfl
theorem get1 : (Option.getD (U.mapGet (.int .i64) (.pair .str .fnp) fldM 1) ([], none)).1 = [117] := rfl
theorem get2 : (Option.getD (U.mapGet (.int .i64) (.pair .str .fnp) fldM 2) ([], none)).1 = [118] := rfl
theorem nd_le : ∀ (k u : Nat), u < 10 ^ (k + 1) → Lib.nDigits u ≤ k + 1
  | 0, u, h => by rw [Lib.nDigits_small (by simpa using h)]; omega
  | k + 1, u, h => by
    by_cases h1 : u < 10
    · rw [Lib.nDigits_small h1]; omega
    · rw [Lib.nDigits_big h1]
      have := nd_le k (u / 10) (by rw [Nat.pow_succ] at h; omega)
      omega
theorem itoa_len {n : Int} (h : -1000000 ≤ n ∧ n ≤ 1000000) : (Lib.itoa n).length ≤ 8 := by
  have h1 : ∀ u : Nat, u < 10 ^ 7 → (Lib.decDigits u).length ≤ 7 := fun u hu => by rw [Lib.decDigits_length]; exact nd_le 6 u hu
  unfold Lib.itoa
  split
  · have := h1 n.natAbs (by omega)
    simp only [List.length_cons]; omega
  · have := h1 n.toNat (by omega)
    omega
theorem lens_le : ∀ {l : List Int}, Bd 1000000 l → Lib.lens (l.map Lib.itoa) ≤ 8 * l.length
  | [], _ => by simp [Lib.lens]
  | n :: r, h => by
    have h1 := itoa_len (h n List.mem_cons_self)
    have h2 := lens_le (l := r) fun m hm => h m (List.mem_cons_of_mem _ hm)
    simp only [Lib.lens, List.map_cons, List.sum_cons, List.length_cons] at h2 ⊢
    omega
theorem line_len (w : List UInt8) {l : List Int} (h : Bd 1000000 l) : (Lib.join ([w] ++ l.map Lib.itoa) [32]).length ≤ w.length + 9 * l.length := by
  have h1 := lens_le h
  have e : [w] ++ l.map Lib.itoa = w :: l.map Lib.itoa := rfl
  rw [e, Lib.join_length]
  simp only [Lib.lens, List.map_cons, List.sum_cons, List.length_cons, List.length_nil, List.length_map] at h1 ⊢
  omega
theorem fn150 (l : List Int) (hl : l.length ≤ 1000000) (hb : Bd 1000000 l) : Fn P1 gl1 150 [.one (.sl (.int .i64) l), .one (.fn 151 [] [])] (.val (.one (.frs .str (l.map Lib.itoa)))) true := by
  refine Fn.flat ?_ rfl
  refine fn_of false [(151, sp151)] [] h88 0 Proofs.Tryz.f150 ⟨so151, trivial⟩ trivial (by kernel_rfl) rfl (by kernel_rfl) rfl rfl rfl ?_
  rw [vc150]
  try simp only [splitB_iff, -eq_self]
  refine ⟨⟨0, Nat.zero_le _, rfl, rfl, rfl, by simp⟩, fun g hg => ⟨fun hlt => ?_, fun hge => ?_⟩⟩
  · have hlt' : g < l.length := by simpa using hlt
    have hk := bd_get hb (i := g) (by omega)
    refine ⟨by omega, by simp only [fits]; omega, by simp only [room, List.length_map, List.length_take]; omega, by simp only [fits]; omega, g + 1, hlt', by omega, by simp, rfl, rfl, ?_, trivial⟩
    rw [getD_of hlt', List.take_succ_eq_append_getElem hlt', List.map_append]
    rfl
  · have hge' : ¬ g < l.length := by simpa using hge
    rw [List.take_of_length_le (by omega)]
    exact ⟨rfl, trivial⟩
theorem so150_ : SpecOk P1 gl1 150 sp150 := by
  intro vs ps r h hp
  simp only [sp150] at h
  split at h
  · cases h; exact fn150 _ (hp _ (.head _)) (hp _ (.tail _ (.head _)))
  · cases h
theorem so150 : Sp1 150 sp150 := ⟨so150_, Proofs.Tryz.f150, _, by kernel_rfl, rfl, by kernel_rfl⟩
theorem fn149   : Fn P1 gl1 149 [] (.val (.one (.mp false true (.int .i64) fieldT fldM))) false := by
  refine fn_of false [] [] h0 0 Proofs.Tryz.f149 trivial trivial (by kernel_rfl) rfl (by kernel_rfl) rfl rfl rfl ?_
  rw [vc149 ()]
  try simp only [-eq_self]
  exact ⟨rfl, trivial⟩
theorem so149_ : SpecOk P1 gl1 149 sp149 := by
  intro vs ps r h _
  simp only [sp149] at h
  split at h
  · cases h; exact fn149  
  · cases h
theorem so149 : Sp1 149 sp149 := ⟨so149_, Proofs.Tryz.f149, _, by kernel_rfl, rfl, by kernel_rfl⟩
theorem fn88 (y u v : List Nat) (hl : y.length ≤ 1000000000) : Fn P1 gl1 88 [ptV y u v] (.tup [sV (prN y u v), iV (chkPt y u v)]) true := by
  refine Fn.flat ?_ rfl
  refine fn_of false [(26, sp26), (108, sp108), (150, sp150), (152, sp152), (149, sp149)] [] h88 0 Proofs.Tryz.f88 ⟨so26, so108, so150, so152, so149, trivial⟩ trivial (by kernel_rfl) rfl (by kernel_rfl) rfl rfl rfl ?_
  rw [vc88]
  try simp only [splitB_iff, -eq_self]
  rw [get0, get1, get2]
  refine ⟨hl, fun h => ?_, fun h => ?_⟩
  · have h := bneZ.1 h
    unfold prN
    rw [if_neg h]
    exact ⟨rfl, rfl, trivial⟩
  · have h := bneF.1 h
    obtain ⟨h1, h2, h3, h4, h5⟩ := chkPt_zero.1 h
    obtain ⟨k1, k2, k3⟩ := chkSig_zero.1 h1
    have j1 := line_len [108, 117, 109, 97] (bd_le (bd_sixs k3) (by omega))
    have j2 := line_len [117] (bd_le (bd_sixs h4) (by omega))
    have j3 := line_len [118] (bd_le (bd_sixs h5) (by omega))
    unfold prN
    rw [if_pos h]
    simp only [sixs_len, List.length_append, List.length_map, List.length_cons, List.length_nil, room, fits, -eq_self] at j1 j2 j3 ⊢
    exact ⟨by omega, k3, by omega, bd_le (bd_sixs k3) (by omega), by omega, by omega, by omega, by omega, by omega, by omega, by omega, h4, by omega, bd_le (bd_sixs h4) (by omega), by omega, by omega, by omega, by omega, by omega, by omega, by omega, h5, by omega, bd_le (bd_sixs h5) (by omega), by omega, by omega, by omega, by omega, by omega, by omega, rfl, h.symm, trivial⟩
end Go.Sx

/- Plain functions and hints. -/
namespace Go.Sx
open U
def sp20h : FSpec := ⟨fun vs => match vs with
  | [.agg [.one (.sl (.flt .f32) a), .one (.sl (.flt .f32) b), .one (.sl (.flt .f32) d)], .one (.int .i64 n)] => if (show Int from n) = 0 then some ([n = 0, a = [1092616192, 1101004800, 1092616192, 1101004800], b = [1077936128], d = [3221225472]], .tup [.one (.frs (.flt .f32) [1095761920, 1099956224, 1088421888, 1102053376]), iV 0]) else some ([n = 1, a = [1092616192, 1101004800, 1092616192, 1101004800], b = [1077936128], d = [3221225472]], .tup [.one (.frs (.flt .f32) [1088421888, 1102053376, 1095761920, 1099956224]), iV 0])
  | _ => none, true⟩
def sp33h : FSpec := ⟨fun vs => match vs with
  | [.one (.sl (.flt .f32) a)] => some ([a = [1095761920, 1099956224, 1088421888, 1102053376]], .tup [.one (.frs panT [[(1114636288, 0), (1086324736, 1082130432), (3248488448, 0), (1086324736, 3229614080)]]), iV 0])
  | _ => none, true⟩
def sp43h : FSpec := ⟨fun vs => match vs with
  | [.one (.sl (.flt .f32) a), .one (.int .i64 n)] => if (show List Nat from a) = [1095761920, 1099956224, 1088421888, 1102053376] then some ([a = [1095761920, 1099956224, 1088421888, 1102053376], n = 0], .tup [ptV [1092616192, 1101004800, 1092616192, 1101004800] [1077936128] [3221225472], iV 0]) else some ([a = [1095761920, 1099956224, 1093664768, 1102053376], n = 0], .tup [ptV [1094713344, 1101004800, 1094713344, 1101004800] [1065353216] [3221225472], iV 0])
  | _ => none, true⟩
def sp57h : FSpec := ⟨fun vs => match vs with
  | [.agg [.one (.sl (.flt .f32) a), .one (.sl (.flt .f32) b), .one (.sl (.flt .f32) d)]] => some ([a = [1092616192, 1101004800, 1096810496, 1101004800], b = [1077936128], d = [3221225472]], .tup [fV 1073741824, iV 0])
  | _ => none, true⟩
def sp58h : FSpec := ⟨fun vs => match vs with
  | [.agg [.one (.sl (.flt .f32) a), .one (.sl (.flt .f32) b), .one (.sl (.flt .f32) d)], .agg [.one (.sl (.flt .f32) e), .one (.sl (.flt .f32) f), .one (.sl (.flt .f32) g)]] => some ([a = [1092616192, 1101004800, 1096810496, 1101004800], b = [1077936128], d = [3221225472], e = [1094713344, 1101004800, 1094713344, 1101004800], f = [1065353216], g = [3221225472]], .tup [.agg [.arr 2 (.flt .f32) [1073741824, 1073741824]], iV 0])
  | _ => none, true⟩
def sp47h : FSpec := ⟨fun vs => match vs with
  | [.one (.sl (.sl (.flt .f32)) a), .one (.int .i64 n)] => some ([a = [[1095761920, 1099956224, 1093664768, 1102053376], [1088421888, 1102053376, 1099431936, 1099956224]], n = 0], .tup [ptV [1092616192, 1101004800, 1096810496, 1101004800] [1077936128] [3221225472], iV 0])
  | _ => none, true⟩
def sp48h : FSpec := ⟨fun vs => match vs with
  | [.one (.sl (.sl (.flt .f32)) a), .one (.int .i64 n)] => some ([a = [[1095761920, 1099956224, 1093664768, 1102053376], [1088421888, 1102577664, 1100480512, 1100480512], [1099431936, 1101004800, 1093664768, 1103101952]], n = 1], .tup [ptV [1093664768, 1101529088, 1097859072, 1101529088] [1082130432] [3221225472], iV 0])
  | _ => none, true⟩
def sp62h : FSpec := ⟨fun vs => match vs with
  | [.agg [.arr 4 (.flt .f32) a]] => some ([a = [0, 1084227584, 0, 3231711232]], .tup [gsV (0, 160), iV 0])
  | _ => none, true⟩
def sp63h : FSpec := ⟨fun vs => match vs with
  | [.agg [.arr 4 (.flt .f32) a], .one (.int .i64 n)] => some ([a = [0, 1084227584, 0, 3231711232], n = 160], .tup [iV 1, iV 0])
  | _ => none, true⟩
def sp67h : FSpec := ⟨fun vs => match vs with
  | [.one (.sl (.flt .f32) a), .one (.int .i64 n)] => some ([a = [1065353216, 1073741824, 1077936128, 1082130432, 1084227584, 1086324736, 1088421888, 1090519040], n = 1], .tup [.one (.frs (.flt .f32) [1073741824, 1077936128, 1082130432, 1084227584]), iV 0])
  | _ => none, true⟩
def sp68h : FSpec := ⟨fun vs => match vs with
  | [.one (.sl (.flt .f32) a), .agg [.one (.int .i64 m), .one (.int .i64 n)], .one (.flt .f32 b)] => some ([a = [1077936128, 1084227584, 1088421888, 1091567616], m = 0, n = 2, b = 1065353216], .tup [.one (.frs (.flt .f32) [0, 1073741824, 1082130432, 1086324736]), iV 0])
  | _ => none, true⟩
def sp72h : FSpec := ⟨fun vs => match vs with
  | [.one (.sl (.int .i64) a)] => some ([a = [1, 0, -1]], .tup [.agg [.arr 4 (.cpx .f64) [(0, 0), (4611686018427387904, 0), (0, 0), (4611686018427387904, 0)]], iV 0])
  | _ => none, true⟩
def sp74h : FSpec := ⟨fun vs => match vs with
  | [.one (.sl (.flt .f32) a), .one (.sl (.int .i64) t)] => some ([a = [1065353216, 1073741824, 1082130432, 1090519040], t = [1, 0, -1]], .tup [.one (.frs (.flt .f32) [1065353216, 1073741824, 1077936128, 1086324736]), iV 0])
  | _ => none, true⟩
def sp75h : FSpec := ⟨fun vs => match vs with
  | [.one (.sl (.flt .f32) a), .one (.sl (.int .i64) t)] => some ([a = [1065353216, 1073741824, 1082130432, 1090519040], t = [1, 0, -1]], .tup [.one (.frs (.flt .f32) [3225419776, 3233808384, 1082130432, 1090519040]), iV 0])
  | _ => none, true⟩
def sp88h : FSpec := ⟨fun vs => match vs with
  | [.agg [.one (.sl (.flt .f32) a), .one (.sl (.flt .f32) b), .one (.sl (.flt .f32) d)]] => some ([a = [1092616192, 1101004800, 1092616192, 1101004800], b = [1077936128], d = [3221225472]], .tup [sV [108, 117, 109, 97, 32, 49, 54, 48, 32, 51, 50, 48, 32, 49, 54, 48, 32, 51, 50, 48, 10, 117, 32, 52, 56, 10, 118, 32, 45, 51, 50, 10], iV 0])
  | _ => none, true⟩
def sp27h : FSpec := ⟨fun vs => match vs with
  | [.one (.sl (.flt .f32) a), .one (.sl (.flt .f32) b)] => if (show List Nat from a) = b then some ([chkSs a = 0, List.length a ≤ 1000000000], .val (bV true)) else none
  | _ => none, true⟩
def sp45h : FSpec := ⟨fun vs => match vs with
  | [.agg [.one (.sl (.flt .f32) y), .one (.sl (.flt .f32) u), .one (.sl (.flt .f32) v)], .agg [.one (.sl (.flt .f32) y'), .one (.sl (.flt .f32) u'), .one (.sl (.flt .f32) v')]] => if (show Pt from (y, u, v)) = (y', u', v') then some ([chkSs y = 0, List.length y ≤ 1000000000, chkSs u = 0, List.length u ≤ 1000000000, chkSs v = 0, List.length v ≤ 1000000000], .val (bV true)) else none
  | _ => none, true⟩
end Go.Sx
namespace Go.Sx
open U
def sp93 : FSpec := ⟨fun vs => match vs with
  | [] => some ([], .val (ptV [1092616192, 1101004800, 1092616192, 1101004800] [1077936128] [3221225472]))
  | _ => none, true⟩
def sp94 : FSpec := ⟨fun vs => match vs with
  | [] => some ([], .val (ptV [1092616192, 1101004800, 1096810496, 1101004800] [1077936128] [3221225472]))
  | _ => none, true⟩
def sp19 : FSpec := ⟨fun vs => match vs with
  | [] => some ([], .val (bV true))
  | _ => none, true⟩
end Go.Sx

/- What the engine asks, written out (printed by a program). -/
namespace Go.Sx
open U
theorem vc93 (_u : Unit) : exFr (env false [] []) h0 0 93 Proofs.Tryz.f93 [] (.val (ptV [1092616192, 1101004800, 1092616192, 1101004800] [1077936128] [3221225472])) = ([(1092616192 : Nat), (1101004800 : Nat), (1092616192 : Nat), (1101004800 : Nat)] = [(1092616192 : Nat), (1101004800 : Nat), (1092616192 : Nat), (1101004800 : Nat)] ∧ [(1077936128 : Nat)] = [(1077936128 : Nat)] ∧ [(3221225472 : Nat)] = [(3221225472 : Nat)] ∧ True) := by
  kernel_rfl
theorem vc94 (_u : Unit) : exFr (env false [] []) h0 0 94 Proofs.Tryz.f94 [] (.val (ptV [1092616192, 1101004800, 1096810496, 1101004800] [1077936128] [3221225472])) = ([(1092616192 : Nat), (1101004800 : Nat), (1096810496 : Nat), (1101004800 : Nat)] = [(1092616192 : Nat), (1101004800 : Nat), (1096810496 : Nat), (1101004800 : Nat)] ∧ [(1077936128 : Nat)] = [(1077936128 : Nat)] ∧ [(3221225472 : Nat)] = [(3221225472 : Nat)] ∧ True) := by
  kernel_rfl
theorem vc19 (_u : Unit) : exF (env false [(93, sp93), (94, sp94), (46, sp46), (20, sp20h), (33, sp33h), (43, sp43h), (57, sp57h), (58, sp58h), (47, sp47h), (48, sp48h), (62, sp62h), (63, sp63h), (67, sp67h), (68, sp68h), (72, sp72h), (74, sp74h), (75, sp75h), (88, sp88h), (27, sp27h), (45, sp45h)] []) h0 0 19 Proofs.Tryz.f19 [] (.val (bV true)) = ((0 : Int) = (0 : Int) ∧ [(1092616192 : Nat), (1101004800 : Nat), (1092616192 : Nat), (1101004800 : Nat)] = [(1092616192 : Nat), (1101004800 : Nat), (1092616192 : Nat), (1101004800 : Nat)] ∧ [(1077936128 : Nat)] = [(1077936128 : Nat)] ∧ [(3221225472 : Nat)] = [(3221225472 : Nat)] ∧ (1 : Int) = (1 : Int) ∧ [(1092616192 : Nat), (1101004800 : Nat), (1092616192 : Nat), (1101004800 : Nat)] = [(1092616192 : Nat), (1101004800 : Nat), (1092616192 : Nat), (1101004800 : Nat)] ∧ [(1077936128 : Nat)] = [(1077936128 : Nat)] ∧ [(3221225472 : Nat)] = [(3221225472 : Nat)] ∧ [(1095761920 : Nat), (1099956224 : Nat), (1088421888 : Nat), (1102053376 : Nat)] = [(1095761920 : Nat), (1099956224 : Nat), (1088421888 : Nat), (1102053376 : Nat)] ∧ [(1095761920 : Nat), (1099956224 : Nat), (1088421888 : Nat), (1102053376 : Nat)] = [(1095761920 : Nat), (1099956224 : Nat), (1088421888 : Nat), (1102053376 : Nat)] ∧ (0 : Int) = (0 : Int) ∧ [(1095761920 : Nat), (1099956224 : Nat), (1093664768 : Nat), (1102053376 : Nat)] = [(1095761920 : Nat), (1099956224 : Nat), (1093664768 : Nat), (1102053376 : Nat)] ∧ (0 : Int) = (0 : Int) ∧ [(1092616192 : Nat), (1101004800 : Nat), (1096810496 : Nat), (1101004800 : Nat)] = [(1092616192 : Nat), (1101004800 : Nat), (1096810496 : Nat), (1101004800 : Nat)] ∧ [(1077936128 : Nat)] = [(1077936128 : Nat)] ∧ [(3221225472 : Nat)] = [(3221225472 : Nat)] ∧ [(1092616192 : Nat), (1101004800 : Nat), (1096810496 : Nat), (1101004800 : Nat)] = [(1092616192 : Nat), (1101004800 : Nat), (1096810496 : Nat), (1101004800 : Nat)] ∧ [(1077936128 : Nat)] = [(1077936128 : Nat)] ∧ [(3221225472 : Nat)] = [(3221225472 : Nat)] ∧ [(1094713344 : Nat), (1101004800 : Nat), (1094713344 : Nat), (1101004800 : Nat)] = [(1094713344 : Nat), (1101004800 : Nat), (1094713344 : Nat), (1101004800 : Nat)] ∧ [(1065353216 : Nat)] = [(1065353216 : Nat)] ∧ [(3221225472 : Nat)] = [(3221225472 : Nat)] ∧ fits IntKind.i64 (0 : Int) ∧ fits IntKind.i64 (0 : Int) ∧ fits IntKind.i64 (0 : Int) ∧ fits IntKind.i64 (0 : Int) ∧ fits IntKind.i64 (0 : Int) ∧ fits IntKind.i64 (0 : Int) ∧ (((0 : Int) != (0 : Int)) = false → chkSs [(1095761920 : Nat), (1099956224 : Nat), (1088421888 : Nat), (1102053376 : Nat)] = (0 : Int)) ∧ (((0 : Int) != (0 : Int)) = false → (4 : Nat) ≤ (1000000000 : Nat)) ∧ ((bif (0 : Int) != (0 : Int) then true else !true) = false → chkSs [(1088421888 : Nat), (1102053376 : Nat), (1095761920 : Nat), (1099956224 : Nat)] = (0 : Int)) ∧ ((bif (0 : Int) != (0 : Int) then true else !true) = false → (4 : Nat) ≤ (1000000000 : Nat)) ∧ ((bif bif bif (0 : Int) != (0 : Int) then true else !true then true else !true then true else (1 : Int) != (1 : Int)) = false → (0 : Int) ≤ (0 : Int) ∧ (0 : Int) < (1 : Int)) ∧ ((bif bif bif (0 : Int) != (0 : Int) then true else !true then true else !true then true else (1 : Int) != (1 : Int)) = false → (0 : Nat) < (1 : Nat)) ∧ ((bif bif bif bif (0 : Int) != (0 : Int) then true else !true then true else !true then true else (1 : Int) != (1 : Int) then true else !eqT (Ty.arr (4 : Nat) (Ty.cpx FloatKind.f32)) [((1114636288 : Nat), (0 : Nat)), ((1086324736 : Nat), (1082130432 : Nat)), ((3248488448 : Nat), (0 : Nat)), ((1086324736 : Nat), (3229614080 : Nat))] [((1114636288 : Nat), (0 : Nat)), ((1086324736 : Nat), (1082130432 : Nat)), ((3248488448 : Nat), (0 : Nat)), ((1086324736 : Nat), (3229614080 : Nat))]) = false → chkSs [(1092616192 : Nat), (1101004800 : Nat), (1092616192 : Nat), (1101004800 : Nat)] = (0 : Int)) ∧ ((bif bif bif bif (0 : Int) != (0 : Int) then true else !true then true else !true then true else (1 : Int) != (1 : Int) then true else !eqT (Ty.arr (4 : Nat) (Ty.cpx FloatKind.f32)) [((1114636288 : Nat), (0 : Nat)), ((1086324736 : Nat), (1082130432 : Nat)), ((3248488448 : Nat), (0 : Nat)), ((1086324736 : Nat), (3229614080 : Nat))] [((1114636288 : Nat), (0 : Nat)), ((1086324736 : Nat), (1082130432 : Nat)), ((3248488448 : Nat), (0 : Nat)), ((1086324736 : Nat), (3229614080 : Nat))]) = false → (4 : Nat) ≤ (1000000000 : Nat)) ∧ ((bif bif bif bif (0 : Int) != (0 : Int) then true else !true then true else !true then true else (1 : Int) != (1 : Int) then true else !eqT (Ty.arr (4 : Nat) (Ty.cpx FloatKind.f32)) [((1114636288 : Nat), (0 : Nat)), ((1086324736 : Nat), (1082130432 : Nat)), ((3248488448 : Nat), (0 : Nat)), ((1086324736 : Nat), (3229614080 : Nat))] [((1114636288 : Nat), (0 : Nat)), ((1086324736 : Nat), (1082130432 : Nat)), ((3248488448 : Nat), (0 : Nat)), ((1086324736 : Nat), (3229614080 : Nat))]) = false → chkSs [(1077936128 : Nat)] = (0 : Int)) ∧ ((bif bif bif bif (0 : Int) != (0 : Int) then true else !true then true else !true then true else (1 : Int) != (1 : Int) then true else !eqT (Ty.arr (4 : Nat) (Ty.cpx FloatKind.f32)) [((1114636288 : Nat), (0 : Nat)), ((1086324736 : Nat), (1082130432 : Nat)), ((3248488448 : Nat), (0 : Nat)), ((1086324736 : Nat), (3229614080 : Nat))] [((1114636288 : Nat), (0 : Nat)), ((1086324736 : Nat), (1082130432 : Nat)), ((3248488448 : Nat), (0 : Nat)), ((1086324736 : Nat), (3229614080 : Nat))]) = false → (1 : Nat) ≤ (1000000000 : Nat)) ∧ ((bif bif bif bif (0 : Int) != (0 : Int) then true else !true then true else !true then true else (1 : Int) != (1 : Int) then true else !eqT (Ty.arr (4 : Nat) (Ty.cpx FloatKind.f32)) [((1114636288 : Nat), (0 : Nat)), ((1086324736 : Nat), (1082130432 : Nat)), ((3248488448 : Nat), (0 : Nat)), ((1086324736 : Nat), (3229614080 : Nat))] [((1114636288 : Nat), (0 : Nat)), ((1086324736 : Nat), (1082130432 : Nat)), ((3248488448 : Nat), (0 : Nat)), ((1086324736 : Nat), (3229614080 : Nat))]) = false → chkSs [(3221225472 : Nat)] = (0 : Int)) ∧ ((bif bif bif bif (0 : Int) != (0 : Int) then true else !true then true else !true then true else (1 : Int) != (1 : Int) then true else !eqT (Ty.arr (4 : Nat) (Ty.cpx FloatKind.f32)) [((1114636288 : Nat), (0 : Nat)), ((1086324736 : Nat), (1082130432 : Nat)), ((3248488448 : Nat), (0 : Nat)), ((1086324736 : Nat), (3229614080 : Nat))] [((1114636288 : Nat), (0 : Nat)), ((1086324736 : Nat), (1082130432 : Nat)), ((3248488448 : Nat), (0 : Nat)), ((1086324736 : Nat), (3229614080 : Nat))]) = false → (1 : Nat) ≤ (1000000000 : Nat)) ∧ ((bif bif bif bif bif (0 : Int) != (0 : Int) then true else !true then true else !true then true else (1 : Int) != (1 : Int) then true else !eqT (Ty.arr (4 : Nat) (Ty.cpx FloatKind.f32)) [((1114636288 : Nat), (0 : Nat)), ((1086324736 : Nat), (1082130432 : Nat)), ((3248488448 : Nat), (0 : Nat)), ((1086324736 : Nat), (3229614080 : Nat))] [((1114636288 : Nat), (0 : Nat)), ((1086324736 : Nat), (1082130432 : Nat)), ((3248488448 : Nat), (0 : Nat)), ((1086324736 : Nat), (3229614080 : Nat))] then true else !true) = false → chkSs [(1094713344 : Nat), (1101004800 : Nat), (1094713344 : Nat), (1101004800 : Nat)] = (0 : Int)) ∧ ((bif bif bif bif bif (0 : Int) != (0 : Int) then true else !true then true else !true then true else (1 : Int) != (1 : Int) then true else !eqT (Ty.arr (4 : Nat) (Ty.cpx FloatKind.f32)) [((1114636288 : Nat), (0 : Nat)), ((1086324736 : Nat), (1082130432 : Nat)), ((3248488448 : Nat), (0 : Nat)), ((1086324736 : Nat), (3229614080 : Nat))] [((1114636288 : Nat), (0 : Nat)), ((1086324736 : Nat), (1082130432 : Nat)), ((3248488448 : Nat), (0 : Nat)), ((1086324736 : Nat), (3229614080 : Nat))] then true else !true) = false → (4 : Nat) ≤ (1000000000 : Nat)) ∧ ((bif bif bif bif bif (0 : Int) != (0 : Int) then true else !true then true else !true then true else (1 : Int) != (1 : Int) then true else !eqT (Ty.arr (4 : Nat) (Ty.cpx FloatKind.f32)) [((1114636288 : Nat), (0 : Nat)), ((1086324736 : Nat), (1082130432 : Nat)), ((3248488448 : Nat), (0 : Nat)), ((1086324736 : Nat), (3229614080 : Nat))] [((1114636288 : Nat), (0 : Nat)), ((1086324736 : Nat), (1082130432 : Nat)), ((3248488448 : Nat), (0 : Nat)), ((1086324736 : Nat), (3229614080 : Nat))] then true else !true) = false → chkSs [(1065353216 : Nat)] = (0 : Int)) ∧ ((bif bif bif bif bif (0 : Int) != (0 : Int) then true else !true then true else !true then true else (1 : Int) != (1 : Int) then true else !eqT (Ty.arr (4 : Nat) (Ty.cpx FloatKind.f32)) [((1114636288 : Nat), (0 : Nat)), ((1086324736 : Nat), (1082130432 : Nat)), ((3248488448 : Nat), (0 : Nat)), ((1086324736 : Nat), (3229614080 : Nat))] [((1114636288 : Nat), (0 : Nat)), ((1086324736 : Nat), (1082130432 : Nat)), ((3248488448 : Nat), (0 : Nat)), ((1086324736 : Nat), (3229614080 : Nat))] then true else !true) = false → (1 : Nat) ≤ (1000000000 : Nat)) ∧ ((bif bif bif bif bif (0 : Int) != (0 : Int) then true else !true then true else !true then true else (1 : Int) != (1 : Int) then true else !eqT (Ty.arr (4 : Nat) (Ty.cpx FloatKind.f32)) [((1114636288 : Nat), (0 : Nat)), ((1086324736 : Nat), (1082130432 : Nat)), ((3248488448 : Nat), (0 : Nat)), ((1086324736 : Nat), (3229614080 : Nat))] [((1114636288 : Nat), (0 : Nat)), ((1086324736 : Nat), (1082130432 : Nat)), ((3248488448 : Nat), (0 : Nat)), ((1086324736 : Nat), (3229614080 : Nat))] then true else !true) = false → chkSs [(3221225472 : Nat)] = (0 : Int)) ∧ ((bif bif bif bif bif (0 : Int) != (0 : Int) then true else !true then true else !true then true else (1 : Int) != (1 : Int) then true else !eqT (Ty.arr (4 : Nat) (Ty.cpx FloatKind.f32)) [((1114636288 : Nat), (0 : Nat)), ((1086324736 : Nat), (1082130432 : Nat)), ((3248488448 : Nat), (0 : Nat)), ((1086324736 : Nat), (3229614080 : Nat))] [((1114636288 : Nat), (0 : Nat)), ((1086324736 : Nat), (1082130432 : Nat)), ((3248488448 : Nat), (0 : Nat)), ((1086324736 : Nat), (3229614080 : Nat))] then true else !true) = false → (1 : Nat) ≤ (1000000000 : Nat)) ∧ [[(1095761920 : Nat), (1099956224 : Nat), (1093664768 : Nat), (1102053376 : Nat)], [(1088421888 : Nat), (1102053376 : Nat), (1099431936 : Nat), (1099956224 : Nat)]] = [[(1095761920 : Nat), (1099956224 : Nat), (1093664768 : Nat), (1102053376 : Nat)], [(1088421888 : Nat), (1102053376 : Nat), (1099431936 : Nat), (1099956224 : Nat)]] ∧ (0 : Int) = (0 : Int) ∧ [[(1095761920 : Nat), (1099956224 : Nat), (1093664768 : Nat), (1102053376 : Nat)], [(1088421888 : Nat), (1102577664 : Nat), (1100480512 : Nat), (1100480512 : Nat)], [(1099431936 : Nat), (1101004800 : Nat), (1093664768 : Nat), (1103101952 : Nat)]] = [[(1095761920 : Nat), (1099956224 : Nat), (1093664768 : Nat), (1102053376 : Nat)], [(1088421888 : Nat), (1102577664 : Nat), (1100480512 : Nat), (1100480512 : Nat)], [(1099431936 : Nat), (1101004800 : Nat), (1093664768 : Nat), (1103101952 : Nat)]] ∧ (1 : Int) = (1 : Int) ∧ [(0 : Nat), (1084227584 : Nat), (0 : Nat), (3231711232 : Nat)] = [(0 : Nat), (1084227584 : Nat), (0 : Nat), (3231711232 : Nat)] ∧ [(0 : Nat), (1084227584 : Nat), (0 : Nat), (3231711232 : Nat)] = [(0 : Nat), (1084227584 : Nat), (0 : Nat), (3231711232 : Nat)] ∧ (160 : Int) = (160 : Int) ∧ [(1065353216 : Nat), (1073741824 : Nat), (1077936128 : Nat), (1082130432 : Nat), (1084227584 : Nat), (1086324736 : Nat), (1088421888 : Nat), (1090519040 : Nat)] = [(1065353216 : Nat), (1073741824 : Nat), (1077936128 : Nat), (1082130432 : Nat), (1084227584 : Nat), (1086324736 : Nat), (1088421888 : Nat), (1090519040 : Nat)] ∧ (1 : Int) = (1 : Int) ∧ [(1077936128 : Nat), (1084227584 : Nat), (1088421888 : Nat), (1091567616 : Nat)] = [(1077936128 : Nat), (1084227584 : Nat), (1088421888 : Nat), (1091567616 : Nat)] ∧ (0 : Int) = (0 : Int) ∧ (2 : Int) = (2 : Int) ∧ (1065353216 : Nat) = (1065353216 : Nat) ∧ [(1 : Int), (0 : Int), (-1 : Int)] = [(1 : Int), (0 : Int), (-1 : Int)] ∧ [(1065353216 : Nat), (1073741824 : Nat), (1082130432 : Nat), (1090519040 : Nat)] = [(1065353216 : Nat), (1073741824 : Nat), (1082130432 : Nat), (1090519040 : Nat)] ∧ [(1 : Int), (0 : Int), (-1 : Int)] = [(1 : Int), (0 : Int), (-1 : Int)] ∧ [(1065353216 : Nat), (1073741824 : Nat), (1082130432 : Nat), (1090519040 : Nat)] = [(1065353216 : Nat), (1073741824 : Nat), (1082130432 : Nat), (1090519040 : Nat)] ∧ [(1 : Int), (0 : Int), (-1 : Int)] = [(1 : Int), (0 : Int), (-1 : Int)] ∧ [(1092616192 : Nat), (1101004800 : Nat), (1092616192 : Nat), (1101004800 : Nat)] = [(1092616192 : Nat), (1101004800 : Nat), (1092616192 : Nat), (1101004800 : Nat)] ∧ [(1077936128 : Nat)] = [(1077936128 : Nat)] ∧ [(3221225472 : Nat)] = [(3221225472 : Nat)] ∧ fits IntKind.i64 (0 : Int) ∧ fits IntKind.i64 (0 : Int) ∧ fits IntKind.i64 (0 : Int) ∧ fits IntKind.i64 (0 : Int) ∧ fits IntKind.i64 (0 : Int) ∧ fits IntKind.i64 (0 : Int) ∧ fits IntKind.i64 (0 : Int) ∧ fits IntKind.i64 (0 : Int) ∧ fits IntKind.i64 (0 : Int) ∧ (((0 : Int) == (0 : Int)) = true → chkSs [(1092616192 : Nat), (1101004800 : Nat), (1096810496 : Nat), (1101004800 : Nat)] = (0 : Int)) ∧ (((0 : Int) == (0 : Int)) = true → (4 : Nat) ≤ (1000000000 : Nat)) ∧ (((0 : Int) == (0 : Int)) = true → chkSs [(1077936128 : Nat)] = (0 : Int)) ∧ (((0 : Int) == (0 : Int)) = true → (1 : Nat) ≤ (1000000000 : Nat)) ∧ (((0 : Int) == (0 : Int)) = true → chkSs [(3221225472 : Nat)] = (0 : Int)) ∧ (((0 : Int) == (0 : Int)) = true → (1 : Nat) ≤ (1000000000 : Nat)) ∧ ((bif (0 : Int) == (0 : Int) then true else false) = true → chkSs [(1093664768 : Nat), (1101529088 : Nat), (1097859072 : Nat), (1101529088 : Nat)] = (0 : Int)) ∧ ((bif (0 : Int) == (0 : Int) then true else false) = true → (4 : Nat) ≤ (1000000000 : Nat)) ∧ ((bif (0 : Int) == (0 : Int) then true else false) = true → chkSs [(1082130432 : Nat)] = (0 : Int)) ∧ ((bif (0 : Int) == (0 : Int) then true else false) = true → (1 : Nat) ≤ (1000000000 : Nat)) ∧ ((bif (0 : Int) == (0 : Int) then true else false) = true → chkSs [(3221225472 : Nat)] = (0 : Int)) ∧ ((bif (0 : Int) == (0 : Int) then true else false) = true → (1 : Nat) ≤ (1000000000 : Nat)) ∧ ((bif bif bif bif (0 : Int) == (0 : Int) then true else false then true else false then eqT (Ty.pair (Ty.int IntKind.i64) (Ty.int IntKind.i64)) ((0 : Int), (160 : Int)) ((0 : Int), (160 : Int)) else false then (1 : Int) == (1 : Int) else false) = true → chkSs [(1073741824 : Nat), (1077936128 : Nat), (1082130432 : Nat), (1084227584 : Nat)] = (0 : Int)) ∧ ((bif bif bif bif (0 : Int) == (0 : Int) then true else false then true else false then eqT (Ty.pair (Ty.int IntKind.i64) (Ty.int IntKind.i64)) ((0 : Int), (160 : Int)) ((0 : Int), (160 : Int)) else false then (1 : Int) == (1 : Int) else false) = true → (4 : Nat) ≤ (1000000000 : Nat)) ∧ ((bif bif bif bif bif (0 : Int) == (0 : Int) then true else false then true else false then eqT (Ty.pair (Ty.int IntKind.i64) (Ty.int IntKind.i64)) ((0 : Int), (160 : Int)) ((0 : Int), (160 : Int)) else false then (1 : Int) == (1 : Int) else false then true else false) = true → chkSs [(0 : Nat), (1073741824 : Nat), (1082130432 : Nat), (1086324736 : Nat)] = (0 : Int)) ∧ ((bif bif bif bif bif (0 : Int) == (0 : Int) then true else false then true else false then eqT (Ty.pair (Ty.int IntKind.i64) (Ty.int IntKind.i64)) ((0 : Int), (160 : Int)) ((0 : Int), (160 : Int)) else false then (1 : Int) == (1 : Int) else false then true else false) = true → (4 : Nat) ≤ (1000000000 : Nat)) ∧ ((bif bif bif bif bif bif bif (0 : Int) == (0 : Int) then true else false then true else false then eqT (Ty.pair (Ty.int IntKind.i64) (Ty.int IntKind.i64)) ((0 : Int), (160 : Int)) ((0 : Int), (160 : Int)) else false then (1 : Int) == (1 : Int) else false then true else false then true else false then eqT (Ty.arr (4 : Nat) (Ty.cpx FloatKind.f64)) [((0 : Nat), (0 : Nat)), ((4611686018427387904 : Nat), (0 : Nat)), ((0 : Nat), (0 : Nat)), ((4611686018427387904 : Nat), (0 : Nat))] [((0 : Nat), (0 : Nat)), ((4611686018427387904 : Nat), (0 : Nat)), ((0 : Nat), (0 : Nat)), ((4611686018427387904 : Nat), (0 : Nat))] else false) = true → chkSs [(1065353216 : Nat), (1073741824 : Nat), (1077936128 : Nat), (1086324736 : Nat)] = (0 : Int)) ∧ ((bif bif bif bif bif bif bif (0 : Int) == (0 : Int) then true else false then true else false then eqT (Ty.pair (Ty.int IntKind.i64) (Ty.int IntKind.i64)) ((0 : Int), (160 : Int)) ((0 : Int), (160 : Int)) else false then (1 : Int) == (1 : Int) else false then true else false then true else false then eqT (Ty.arr (4 : Nat) (Ty.cpx FloatKind.f64)) [((0 : Nat), (0 : Nat)), ((4611686018427387904 : Nat), (0 : Nat)), ((0 : Nat), (0 : Nat)), ((4611686018427387904 : Nat), (0 : Nat))] [((0 : Nat), (0 : Nat)), ((4611686018427387904 : Nat), (0 : Nat)), ((0 : Nat), (0 : Nat)), ((4611686018427387904 : Nat), (0 : Nat))] else false) = true → (4 : Nat) ≤ (1000000000 : Nat)) ∧ ((bif bif bif bif bif bif bif bif (0 : Int) == (0 : Int) then true else false then true else false then eqT (Ty.pair (Ty.int IntKind.i64) (Ty.int IntKind.i64)) ((0 : Int), (160 : Int)) ((0 : Int), (160 : Int)) else false then (1 : Int) == (1 : Int) else false then true else false then true else false then eqT (Ty.arr (4 : Nat) (Ty.cpx FloatKind.f64)) [((0 : Nat), (0 : Nat)), ((4611686018427387904 : Nat), (0 : Nat)), ((0 : Nat), (0 : Nat)), ((4611686018427387904 : Nat), (0 : Nat))] [((0 : Nat), (0 : Nat)), ((4611686018427387904 : Nat), (0 : Nat)), ((0 : Nat), (0 : Nat)), ((4611686018427387904 : Nat), (0 : Nat))] else false then true else false) = true → chkSs [(3225419776 : Nat), (3233808384 : Nat), (1082130432 : Nat), (1090519040 : Nat)] = (0 : Int)) ∧ ((bif bif bif bif bif bif bif bif (0 : Int) == (0 : Int) then true else false then true else false then eqT (Ty.pair (Ty.int IntKind.i64) (Ty.int IntKind.i64)) ((0 : Int), (160 : Int)) ((0 : Int), (160 : Int)) else false then (1 : Int) == (1 : Int) else false then true else false then true else false then eqT (Ty.arr (4 : Nat) (Ty.cpx FloatKind.f64)) [((0 : Nat), (0 : Nat)), ((4611686018427387904 : Nat), (0 : Nat)), ((0 : Nat), (0 : Nat)), ((4611686018427387904 : Nat), (0 : Nat))] [((0 : Nat), (0 : Nat)), ((4611686018427387904 : Nat), (0 : Nat)), ((0 : Nat), (0 : Nat)), ((4611686018427387904 : Nat), (0 : Nat))] else false then true else false) = true → (4 : Nat) ≤ (1000000000 : Nat)) ∧ (bif bif bif bif bif bif bif bif bif bif (0 : Int) == (0 : Int) then true else false then true else false then eqT (Ty.pair (Ty.int IntKind.i64) (Ty.int IntKind.i64)) ((0 : Int), (160 : Int)) ((0 : Int), (160 : Int)) else false then (1 : Int) == (1 : Int) else false then true else false then true else false then eqT (Ty.arr (4 : Nat) (Ty.cpx FloatKind.f64)) [((0 : Nat), (0 : Nat)), ((4611686018427387904 : Nat), (0 : Nat)), ((0 : Nat), (0 : Nat)), ((4611686018427387904 : Nat), (0 : Nat))] [((0 : Nat), (0 : Nat)), ((4611686018427387904 : Nat), (0 : Nat)), ((0 : Nat), (0 : Nat)), ((4611686018427387904 : Nat), (0 : Nat))] else false then true else false then true else false then [(108 : UInt8), (117 : UInt8), (109 : UInt8), (97 : UInt8), (32 : UInt8), (49 : UInt8), (54 : UInt8), (48 : UInt8), (32 : UInt8), (51 : UInt8), (50 : UInt8), (48 : UInt8), (32 : UInt8), (49 : UInt8), (54 : UInt8), (48 : UInt8), (32 : UInt8), (51 : UInt8), (50 : UInt8), (48 : UInt8), (10 : UInt8), (117 : UInt8), (32 : UInt8), (52 : UInt8), (56 : UInt8), (10 : UInt8), (118 : UInt8), (32 : UInt8), (45 : UInt8), (51 : UInt8), (50 : UInt8), (10 : UInt8)] == Array.toList (ByteArray.data { data := #[(108 : UInt8), (117 : UInt8), (109 : UInt8), (97 : UInt8), (32 : UInt8), (49 : UInt8), (54 : UInt8), (48 : UInt8), (32 : UInt8), (51 : UInt8), (50 : UInt8), (48 : UInt8), (32 : UInt8), (49 : UInt8), (54 : UInt8), (48 : UInt8), (32 : UInt8), (51 : UInt8), (50 : UInt8), (48 : UInt8), (10 : UInt8), (117 : UInt8), (32 : UInt8), (52 : UInt8), (56 : UInt8), (10 : UInt8), (118 : UInt8), (32 : UInt8), (45 : UInt8), (51 : UInt8), (50 : UInt8), (10 : UInt8)] }) else false) = true ∧ True) := by
  kernel_rfl
end Go.Sx

/- Contracts. -/
namespace Go.Sx
open U
theorem c20a : Fn P1 gl1 20 [ptV [1092616192, 1101004800, 1092616192, 1101004800] [1077936128] [3221225472], iV 0] (.tup [.one (.frs (.flt .f32) [1095761920, 1099956224, 1088421888, 1102053376]), iV 0]) true := by
  have h := fn20 [1092616192, 1101004800, 1092616192, 1101004800] [1077936128] [3221225472] 0 (by decide)
  rw [show encL [1092616192, 1101004800, 1092616192, 1101004800] [1077936128] [3221225472] 0 = [1095761920, 1099956224, 1088421888, 1102053376] from by decide +kernel, show encE [1092616192, 1101004800, 1092616192, 1101004800] [1077936128] [3221225472] 0 = 0 from by decide +kernel] at h
  exact h
theorem c20b : Fn P1 gl1 20 [ptV [1092616192, 1101004800, 1092616192, 1101004800] [1077936128] [3221225472], iV 1] (.tup [.one (.frs (.flt .f32) [1088421888, 1102053376, 1095761920, 1099956224]), iV 0]) true := by
  have h := fn20 [1092616192, 1101004800, 1092616192, 1101004800] [1077936128] [3221225472] 1 (by decide)
  rw [show encL [1092616192, 1101004800, 1092616192, 1101004800] [1077936128] [3221225472] 1 = [1088421888, 1102053376, 1095761920, 1099956224] from by decide +kernel, show encE [1092616192, 1101004800, 1092616192, 1101004800] [1077936128] [3221225472] 1 = 0 from by decide +kernel] at h
  exact h
theorem so20h_ : SpecOk P1 gl1 20 sp20h := by
  intro vs ps r h hp
  simp only [sp20h] at h
  split at h
  · split at h
    · cases h
      have q0 := hp _ (.head _)
      have q1 := hp _ (.tail _ (.head _))
      have q2 := hp _ (.tail _ (.tail _ (.head _)))
      have q3 := hp _ (.tail _ (.tail _ (.tail _ (.head _))))
      subst q0 q1 q2 q3
      exact c20a
    · cases h
      have q0 := hp _ (.head _)
      have q1 := hp _ (.tail _ (.head _))
      have q2 := hp _ (.tail _ (.tail _ (.head _)))
      have q3 := hp _ (.tail _ (.tail _ (.tail _ (.head _))))
      subst q0 q1 q2 q3
      exact c20b
  · cases h
theorem so20h : Sp1 20 sp20h := ⟨so20h_, Proofs.Tryz.f20, _, by kernel_rfl, rfl, by kernel_rfl⟩
theorem c33a : Fn P1 gl1 33 [.one (.sl (.flt .f32) [1095761920, 1099956224, 1088421888, 1102053376])] (.tup [.one (.frs panT [[(1114636288, 0), (1086324736, 1082130432), (3248488448, 0), (1086324736, 3229614080)]]), iV 0]) true := by
  have h := fn33 [1095761920, 1099956224, 1088421888, 1102053376]
  rw [show panN [1095761920, 1099956224, 1088421888, 1102053376] = [[(1114636288, 0), (1086324736, 1082130432), (3248488448, 0), (1086324736, 3229614080)]] from by decide +kernel, show chkSig [1095761920, 1099956224, 1088421888, 1102053376] = 0 from by decide +kernel] at h
  exact h
theorem so33h_ : SpecOk P1 gl1 33 sp33h := by
  intro vs ps r h hp
  simp only [sp33h] at h
  split at h
  · cases h
    have q0 := hp _ (.head _)
    subst q0
    exact c33a
  · cases h
theorem so33h : Sp1 33 sp33h := ⟨so33h_, Proofs.Tryz.f33, _, by kernel_rfl, rfl, by kernel_rfl⟩
theorem c43a : Fn P1 gl1 43 [.one (.sl (.flt .f32) [1095761920, 1099956224, 1088421888, 1102053376]), iV 0] (.tup [ptV [1092616192, 1101004800, 1092616192, 1101004800] [1077936128] [3221225472], iV 0]) true := by
  have h := fn43 [1095761920, 1099956224, 1088421888, 1102053376] 0
  rw [show bndP [1095761920, 1099956224, 1088421888, 1102053376] 0 = ([1092616192, 1101004800, 1092616192, 1101004800], [1077936128], [3221225472]) from by decide +kernel, show bndE [1095761920, 1099956224, 1088421888, 1102053376] 0 = 0 from by decide +kernel] at h
  exact h
theorem c43b : Fn P1 gl1 43 [.one (.sl (.flt .f32) [1095761920, 1099956224, 1093664768, 1102053376]), iV 0] (.tup [ptV [1094713344, 1101004800, 1094713344, 1101004800] [1065353216] [3221225472], iV 0]) true := by
  have h := fn43 [1095761920, 1099956224, 1093664768, 1102053376] 0
  rw [show bndP [1095761920, 1099956224, 1093664768, 1102053376] 0 = ([1094713344, 1101004800, 1094713344, 1101004800], [1065353216], [3221225472]) from by decide +kernel, show bndE [1095761920, 1099956224, 1093664768, 1102053376] 0 = 0 from by decide +kernel] at h
  exact h
theorem so43h_ : SpecOk P1 gl1 43 sp43h := by
  intro vs ps r h hp
  simp only [sp43h] at h
  split at h
  · split at h
    · cases h
      have q0 := hp _ (.head _)
      have q1 := hp _ (.tail _ (.head _))
      subst q0 q1
      exact c43a
    · cases h
      have q0 := hp _ (.head _)
      have q1 := hp _ (.tail _ (.head _))
      subst q0 q1
      exact c43b
  · cases h
theorem so43h : Sp1 43 sp43h := ⟨so43h_, Proofs.Tryz.f43, _, by kernel_rfl, rfl, by kernel_rfl⟩
theorem c57a : Fn P1 gl1 57 [ptV [1092616192, 1101004800, 1096810496, 1101004800] [1077936128] [3221225472]] (.tup [fV 1073741824, iV 0]) true := by
  have h := fn57 [1092616192, 1101004800, 1096810496, 1101004800] [1077936128] [3221225472] (by decide)
  rw [show (if chkPt [1092616192, 1101004800, 1096810496, 1101004800] [1077936128] [3221225472] = 0 then smp ((unevI (sixs [1092616192, 1101004800, 1096810496, 1101004800]) + 1) / 2) else 0) = 1073741824 from by decide +kernel, show chkPt [1092616192, 1101004800, 1096810496, 1101004800] [1077936128] [3221225472] = 0 from by decide +kernel] at h
  exact h
theorem so57h_ : SpecOk P1 gl1 57 sp57h := by
  intro vs ps r h hp
  simp only [sp57h] at h
  split at h
  · cases h
    have q0 := hp _ (.head _)
    have q1 := hp _ (.tail _ (.head _))
    have q2 := hp _ (.tail _ (.tail _ (.head _)))
    subst q0 q1 q2
    exact c57a
  · cases h
theorem so57h : Sp1 57 sp57h := ⟨so57h_, Proofs.Tryz.f57, _, by kernel_rfl, rfl, by kernel_rfl⟩
theorem c58a : Fn P1 gl1 58 [ptV [1092616192, 1101004800, 1096810496, 1101004800] [1077936128] [3221225472], ptV [1094713344, 1101004800, 1094713344, 1101004800] [1065353216] [3221225472]] (.tup [.agg [.arr 2 (.flt .f32) [1073741824, 1073741824]], iV 0]) true := by
  have h := fn58 [1092616192, 1101004800, 1096810496, 1101004800] [1077936128] [3221225472] [1094713344, 1101004800, 1094713344, 1101004800] [1065353216] [3221225472] (by decide) (by decide)
  rw [show difP [1092616192, 1101004800, 1096810496, 1101004800] [1077936128] [3221225472] [1094713344, 1101004800, 1094713344, 1101004800] [1065353216] [3221225472] = [1073741824, 1073741824] from by decide +kernel, show difE [1092616192, 1101004800, 1096810496, 1101004800] [1077936128] [3221225472] [1094713344, 1101004800, 1094713344, 1101004800] [1065353216] [3221225472] = 0 from by decide +kernel] at h
  exact h
theorem so58h_ : SpecOk P1 gl1 58 sp58h := by
  intro vs ps r h hp
  simp only [sp58h] at h
  split at h
  · cases h
    have q0 := hp _ (.head _)
    have q1 := hp _ (.tail _ (.head _))
    have q2 := hp _ (.tail _ (.tail _ (.head _)))
    have q3 := hp _ (.tail _ (.tail _ (.tail _ (.head _))))
    have q4 := hp _ (.tail _ (.tail _ (.tail _ (.tail _ (.head _)))))
    have q5 := hp _ (.tail _ (.tail _ (.tail _ (.tail _ (.tail _ (.head _))))))
    subst q0 q1 q2 q3 q4 q5
    exact c58a
  · cases h
theorem so58h : Sp1 58 sp58h := ⟨so58h_, Proofs.Tryz.f58, _, by kernel_rfl, rfl, by kernel_rfl⟩
theorem c47a : Fn P1 gl1 47 [fldV [[1095761920, 1099956224, 1093664768, 1102053376], [1088421888, 1102053376, 1099431936, 1099956224]], iV 0] (.tup [ptV [1092616192, 1101004800, 1096810496, 1101004800] [1077936128] [3221225472], iV 0]) true := by
  have h := fn47 [[1095761920, 1099956224, 1093664768, 1102053376], [1088421888, 1102053376, 1099431936, 1099956224]] 0
  rw [show errP (twoE [[1095761920, 1099956224, 1093664768, 1102053376], [1088421888, 1102053376, 1099431936, 1099956224]] 0) (twoI [[1095761920, 1099956224, 1093664768, 1102053376], [1088421888, 1102053376, 1099431936, 1099956224]] 0) = ([1092616192, 1101004800, 1096810496, 1101004800], [1077936128], [3221225472]) from by decide +kernel, show errE (twoE [[1095761920, 1099956224, 1093664768, 1102053376], [1088421888, 1102053376, 1099431936, 1099956224]] 0) (twoI [[1095761920, 1099956224, 1093664768, 1102053376], [1088421888, 1102053376, 1099431936, 1099956224]] 0) = 0 from by decide +kernel] at h
  exact h
theorem so47h_ : SpecOk P1 gl1 47 sp47h := by
  intro vs ps r h hp
  simp only [sp47h] at h
  split at h
  · cases h
    have q0 := hp _ (.head _)
    have q1 := hp _ (.tail _ (.head _))
    subst q0 q1
    exact c47a
  · cases h
theorem so47h : Sp1 47 sp47h := ⟨so47h_, Proofs.Tryz.f47, _, by kernel_rfl, rfl, by kernel_rfl⟩
theorem c48a : Fn P1 gl1 48 [fldV [[1095761920, 1099956224, 1093664768, 1102053376], [1088421888, 1102577664, 1100480512, 1100480512], [1099431936, 1101004800, 1093664768, 1103101952]], iV 1] (.tup [ptV [1093664768, 1101529088, 1097859072, 1101529088] [1082130432] [3221225472], iV 0]) true := by
  have h := fn48 [[1095761920, 1099956224, 1093664768, 1102053376], [1088421888, 1102577664, 1100480512, 1100480512], [1099431936, 1101004800, 1093664768, 1103101952]] 1
  rw [show errP (threeE [[1095761920, 1099956224, 1093664768, 1102053376], [1088421888, 1102577664, 1100480512, 1100480512], [1099431936, 1101004800, 1093664768, 1103101952]] 1) (threeL [[1095761920, 1099956224, 1093664768, 1102053376], [1088421888, 1102577664, 1100480512, 1100480512], [1099431936, 1101004800, 1093664768, 1103101952]] 1) = ([1093664768, 1101529088, 1097859072, 1101529088], [1082130432], [3221225472]) from by decide +kernel, show errE (threeE [[1095761920, 1099956224, 1093664768, 1102053376], [1088421888, 1102577664, 1100480512, 1100480512], [1099431936, 1101004800, 1093664768, 1103101952]] 1) (threeL [[1095761920, 1099956224, 1093664768, 1102053376], [1088421888, 1102577664, 1100480512, 1100480512], [1099431936, 1101004800, 1093664768, 1103101952]] 1) = 0 from by decide +kernel] at h
  exact h
theorem so48h_ : SpecOk P1 gl1 48 sp48h := by
  intro vs ps r h hp
  simp only [sp48h] at h
  split at h
  · cases h
    have q0 := hp _ (.head _)
    have q1 := hp _ (.tail _ (.head _))
    subst q0 q1
    exact c48a
  · cases h
theorem so48h : Sp1 48 sp48h := ⟨so48h_, Proofs.Tryz.f48, _, by kernel_rfl, rfl, by kernel_rfl⟩
theorem c62a : Fn P1 gl1 62 [b4V [0, 1084227584, 0, 3231711232]] (.tup [gsV (0, 160), iV 0]) true := by
  have h := fn62 [0, 1084227584, 0, 3231711232] rfl
  rw [show burZ [0, 1084227584, 0, 3231711232] = (0, 160) from by decide +kernel, show chkSs [0, 1084227584, 0, 3231711232] = 0 from by decide +kernel] at h
  exact h
theorem so62h_ : SpecOk P1 gl1 62 sp62h := by
  intro vs ps r h hp
  simp only [sp62h] at h
  split at h
  · cases h
    have q0 := hp _ (.head _)
    subst q0
    exact c62a
  · cases h
theorem so62h : Sp1 62 sp62h := ⟨so62h_, Proofs.Tryz.f62, _, by kernel_rfl, rfl, by kernel_rfl⟩
theorem c63a : Fn P1 gl1 63 [b4V [0, 1084227584, 0, 3231711232], iV 160] (.tup [iV 1, iV 0]) true := by
  have h := fn63 [0, 1084227584, 0, 3231711232] 160 rfl
  rw [show lkN [0, 1084227584, 0, 3231711232] 160 = 1 from by decide +kernel, show lkE [0, 1084227584, 0, 3231711232] 160 = 0 from by decide +kernel] at h
  exact h
theorem so63h_ : SpecOk P1 gl1 63 sp63h := by
  intro vs ps r h hp
  simp only [sp63h] at h
  split at h
  · cases h
    have q0 := hp _ (.head _)
    have q1 := hp _ (.tail _ (.head _))
    subst q0 q1
    exact c63a
  · cases h
theorem so63h : Sp1 63 sp63h := ⟨so63h_, Proofs.Tryz.f63, _, by kernel_rfl, rfl, by kernel_rfl⟩
theorem c67a : Fn P1 gl1 67 [.one (.sl (.flt .f32) [1065353216, 1073741824, 1077936128, 1082130432, 1084227584, 1086324736, 1088421888, 1090519040]), iV 1] (.tup [.one (.frs (.flt .f32) [1073741824, 1077936128, 1082130432, 1084227584]), iV 0]) true := by
  have h := fn67 [1065353216, 1073741824, 1077936128, 1082130432, 1084227584, 1086324736, 1088421888, 1090519040] 1
  rw [show algN [1065353216, 1073741824, 1077936128, 1082130432, 1084227584, 1086324736, 1088421888, 1090519040] 1 = [1073741824, 1077936128, 1082130432, 1084227584] from by decide +kernel, show algE [1065353216, 1073741824, 1077936128, 1082130432, 1084227584, 1086324736, 1088421888, 1090519040] 1 = 0 from by decide +kernel] at h
  exact h
theorem so67h_ : SpecOk P1 gl1 67 sp67h := by
  intro vs ps r h hp
  simp only [sp67h] at h
  split at h
  · cases h
    have q0 := hp _ (.head _)
    have q1 := hp _ (.tail _ (.head _))
    subst q0 q1
    exact c67a
  · cases h
theorem so67h : Sp1 67 sp67h := ⟨so67h_, Proofs.Tryz.f67, _, by kernel_rfl, rfl, by kernel_rfl⟩
theorem c68a : Fn P1 gl1 68 [.one (.sl (.flt .f32) [1077936128, 1084227584, 1088421888, 1091567616]), gsV (0, 2), fV 1065353216] (.tup [.one (.frs (.flt .f32) [0, 1073741824, 1082130432, 1086324736]), iV 0]) true := by
  have h := fn68 [1077936128, 1084227584, 1088421888, 1091567616] 0 2 1065353216
  rw [show clN [1077936128, 1084227584, 1088421888, 1091567616] 0 2 1065353216 = [0, 1073741824, 1082130432, 1086324736] from by decide +kernel, show clE [1077936128, 1084227584, 1088421888, 1091567616] 0 2 1065353216 = 0 from by decide +kernel] at h
  exact h
theorem so68h_ : SpecOk P1 gl1 68 sp68h := by
  intro vs ps r h hp
  simp only [sp68h] at h
  split at h
  · cases h
    have q0 := hp _ (.head _)
    have q1 := hp _ (.tail _ (.head _))
    have q2 := hp _ (.tail _ (.tail _ (.head _)))
    have q3 := hp _ (.tail _ (.tail _ (.tail _ (.head _))))
    subst q0 q1 q2 q3
    exact c68a
  · cases h
theorem so68h : Sp1 68 sp68h := ⟨so68h_, Proofs.Tryz.f68, _, by kernel_rfl, rfl, by kernel_rfl⟩
theorem c72a : Fn P1 gl1 72 [.one (.sl (.int .i64) [1, 0, -1])] (.tup [.agg [.arr 4 (.cpx .f64) [(0, 0), (4611686018427387904, 0), (0, 0), (4611686018427387904, 0)]], iV 0]) true := by
  have h := fn72 [1, 0, -1]
  rw [show resN [1, 0, -1] = [(0, 0), (4611686018427387904, 0), (0, 0), (4611686018427387904, 0)] from by decide +kernel, show chkTap [1, 0, -1] = 0 from by decide +kernel] at h
  exact h
theorem so72h_ : SpecOk P1 gl1 72 sp72h := by
  intro vs ps r h hp
  simp only [sp72h] at h
  split at h
  · cases h
    have q0 := hp _ (.head _)
    subst q0
    exact c72a
  · cases h
theorem so72h : Sp1 72 sp72h := ⟨so72h_, Proofs.Tryz.f72, _, by kernel_rfl, rfl, by kernel_rfl⟩
theorem c74a : Fn P1 gl1 74 [.one (.sl (.flt .f32) [1065353216, 1073741824, 1082130432, 1090519040]), .one (.sl (.int .i64) [1, 0, -1])] (.tup [.one (.frs (.flt .f32) [1065353216, 1073741824, 1077936128, 1086324736]), iV 0]) true := by
  have h := fn74 [1065353216, 1073741824, 1082130432, 1090519040] [1, 0, -1]
  rw [show fltN [1065353216, 1073741824, 1082130432, 1090519040] [1, 0, -1] 1 = [1065353216, 1073741824, 1077936128, 1086324736] from by decide +kernel, show fltE [1065353216, 1073741824, 1082130432, 1090519040] [1, 0, -1] 1 = 0 from by decide +kernel] at h
  exact h
theorem so74h_ : SpecOk P1 gl1 74 sp74h := by
  intro vs ps r h hp
  simp only [sp74h] at h
  split at h
  · cases h
    have q0 := hp _ (.head _)
    have q1 := hp _ (.tail _ (.head _))
    subst q0 q1
    exact c74a
  · cases h
theorem so74h : Sp1 74 sp74h := ⟨so74h_, Proofs.Tryz.f74, _, by kernel_rfl, rfl, by kernel_rfl⟩
theorem c75a : Fn P1 gl1 75 [.one (.sl (.flt .f32) [1065353216, 1073741824, 1082130432, 1090519040]), .one (.sl (.int .i64) [1, 0, -1])] (.tup [.one (.frs (.flt .f32) [3225419776, 3233808384, 1082130432, 1090519040]), iV 0]) true := by
  have h := fn75 [1065353216, 1073741824, 1082130432, 1090519040] [1, 0, -1]
  rw [show fltN [1065353216, 1073741824, 1082130432, 1090519040] [1, 0, -1] (-1) = [3225419776, 3233808384, 1082130432, 1090519040] from by decide +kernel, show fltE [1065353216, 1073741824, 1082130432, 1090519040] [1, 0, -1] (-1) = 0 from by decide +kernel] at h
  exact h
theorem so75h_ : SpecOk P1 gl1 75 sp75h := by
  intro vs ps r h hp
  simp only [sp75h] at h
  split at h
  · cases h
    have q0 := hp _ (.head _)
    have q1 := hp _ (.tail _ (.head _))
    subst q0 q1
    exact c75a
  · cases h
theorem so75h : Sp1 75 sp75h := ⟨so75h_, Proofs.Tryz.f75, _, by kernel_rfl, rfl, by kernel_rfl⟩
theorem c88a : Fn P1 gl1 88 [ptV [1092616192, 1101004800, 1092616192, 1101004800] [1077936128] [3221225472]] (.tup [sV [108, 117, 109, 97, 32, 49, 54, 48, 32, 51, 50, 48, 32, 49, 54, 48, 32, 51, 50, 48, 10, 117, 32, 52, 56, 10, 118, 32, 45, 51, 50, 10], iV 0]) true := by
  have h := fn88 [1092616192, 1101004800, 1092616192, 1101004800] [1077936128] [3221225472] (by decide)
  rw [show prN [1092616192, 1101004800, 1092616192, 1101004800] [1077936128] [3221225472] = [108, 117, 109, 97, 32, 49, 54, 48, 32, 51, 50, 48, 32, 49, 54, 48, 32, 51, 50, 48, 10, 117, 32, 52, 56, 10, 118, 32, 45, 51, 50, 10] from by decide +kernel, show chkPt [1092616192, 1101004800, 1092616192, 1101004800] [1077936128] [3221225472] = 0 from by decide +kernel] at h
  exact h
theorem so88h_ : SpecOk P1 gl1 88 sp88h := by
  intro vs ps r h hp
  simp only [sp88h] at h
  split at h
  · cases h
    have q0 := hp _ (.head _)
    have q1 := hp _ (.tail _ (.head _))
    have q2 := hp _ (.tail _ (.tail _ (.head _)))
    subst q0 q1 q2
    exact c88a
  · cases h
theorem so88h : Sp1 88 sp88h := ⟨so88h_, Proofs.Tryz.f88, _, by kernel_rfl, rfl, by kernel_rfl⟩
theorem so27h_ : SpecOk P1 gl1 27 sp27h := by
  intro vs ps r h hp
  simp only [sp27h] at h
  split at h
  · rename_i a b
    split at h
    · rename_i e
      cases h
      obtain rfl : a = b := e
      have q0 := hp _ (.head _)
      have h := fn27 a a (hp _ (.tail _ (.head _)))
      rw [sameS_self (chkSs_zero.1 q0)] at h
      exact h
    · cases h
  · cases h
theorem so27h : Sp1 27 sp27h := ⟨so27h_, Proofs.Tryz.f27, _, by kernel_rfl, rfl, by kernel_rfl⟩
theorem so45h_ : SpecOk P1 gl1 45 sp45h := by
  intro vs ps r h hp
  simp only [sp45h] at h
  split at h
  · rename_i y u v y' u' v'
    split at h
    · rename_i e
      cases h
      obtain ⟨rfl, e2⟩ := Prod.mk.inj e
      obtain ⟨rfl, rfl⟩ := Prod.mk.inj e2
      have q0 := hp _ (.head _)
      have q2 := hp _ (.tail _ (.tail _ (.head _)))
      have q4 := hp _ (.tail _ (.tail _ (.tail _ (.tail _ (.head _)))))
      have h := fn45 (y, u, v) (y, u, v) (hp _ (.tail _ (.head _))) (hp _ (.tail _ (.tail _ (.tail _ (.head _))))) (hp _ (.tail _ (.tail _ (.tail _ (.tail _ (.tail _ (.head _)))))))
      rw [show sameP (y, u, v) (y, u, v) = true by unfold sameP; rw [sameS_self (chkSs_zero.1 q0), sameS_self (chkSs_zero.1 q2), sameS_self (chkSs_zero.1 q4)]; rfl] at h
      exact h
    · cases h
  · cases h
theorem so45h : Sp1 45 sp45h := ⟨so45h_, Proofs.Tryz.f45, _, by kernel_rfl, rfl, by kernel_rfl⟩
theorem fn93   : Fn P1 gl1 93 [] (.val (ptV [1092616192, 1101004800, 1092616192, 1101004800] [1077936128] [3221225472])) true := by
  refine fn_ofr false [] [] h0 0 Proofs.Tryz.f93 trivial trivial (by kernel_rfl) rfl (by kernel_rfl) rfl rfl rfl ?_
  rw [vc93 ()]
  try simp only [splitB_iff, -eq_self]
  exact ⟨rfl, rfl, rfl, trivial⟩
theorem so93_ : SpecOk P1 gl1 93 sp93 := by
  intro vs ps r h _
  simp only [sp93] at h
  split at h
  · cases h; exact fn93  
  · cases h
theorem so93 : Sp1 93 sp93 := ⟨so93_, Proofs.Tryz.f93, _, by kernel_rfl, rfl, by kernel_rfl⟩
theorem fn94   : Fn P1 gl1 94 [] (.val (ptV [1092616192, 1101004800, 1096810496, 1101004800] [1077936128] [3221225472])) true := by
  refine fn_ofr false [] [] h0 0 Proofs.Tryz.f94 trivial trivial (by kernel_rfl) rfl (by kernel_rfl) rfl rfl rfl ?_
  rw [vc94 ()]
  try simp only [splitB_iff, -eq_self]
  exact ⟨rfl, rfl, rfl, trivial⟩
theorem so94_ : SpecOk P1 gl1 94 sp94 := by
  intro vs ps r h _
  simp only [sp94] at h
  split at h
  · cases h; exact fn94  
  · cases h
theorem so94 : Sp1 94 sp94 := ⟨so94_, Proofs.Tryz.f94, _, by kernel_rfl, rfl, by kernel_rfl⟩
theorem fn19   : Fn P1 gl1 19 [] (.val (bV true)) true := by
  refine Fn.flat ?_ rfl
  refine fn_of false [(93, sp93), (94, sp94), (46, sp46), (20, sp20h), (33, sp33h), (43, sp43h), (57, sp57h), (58, sp58h), (47, sp47h), (48, sp48h), (62, sp62h), (63, sp63h), (67, sp67h), (68, sp68h), (72, sp72h), (74, sp74h), (75, sp75h), (88, sp88h), (27, sp27h), (45, sp45h)] [] h0 0 Proofs.Tryz.f19 ⟨so93, so94, so46, so20h, so33h, so43h, so57h, so58h, so47h, so48h, so62h, so63h, so67h, so68h, so72h, so74h, so75h, so88h, so27h, so45h, trivial⟩ trivial (by kernel_rfl) rfl (by kernel_rfl) rfl rfl rfl ?_
  rw [vc19 ()]
  try simp only [-eq_self]
  repeat' first | apply And.intro | intro hh
  all_goals first | rfl | trivial | decide +kernel | exact absurd hh (by decide +kernel)
theorem so19_ : SpecOk P1 gl1 19 sp19 := by
  intro vs ps r h _
  simp only [sp19] at h
  split at h
  · cases h; exact fn19  
  · cases h
theorem so19 : Sp1 19 sp19 := ⟨so19_, Proofs.Tryz.f19, _, by kernel_rfl, rfl, by kernel_rfl⟩
end Go.Sx

/- Plain functions of composite: what the laws compare. -/
namespace Go.Sx.U
open Ieee
end Go.Sx.U

/- Plain functions and hints. -/
namespace Go.Sx
open U
end Go.Sx

/- What the engine asks, written out (printed by a program). -/
namespace Go.Sx
open U
end Go.Sx

/- Contracts. -/
namespace Go.Sx
open U
end Go.Sx

/- Plain functions of composite: lists of parts, encoded fields. -/
namespace Go.Sx.U
def pAt (l : List Pt) (i : Nat) : Pt := List.getD l i ([], [], [])
def chkP (x : Pt) : Int := chkPt x.1 x.2.1 x.2.2
def chkLi (l : List Pt) (i : Nat) : Int := if chkP (pAt l i) = 0 then (if (pAt l i).1.length = (pAt l 0).1.length then 0 else 2) else chkP (pAt l i)
def encP (l : List Pt) (i : Nat) : List Int := encI (pAt l i).1 (pAt l i).2.1 (pAt l i).2.2 i
end Go.Sx.U

/- Plain functions and hints. -/
namespace Go.Sx
open U
abbrev pT : Ty := .pair (.sl (.flt .f32)) (.pair (.sl (.flt .f32)) (.sl (.flt .f32)))
def h31 : Hints := ⟨fun f k s => match f, k with
  | 106, 3 => hMapG pT (.int .i64) (fun x => ((List.length x.1 : Nat) : Int)) 8 10 5 [1, 9] s
  | 31, 5 => match listAs s 0 pT with
    | some l => some ⟨Nat, fun i => s.at [0, 4, 18, 19] [tI 20 i], fun i => i ≤ List.length l ∧ upTo (chkLi l) i = 0, fun i => List.length l - i⟩
    | none => none
  | 31, 13 => match listAs s 0 pT with
    | some l => some ⟨Nat, fun i => ⟨[tI 44 i, (8, .val (.one (.own s.nx)))] ++ keepT [0, 42, 43] s.tm, (s.nx, some (.row lnT (tab i fun i => smpsN (encP l i)))) :: lessO s [8], s.nx + 1, s.lr⟩, fun i => i ≤ List.length l ∧ upTo (fun i => lgE (encP l i)) i = 0, fun i => List.length l - i⟩
    | none => none
  | 32, 3 => hMapG pT pT (fun x => x) 6 8 3 [7] s
  | 39, 3 => hMapG lnT lnT (fun x => x) 6 8 3 [7] s
  | 35, 4 => match listAs s 0 pT with
    | some l => some ⟨Nat, fun i => s.at [0] [tI 3 i], fun i => i ≤ List.length l ∧ upTo (chkLi l) i = 0, fun i => List.length l - i⟩
    | none => none
  | 28, 2 => match listAs s 0 pT with
    | some l => some ⟨Nat, fun i => s.at [0] [tI 3 i], fun i => i ≤ List.length l ∧ ∀ j, j < i → shortP (pAt l j).1 (pAt l j).2.1 (pAt l j).2.2 = true, fun i => List.length l - i⟩
    | none => none
  | 29, 2 => match listAs s 0 lnT with
    | some l => some ⟨Nat, fun i => s.at [0] [tI 3 i], fun i => i ≤ List.length l ∧ ∀ j, j < i → shortS (List.getD l j []) = true, fun i => List.length l - i⟩
    | none => none
  | 42, 4 => match listAs s 0 lnT, listAs s 1 lnT with
    | some a, some b => some ⟨Nat, fun i => s.at [0, 1] [tI 5 i], fun i => i ≤ List.length a ∧ ∀ j, j < i → sameS (List.getD a j []) (List.getD b j []) = true, fun i => List.length a - i⟩
    | _, _ => none
  | _, _ => none, 0⟩
end Go.Sx
namespace Go.Sx
open U
def sp39 : FSpec := ⟨fun vs => match vs with
  | [.one (.sl (.sl (.flt .f32)) l)] => some ([List.length l ≤ 1000000, ∀ x ∈ l, List.length x ≤ 1000000], .val (fldV l))
  | _ => none, false⟩
end Go.Sx

/- What the engine asks, written out (printed by a program). -/
namespace Go.Sx
open U
theorem vc39 (l : Fld) : exF (env false [(34, sp34)] []) h31 0 39 Proofs.Tryz.f39 [fldV l] (.val (fldV l)) = (let q0 := (↑(List.length l) : Int); (∃ (g : Nat), Nat.le g (List.length l) ∧ (0 : Int) = (↑g : Int) ∧ q0 = q0 ∧ l = l ∧ List.map (fun (x : List Nat) => x) (List.take g l) = [] ∧ True) ∧ ∀ (g : Nat), Nat.le g (List.length l) → splitB (decide ((↑g : Int) < q0)) (((0 : Int) ≤ (↑g : Int) ∧ (↑g : Int) < q0) ∧ List.length (List.getD l g []) ≤ (1000000 : Nat) ∧ room (List.length (List.map (fun (x : List Nat) => x) (List.take g l)) + (1 : Nat)) (24 : Nat) ∧ fits IntKind.i64 ((↑g : Int) + (1 : Int)) ∧ ∃ (g' : Nat), Nat.le g' (List.length l) ∧ List.length l - g' < List.length l - g ∧ (↑g : Int) + (1 : Int) = (↑g' : Int) ∧ q0 = q0 ∧ l = l ∧ List.map (fun (x : List Nat) => x) (List.take g l) ++ [List.getD l g []] = List.map (fun (x : List Nat) => x) (List.take g' l) ∧ True) (List.map (fun (x : List Nat) => x) (List.take g l) = l ∧ True)) := by
  kernel_rfl
end Go.Sx

/- Contracts. -/
namespace Go.Sx
open U
theorem fn39 (l : Fld) (hl : l.length ≤ 1000000) (hy : ∀ x ∈ l, x.length ≤ 1000000) : Fn P1 gl1 39 [fldV l] (.val (fldV l)) false := by
  refine fn_of false [(34, sp34)] [] h31 0 Proofs.Tryz.f39 ⟨so34, trivial⟩ trivial (by kernel_rfl) rfl (by kernel_rfl) rfl rfl rfl ?_
  rw [vc39]
  try simp only [splitB_iff, -eq_self]
  refine ⟨⟨0, Nat.zero_le _, rfl, rfl, rfl, by simp⟩, fun g hg => ⟨fun hlt => ?_, fun hge => ?_⟩⟩
  · have hlt' : g < l.length := by simpa using hlt
    refine ⟨by omega, hy _ (getD_mem' hlt'), by simp only [room, List.length_map, List.length_take]; omega, by simp only [fits]; omega, g + 1, hlt', by omega, by simp, rfl, rfl, ?_, trivial⟩
    rw [getD_of hlt', List.take_succ_eq_append_getElem hlt', List.map_append]
    rfl
  · have hge' : ¬ g < l.length := by simpa using hge
    rw [List.take_of_length_le (by omega)]
    exact ⟨by simp, trivial⟩
theorem so39_ : SpecOk P1 gl1 39 sp39 := by
  intro vs ps r h hp
  simp only [sp39] at h
  split at h
  · cases h; exact fn39 _ (hp _ (.head _)) (hp _ (.tail _ (.head _)))
  · cases h
theorem so39 : Sp1 39 sp39 := ⟨so39_, Proofs.Tryz.f39, _, by kernel_rfl, rfl, by kernel_rfl⟩
end Go.Sx

/- The contract of slices.Grow at the nil slice, out of the kit's shelf, as the engine uses it. -/
namespace Go.Sx
open Go.Proofs Go.RowKit Go.Shelf Go.Lib
theorem grow_fn {P : Program} {ρ : Ren} (L : Lays8.n4 P ρ) {gl : Nat → Option ((t : Ty) × t.T)} {i : TypeInfo} {z : Value} {t : Ty} (hi : P.info? (ρ.t 25) = some i) (hz : i.zero = some z) (hs : 0 < i.size) (hzs : z.cells.size = t.sz)
    (n : Int) (h0 : 0 ≤ n) (hn : n ≤ 1000000000) (hb : n.toNat * i.bytes ≤ 140737488355328) : Fn P gl (ρ.f 4) [.one .nils, .one (.int .i64 n)] (.val (.one (.frs t []))) true := by
  intro w H vs hA hG hD
  obtain ⟨v, r, rfl, hv, v2, r2, rfl, hv2, hr⟩ := hD
  obtain rfl : r2 = [] := hr
  obtain rfl : v2 = .int .i64 n := hv2
  obtain rfl : v = .slice none 0 0 := hv
  obtain ⟨k, rfl⟩ : ∃ k : Nat, n = k := ⟨n.toNat, by omega⟩
  have hk : ((k : Int)).toNat = k := by omega
  rw [hk] at hb
  by_cases h : k = 0
  · subst h
    refine (Any8.slices_Grow_room L none 0 0 0 w (Nat.le_refl _) (by omega) (by omega) (by omega)).mono fun e w' ⟨he, hw⟩ => ?_
    subst hw
    exact ⟨_, fun _ => none, he, Below.refl _ _, fun _ _ h => (by cases h), fun _ _ => rfl, .inl ⟨rfl, rfl⟩⟩
  · refine (Any8.slices_Grow_grow L i z hi hz hs none 0 0 k [] w (Nat.le_refl _) (by omega) (by rw [Nat.zero_add]; exact hb) (by omega) (by simp) (fun _ => rfl) (fun _ h => by cases h)).mono fun e w' ⟨he, hw⟩ => ?_
    subst hw
    have hcap := grownCap_ge w (0 + k) 0 (ρ.t 25)
    have hcapm := grownCap_le_maxLen w (0 + k) 0 (ρ.t 25) (by simp only [maxLen]; omega)
    refine ⟨_, fun _ => none, he, ⟨rfl, rfl, rfl, ?_, fun j hj => ?_⟩, fun _ _ h => (by cases h), fun _ _ => rfl, .inr ⟨w.heap.size, grownCap w (0 + k) 0 (ρ.t 25), #[] ++ Builtin.zeroCells z.cells (0 + k - 0) ++ Builtin.zeroCells z.cells (grownCap w (0 + k) 0 (ρ.t 25) - (0 + k)), ρ.t 25, rfl, Nat.le_refl _, rfl, ⟨(0, 0), .inl rfl, ?_⟩, Nat.zero_le _, hcapm, ?_, fun i h => absurd h (Nat.not_lt_zero _)⟩⟩
    · show w.heap.size ≤ (w.heap.push _).size
      simp
    · show (w.heap.push _)[j]? = _
      rw [Array.getElem?_push, if_neg (by omega)]
    · show (w.heap.push _)[w.heap.size]? = _
      rw [Array.getElem?_push, if_pos rfl]
    · simp only [Array.size_append, List.size_toArray, List.length_nil, size_zeroCells, hzs]
      rw [Nat.zero_add, ← Nat.add_mul]; congr 1; omega
end Go.Sx

/- slices.Grow at this program, in plain words. -/
namespace Go.Proofs
open Go.Shelf
def Tryz.lays8_ren : Go.Shelf.Ren := ⟨fun | 4 => 195 | n => n, fun | 22 => 35 | 25 => 3 | n => n, fun | n => n⟩
theorem Tryz.lays8 : Go.Proofs.Lays8.n4 Tryz.prog Tryz.lays8_ren := {
  mixed := by kernel_rfl
  f4 := ⟨"slices.Grow[[]int,int]", by kernel_rfl, Tryz.func195.trans (congrArg some (by kernel_rfl))⟩
  t0 := Tryz.underlying0
  a0 := Tryz.isAgg0
  z0 := Tryz.sizeOf0
  v0 := Tryz.zeroValue0
  t3 := Tryz.underlying3
  a3 := Tryz.isAgg3
  z3 := Tryz.sizeOf3
  v3 := Tryz.zeroValue3
  t4 := Tryz.underlying4
  a4 := Tryz.isAgg4
  z4 := Tryz.sizeOf4
  v4 := Tryz.zeroValue4
  t9 := Tryz.underlying9
  a9 := Tryz.isAgg9
  z9 := Tryz.sizeOf9
  v9 := Tryz.zeroValue9
  t20 := Tryz.underlying20
  a20 := Tryz.isAgg20
  z20 := Tryz.sizeOf20
  v20 := Tryz.zeroValue20
  t22 := Tryz.underlying35
  a22 := Tryz.isAgg35
  z22 := Tryz.sizeOf35
  v22 := Tryz.zeroValue35
}
end Go.Proofs
namespace Go.Sx
theorem grow1 (n : Int) (h0 : 0 ≤ n) (hn : n ≤ 1000000) : Fn P1 gl1 195 [.one .nils, (.one (.int .i64 n))] (.val (.one (.frs (.int .i64) []))) true := by
  obtain ⟨i, z, g1, g2, g3, g4, _, g6⟩ := (tt_ok tab1_ok 3 _ rfl).info
  have hz := g6 (.int .i64) rfl (fun _ => none)
  have hzs : z.cells.size = Ty.sz (.int .i64) := by simpa using Rd.len _ _ _ hz
  have g2' : i.size = 1 := g2
  have g3' : i.bytes = 8 := g3
  exact grow_fn (i := i) (z := z) (t := .int .i64) Proofs.Tryz.lays8 g1 g4 (by omega) hzs n h0 (by omega) (by rw [g3']; omega)
end Go.Sx

/- Plain functions of composite: fields filtered from line to line. -/
namespace Go.Sx.U
def widN (f : Fld) : Nat := (List.getD f 0 []).length
def colN (f : Fld) (a : Nat) : List Int := f.map fun l => List.getD (sixs l) a 0
def cmbV (f : Fld) (t : List Int) (w : Int) (i a : Nat) : Int := swTo f.length (lat (colN f a)) t w i t.length
def cmbL (f : Fld) (t : List Int) (w : Int) (i : Nat) : List Int := tab (widN f) (cmbV f t w i)
def cmbB (f : Fld) (t : List Int) : Int := first [chkFld f, chkTap t]
def cmbX (f : Fld) (t : List Int) (w : Int) : Int := if (tab f.length (cmbL f t w)).any (fun l => l.any lgI) then 4 else 0
def cmbE (f : Fld) (t : List Int) (w : Int) : Int := if cmbB f t = 0 then cmbX f t w else cmbB f t
def cmbS (f : Fld) (t : List Int) (w : Int) : Fld := tab f.length fun i => tab (widN f) fun a => smp (cmbV f t w i a)
def cmbN (f : Fld) (t : List Int) (w : Int) : Fld := if cmbE f t w = 0 then cmbS f t w else []
theorem colN_len (f : Fld) (a : Nat) : (colN f a).length = f.length := by simp [colN]
theorem colN_get (f : Fld) (a i : Nat) : List.getD (colN f a) i 0 = List.getD (sixs (List.getD f i [])) a 0 := by
  unfold colN
  by_cases h : i < f.length
  · rw [List.getD_eq_getElem?_getD, List.getElem?_map, List.getElem?_eq_getElem h, List.getD_eq_getElem?_getD (l := f), List.getElem?_eq_getElem h]; rfl
  · rw [List.getD_eq_getElem?_getD, List.getElem?_map, List.getElem?_eq_none (by omega), List.getD_eq_getElem?_getD (l := f), List.getElem?_eq_none (by omega)]; rfl
theorem col_flt (f : Fld) (t : List Int) (w : Int) (a : Nat) : fltI (colN f a) t w = tab f.length fun i => cmbV f t w i a := by
  unfold fltI cmbV
  rw [colN_len]
theorem any_tab {α : Type} {n : Nat} {f : Nat → α} {p : α → Bool} : (tab n f).any p = false ↔ ∀ i, i < n → p (f i) = false := by
  unfold tab
  simp only [List.any_map, List.any_eq_false, List.mem_range, Function.comp]
  exact ⟨fun h i hi => by simpa using h i hi, fun h i hi => by simpa using h i hi⟩
theorem lgI_false2 {n : Int} : lgI n = false ↔ -16384 ≤ n ∧ n ≤ 16384 := by
  unfold lgI
  simp only [Bool.or_eq_false_iff, decide_eq_false_iff_not]
  omega
theorem cmbX_zero {f : Fld} {t : List Int} {w : Int} : cmbX f t w = 0 ↔ ∀ i, i < f.length → ∀ a, a < widN f → -16384 ≤ cmbV f t w i a ∧ cmbV f t w i a ≤ 16384 := by
  have e : cmbX f t w = 0 ↔ (tab f.length (cmbL f t w)).any (fun l => l.any lgI) = false := by
    unfold cmbX
    cases (tab f.length (cmbL f t w)).any (fun l => l.any lgI) <;> simp
  rw [e, any_tab]
  unfold cmbL
  simp only [any_tab, lgI_false2]
theorem cmbX_four {f : Fld} {t : List Int} {w : Int} (h : cmbX f t w ≠ 0) : cmbX f t w = 4 := by
  unfold cmbX at h ⊢
  split
  · rfl
  · rename_i k; rw [if_neg k] at h; exact absurd rfl h
theorem bdt_iff {B : Int} {n : Nat} {f : Nat → Int} : Bd B (tab n f) ↔ ∀ i, i < n → -B ≤ f i ∧ f i ≤ B := by
  unfold Bd tab
  simp only [List.mem_map, List.mem_range, forall_exists_index, and_imp, forall_apply_eq_imp_iff₂]
theorem cmbX_col {f : Fld} {t : List Int} {w : Int} {a : Nat} (ha : a < widN f) (h : ¬ Bd 16384 (fltI (colN f a) t w)) : cmbX f t w = 4 := by
  refine cmbX_four fun k => h ?_
  rw [col_flt]
  exact bdt_iff.2 fun i hi => cmbX_zero.1 k i hi a ha
theorem cmbX_cols {f : Fld} {t : List Int} {w : Int} (h : ∀ a, a < widN f → Bd 16384 (fltI (colN f a) t w)) : cmbX f t w = 0 := by
  refine cmbX_zero.2 fun i hi a ha => ?_
  have := h a ha
  rw [col_flt] at this
  exact bdt_iff.1 this i hi
structure FldOk (f : Fld) (t : List Int) : Prop where
  len : f.length ≤ 32
  sig : ∀ i, i < f.length → (List.getD f i []).length ≤ 256 ∧ (List.getD f i []).length % 4 = 0 ∧ OkS (List.getD f i [])
  wid : ∀ i, i < f.length → (List.getD f i []).length = widN f
  t0 : t.length ≠ 0
  t1 : t.length ≤ 8
  t2 : Bd 1000 t
theorem cmbB_zero {f : Fld} {t : List Int} : cmbB f t = 0 ↔ FldOk f t := by
  unfold cmbB
  rw [first_zero]
  constructor
  · intro h
    obtain ⟨h1, h2⟩ := chkFld_zero.1 (h _ (.head _))
    obtain ⟨h3, h4, h5⟩ := chkTap_zero.1 (h _ (.tail _ (.head _)))
    exact ⟨h1, fun i hi => chkSig_zero.1 (h2 i hi).1, fun i hi => (h2 i hi).2, h3, h4, h5⟩
  · rintro ⟨h1, h2, h3, h4, h5, h6⟩ n hn
    rcases hn with _ | ⟨_, _ | ⟨_, hn⟩⟩
    · exact chkFld_zero.2 ⟨h1, fun i hi => ⟨chkSig_zero.2 (h2 i hi), h3 i hi⟩⟩
    · exact chkTap_zero.2 ⟨h4, h5, h6⟩
    · cases hn
theorem FldOk.all {f : Fld} {t : List Int} (h : FldOk f t) : ∀ l ∈ f, l.length ≤ 256 ∧ OkS l ∧ l.length = widN f := by
  intro l hl
  obtain ⟨i, hi, rfl⟩ := List.mem_iff_getElem.1 hl
  have h1 := h.sig i hi
  have h2 := h.wid i hi
  rw [getD_of hi] at h1 h2
  exact ⟨h1.1, h1.2.2, h2⟩
theorem FldOk.wid_le {f : Fld} {t : List Int} (h : FldOk f t) : widN f ≤ 256 := by
  unfold widN
  by_cases hf : 0 < f.length
  · exact (h.sig 0 hf).1
  · have : f = [] := List.length_eq_zero_iff.1 (by omega)
    subst this; simp
theorem FldOk.col {f : Fld} {t : List Int} (h : FldOk f t) (a : Nat) : Bd 16384 (colN f a) := by
  intro n hn
  obtain ⟨l, hl, rfl⟩ := List.mem_map.1 hn
  exact bd_get (bd_sixs (h.all l hl).2.1) (by omega)
theorem FldOk.val {f : Fld} {t : List Int} (h : FldOk f t) (w : Int) (i a j : Nat) : -((j : Int) * 16384000) ≤ swTo f.length (lat (colN f a)) t w i j ∧ swTo f.length (lat (colN f a)) t w i j ≤ (j : Int) * 16384000 := by
  have := swTo_bd (n := f.length) (w := w) (B := 16384) (by omega) (lat_bd (h.col a) (by omega)) h.t2 i j
  simpa using this
theorem flatL_len {n : Nat} : ∀ {f : List (List Int)}, (∀ l ∈ f, l.length = n) → f.flatten.length = f.length * n
  | [], _ => by simp
  | l :: r, h => by
    rw [List.flatten_cons, List.length_append, h l (.head _), flatL_len fun x hx => h x (.tail _ hx), List.length_cons, Nat.succ_mul]; omega
theorem col_map (f : Fld) (a : Nat) : List.map (fun l => List.getD l a 0) (List.map sixs f) = colN f a := by unfold colN; rw [List.map_map]; rfl
theorem cmb_bad {f : Fld} {t : List Int} {w : Int} (h : ¬ cmbB f t = 0) : cmbN f t w = [] ∧ first [chkFld f, chkTap t] = cmbE f t w := by
  have e : cmbE f t w = cmbB f t := by unfold cmbE; rw [if_neg h]
  refine ⟨?_, e.symm⟩
  unfold cmbN
  rw [e, if_neg h]
theorem cmb_four {f : Fld} {t : List Int} {w : Int} (h : cmbB f t = 0) (hx : cmbX f t w = 4) : cmbN f t w = [] ∧ cmbE f t w = 4 := by
  have e : cmbE f t w = 4 := by unfold cmbE; rw [if_pos h, hx]
  refine ⟨?_, e⟩
  unfold cmbN
  rw [e, if_neg (by decide)]
theorem cmb_ok {f : Fld} {t : List Int} {w : Int} (h : cmbB f t = 0) (hx : cmbX f t w = 0) : cmbN f t w = cmbS f t w ∧ cmbE f t w = 0 := by
  have e : cmbE f t w = 0 := by unfold cmbE; rw [if_pos h, hx]
  refine ⟨?_, e⟩
  unfold cmbN
  rw [e, if_pos rfl]
theorem flat_wid {f : Fld} {t : List Int} (H : FldOk f t) : (List.flatten (List.map sixs f)).length = f.length * widN f := by
  rw [flatL_len (n := widN f), List.length_map]
  intro l hl
  obtain ⟨x, hx, rfl⟩ := List.mem_map.1 hl
  rw [sixs_len]
  exact (H.all x hx).2.2
theorem of_and1 {a b c d : Int} (h : (bif decide (a ≤ b) then decide (c < d) else false) = true) : a ≤ b ∧ c < d := by
  rw [bcond_r, Bool.and_eq_true] at h
  exact ⟨of_decide_eq_true h.1, of_decide_eq_true h.2⟩
theorem of_and0 {a b c d : Int} (h : (bif decide (a ≤ b) then decide (c < d) else false) = false) : ¬ (a ≤ b ∧ c < d) := by
  rw [bcond_r, Bool.and_eq_false_iff] at h
  rintro ⟨h1, h2⟩
  rcases h with h | h
  · exact of_decide_eq_false h h1
  · exact of_decide_eq_false h h2
theorem cmb_step {f : Fld} {t : List Int} {w : Int} (hw : w = 1 ∨ w = -1) (H : FldOk f t) {n g i j : Nat} (hn : n = f.length) (hi : i < n) (hj : j < t.length) (hg : g < widN f) :
    fits .i64 (w * (j : Int)) ∧ fits .i64 ((i : Int) - w * (j : Int)) ∧
    ((0 ≤ (i : Int) - w * (j : Int) ∧ (i : Int) - w * (j : Int) < (n : Int)) → (g : Int) < ((List.getD (List.map sixs f) ((i : Int) - w * (j : Int)).toNat []).length : Int) ∧ fits .i64 (List.getD t j 0 * List.getD (List.getD (List.map sixs f) ((i : Int) - w * (j : Int)).toNat []) g 0) ∧
      fits .i64 (swTo n (lat (colN f g)) t w i j + List.getD t j 0 * List.getD (List.getD (List.map sixs f) ((i : Int) - w * (j : Int)).toNat []) g 0) ∧
      swTo n (lat (colN f g)) t w i j + List.getD t j 0 * List.getD (List.getD (List.map sixs f) ((i : Int) - w * (j : Int)).toNat []) g 0 = swTo n (lat (colN f g)) t w i (j + 1)) ∧
    (¬ (0 ≤ (i : Int) - w * (j : Int) ∧ (i : Int) - w * (j : Int) < (n : Int)) → swTo n (lat (colN f g)) t w i j = swTo n (lat (colN f g)) t w i (j + 1)) := by
  subst hn
  have h8 := H.t1
  have h32 := H.len
  have hwj : -(j : Int) ≤ w * (j : Int) ∧ w * (j : Int) ≤ (j : Int) := by rcases hw with e | e <;> rw [e] <;> omega
  refine ⟨by simp only [fits]; omega, by simp only [fits]; omega, fun c => ?_, fun c => ?_⟩
  · have hk : ((i : Int) - w * (j : Int)).toNat < f.length := by omega
    have e : List.getD (List.map sixs f) ((i : Int) - w * (j : Int)).toNat [] = sixs (List.getD f ((i : Int) - w * (j : Int)).toNat []) := by
      rw [getD_of (by rw [List.length_map]; exact hk), List.getElem_map, getD_of hk]
    have e2 : List.getD (sixs (List.getD f ((i : Int) - w * (j : Int)).toNat [])) g 0 = lat (colN f g) ((i : Int) - w * (j : Int)) := (colN_get f g _).symm
    have hp := mul_bd (bd_get H.t2 (i := j) (by omega)) (lat_bd (H.col g) (by omega) ((i : Int) - w * (j : Int)))
    have hs := H.val w i g j
    rw [e, e2, sixs_len, H.wid _ hk]
    refine ⟨by omega, by simp only [fits]; omega, by simp only [fits]; omega, ?_⟩
    show _ = if _ then _ else _
    rw [if_pos c]
  · show _ = if _ then _ else _
    rw [if_neg c]
end Go.Sx.U
