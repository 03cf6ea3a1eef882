/- A verified symbolic run of functions, part 17: lemmas, no claim of their own. -/
import Derived.Test.YtjbfcdgbjgjliaaGreatDoorS16
import Derived.Shelf.Strings.Split
import Derived.Shelf.Strings.Prefix
import Derived.Shelf.Small.Strs
import Derived.Shelf.Small.Wraps
import Derived.Shelf.Strconv.ErrVarAll
import Derived.Shelf.LaysM
import Derived.Shelf.LaysC
import Derived.Test.YtjbfcdgbjgjliaaGreatDoorProg
import Derived.Lib.SmallJoins
import Derived.Lib.Split
import Derived.Lib.AtoiTie
import Derived.Lib.ItoaNum
import Derived.Lib.Strings
import Derived.Lib.AtoiAllCases
namespace Go.Sx
open U
theorem vc158 (l : List (List Int)) : exF (env false [(195, sp195)] []) h158 0 158 Proofs.Tryz.f158 [.one (.sl (.sl (.int .i64)) l)] (.val (.one (.frs (.int .i64) l.flatten))) = (let q2 := (List.length l); let q0 := (↑q2 : Int); (∃ (g : Nat), Nat.le g q2 ∧ (0 : Int) = (↑g : Int) ∧ (0 : Int) = (↑(List.length (flatTo l g)) : Int) ∧ q0 = q0 ∧ l = l ∧ l = l ∧ True) ∧ ∀ (g : Nat), let q1 := (↑(List.length (flatTo l g)) : Int); Nat.le g q2 → splitB (decide ((↑g : Int) < q0)) (((0 : Int) ≤ (↑g : Int) ∧ (↑g : Int) < q0) ∧ fits IntKind.i64 (q1 + (↑(List.length (List.getD l g [])) : Int)) ∧ fits IntKind.i64 ((↑g : Int) + (1 : Int)) ∧ ∃ (g' : Nat), Nat.le g' q2 ∧ List.length l - g' < List.length l - g ∧ (↑g : Int) + (1 : Int) = (↑g' : Int) ∧ q1 + (↑(List.length (List.getD l g [])) : Int) = (↑(List.length (flatTo l g')) : Int) ∧ q0 = q0 ∧ l = l ∧ l = l ∧ True) ((0 : Int) ≤ q1 ∧ q1 ≤ (1000000 : Int) ∧ (∃ (g : Nat), Nat.le g q2 ∧ (0 : Int) = (↑g : Int) ∧ q0 = q0 ∧ l = l ∧ [] = flatTo l g ∧ True) ∧ ∀ (g : Nat), Nat.le g q2 → splitB (decide ((↑g : Int) < q0)) (((0 : Int) ≤ (↑g : Int) ∧ (↑g : Int) < q0) ∧ room (List.length (flatTo l g) + List.length (List.getD l g [])) (8 : Nat) ∧ fits IntKind.i64 ((↑g : Int) + (1 : Int)) ∧ ∃ (g' : Nat), Nat.le g' q2 ∧ List.length l - g' < List.length l - g ∧ (↑g : Int) + (1 : Int) = (↑g' : Int) ∧ q0 = q0 ∧ l = l ∧ flatTo l g ++ List.getD l g [] = flatTo l g' ∧ True) (flatTo l g = List.flatten l ∧ True))) := by
  kernel_rfl
end Go.Sx

namespace Go.Sx
open U
theorem so195 : Sp1 195 sp195 := by
  refine ⟨fun vs ps r h hp => ?_, Proofs.Tryz.f195, _, by kernel_rfl, rfl, by kernel_rfl⟩
  simp only [sp195] at h
  split at h
  · cases h; exact grow1 _ (hp _ (by simp)) (hp _ (by simp))
  · cases h
theorem flat_succ {l : List (List Int)} {g : Nat} (h : g < l.length) : flatTo l (g + 1) = flatTo l g ++ l.getD g [] := by
  unfold flatTo
  rw [List.take_succ_eq_append_getElem h, List.flatten_append, getD_of h]
  simp
theorem flat_len (l : List (List Int)) (i : Nat) : (flatTo l i).length ≤ l.flatten.length := by
  have h : l.flatten = flatTo l i ++ (l.drop i).flatten := by
    unfold flatTo
    rw [← List.flatten_append, List.take_append_drop]
  rw [h, List.length_append]
  omega
theorem fn158 (l : List (List Int)) (hl : l.length ≤ 1000) (hf : l.flatten.length ≤ 1000000) : Fn P1 gl1 158 [.one (.sl (.sl (.int .i64)) l)] (.val (.one (.frs (.int .i64) l.flatten))) true := by
  refine Fn.flat ?_ rfl
  refine fn_of false [(195, sp195)] [] h158 0 Proofs.Tryz.f158 ⟨so195, trivial⟩ trivial (by kernel_rfl) rfl (by kernel_rfl) rfl rfl rfl ?_
  rw [vc158]
  try simp only [splitB_iff, -eq_self]
  have hle : ∀ i, (flatTo l i).length ≤ 1000000 := fun i => Nat.le_trans (flat_len l i) hf
  simp only [eq_self, true_and, and_true, and_self]
  refine ⟨⟨0, Nat.zero_le _, rfl, by simp [flatTo]⟩, fun g hg => ⟨fun hlt => ?_, fun hge => ?_⟩⟩
  · have hlt' : g < l.length := by have := of_decide_eq_true hlt; omega
    have h1 := hle (g + 1)
    have h2 := flat_succ hlt'
    have h3 : (flatTo l (g + 1)).length = (flatTo l g).length + (l.getD g []).length := by rw [h2, List.length_append]
    exact ⟨by omega, by simp only [fits]; omega, by simp only [fits]; omega, g + 1, hlt', by omega, by omega, by rw [h3]; omega⟩
  · have := hle g
    refine ⟨by omega, by omega, ⟨0, Nat.zero_le _, rfl, by simp [flatTo]⟩, fun j hj => ⟨fun hjl => ?_, fun hjg => ?_⟩⟩
    · have hlt' : j < l.length := by have := of_decide_eq_true hjl; omega
      have h1 := hle (j + 1)
      have h2 := flat_succ hlt'
      have h3 : (flatTo l (j + 1)).length = (flatTo l j).length + (l.getD j []).length := by rw [h2, List.length_append]
      exact ⟨by omega, by simp only [room]; omega, by simp only [fits]; omega, j + 1, hlt', by omega, by omega, h2.symm⟩
    · have hj' : j = l.length := by have := of_decide_eq_false hjg; have : j ≤ l.length := hj; omega
      rw [hj']
      unfold flatTo
      rw [List.take_length]
theorem so158_ : SpecOk P1 gl1 158 sp158 := by
  intro vs ps r h hp
  simp only [sp158] at h
  split at h
  · cases h; exact fn158 _ (hp _ (.head _)) (hp _ (.tail _ (.head _)))
  · cases h
theorem so158 : Sp1 158 sp158 := ⟨so158_, Proofs.Tryz.f158, _, by kernel_rfl, rfl, by kernel_rfl⟩
end Go.Sx

namespace Go.Sx.U
end Go.Sx.U

namespace Go.Sx.U
end Go.Sx.U

namespace Go.Sx
open U
end Go.Sx
namespace Go.Sx
open U
def sp114 : FSpec := ⟨fun vs => match vs with
  | [.one (.sl (.int .i64) y), .one (.sl (.int .i64) u), .one (.sl (.int .i64) v)] => some ([List.length y ≤ 100000, List.length u ≤ 100000, List.length v ≤ 100000], .tup [pV (partsP (y, u, v)), iV (partsE (y, u, v))])
  | _ => none, true⟩
end Go.Sx

namespace Go.Sx
open U
theorem vc114 (y u v : List Int) : exFr (env false [(102, sp102), (22, sp22)] []) h0 0 114 Proofs.Tryz.f114 [.one (.sl (.int .i64) y), .one (.sl (.int .i64) u), .one (.sl (.int .i64) v)] (.tup [pV (partsP (y, u, v)), iV (partsE (y, u, v))]) = (let q0 := (partsP (y, u, v)); List.length y ≤ (1000000 : Nat) ∧ List.length u ≤ (1000000 : Nat) ∧ List.length v ≤ (1000000 : Nat) ∧ (3 : Nat) ≤ (1000000000 : Nat) ∧ splitB (first [lgE y, lgE u, lgE v] != (0 : Int)) (q0.1 = [] ∧ q0.2.1 = [] ∧ q0.2.2 = [] ∧ first [lgE y, lgE u, lgE v] = partsE (y, u, v) ∧ True) (smpsN y = q0.1 ∧ smpsN u = q0.2.1 ∧ smpsN v = q0.2.2 ∧ (0 : Int) = partsE (y, u, v) ∧ True)) := by
  kernel_rfl
end Go.Sx

namespace Go.Sx
open U
theorem fn114 (y u v : List Int) (h1 : y.length ≤ 100000) (h2 : u.length ≤ 100000) (h3 : v.length ≤ 100000) : Fn P1 gl1 114 [.one (.sl (.int .i64) y), .one (.sl (.int .i64) u), .one (.sl (.int .i64) v)] (.tup [pV (partsP (y, u, v)), iV (partsE (y, u, v))]) true := by
  refine fn_ofr false [(102, sp102), (22, sp22)] [] h0 0 Proofs.Tryz.f114 ⟨so102, so22, trivial⟩ trivial (by kernel_rfl) rfl (by kernel_rfl) rfl rfl rfl ?_
  rw [vc114]
  try simp only [splitB_iff, -eq_self]
  refine ⟨by omega, by omega, by omega, by decide, fun h => ?_, fun h => ?_⟩
  · have h : ¬ partsE (y, u, v) = 0 := bneZ.1 h
    unfold partsP
    rw [if_neg h]
    exact ⟨rfl, rfl, rfl, rfl, trivial⟩
  · have h : partsE (y, u, v) = 0 := bneF.1 h
    unfold partsP
    rw [if_pos h]
    exact ⟨rfl, rfl, rfl, h.symm, trivial⟩
theorem so114_ : SpecOk P1 gl1 114 sp114 := by
  intro vs ps r h hp
  simp only [sp114] at h
  split at h
  · cases h; exact fn114 _ _ _ (hp _ (.head _)) (hp _ (.tail _ (.head _))) (hp _ (.tail _ (.tail _ (.head _))))
  · cases h
theorem so114 : Sp1 114 sp114 := ⟨so114_, Proofs.Tryz.f114, _, by kernel_rfl, rfl, by kernel_rfl⟩
end Go.Sx

namespace Go.Proofs
open Go.Shelf
def Tryz.lays146_ren : Go.Shelf.Ren := ⟨fun | 146 => 155 | 221 => 191 | 268 => 207 | 138 => 208 | 143 => 209 | 195 => 224 | 197 => 225 | 218 => 226 | 219 => 227 | 260 => 242 | 217 => 205 | 225 => 243 | 224 => 244 | 267 => 245 | 266 => 223 | 314 => 253 | n => n, fun | 9 => 9 | 31 => 155 | 3 => 3 | 4 => 4 | 0 => 0 | 105 => 285 | 21 => 21 | 5 => 5 | 46 => 299 | 119 => 308 | 139 => 311 | 138 => 310 | 146 => 312 | 51 => 297 | n => n, fun | 1 => 3 | 3 => 6 | 4 => 7 | n => n⟩
theorem Tryz.lays146 : Go.Proofs.LaysM.n146 Tryz.prog Tryz.lays146_ren := {
  mixed := by kernel_rfl
  f138 := Tryz.func208.trans (congrArg some (by kernel_rfl))
  f143 := Tryz.func209.trans (congrArg some (by kernel_rfl))
  f146 := Tryz.func155.trans (congrArg some (by kernel_rfl))
  f195 := Tryz.func224.trans (congrArg some (by kernel_rfl))
  f197 := Tryz.func225.trans (congrArg some (by kernel_rfl))
  f217 := Tryz.func205.trans (congrArg some (by kernel_rfl))
  f218 := Tryz.func226.trans (congrArg some (by kernel_rfl))
  f219 := Tryz.func227.trans (congrArg some (by kernel_rfl))
  f221 := Tryz.func191.trans (congrArg some (by kernel_rfl))
  f224 := Tryz.func244.trans (congrArg some (by kernel_rfl))
  f225 := Tryz.func243.trans (congrArg some (by kernel_rfl))
  f260 := Tryz.func242.trans (congrArg some (by kernel_rfl))
  f266 := Tryz.func223.trans (congrArg some (by kernel_rfl))
  f267 := Tryz.func245.trans (congrArg some (by kernel_rfl))
  f268 := Tryz.func207.trans (congrArg some (by kernel_rfl))
  f314 := Tryz.func253.trans (congrArg some (by kernel_rfl))
  t0 := Tryz.underlying0
  a0 := Tryz.isAgg0
  z0 := Tryz.sizeOf0
  v0 := Tryz.zeroValue0
  t3 := Tryz.underlying3
  a3 := Tryz.isAgg3
  z3 := Tryz.sizeOf3
  v3 := Tryz.zeroValue3
  t4 := Tryz.underlying4
  a4 := Tryz.isAgg4
  z4 := Tryz.sizeOf4
  v4 := Tryz.zeroValue4
  t5 := Tryz.underlying5
  a5 := Tryz.isAgg5
  z5 := Tryz.sizeOf5
  v5 := Tryz.zeroValue5
  t9 := Tryz.underlying9
  a9 := Tryz.isAgg9
  z9 := Tryz.sizeOf9
  v9 := Tryz.zeroValue9
  t21 := Tryz.underlying21
  a21 := Tryz.isAgg21
  z21 := Tryz.sizeOf21
  v21 := Tryz.zeroValue21
  t31 := Tryz.underlying155
  a31 := Tryz.isAgg155
  z31 := Tryz.sizeOf155
  v31 := Tryz.zeroValue155
  t46 := Tryz.underlying299
  a46 := Tryz.isAgg299
  z46 := Tryz.sizeOf299
  v46 := Tryz.zeroValue299
  t51 := Tryz.underlying297
  a51 := Tryz.isAgg297
  z51 := Tryz.sizeOf297
  v51 := Tryz.zeroValue297
  t105 := Tryz.underlying285
  a105 := Tryz.isAgg285
  z105 := Tryz.sizeOf285
  v105 := Tryz.zeroValue285
  t119 := Tryz.underlying308
  a119 := Tryz.isAgg308
  z119 := Tryz.sizeOf308
  t138 := Tryz.underlying310
  a138 := Tryz.isAgg310
  z138 := Tryz.sizeOf310
  v138 := Tryz.zeroValue310
  t139 := Tryz.underlying311
  a139 := Tryz.isAgg311
  z139 := Tryz.sizeOf311
  v139 := Tryz.zeroValue311
  t146 := Tryz.underlying312
  a146 := Tryz.isAgg312
  z146 := Tryz.sizeOf312
  v146 := Tryz.zeroValue312
  g1 := by kernel_rfl
  g3 := by kernel_rfl
  g4 := by kernel_rfl
  i0 := by kernel_rfl
  i3 := by kernel_rfl
  i4 := by kernel_rfl
  i5 := by kernel_rfl
  i9 := by kernel_rfl
  i21 := by kernel_rfl
  i31 := by kernel_rfl
  i46 := by kernel_rfl
  i51 := by kernel_rfl
  i105 := by kernel_rfl
  i138 := by kernel_rfl
  i139 := by kernel_rfl
  i146 := by kernel_rfl
  m1 := by kernel_rfl
  s1_3 := fun w h => Go.Proofs.cell_of_shapedOpen_int (zero := #[.int .i64 0]) (t := 3) h (of_decide_eq_true (by kernel_rfl)) (by kernel_rfl) rfl (by kernel_rfl) (by kernel_rfl) Tryz.underlying3
  m3 := by kernel_rfl
  m4 := by kernel_rfl }
def Tryz.lays137_ren : Go.Shelf.Ren := ⟨fun | 137 => 189 | 217 => 205 | 266 => 223 | n => n, fun | 9 => 9 | 5 => 5 | 3 => 3 | n => n, fun | n => n⟩
theorem Tryz.lays137 : Go.Proofs.Lays.n137 Tryz.prog Tryz.lays137_ren := {
  mixed := by kernel_rfl
  f137 := Tryz.func189.trans (congrArg some (by kernel_rfl))
  f217 := Tryz.func205.trans (congrArg some (by kernel_rfl))
  f266 := Tryz.func223.trans (congrArg some (by kernel_rfl))
  t3 := Tryz.underlying3
  a3 := Tryz.isAgg3
  z3 := Tryz.sizeOf3
  v3 := Tryz.zeroValue3
  t5 := Tryz.underlying5
  a5 := Tryz.isAgg5
  z5 := Tryz.sizeOf5
  v5 := Tryz.zeroValue5
  t9 := Tryz.underlying9
  a9 := Tryz.isAgg9
  z9 := Tryz.sizeOf9
  v9 := Tryz.zeroValue9 }
def Tryz.lays104_ren : Go.Shelf.Ren := ⟨fun | 104 => 154 | 211 => 190 | 207 => 206 | n => n, fun | 9 => 9 | 4 => 4 | 24 => 221 | 3 => 3 | n => n, fun | n => n⟩
theorem Tryz.lays104 : Go.Proofs.Lays.n104 Tryz.prog Tryz.lays104_ren := {
  mixed := by kernel_rfl
  f104 := Tryz.func154.trans (congrArg some (by kernel_rfl))
  f207 := Tryz.func206.trans (congrArg some (by kernel_rfl))
  f211 := Tryz.func190.trans (congrArg some (by kernel_rfl))
  t3 := Tryz.underlying3
  a3 := Tryz.isAgg3
  z3 := Tryz.sizeOf3
  v3 := Tryz.zeroValue3
  t4 := Tryz.underlying4
  a4 := Tryz.isAgg4
  z4 := Tryz.sizeOf4
  v4 := Tryz.zeroValue4
  t9 := Tryz.underlying9
  a9 := Tryz.isAgg9
  z9 := Tryz.sizeOf9
  v9 := Tryz.zeroValue9
  t24 := Tryz.underlying221
  a24 := Tryz.isAgg221
  z24 := Tryz.sizeOf221
  v24 := Tryz.zeroValue221 }
def Tryz.lays101_ren : Go.Shelf.Ren := ⟨fun | 101 => 193 | 208 => 212 | 206 => 233 | n => n, fun | 9 => 9 | 4 => 4 | 3 => 3 | n => n, fun | n => n⟩
theorem Tryz.lays101 : Go.Proofs.Lays.n101 Tryz.prog Tryz.lays101_ren := {
  mixed := by kernel_rfl
  f101 := Tryz.func193.trans (congrArg some (by kernel_rfl))
  f206 := Tryz.func233.trans (congrArg some (by kernel_rfl))
  f208 := Tryz.func212.trans (congrArg some (by kernel_rfl))
  t3 := Tryz.underlying3
  a3 := Tryz.isAgg3
  z3 := Tryz.sizeOf3
  v3 := Tryz.zeroValue3
  t4 := Tryz.underlying4
  a4 := Tryz.isAgg4
  z4 := Tryz.sizeOf4
  v4 := Tryz.zeroValue4
  t9 := Tryz.underlying9
  a9 := Tryz.isAgg9
  z9 := Tryz.sizeOf9
  v9 := Tryz.zeroValue9 }
def Tryz.lays172_ren : Go.Shelf.Ren := ⟨fun | 172 => 192 | 244 => 210 | 245 => 211 | 247 => 228 | 279 => 229 | 280 => 230 | 281 => 231 | 282 => 232 | 287 => 246 | 316 => 247 | 171 => 151 | 205 => 248 | 321 => 254 | 322 => 255 | 243 => 184 | 246 => 202 | 283 => 217 | 284 => 218 | 285 => 219 | 286 => 220 | 129 => 238 | 317 => 237 | 318 => 239 | 319 => 240 | 320 => 241 | 337 => 251 | 338 => 252 | n => n, fun | 9 => 9 | 3 => 3 | 75 => 253 | 76 => 254 | 4 => 4 | 5 => 5 | 167 => 287 | 37 => 248 | 0 => 0 | 85 => 288 | 2 => 2 | 168 => 290 | 53 => 272 | 175 => 301 | 46 => 299 | 210 => 305 | 127 => 266 | 145 => 317 | 143 => 315 | 21 => 21 | 171 => 276 | 173 => 279 | 212 => 296 | 51 => 297 | 20 => 20 | 213 => 298 | 232 => 318 | 233 => 319 | 80 => 256 | n => n, fun | 15 => 4 | 16 => 5 | 17 => 2 | 18 => 8 | 19 => 9 | n => n⟩
theorem Tryz.lays172 : Go.Proofs.LaysC.n172 Tryz.prog Tryz.lays172_ren := {
  mixed := by kernel_rfl
  f129 := Tryz.func238.trans (congrArg some (by kernel_rfl))
  f171 := Tryz.func151.trans (congrArg some (by kernel_rfl))
  f172 := Tryz.func192.trans (congrArg some (by kernel_rfl))
  f205 := Tryz.func248.trans (congrArg some (by kernel_rfl))
  f243 := Tryz.func184.trans (congrArg some (by kernel_rfl))
  f244 := Tryz.func210.trans (congrArg some (by kernel_rfl))
  f245 := Tryz.func211.trans (congrArg some (by kernel_rfl))
  f246 := Tryz.func202.trans (congrArg some (by kernel_rfl))
  f247 := Tryz.func228.trans (congrArg some (by kernel_rfl))
  f279 := Tryz.func229.trans (congrArg some (by kernel_rfl))
  f280 := Tryz.func230.trans (congrArg some (by kernel_rfl))
  f281 := Tryz.func231.trans (congrArg some (by kernel_rfl))
  f282 := Tryz.func232.trans (congrArg some (by kernel_rfl))
  f283 := Tryz.func217.trans (congrArg some (by kernel_rfl))
  f284 := Tryz.func218.trans (congrArg some (by kernel_rfl))
  f285 := Tryz.func219.trans (congrArg some (by kernel_rfl))
  f286 := Tryz.func220.trans (congrArg some (by kernel_rfl))
  f287 := Tryz.func246.trans (congrArg some (by kernel_rfl))
  f316 := Tryz.func247.trans (congrArg some (by kernel_rfl))
  f317 := Tryz.func237.trans (congrArg some (by kernel_rfl))
  f318 := Tryz.func239.trans (congrArg some (by kernel_rfl))
  f319 := Tryz.func240.trans (congrArg some (by kernel_rfl))
  f320 := Tryz.func241.trans (congrArg some (by kernel_rfl))
  f321 := Tryz.func254.trans (congrArg some (by kernel_rfl))
  f322 := Tryz.func255.trans (congrArg some (by kernel_rfl))
  f337 := Tryz.func251.trans (congrArg some (by kernel_rfl))
  f338 := Tryz.func252.trans (congrArg some (by kernel_rfl))
  t0 := Tryz.underlying0
  a0 := Tryz.isAgg0
  z0 := Tryz.sizeOf0
  v0 := Tryz.zeroValue0
  t2 := Tryz.underlying2
  a2 := Tryz.isAgg2
  z2 := Tryz.sizeOf2
  v2 := Tryz.zeroValue2
  t3 := Tryz.underlying3
  a3 := Tryz.isAgg3
  z3 := Tryz.sizeOf3
  v3 := Tryz.zeroValue3
  t4 := Tryz.underlying4
  a4 := Tryz.isAgg4
  z4 := Tryz.sizeOf4
  v4 := Tryz.zeroValue4
  t5 := Tryz.underlying5
  a5 := Tryz.isAgg5
  z5 := Tryz.sizeOf5
  v5 := Tryz.zeroValue5
  t9 := Tryz.underlying9
  a9 := Tryz.isAgg9
  z9 := Tryz.sizeOf9
  v9 := Tryz.zeroValue9
  t20 := Tryz.underlying20
  a20 := Tryz.isAgg20
  z20 := Tryz.sizeOf20
  v20 := Tryz.zeroValue20
  t21 := Tryz.underlying21
  a21 := Tryz.isAgg21
  z21 := Tryz.sizeOf21
  v21 := Tryz.zeroValue21
  t37 := Tryz.underlying248
  a37 := Tryz.isAgg248
  z37 := Tryz.sizeOf248
  v37 := Tryz.zeroValue248
  t46 := Tryz.underlying299
  a46 := Tryz.isAgg299
  z46 := Tryz.sizeOf299
  v46 := Tryz.zeroValue299
  t51 := Tryz.underlying297
  a51 := Tryz.isAgg297
  z51 := Tryz.sizeOf297
  v51 := Tryz.zeroValue297
  t53 := Tryz.underlying272
  a53 := Tryz.isAgg272
  z53 := Tryz.sizeOf272
  v53 := Tryz.zeroValue272
  t75 := Tryz.underlying253
  a75 := Tryz.isAgg253
  z75 := Tryz.sizeOf253
  v75 := Tryz.zeroValue253
  t76 := Tryz.underlying254
  a76 := Tryz.isAgg254
  z76 := Tryz.sizeOf254
  v76 := Tryz.zeroValue254
  t85 := Tryz.underlying288
  a85 := Tryz.isAgg288
  z85 := Tryz.sizeOf288
  v85 := Tryz.zeroValue288
  t127 := Tryz.underlying266
  a127 := Tryz.isAgg266
  z127 := Tryz.sizeOf266
  v127 := Tryz.zeroValue266
  t143 := Tryz.underlying315
  a143 := Tryz.isAgg315
  z143 := Tryz.sizeOf315
  v143 := Tryz.zeroValue315
  t145 := Tryz.underlying317
  a145 := Tryz.isAgg317
  z145 := Tryz.sizeOf317
  v145 := Tryz.zeroValue317
  t167 := Tryz.underlying287
  a167 := Tryz.isAgg287
  z167 := Tryz.sizeOf287
  v167 := Tryz.zeroValue287
  t168 := Tryz.underlying290
  a168 := Tryz.isAgg290
  z168 := Tryz.sizeOf290
  v168 := Tryz.zeroValue290
  t171 := Tryz.underlying276
  a171 := Tryz.isAgg276
  z171 := Tryz.sizeOf276
  v171 := Tryz.zeroValue276
  t173 := Tryz.underlying279
  a173 := Tryz.isAgg279
  z173 := Tryz.sizeOf279
  v173 := Tryz.zeroValue279
  t175 := Tryz.underlying301
  a175 := Tryz.isAgg301
  z175 := Tryz.sizeOf301
  v175 := Tryz.zeroValue301
  t210 := Tryz.underlying305
  a210 := Tryz.isAgg305
  z210 := Tryz.sizeOf305
  v210 := Tryz.zeroValue305
  t212 := Tryz.underlying296
  a212 := Tryz.isAgg296
  z212 := Tryz.sizeOf296
  v212 := Tryz.zeroValue296
  t213 := Tryz.underlying298
  a213 := Tryz.isAgg298
  z213 := Tryz.sizeOf298
  t232 := Tryz.underlying318
  a232 := Tryz.isAgg318
  z232 := Tryz.sizeOf318
  v232 := Tryz.zeroValue318
  t233 := Tryz.underlying319
  a233 := Tryz.isAgg319
  z233 := Tryz.sizeOf319
  v233 := Tryz.zeroValue319
  g15 := by kernel_rfl
  g16 := by kernel_rfl
  g17 := by kernel_rfl
  g18 := by kernel_rfl
  g19 := by kernel_rfl
  t80 := Tryz.underlying256
  a80 := Tryz.isAgg256
  z80 := Tryz.sizeOf256
  v80 := Tryz.zeroValue256
  i0 := by kernel_rfl
  i2 := by kernel_rfl
  i3 := by kernel_rfl
  i4 := by kernel_rfl
  i5 := by kernel_rfl
  i9 := by kernel_rfl
  i20 := by kernel_rfl
  i21 := by kernel_rfl
  i37 := by kernel_rfl
  i46 := by kernel_rfl
  i51 := by kernel_rfl
  i53 := by kernel_rfl
  i75 := by kernel_rfl
  i76 := by kernel_rfl
  i80 := by kernel_rfl
  i85 := by kernel_rfl
  i127 := by kernel_rfl
  i143 := by kernel_rfl
  i145 := by kernel_rfl
  i167 := by kernel_rfl
  i168 := by kernel_rfl
  i171 := by kernel_rfl
  i173 := by kernel_rfl
  i175 := by kernel_rfl
  i210 := by kernel_rfl
  i212 := by kernel_rfl
  i232 := by kernel_rfl
  i233 := by kernel_rfl
  m15 := by kernel_rfl
  m16 := by kernel_rfl
  m17 := by kernel_rfl
  m18 := by kernel_rfl
  m19 := by kernel_rfl
  c0 := by kernel_rfl
  c2 := by kernel_rfl
  c3 := by kernel_rfl
  c4 := by kernel_rfl
  c5 := by kernel_rfl
  c9 := by kernel_rfl
  c20 := by kernel_rfl
  c21 := by kernel_rfl
  c37 := by kernel_rfl
  c46 := by kernel_rfl
  c51 := by kernel_rfl
  c53 := by kernel_rfl
  c75 := by kernel_rfl
  c76 := by kernel_rfl
  c80 := by kernel_rfl
  c85 := by kernel_rfl
  c127 := by kernel_rfl
  c143 := by kernel_rfl
  c145 := by kernel_rfl
  c167 := by kernel_rfl
  c168 := by kernel_rfl
  c171 := by kernel_rfl
  c173 := by kernel_rfl
  c175 := by kernel_rfl
  c210 := by kernel_rfl
  c212 := by kernel_rfl
  c213 := by kernel_rfl
  c232 := by kernel_rfl
  c233 := by kernel_rfl }
end Go.Proofs

namespace Go.Sx
open Go.Proofs Go.RowKit Go.Shelf Go.Lib
def atoV (l : List UInt8) : Int := match Lib.atoiAll l with
  | .ok v => v
  | .range => Lib.atoiSat l
  | _ => 0
def atoE (l : List UInt8) : Bool := match Lib.atoiAll l with
  | .ok _ => false
  | _ => true
theorem fn_pure {P : Program} {f : FuncId} {w : World} {args : Array Value} {x : SV} {v0 : Value} (hx : ∀ w', DenRSV w' w.heap.size (fun _ => none) x v0)
    (h : Calls P f args w fun e w' => e = .returned v0 ∧ Below w.heap.size w w') :
    Calls P f args w fun e w' => ∃ v H', e = .returned v ∧ Below w.heap.size w w' ∧ Agree H' w' ∧ (∀ b, b < w.heap.size → H' b = if true then none else (fun _ => none : IH) b) ∧ DenRSV w' w.heap.size H' x v :=
  h.mono fun _ w' ⟨he, hb⟩ => ⟨_, fun _ => none, he, hb, fun _ _ h => (by cases h), fun _ _ => rfl, hx w'⟩
theorem index_fn {P : Program} {ρ : Ren} (L : Lays.n137 P ρ) {gl : Nat → Option ((t : Ty) × t.T)} (s : List UInt8) (c : Int) :
    Fn P gl (ρ.f 137) [.one (.str s), .one (.int .u8 c)] (.val (.one (.int .i64 (Lib.indexByte s c.toNat.toUInt8)))) true := by
  intro w H vs hA hG hD
  obtain ⟨v, r, rfl, hv, v2, r2, rfl, hv2, hr⟩ := hD
  obtain rfl : r2 = [] := hr
  obtain rfl : v2 = .int .u8 c := hv2
  obtain rfl : v = .string ⟨⟨s⟩⟩ := hv
  exact fn_pure (fun _ => ⟨rfl, rfl⟩) ((Any.strings_IndexByte L ⟨⟨s⟩⟩ c w).mono fun e w' ⟨he, hw⟩ => ⟨he, hw ▸ Below.refl _ _⟩)
theorem cutSuffix_fn {P : Program} {ρ : Ren} (L : Lays.n104 P ρ) {gl : Nat → Option ((t : Ty) × t.T)} (s p : List UInt8) (hs : s.length ≤ 9223372036854775807) :
    Fn P gl (ρ.f 104) [.one (.str s), .one (.str p)] (.tup [.one (.str (Lib.trimSuffix s p)), .one (.bool (Lib.hasSuffix s p))]) true := by
  intro w H vs hA hG hD
  obtain ⟨v, r, rfl, hv, v2, r2, rfl, hv2, hr⟩ := hD
  obtain rfl : r2 = [] := hr
  obtain rfl : v2 = .string ⟨⟨p⟩⟩ := hv2
  obtain rfl : v = .string ⟨⟨s⟩⟩ := hv
  exact fn_pure (fun _ => ⟨_, rfl, _, _, rfl, ⟨rfl, rfl⟩, ⟨_, _, rfl, ⟨rfl, rfl⟩, rfl, fun h => by cases h⟩, fun h => by cases h⟩)
    ((Any.strings_CutSuffix L ⟨⟨s⟩⟩ ⟨⟨p⟩⟩ w hs).mono fun e w' ⟨he, hw⟩ => ⟨he, hw ▸ Below.refl _ _⟩)
theorem trimPrefix_fn {P : Program} {ρ : Ren} (L : Lays.n101 P ρ) {gl : Nat → Option ((t : Ty) × t.T)} (s p : List UInt8) :
    Fn P gl (ρ.f 101) [.one (.str s), .one (.str p)] (.val (.one (.str (Lib.trimPrefix s p)))) true := by
  intro w H vs hA hG hD
  obtain ⟨v, r, rfl, hv, v2, r2, rfl, hv2, hr⟩ := hD
  obtain rfl : r2 = [] := hr
  obtain rfl : v2 = .string ⟨⟨p⟩⟩ := hv2
  obtain rfl : v = .string ⟨⟨s⟩⟩ := hv
  exact fn_pure (fun _ => ⟨rfl, rfl⟩) ((Any.strings_TrimPrefix L ⟨⟨s⟩⟩ ⟨⟨p⟩⟩ w).mono fun e w' ⟨he, hw⟩ => ⟨he, hw ▸ Below.refl _ _⟩)
theorem opq_cell {gl : Nat → Option ((t : Ty) × t.T)} {H : IH} {w : World} (hA : Agree H w) (hG : GlobOk gl H) {g : Nat} {e : Bool} (hgl : gl g = some ⟨.opq e, ()⟩) :
    ∃ c v t fr, w.heap[g]? = some (.cells c t fr) ∧ c = #[v] ∧ ((e = false ∧ ∃ m, v = .int .i64 m) ∨ (e = true ∧ ∃ t p, v = .iface t p)) := by
  obtain ⟨c, t, fr, h1, h2, h3⟩ := hG g _ hgl
  obtain ⟨v, hv, hx⟩ := h2
  refine ⟨c, v, t, fr, hA g _ h1, ?_, hx⟩
  have hv' : seg c 0 (Ty.opq e).sz = [v] := hv
  have h5 := seg_get (c := c) (o := 0) (n := (Ty.opq e).sz) (j := 0) (v := v) (by rw [hv']; rfl)
  have hs : c.size = 1 := h3
  apply Array.ext
  · simp [hs]
  · intro i hi hi'
    obtain rfl : i = 0 := by omega
    rw [Array.getElem?_eq_getElem (by omega)] at h5
    exact Option.some.inj h5
theorem opq_var {P : Program} {gl : Nat → Option ((t : Ty) × t.T)} {H : IH} {w : World} (hA : Agree H w) (hG : GlobOk gl H) {g : Nat} (hgl : gl g = some ⟨.opq true, ()⟩) {n : String} (hg : P.globalNamed n = some g) :
    ∃ t p, w.var? P n = some #[.iface t p] := by
  obtain ⟨c, v, t, fr, h1, rfl, h2⟩ := opq_cell hA hG hgl
  rcases h2 with ⟨h, _⟩ | ⟨_, t', p, rfl⟩
  · cases h
  · refine ⟨t', p, ?_⟩
    unfold World.var?
    rw [hg]
    simp only [Option.bind_some, h1]
theorem atoi_fn {P : Program} {ρ : Ren} (L : LaysC.n172 P ρ) {gl : Nat → Option ((t : Ty) × t.T)} {g1 g2 : Nat} (h1 : P.globalNamed "strconv.ErrSyntax" = some g1) (hg1 : gl g1 = some ⟨.opq true, ()⟩)
    (h2 : P.globalNamed "strconv.ErrRange" = some g2) (hg2 : gl g2 = some ⟨.opq true, ()⟩) (s : List UInt8) (hs : s.length ≤ 281474976710656) :
    Fn P gl (ρ.f 172) [.one (.str s)] (.tup [.one (.int .i64 (atoV s)), .one (.err (atoE s))]) true := by
  intro w H vs hA hG hD
  obtain ⟨v, r, rfl, hv, hr⟩ := hD
  obtain rfl : r = [] := hr
  obtain rfl : v = .string ⟨⟨s⟩⟩ := hv
  have key : ∀ (b : Bool) (n : Int) (x : Value), DenC ρ0 (fun _ => none) (.err b) x → ∀ w', DenRSV w' w.heap.size (fun _ => none) (.tup [.one (.int .i64 n), .one (.err b)]) (.tuple #[.int .i64 n, x]) :=
    fun b n x hx w' => ⟨_, rfl, _, _, rfl, ⟨rfl, rfl⟩, ⟨_, _, rfl, ⟨rfl, hx⟩, rfl, fun h => by cases h⟩, fun h => by cases h⟩
  unfold atoV atoE
  rcases hc : Lib.atoiAll s with n | _ | _
  · refine fn_pure (key false n .nilIface rfl) ((Any.strconv_Atoi_ok L ⟨⟨s⟩⟩ (by show s.length ≤ _; omega) n hc w).mono fun e w' ⟨he, hw⟩ => ⟨he, ?_⟩)
    rcases hw with rfl | ⟨t, rfl⟩
    · exact Below.refl _ _
    · exact Go.Joins.below_bytesWorld _ _ _ _ (Nat.le_refl _)
  · obtain ⟨t, p, hx⟩ := opq_var (P := P) hA hG hg1 h1
    exact (Any.strconv_Atoi_syntax_var L ⟨⟨s⟩⟩ hs hc t p w hx).mono fun e w' ⟨N, he, _, _, hb⟩ => ⟨_, fun _ => none, he, hb, fun _ _ h => (by cases h), fun _ _ => rfl, key true 0 _ ⟨_, _, rfl⟩ w'⟩
  · obtain ⟨t, p, hx⟩ := opq_var (P := P) hA hG hg2 h2
    exact (Any.strconv_Atoi_range_var L ⟨⟨s⟩⟩ hs hc t p w hx).mono fun e w' ⟨N, he, _, _, hb⟩ => ⟨_, fun _ => none, he, hb, fun _ _ h => (by cases h), fun _ _ => rfl, key true _ _ ⟨_, _, rfl⟩ w'⟩
theorem split_fn {P : Program} {ρ : Ren} (L : Lays.n146 P ρ) (hi9 : (P.info? (ρ.t 9)).map (fun i => (i.zero, i.size, i.bytes)) = some (some (.string ByteArray.empty), 1, 16)) {gl : Nat → Option ((t : Ty) × t.T)}
    (hgl : gl (ρ.g 1) = some ⟨.opq false, ()⟩) (s sep : List UInt8) (h1 : 1 ≤ sep.length) (h2 : s.length ≤ 1000000000) :
    Fn P gl (ρ.f 146) [.one (.str s), .one (.str sep)] (.val (.one (.frs .str (Lib.split s sep)))) true := by
  intro w H vs hA hG hD
  obtain ⟨v, r, rfl, hv, v2, r2, rfl, hv2, hr⟩ := hD
  obtain rfl : r2 = [] := hr
  obtain rfl : v2 = .string ⟨⟨sep⟩⟩ := hv2
  obtain rfl : v = .string ⟨⟨s⟩⟩ := hv
  obtain ⟨c, m, t, fr, hc, rfl, hx⟩ := opq_cell hA hG hgl
  rcases hx with ⟨_, m, rfl⟩ | ⟨h, _⟩
  case inr => cases h
  have hm : w.cell? ⟨ρ.g 1, 0, none⟩ = some (.int .i64 m) := by
    have := cell_seg (w := w) hc (o := 0) (n := 1) 0 (.int .i64 m) rfl
    exact this
  have hsz : (⟨⟨s⟩⟩ : ByteArray).size = s.length := rfl
  have hd : (Lib.splitB ⟨⟨sep⟩⟩ 0 (Lib.countB ⟨⟨s⟩⟩ ⟨⟨sep⟩⟩) ⟨⟨s⟩⟩).map (·.data.toList) = Lib.split s sep := Lib.splitB_data _ _ _ _
  have hle := Lib.countB_le ⟨⟨sep⟩⟩ h1 s.length ⟨⟨s⟩⟩ (Nat.le_refl _)
  have hln := Lib.splitB_all ⟨⟨sep⟩⟩ h1 0 _ ⟨⟨s⟩⟩ rfl
  have hl2 : (Lib.split s sep).length = Lib.countB ⟨⟨s⟩⟩ ⟨⟨sep⟩⟩ + 1 := by rw [← hd, List.length_map, hln]
  refine (Any.strings_Split L hi9 ⟨⟨s⟩⟩ ⟨⟨sep⟩⟩ m w (by rw [hsz]; omega) hm h1).mono fun e w' ⟨he, hw⟩ => ?_
  subst hw
  have hf : (w.alloc (.cells ((Lib.splitB ⟨⟨sep⟩⟩ 0 (Lib.countB ⟨⟨s⟩⟩ ⟨⟨sep⟩⟩) ⟨⟨s⟩⟩).map Value.string).toArray (ρ.t 9))).heap[w.heap.size]? = some (.cells ((Lib.splitB ⟨⟨sep⟩⟩ 0 (Lib.countB ⟨⟨s⟩⟩ ⟨⟨sep⟩⟩) ⟨⟨s⟩⟩).map Value.string).toArray (ρ.t 9) (0, 0)) := by
    show (w.heap.push _)[w.heap.size]? = _
    rw [Array.getElem?_push, if_pos rfl]
  refine ⟨_, fun _ => none, he, ⟨rfl, rfl, rfl, ?_, fun j hj => ?_⟩, fun _ _ h => (by cases h), fun _ _ => rfl, .inr ⟨w.heap.size, Lib.countB ⟨⟨s⟩⟩ ⟨⟨sep⟩⟩ + 1, _, ρ.t 9, by rw [hl2], Nat.le_refl _, rfl, ⟨(0, 0), .inl rfl, hf⟩, by omega, ?_, ?_, fun i h => ?_⟩⟩
  · show w.heap.size ≤ (w.heap.push _).size
    simp
  · show (w.heap.push _)[j]? = _
    rw [Array.getElem?_push, if_neg (by omega)]
  · simp only [maxLen]; rw [hsz] at hle; omega
  · simp [hln, Ty.sz]
  · have hi : i < (Lib.splitB ⟨⟨sep⟩⟩ 0 (Lib.countB ⟨⟨s⟩⟩ ⟨⟨sep⟩⟩) ⟨⟨s⟩⟩).length := by omega
    have e1 : (Lib.split s sep)[i] = (Lib.splitB ⟨⟨sep⟩⟩ 0 (Lib.countB ⟨⟨s⟩⟩ ⟨⟨sep⟩⟩) ⟨⟨s⟩⟩)[i].data.toList := by simp only [← hd, List.getElem_map]
    rw [e1]
    have e2 : ((Lib.splitB ⟨⟨sep⟩⟩ 0 (Lib.countB ⟨⟨s⟩⟩ ⟨⟨sep⟩⟩) ⟨⟨s⟩⟩).map Value.string).drop i = Value.string (Lib.splitB ⟨⟨sep⟩⟩ 0 (Lib.countB ⟨⟨s⟩⟩ ⟨⟨sep⟩⟩) ⟨⟨s⟩⟩)[i] :: ((Lib.splitB ⟨⟨sep⟩⟩ 0 (Lib.countB ⟨⟨s⟩⟩ ⟨⟨sep⟩⟩) ⟨⟨s⟩⟩).map Value.string).drop (i + 1) := by
      rw [List.drop_eq_getElem_cons (by simpa using hi), List.getElem_map]
    show seg _ _ _ = _
    simp only [seg, Ty.sz, Nat.mul_one, e2, List.take_succ_cons, List.take_zero]
end Go.Sx

namespace Go.Sx
theorem index1 (s : List UInt8) (c : Int) : Fn P1 gl1 189 [sV s, .one (.int .u8 c)] (.val (iV (Lib.indexByte s c.toNat.toUInt8))) true :=
  index_fn Proofs.Tryz.lays137 s c
theorem cutSuffix1 (s p : List UInt8) (hs : s.length ≤ 1000000000) : Fn P1 gl1 154 [sV s, sV p] (.tup [sV (Lib.trimSuffix s p), bV (Lib.hasSuffix s p)]) true :=
  cutSuffix_fn Proofs.Tryz.lays104 s p (by omega)
theorem trimPrefix1 (s p : List UInt8) : Fn P1 gl1 193 [sV s, sV p] (.val (sV (Lib.trimPrefix s p))) true :=
  trimPrefix_fn Proofs.Tryz.lays101 s p
theorem atoi1 (s : List UInt8) (hs : s.length ≤ 1000000000) : Fn P1 gl1 192 [sV s] (.tup [iV (atoV s), .one (.err (atoE s))]) true :=
  atoi_fn Proofs.Tryz.lays172 (g1 := 4) (g2 := 5) (by kernel_rfl) rfl (by kernel_rfl) rfl s (by omega)
theorem split1 (s p : List UInt8) (h1 : 1 ≤ p.length) (h2 : s.length ≤ 1000000000) : Fn P1 gl1 155 [sV s, sV p] (.val (.one (.frs .str (Lib.split s p)))) true :=
  split_fn { Proofs.Tryz.lays146 with } (by kernel_rfl) rfl s p h1 h2
end Go.Sx

namespace Go.Sx
def stayV : V → V
  | .one (.frs t xs) => .one (.sl t xs)
  | x => x
def staySV : SV → SV
  | .val x => .val (stayV x)
  | .tup xs => .tup (xs.map stayV)
def FSpec.frz (sp : FSpec) : FSpec := ⟨fun vs => match sp.run vs with
  | some (ps, .val (.one c)) => some (ps, .val (stayV (.one c)))
  | some (ps, .tup xs) => some (ps, .tup (xs.map stayV))
  | _ => none, false⟩
theorem stayV_den {w : World} {B : Nat} {H H2 : IH} (hh : HLe H H2) (hn : ∀ b o, B ≤ b → w.heap[b]? = some o → H2 b = some o) {x : V} {v : Value} (h : DenRV w B H x v) : DenRV w B H2 (stayV x) v := by
  have other : ∀ y : V, pureV y = true ∧ DenV ρ0 H y v → pureV y = true ∧ DenV ρ0 H2 y v := fun y hy => ⟨hy.1, DenV.mono (REq.refl 0 ρ0) hh (pureV_lt hy.1 0) hy.2⟩
  cases x with
  | agg cs => exact other _ h
  | one c =>
    cases c with
    | frs t xs =>
      have ho : OwnRow w B H v t xs := h
      show pureV (.one (.sl t xs)) = true ∧ Rd H2 (.sl t) xs [v]
      refine ⟨rfl, ?_⟩
      rcases ho with ⟨rfl, rfl⟩ | ⟨g, cap, cur, e, rfl, h2, _, ⟨fz, _, h4⟩, h5, _, _, h8⟩
      · exact ⟨none, 0, rfl, Nat.le_refl _, .inl rfl⟩
      · exact ⟨some ⟨g, 0, none⟩, cap, rfl, h5, .inr ⟨g, 0, cur, e, _, rfl, hn g _ h2 h4, fun i hi => by rw [Nat.zero_add]; exact Rd.mono hh _ _ _ (h8 i hi)⟩⟩
    | _ => exact other _ h
theorem isFrs_stay (x : V) : isFrs (stayV x) = false := by
  cases x with
  | agg cs => rfl
  | one c => cases c <;> rfl
theorem stayVs_den {w : World} {B : Nat} {H H2 : IH} (hh : HLe H H2) (hn : ∀ b o, B ≤ b → w.heap[b]? = some o → H2 b = some o) : ∀ {xs : List V} {vs : List Value}, DenRVs w B H xs vs → DenRVs w B H2 (xs.map stayV) vs
  | [], _, h => h
  | x :: r, _, ⟨v, vs', e, h1, h2, _⟩ => ⟨v, vs', e, stayV_den hh hn h1, stayVs_den hh hn h2, fun h => by rw [isFrs_stay] at h; cases h⟩
theorem Fn.frz {P : Program} {gl : Nat → Option ((t : Ty) × t.T)} {f : FuncId} {args : List V} {r : SV} {fr : Bool} (hr : ∀ x, r = .val x → ∃ c, x = .one c) (h : Fn P gl f args r fr) : Fn P gl f args (staySV r) false := by
  intro w H vs hag G hd
  refine (h w H vs hag G hd).mono ?_
  rintro e w' ⟨v, H', rfl, h1, h2, h3, h4⟩
  have hh : HLe H' (fun b => if b < w.heap.size then H b else w'.heap[b]?) := by
    intro b o ho
    show (if b < w.heap.size then H b else w'.heap[b]?) = some o
    split
    · rename_i hlt
      have := h3 b hlt
      rw [ho] at this
      split at this
      · cases this
      · exact this.symm
    · exact h2 b o ho
  have hn : ∀ b o, w.heap.size ≤ b → w'.heap[b]? = some o → (fun b => if b < w.heap.size then H b else w'.heap[b]?) b = some o := fun b o hb ho => (if_neg (by omega)).trans ho
  refine ⟨v, fun b => if b < w.heap.size then H b else w'.heap[b]?, rfl, h1, fun b o ho => ?_, fun b hb => if_pos hb, ?_⟩
  · simp only [] at ho
    split at ho
    · rename_i hlt; rw [h1.block b hlt]; exact hag b o ho
    · exact ho
  · cases r with
    | val x =>
      obtain ⟨c, rfl⟩ := hr x rfl
      have e : aggFr (stayV (.one c)) = none := by cases c <;> rfl
      have h5 : DenRV w' w.heap.size _ (.one c) v := h4
      show match aggFr (stayV (.one c)) with | none => _ | some xs => _
      rw [e]
      exact stayV_den hh hn h5
    | tup xs =>
      obtain ⟨us, e, hus⟩ := h4
      exact ⟨us, e, stayVs_den hh hn hus⟩
theorem Sp1.frz {f : FuncId} {sp : FSpec} (h : Sp1 f sp) : Sp1 f sp.frz := by
  refine ⟨fun vs ps r hr hp => ?_, h.2⟩
  unfold FSpec.frz at hr
  simp only [] at hr
  split at hr
  · rename_i ps' c hs
    cases hr
    exact (h.1 vs _ _ hs hp).frz (fun x hx => by cases hx; exact ⟨c, rfl⟩)
  · rename_i ps' xs hs
    cases hr
    exact (h.1 vs _ _ hs hp).frz (fun x hx => by cases hx)
  · cases hr
end Go.Sx

namespace Go.Sx.U
abbrev Str := List UInt8
noncomputable def hd {α : Type} (x : α) : α := Classical.choose (⟨x, rfl⟩ : ∃ y, y = x)
theorem hd_eq {α : Type} (x : α) : hd x = x := Classical.choose_spec (⟨x, rfl⟩ : ∃ y, y = x)
noncomputable def ixB (s : Str) (c : Int) : Int := hd (Lib.indexByte s c.toNat.toUInt8)
noncomputable def atV (w : Str) : Int := hd (atoV w)
noncomputable def atE (w : Str) : Bool := hd (atoE w)
noncomputable def hsf (s p : Str) : Bool := hd (Lib.hasSuffix s p)
noncomputable def tsf (s p : Str) : Str := hd (Lib.trimSuffix s p)
noncomputable def tpf (s p : Str) : Str := hd (Lib.trimPrefix s p)
noncomputable def flt (l : List (List Int)) : List Int := hd (List.flatten l)
noncomputable def anyL (l : List Int) : Bool := hd (l.any lgI)
noncomputable def spl (s p : Str) : List Str := hd (Lib.split s p)
noncomputable def wrW (w : Str) : Bool := atE w || decide (9 < (tpf w [45]).length) || !decide (Lib.itoa (atV w) = w)
noncomputable def wrTo (ws : List Str) : Nat → Bool
  | 0 => false
  | n + 1 => wrTo ws n || wrW (List.getD ws n [])
noncomputable def lineOf (r : Str) : Str := if 0 ≤ ixB r 10 then List.take (ixB r 10 + 1).toNat r else r
noncomputable def restOf (r : Str) : Str := if 0 ≤ ixB r 10 then List.drop (ixB r 10 + 1).toNat r else []
noncomputable def restTo (s : Str) : Nat → Str
  | 0 => s
  | g + 1 => restOf (restTo s g)
noncomputable def wdsAt (s : Str) (g : Nat) : List Str := spl (tsf (lineOf (restTo s g)) [10]) [32]
noncomputable def tlAt (s : Str) (g : Nat) : List Str := List.drop 1 (wdsAt s g)
noncomputable def numsAt (s : Str) (g : Nat) : List Int := (tlAt s g).map atV
noncomputable def headW (g : Nat) : Str := (Option.getD (mapGet (.int .i64) (.pair .str .fnp) fldM (g : Int)) ([], none)).1
noncomputable def goodAt (s : Str) (g : Nat) : Bool := hsf (lineOf (restTo s g)) [10] && decide (g < 3) && decide (List.getD (wdsAt s g) 0 [] = headW g) && !wrTo (tlAt s g) (tlAt s g).length
noncomputable def listsTo (s : Str) (g : Nat) : List (List Int) := tab g (numsAt s)
noncomputable def endE (s : Str) (g : Nat) : Int := first [whenE (decide ((g : Int) < 3)) 2, whenE (anyL (flt (listsTo s g))) 3]
noncomputable def sixL (s : Str) (g : Nat) : List Nat := (numsAt s g).map smp
noncomputable def finP (s : Str) (g : Nat) : Pt × Int × Int :=
  if endE s g ≠ 0 then (([], [], []), (g : Int), endE s g)
  else if chkPt (sixL s 0) (sixL s 1) (sixL s 2) ≠ 0 then (([], [], []), (g : Int), chkPt (sixL s 0) (sixL s 1) (sixL s 2))
  else ((sixL s 0, sixL s 1, sixL s 2), 0, 0)
noncomputable def badP (g : Nat) : Pt × Int × Int := (([], [], []), (g : Int), 25)
noncomputable def prsG (s : Str) : Nat → Nat → Pt × Int × Int
  | 0, g => badP g
  | n + 1, g => if restTo s g = [] then finP s g else if goodAt s g = true then prsG s n (g + 1) else badP g
def preA (s : Str) (k : Nat) : Prop := ∀ i, i < k → restTo s i ≠ [] ∧ goodAt s i = true
noncomputable def prsN (s : Str) : Pt × Int × Int := if 4096 < s.length then (([], [], []), 0, 26) else prsG s 4 0
end Go.Sx.U
namespace Go.Sx
open U
noncomputable def sp189 : FSpec := ⟨fun vs => match vs with
  | [.one (.str s), .one (.int .u8 c)] => some ([], .val (.one (.int .i64 (ixB s c))))
  | _ => none, true⟩
noncomputable def sp154 : FSpec := ⟨fun vs => match vs with
  | [.one (.str s), .one (.str p)] => some ([List.length s ≤ 1000000000], .tup [.one (.str (tsf s p)), .one (.bool (hsf s p))])
  | _ => none, true⟩
noncomputable def sp193 : FSpec := ⟨fun vs => match vs with
  | [.one (.str s), .one (.str p)] => some ([], .val (.one (.str (tpf s p))))
  | _ => none, true⟩
noncomputable def sp155 : FSpec := ⟨fun vs => match vs with
  | [.one (.str s), .one (.str p)] => some ([1 ≤ List.length p, List.length s ≤ 1000000000], .val (.one (.frs .str (spl s p))))
  | _ => none, true⟩
noncomputable def sp192 : FSpec := ⟨fun vs => match vs with
  | [.one (.str s)] => some ([List.length s ≤ 1000000000], .tup [.one (.int .i64 (atV s)), .one (.err (atE s))])
  | _ => none, true⟩
def strB (s : St) (t : Nat) : Option (Nat × Str) := match lookT s.tm t with
  | some (.val (.one (.ptr id 0))) => match lookO s.ob id with
    | some (.box [.one (.str r)]) => some (id, r)
    | _ => none
  | _ => none
noncomputable def sp158h : FSpec := ⟨fun vs => match vs with
  | [.one (.sl (.sl (.int .i64)) l)] => some ([List.length l ≤ 1000, List.length (flt l) ≤ 1000000], .val (.one (.frs (.int .i64) (flt l))))
  | _ => none, true⟩
def lsAt (s : St) (b : Nat) : Option (List Nat × Nat) := match lookO s.ob b with
  | some (.box [.one .nils]) => some ([], 0)
  | some (.box [.one (.own id)]) => match lookO s.ob id with
    | some (.row (.sl (.int .i64)) L) => some ([id], List.length (show List (List Int) from L))
    | _ => none
  | _ => none
def lsB (s : St) : Option (List Nat × Nat) := lsAt s 24
def lsO (s : St) : List Nat := match lsAt s 24 with
  | some (o, _) => o
  | none => []
def arm (k : Nat) (F : ((Nat → List Int) → List (List Int)) → LInv) : Option LInv := match k with
  | 0 => some (F fun _ => [])
  | 1 => some (F fun l => [l 0])
  | 2 => some (F fun l => [l 0, l 1])
  | 3 => some (F fun l => [l 0, l 1, l 2])
  | _ => none
def stopL (s : St) : LInv := ⟨Nat, fun _ => ⟨[], [], s.nx, s.lr⟩, fun _ => True, fun _ => 0⟩
noncomputable def h89 (x : Str) : Hints := ⟨fun f k s => match f, k with
  | 188, 1000001 => match strB s 1 with
    | some (r, _) => match lsB s with
      | some (_, k) => arm k fun mk => ⟨Str × (Nat → List Int), fun g => ⟨keepC [0, 1] s.tm, (r, some (.box [.one (.str g.1)])) :: (24, some (.box [.one (.own s.nx)])) :: (s.nx, some (.row (.sl (.int .i64)) (mk g.2))) :: obK s [32, 0, 4, 8], s.nx + 1, s.lr⟩,
        fun g => preA x k ∧ g.1 = restTo x k ∧ g.1 ≠ [] ∧ ∀ i, i < k → g.2 i = numsAt x i, fun _ => 0⟩
      | none => none
    | _ => none
  | 89, 12 => match listAs s 10 .str, ptrM s 11 with
    | some ws, some b => some ⟨Nat, fun j => ⟨(13, .val (.one (.own s.nx))) :: keepC [2, 3, 4, 5, 6, 9, 10, 11, 12] s.tm, (s.nx, some (.row (.int .i64) ((List.take j (List.drop 1 ws)).map atV))) :: (b, some (.box [.one (.sl .str (List.drop j (List.drop 1 ws))), .one (.bool (wrTo (List.drop 1 ws) j))])) :: obK s ([24, 32, 44, 0, 4, 8] ++ lsO s), s.nx + 1, s.lr⟩,
        fun j => j ≤ List.length (List.drop 1 ws), fun j => List.length (List.drop 1 ws) - j⟩
    | _, _ => none
  | 188, 1000006 => match lookT s.tm 20 with
    | some _ => some ⟨Nat, fun _ => ⟨keepC [0, 1, 3] s.tm, obK s ([24, 32, 44, 0, 4, 8] ++ lsO s), s.nx + 1000000000000, s.lr⟩, fun _ => True, fun _ => 0⟩
    | none => none
  | 89, 1000018 => bif Nat.ble 1000000000000 s.nx then some (stopL s) else match lsB s with
    | some (_, 3) => some (stopL s)
    | _ => none
  | 89, 1000019 => match boxX s 5, lsB s with
    | some (_, X), some (_, k) => arm k fun mk => ⟨Nat → List Int, fun l => ⟨keepC [2, 3, 4, 5, 6] s.tm, (24, some (.box [.one (.own s.nx)])) :: (s.nx, some (.row (.sl (.int .i64)) (mk l))) :: obK s [32, 0, 4, 8], s.nx + 1, s.lr⟩, fun l => mk l = X, fun _ => 0⟩
    | _, _ => none
  | 89, 1000020 => match lsB s with
    | some (_, 3) => none
    | _ => some ⟨Nat, fun _ => ⟨(17, .val (.one (.int .i64 2))) :: keepC [2, 3, 4, 5] s.tm, obK s ([24, 0, 4, 8] ++ lsO s), s.nx, s.lr⟩, fun _ => True, fun _ => 0⟩
  | _, _ => none, 5⟩
@[reducible] noncomputable def fb153 : Nat × Func := (153, Proofs.Tryz.f153)
@[reducible] noncomputable def fb188 : Nat × Func := (188, Proofs.Tryz.f188)
@[reducible] noncomputable def fb156 : Nat × Func := (156, Proofs.Tryz.f156)
end Go.Sx
namespace Go.Sx
open U
noncomputable def sp157 : FSpec := ⟨fun vs => match vs with
  | [.one (.sl (.int .i64) l), .one (.fn 130 [] [])] => some ([List.length l ≤ 1000000], .val (bV (anyL l)))
  | _ => none, true⟩
end Go.Sx

namespace Go.Sx.U
open Go
def sB (c : UInt8) : List UInt8 → List (List UInt8)
  | [] => [[]]
  | x :: t => if x = c then [] :: sB c t else (x :: (sB c t).headD []) :: (sB c t).tail
theorem sB_ne (c : UInt8) : ∀ s : List UInt8, sB c s ≠ []
  | [] => by simp [sB]
  | x :: t => by unfold sB; split <;> simp
theorem sB_len (c : UInt8) : ∀ s : List UInt8, 1 ≤ (sB c s).length ∧ (sB c s).length ≤ s.length + 1
  | [] => by simp [sB]
  | x :: t => by
    have := sB_len c t
    unfold sB; split
    · simp only [List.length_cons]; omega
    · simp only [List.length_cons, List.length_tail]; omega
theorem sB_mem_len (c : UInt8) : ∀ (s w : List UInt8), w ∈ sB c s → w.length ≤ s.length
  | [], w, h => by simp [sB] at h; simp [h]
  | x :: t, w, h => by
    unfold sB at h
    split at h
    · rcases List.mem_cons.1 h with h | h
      · simp [h]
      · have := sB_mem_len c t w h; simp only [List.length_cons]; omega
    · rcases List.mem_cons.1 h with h | h
      · have hne := sB_ne c t
        cases e : sB c t with
        | nil => exact absurd e hne
        | cons a r =>
          have := sB_mem_len c t a (by rw [e]; simp)
          rw [h, e]; simp only [List.headD_cons, List.length_cons]; omega
      · have := sB_mem_len c t w (List.mem_of_mem_tail h); simp only [List.length_cons]; omega
theorem index_one (c : UInt8) (x : UInt8) (t : List UInt8) : Lib.index (x :: t) [c] = if x = c then 0 else if Lib.index t [c] = -1 then -1 else Lib.index t [c] + 1 := by
  rw [Lib.index]
  by_cases h : x = c
  · subst h; simp
  · have : ([c] : List UInt8).isPrefixOf (x :: t) = false := by
      simp [List.isPrefixOf]; intro e; exact h e.symm
    rw [this]
    simp [h]
theorem split_miss {s sep : List UInt8} (h : Lib.index s sep = -1) : Lib.split s sep = [s] := by
  unfold Lib.split
  rw [Lib.count_miss h]; rfl
theorem split_hit {s sep : List UInt8} {i : Nat} (hs : sep ≠ []) (h : Lib.index s sep = i) : Lib.split s sep = s.take i :: Lib.split (s.drop (i + sep.length)) sep := by
  unfold Lib.split
  rw [Lib.count_hit hs h]
  have : 1 + Lib.count (s.drop (i + sep.length)) sep = Lib.count (s.drop (i + sep.length)) sep + 1 := by omega
  rw [this, Lib.splitK]
  have e : (Lib.index s sep).toNat = i := by omega
  have e2 : ¬ (Lib.index s sep == -1) = true := by rw [beq_iff_eq]; omega
  rw [if_neg e2, e]
  rfl
theorem split_sB (c : UInt8) : ∀ s : List UInt8, Lib.split s [c] = sB c s
  | [] => by rw [split_miss (by rfl)]; rfl
  | x :: t => by
    have ih := split_sB c t
    have hi := index_one c x t
    have hg := Lib.index_ge t [c]
    by_cases hx : x = c
    · subst hx
      rw [if_pos rfl] at hi
      rw [split_hit (i := 0) (by simp) (by rw [hi]; rfl)]
      simp only [List.take_zero, Nat.zero_add, List.length_cons, List.length_nil, List.drop_succ_cons, List.drop_zero]
      rw [ih, sB, if_pos rfl]
    · rw [if_neg hx] at hi
      rw [sB, if_neg hx, ← ih]
      by_cases hm : Lib.index t [c] = -1
      · rw [if_pos hm] at hi
        rw [split_miss hi, split_miss hm]; rfl
      · rw [if_neg hm] at hi
        obtain ⟨i, hj⟩ : ∃ i : Nat, Lib.index t [c] = i := ⟨(Lib.index t [c]).toNat, by omega⟩
        rw [split_hit (i := i + 1) (by simp) (by rw [hi, hj]; rfl), split_hit (i := i) (by simp) hj]
        simp only [List.take_succ_cons, List.length_cons, List.length_nil, List.headD_cons, List.tail_cons, List.cons.injEq, true_and]
        congr 1
theorem ixb_cons (c x : UInt8) (t : List UInt8) : Lib.indexByte (x :: t) c = if x = c then 0 else if Lib.indexByte t c = -1 then -1 else Lib.indexByte t c + 1 := by
  rw [Lib.indexByte]
  by_cases h : x = c
  · simp [h]
  · simp [h]
theorem sB_miss (c : UInt8) : ∀ s : List UInt8, Lib.indexByte s c = -1 → sB c s = [s] ∧ c ∉ s
  | [], _ => ⟨rfl, by simp⟩
  | x :: t, h => by
    rw [ixb_cons] at h
    have hg := Lib.indexByte_ge t c
    split at h
    · omega
    · rename_i hx
      split at h
      · rename_i hm
        have ih := sB_miss c t hm
        refine ⟨by rw [sB, if_neg hx, ih.1]; rfl, ?_⟩
        simp only [List.mem_cons, not_or]
        exact ⟨fun e => hx e.symm, ih.2⟩
      · omega
theorem sB_hit (c : UInt8) : ∀ (s : List UInt8) (i : Nat), Lib.indexByte s c = i → i < s.length ∧ c ∉ s.take i ∧ s.take (i + 1) = s.take i ++ [c] ∧ sB c s = s.take i :: sB c (s.drop (i + 1))
  | [], i, h => by rw [Lib.indexByte] at h; omega
  | x :: t, i, h => by
    rw [ixb_cons] at h
    have hg := Lib.indexByte_ge t c
    split at h
    · rename_i hx
      obtain rfl : i = 0 := by omega
      subst hx
      refine ⟨by simp, by simp, by simp, ?_⟩
      rw [sB, if_pos rfl]; simp
    · rename_i hx
      split at h
      · omega
      · obtain ⟨j, hj⟩ : ∃ j : Nat, Lib.indexByte t c = j := ⟨(Lib.indexByte t c).toNat, by omega⟩
        obtain rfl : i = j + 1 := by omega
        have ih := sB_hit c t j hj
        refine ⟨by simp; omega, ?_, ?_, ?_⟩
        · simp only [List.take_succ_cons, List.mem_cons, not_or]
          exact ⟨fun e => hx e.symm, ih.2.1⟩
        · rw [List.take_succ_cons, ih.2.2.1]; simp
        · rw [sB, if_neg hx, ih.2.2.2]; simp
theorem sB_snoc (c x : UInt8) : ∀ s : List UInt8, sB c (s ++ [x]) = if x = c then sB c s ++ [[]] else (sB c s).dropLast ++ [(sB c s).getLastD [] ++ [x]]
  | [] => by
    by_cases h : x = c <;> simp [sB, h]
  | y :: t => by
    have ih := sB_snoc c x t
    have hne := sB_ne c t
    rw [List.cons_append, sB, sB, ih]
    cases e : sB c t with
    | nil => exact absurd e hne
    | cons a r =>
      by_cases h : x = c <;> by_cases h2 : y = c
      · simp [h, h2]
      · simp [h, h2]
      · simp [h, h2]
      · cases r with
        | nil => simp [h, h2]
        | cons b q => simp [h, h2]
theorem hasSuffix_last (l : List UInt8) (c : UInt8) : Lib.hasSuffix (l ++ [c]) [c] = true := by
  unfold Lib.hasSuffix
  rw [List.isSuffixOf_iff_suffix]
  exact List.suffix_append _ _
theorem hasSuffix_free (l : List UInt8) (c : UInt8) (h : c ∉ l) : Lib.hasSuffix l [c] = false := by
  unfold Lib.hasSuffix
  cases e : List.isSuffixOf [c] l with
  | false => rfl
  | true =>
    rw [List.isSuffixOf_iff_suffix] at e
    obtain ⟨p, rfl⟩ := e
    simp at h
theorem trimSuffix_last (l : List UInt8) (c : UInt8) : Lib.trimSuffix (l ++ [c]) [c] = l := by
  unfold Lib.trimSuffix
  rw [if_pos (hasSuffix_last l c)]
  simp
def dgB (b : UInt8) : Bool := decide (48 ≤ b.toNat) && decide (b.toNat ≤ 57)
def dgS (l : List UInt8) : Bool := l.all dgB
def dgV (l : List UInt8) : Nat := l.foldl (fun n b => 10 * n + (b.toNat - 48)) 0
def dgOk (l : List UInt8) : Bool := !l.isEmpty && decide (l.length ≤ 9) && !(decide (1 < l.length) && decide (l.headD 0 = 48)) && dgS l
def sgV (w : List UInt8) : Int := if w.headD 0 = 45 then (if dgOk (w.drop 1) then -(dgV (w.drop 1) : Int) else 0) else if dgOk w then (dgV w : Int) else 0
def sgOk (w : List UInt8) : Bool := if w.headD 0 = 45 then dgOk (w.drop 1) && decide (0 < dgV (w.drop 1)) else dgOk w
theorem dgV_snoc (l : List UInt8) (b : UInt8) : dgV (l ++ [b]) = 10 * dgV l + (b.toNat - 48) := by simp [dgV]
theorem decFrom_dg : ∀ (l : List UInt8) (acc : Nat), dgS l = true → Lib.decFrom acc l = some (l.foldl (fun n b => 10 * n + (b.toNat - 48)) acc)
  | [], acc, _ => rfl
  | b :: r, acc, h => by
    have hb : dgB b = true ∧ dgS r = true := by simpa [dgS] using h
    have hv : Lib.digitVal b = some (b.toNat - 48) := by
      unfold dgB at hb
      simp only [Bool.and_eq_true, decide_eq_true_eq] at hb
      unfold Lib.digitVal
      rw [if_pos hb.1]
    rw [Lib.decFrom, hv]
    simp only [List.foldl_cons]
    rw [decFrom_dg r _ hb.2, Nat.mul_comm]
theorem decNat_dg {l : List UInt8} (h0 : l ≠ []) (h : dgS l = true) : Lib.decNat l = some (dgV l) := by
  unfold Lib.decNat
  rw [if_neg (by simpa using h0), decFrom_dg l 0 h]; rfl
def cnD (l : List UInt8) : Prop := l ≠ [] ∧ dgS l = true ∧ (1 < l.length → l.headD 0 ≠ 48)
theorem cnD_ok {l : List UInt8} (h : cnD l) (hl : l.length ≤ 9) : dgOk l = true := by
  unfold dgOk
  have h3 : ¬ (1 < l.length ∧ l.headD 0 = 48) := fun e => h.2.2 e.1 e.2
  have h1 : l.isEmpty = false := by cases l with
    | nil => exact absurd rfl h.1
    | cons _ _ => rfl
  rw [h1, h.2.1, decide_eq_true hl]
  simp only [Bool.not_false, Bool.true_and, Bool.and_true, Bool.not_eq_true', ← Bool.decide_and, decide_eq_false_iff_not]
  exact h3
theorem ok_cnD {l : List UInt8} (h : dgOk l = true) : cnD l ∧ l.length ≤ 9 := by
  unfold dgOk at h
  simp only [Bool.and_eq_true, Bool.not_eq_true', decide_eq_true_eq, ← Bool.decide_and, decide_eq_false_iff_not] at h
  refine ⟨⟨fun e => ?_, h.2, fun h1 h2 => h.1.2 ⟨h1, h2⟩⟩, h.1.1.2⟩
  rw [e] at h; simp at h
theorem dgS_snoc (l : List UInt8) (b : UInt8) : dgS (l ++ [b]) = (dgS l && dgB b) := by simp [dgS]
theorem dgV_pos : ∀ (l : List UInt8), dgS l = true → l ≠ [] → l.headD 0 ≠ 48 → 0 < dgV l := by
  intro l
  have key : ∀ (r : List UInt8) (acc : Nat), acc ≤ r.foldl (fun n (b : UInt8) => 10 * n + (b.toNat - 48)) acc := by
    intro r
    induction r with
    | nil => intro acc; exact Nat.le_refl _
    | cons b r ih => intro acc; simp only [List.foldl_cons]; exact Nat.le_trans (by omega) (ih _)
  cases l with
  | nil => intro _ h; exact absurd rfl h
  | cons b r =>
    intro h _ h3
    have hb : dgB b = true := by
      have : dgB b = true ∧ dgS r = true := by simpa [dgS] using h
      exact this.1
    unfold dgB at hb
    simp only [Bool.and_eq_true, decide_eq_true_eq] at hb
    have hne : b.toNat ≠ 48 := fun e => h3 (UInt8.toNat_inj.1 (by simpa using e))
    unfold dgV
    simp only [List.foldl_cons]
    exact Nat.lt_of_lt_of_le (by omega) (key r _)
theorem dg_byte {b : UInt8} (h : dgB b = true) : UInt8.ofNat (48 + (b.toNat - 48)) = b := by
  unfold dgB at h
  simp only [Bool.and_eq_true, decide_eq_true_eq] at h
  apply UInt8.toNat_inj.1
  rw [UInt8.toNat_ofNat']
  have := b.toNat_lt
  omega
theorem byte_dg {d : Nat} (h : d < 10) : dgB (UInt8.ofNat (48 + d)) = true ∧ (UInt8.ofNat (48 + d)).toNat - 48 = d := by
  have e : (UInt8.ofNat (48 + d)).toNat = 48 + d := by rw [UInt8.toNat_ofNat']; omega
  refine ⟨?_, by omega⟩
  unfold dgB
  rw [e]; simp; omega
theorem snoc_ind {P : List UInt8 → Prop} (h0 : P []) (h1 : ∀ l b, P l → P (l ++ [b])) (l : List UInt8) : P l := by
  rw [← List.reverse_reverse l]
  induction l.reverse with
  | nil => exact h0
  | cons b r ih => rw [List.reverse_cons]; exact h1 _ _ ih
theorem decDigits_dgV (l : List UInt8) : cnD l → Lib.decDigits (dgV l) = l := by
  refine snoc_ind (P := fun l => cnD l → Lib.decDigits (dgV l) = l) (fun h => absurd rfl h.1) (fun l b ih h => ?_) l
  rw [dgV_snoc]
  have hs := h.2.1
  rw [dgS_snoc, Bool.and_eq_true] at hs
  have hb := hs.2
  unfold dgB at hb
  simp only [Bool.and_eq_true, decide_eq_true_eq] at hb
  cases l with
  | nil =>
    have : 10 * dgV [] + (b.toNat - 48) = b.toNat - 48 := by simp [dgV]
    rw [this, Lib.decDigits_one (by omega), dg_byte hs.2]; rfl
  | cons a r =>
    have hh : (a :: r).headD 0 ≠ 48 := by
      have := h.2.2 (by simp)
      simpa using this
    have hp := dgV_pos (a :: r) hs.1 (by simp) hh
    have hc : cnD (a :: r) := ⟨by simp, hs.1, fun _ => hh⟩
    rw [Lib.decDigits, dif_neg (by omega)]
    have e1 : (10 * dgV (a :: r) + (b.toNat - 48)) / 10 = dgV (a :: r) := by omega
    have e2 : (10 * dgV (a :: r) + (b.toNat - 48)) % 10 = b.toNat - 48 := by omega
    rw [e1, e2, ih hc, dg_byte hs.2]
theorem decDigits_cn : ∀ (k u : Nat), u < 10 ^ k → cnD (Lib.decDigits u) ∧ dgV (Lib.decDigits u) = u ∧ (0 < u → (Lib.decDigits u).headD 0 ≠ 48) := by
  intro k
  have one : ∀ u, u < 10 → cnD (Lib.decDigits u) ∧ dgV (Lib.decDigits u) = u ∧ (0 < u → (Lib.decDigits u).headD 0 ≠ 48) := by
    intro u h
    rw [Lib.decDigits_one h]
    have hb := byte_dg h
    refine ⟨⟨by simp, ?_, by simp⟩, ?_, fun h0 e => ?_⟩
    · unfold dgS; rw [List.all_cons, hb.1]; rfl
    · unfold dgV; rw [List.foldl_cons, hb.2]; simp
    simp only [List.headD_cons] at e
    have := hb.2
    rw [e] at this
    have : u = 0 := by rw [← this]; rfl
    omega
  induction k with
  | zero => intro u h; exact one u (by omega)
  | succ k ih =>
    intro u h
    by_cases h10 : u < 10
    · exact one u h10
    · obtain ⟨hc, hv, hh⟩ := ih (u / 10) (by rw [Nat.pow_succ] at h; omega)
      rw [Lib.decDigits, dif_neg h10]
      have hb := byte_dg (d := u % 10) (Nat.mod_lt _ (by omega))
      have hne := hc.1
      have hd : (Lib.decDigits (u / 10) ++ [UInt8.ofNat (48 + u % 10)]).headD 0 = (Lib.decDigits (u / 10)).headD 0 := by
        cases e : Lib.decDigits (u / 10) with
        | nil => exact absurd e hne
        | cons _ _ => rfl
      have h48 := hh (by omega)
      refine ⟨⟨by simp, ?_, fun _ => by rw [hd]; exact h48⟩, ?_, fun _ => by rw [hd]; exact h48⟩
      · rw [dgS_snoc, hc.2.1, hb.1]; rfl
      · rw [dgV_snoc, hv, hb.2]; omega
theorem decDigits_all (u : Nat) : cnD (Lib.decDigits u) ∧ dgV (Lib.decDigits u) = u :=
  let h := decDigits_cn u u (Nat.lt_pow_self (by omega))
  ⟨h.1, h.2.1⟩
theorem dg_head {l : List UInt8} (h : cnD l) : l.headD 0 ≠ 45 ∧ l.headD 0 ≠ 43 := by
  cases l with
  | nil => exact absurd rfl h.1
  | cons b r =>
    have hb : dgB b = true := by
      have : dgB b = true ∧ dgS r = true := by simpa [dgS] using h.2.1
      exact this.1
    unfold dgB at hb
    simp only [Bool.and_eq_true, decide_eq_true_eq] at hb
    simp only [List.headD_cons]
    constructor <;> (rintro rfl; revert hb; decide)
theorem sg_iff (w : List UInt8) : sgOk w = true ↔ (Lib.atoiAll w = .ok (sgV w) ∧ (Lib.trimPrefix w [45]).length ≤ 9 ∧ Lib.itoa (sgV w) = w) := by
  cases w with
  | nil => simp [sgOk, dgOk, Lib.atoiAll]
  | cons b r =>
    by_cases hb : b = 45
    · subst hb
      have ht : Lib.trimPrefix (45 :: r) [45] = r := by simp [Lib.trimPrefix, Lib.hasPrefix, List.isPrefixOf]
      rw [ht]
      have e1 : sgOk (45 :: r) = (dgOk r && decide (0 < dgV r)) := by simp [sgOk]
      have e2 : sgV (45 :: r) = (if dgOk r then -(dgV r : Int) else 0) := by simp [sgV]
      rw [e1, e2]
      constructor
      · intro h
        simp only [Bool.and_eq_true, decide_eq_true_eq] at h
        obtain ⟨hc, hl⟩ := ok_cnD h.1
        rw [if_pos h.1]
        refine ⟨?_, hl, ?_⟩
        · rw [Lib.atoiAll_short _ (by simp; omega)]
          simp only [Lib.atoi]
          rw [decNat_dg hc.1 hc.2.1]; rfl
        · unfold Lib.itoa
          rw [if_pos (by omega)]
          have : (-(dgV r : Int)).natAbs = dgV r := by omega
          rw [this, decDigits_dgV r hc]
      · rintro ⟨h1, h2, h3⟩
        split at h3
        · rename_i hd
          have hc := (ok_cnD hd).1
          unfold Lib.itoa at h3
          split at h3
          · simp only [Bool.and_eq_true, decide_eq_true_eq]; exact ⟨hd, by omega⟩
          · exfalso
            have := dg_head (decDigits_all ((-(dgV r : Int)).toNat)).1
            rw [h3] at this; simp at this
        · exfalso
          unfold Lib.itoa at h3
          rw [if_neg (by omega)] at h3
          have := dg_head (decDigits_all ((0 : Int).toNat)).1
          rw [h3] at this; simp at this
    · have ht : Lib.trimPrefix (b :: r) [45] = b :: r := by
        unfold Lib.trimPrefix
        rw [if_neg]
        simp [Lib.hasPrefix, List.isPrefixOf]; exact fun e => hb e.symm
      rw [ht]
      have e1 : sgOk (b :: r) = dgOk (b :: r) := by simp [sgOk, hb]
      have e2 : sgV (b :: r) = (if dgOk (b :: r) then (dgV (b :: r) : Int) else 0) := by simp [sgV, hb]
      rw [e1, e2]
      constructor
      · intro h
        obtain ⟨hc, hl⟩ := ok_cnD h
        rw [if_pos h]
        have h43 := (dg_head hc).2
        simp only [List.headD_cons] at h43
        refine ⟨?_, hl, ?_⟩
        · rw [Lib.atoiAll_short _ (by omega)]
          simp only [Lib.atoi]
          rw [if_neg (by simpa using hb), if_neg (by simpa using h43), decNat_dg hc.1 hc.2.1]; rfl
        · unfold Lib.itoa
          rw [if_neg (by omega)]
          have : ((dgV (b :: r) : Int)).toNat = dgV (b :: r) := by omega
          rw [this, decDigits_dgV _ hc]
      · rintro ⟨h1, h2, h3⟩
        generalize (if dgOk (b :: r) = true then (dgV (b :: r) : Int) else 0) = m at h3
        unfold Lib.itoa at h3
        by_cases hm : m < 0
        · rw [if_pos hm] at h3
          exfalso; exact hb (List.cons.inj h3).1.symm
        · rw [if_neg hm] at h3
          have hc := (decDigits_all m.toNat).1
          rw [h3] at hc
          exact cnD_ok hc h2
theorem sg_of (w : List UInt8) (n : Int) (h2 : (Lib.trimPrefix w [45]).length ≤ 9) (h3 : Lib.itoa n = w) : sgOk w = true ∧ sgV w = n := by
  unfold Lib.itoa at h3
  split at h3
  · subst h3
    have ht : Lib.trimPrefix (45 :: Lib.decDigits n.natAbs) [45] = Lib.decDigits n.natAbs := by simp [Lib.trimPrefix, Lib.hasPrefix, List.isPrefixOf]
    rw [ht] at h2
    obtain ⟨hc, hv⟩ := decDigits_all n.natAbs
    have hok := cnD_ok hc h2
    have e1 : sgOk (45 :: Lib.decDigits n.natAbs) = (dgOk (Lib.decDigits n.natAbs) && decide (0 < dgV (Lib.decDigits n.natAbs))) := by simp [sgOk]
    have e2 : sgV (45 :: Lib.decDigits n.natAbs) = (if dgOk (Lib.decDigits n.natAbs) then -(dgV (Lib.decDigits n.natAbs) : Int) else 0) := by simp [sgV]
    rw [e1, e2, hok, hv]
    refine ⟨by simp; omega, by simp; omega⟩
  · subst h3
    obtain ⟨hc, hv⟩ := decDigits_all n.toNat
    have hh := (dg_head hc).1
    have ht : Lib.trimPrefix (Lib.decDigits n.toNat) [45] = Lib.decDigits n.toNat := by
      unfold Lib.trimPrefix
      rw [if_neg]
      cases e : Lib.decDigits n.toNat with
      | nil => simp [Lib.hasPrefix, List.isPrefixOf]
      | cons b r =>
        rw [e] at hh
        simp [Lib.hasPrefix, List.isPrefixOf]; exact fun e => hh (by simp [e])
    rw [ht] at h2
    have hok := cnD_ok hc h2
    unfold sgOk sgV
    rw [if_neg hh, if_neg hh, hok, hv]
    exact ⟨rfl, by simp; omega⟩
end Go.Sx.U

namespace Go.Sx.U
open Go.Sx
theorem spl_sB (s : Str) : spl s [32] = sB 32 s := by unfold spl; rw [hd_eq]; exact split_sB 32 s
theorem ixB_nl (r : Str) : ixB r 10 = Lib.indexByte r 10 := by unfold ixB; rw [hd_eq]; rfl
theorem tsf_eq (s p : Str) : tsf s p = Lib.trimSuffix s p := by unfold tsf; rw [hd_eq]
theorem hsf_eq (s p : Str) : hsf s p = Lib.hasSuffix s p := by unfold hsf; rw [hd_eq]
theorem tpf_eq (s p : Str) : tpf s p = Lib.trimPrefix s p := by unfold tpf; rw [hd_eq]
theorem flt_eq (l : List (List Int)) : flt l = l.flatten := by unfold flt; rw [hd_eq]
theorem anyL_eq (l : List Int) : anyL l = l.any lgI := by unfold anyL; rw [hd_eq]
theorem line_cases (r : Str) : (ixB r 10 < 0 ∧ ixB r 10 = -1 ∧ lineOf r = r ∧ restOf r = [] ∧ sB 10 r = [r] ∧ hsf r [10] = false)
    ∨ (∃ i : Nat, ixB r 10 = i ∧ i < r.length ∧ lineOf r = List.take i r ++ [10] ∧ restOf r = List.drop (i + 1) r ∧ sB 10 r = List.take i r :: sB 10 (restOf r) ∧ hsf (lineOf r) [10] = true ∧ tsf (lineOf r) [10] = List.take i r) := by
  have hg := Lib.indexByte_ge r 10
  by_cases h : Lib.indexByte r 10 = -1
  · obtain ⟨h1, h2⟩ := sB_miss 10 r h
    refine .inl ?_
    unfold lineOf restOf
    rw [ixB_nl, h, if_neg (by omega), if_neg (by omega), hsf_eq]
    exact ⟨by omega, rfl, rfl, rfl, h1, hasSuffix_free r 10 h2⟩
  · obtain ⟨i, hi⟩ : ∃ i : Nat, Lib.indexByte r 10 = i := ⟨(Lib.indexByte r 10).toNat, by omega⟩
    obtain ⟨h1, h2, h3, h4⟩ := sB_hit 10 r i hi
    refine .inr ⟨i, ?_⟩
    have e1 : lineOf r = List.take i r ++ [10] := by
      unfold lineOf
      rw [ixB_nl, hi, if_pos (by omega)]
      have : ((i : Int) + 1).toNat = i + 1 := by omega
      rw [this, h3]
    have e2 : restOf r = List.drop (i + 1) r := by
      unfold restOf
      rw [ixB_nl, hi, if_pos (by omega)]
      have : ((i : Int) + 1).toNat = i + 1 := by omega
      rw [this]
    refine ⟨by rw [ixB_nl, hi], h1, e1, e2, by rw [e2]; exact h4, ?_, ?_⟩
    · rw [e1, hsf_eq]; exact hasSuffix_last _ _
    · rw [e1, tsf_eq]; exact trimSuffix_last _ _
theorem lineOf_len (r : Str) : (lineOf r).length ≤ r.length := by unfold lineOf; split <;> simp; omega
theorem restOf_len (r : Str) : (restOf r).length ≤ r.length := by unfold restOf; split <;> simp
theorem restTo_len (s : Str) : ∀ g, (restTo s g).length ≤ s.length
  | 0 => Nat.le_refl _
  | g + 1 => Nat.le_trans (restOf_len _) (restTo_len s g)
theorem ixB_bd (r : Str) : -1 ≤ ixB r 10 ∧ ixB r 10 < r.length ∨ ixB r 10 = -1 := by
  rcases line_cases r with h | ⟨i, h, h2, _⟩
  · exact .inr h.2.1
  · exact .inl ⟨by omega, by omega⟩
theorem tsf_len (s p : Str) : (tsf s p).length ≤ s.length := by
  rw [tsf_eq]; unfold Lib.trimSuffix; split <;> simp
theorem spl_len (s : Str) : 1 ≤ (spl s [32]).length ∧ (spl s [32]).length ≤ s.length + 1 := by rw [spl_sB]; exact sB_len 32 s
theorem spl_mem_len (s w : Str) (h : w ∈ spl s [32]) : w.length ≤ s.length := by rw [spl_sB] at h; exact sB_mem_len 32 s w h
theorem wds_len (s : Str) (g : Nat) : 1 ≤ (wdsAt s g).length ∧ (wdsAt s g).length ≤ s.length + 1 := by
  have := spl_len (tsf (lineOf (restTo s g)) [10])
  have h2 := tsf_len (lineOf (restTo s g)) [10]
  have h3 := lineOf_len (restTo s g)
  have h4 := restTo_len s g
  exact ⟨this.1, Nat.le_trans this.2 (by omega)⟩
theorem nums_len (s : Str) (g : Nat) : (numsAt s g).length ≤ s.length := by
  have := wds_len s g
  unfold numsAt tlAt
  simp only [List.length_map, List.length_drop]; omega
theorem anyL_flt (l : List (List Int)) : anyL (flt l) = l.any fun x => x.any lgI := by
  rw [anyL_eq, flt_eq]
  induction l with
  | nil => rfl
  | cons a r ih => simp only [List.flatten_cons, List.any_append, List.any_cons, ih]
theorem wrW_sg (w : Str) : wrW w = !sgOk w := by
  have hE : atE w = atoE w := by unfold atE; rw [hd_eq]
  have hV : atV w = atoV w := by unfold atV; rw [hd_eq]
  unfold wrW
  rw [hE, hV, tpf_eq]
  cases e : sgOk w with
  | true =>
    obtain ⟨h1, h2, h3⟩ := (sg_iff w).1 e
    have a1 : atoE w = false := by unfold atoE; rw [h1]
    have a2 : atoV w = sgV w := by unfold atoV; rw [h1]
    rw [a1, a2, h3]
    simp; omega
  | false =>
    by_cases h2 : 9 < (Lib.trimPrefix w [45]).length
    · simp [h2]
    · by_cases h3 : Lib.itoa (atoV w) = w
      · have := (sg_of w (atoV w) (by omega) h3).1
        rw [e] at this; cases this
      · simp [h3]
theorem atV_sg (w : Str) (h : sgOk w = true) : atV w = sgV w := by
  have hV : atV w = atoV w := by unfold atV; rw [hd_eq]
  rw [hV]
  unfold atoV
  rw [((sg_iff w).1 h).1]
theorem wrTo_all (ws : List Str) : ∀ n, n ≤ ws.length → (wrTo ws n = !((ws.take n).all sgOk))
  | 0, _ => by simp [wrTo]
  | n + 1, h => by
    rw [wrTo, wrTo_all ws n (by omega), wrW_sg]
    have e : ws.take (n + 1) = ws.take n ++ [ws.getD n []] := by
      rw [List.take_add_one]
      have : ws[n]? = some (ws.getD n []) := by rw [List.getD_eq_getElem?_getD, List.getElem?_eq_getElem (by omega)]; rfl
      rw [this]; rfl
    rw [e, List.all_append, Bool.not_and]
    simp
theorem wrTo_eq (ws : List Str) : wrTo ws ws.length = !(ws.all sgOk) := by
  rw [wrTo_all ws _ (Nat.le_refl _), List.take_length]
def rdOk (line word : Str) : Bool := decide ((sB 32 line).headD [] = word) && ((sB 32 line).drop 1).all sgOk
def rdV (line : Str) : List Int := ((sB 32 line).drop 1).map sgV
def hdW (g : Nat) : Str := List.getD [[108, 117, 109, 97], [117], [118]] g []
theorem getD_headD (l : List Str) : List.getD l 0 [] = l.headD [] := by cases l <;> rfl
def lnsN (s : Str) : Nat := (sB 10 s).length - 1
def lnAt (s : Str) (g : Nat) : Str := List.getD (sB 10 s) g []
theorem drop_rest (s : Str) : ∀ g, g ≤ lnsN s → List.drop g (sB 10 s) = sB 10 (restTo s g)
  | 0, _ => rfl
  | g + 1, h => by
    have ih := drop_rest s g (by omega)
    have hl : 2 ≤ (List.drop g (sB 10 s)).length := by unfold lnsN at h; rw [List.length_drop]; omega
    have hd : List.drop (g + 1) (sB 10 s) = (List.drop g (sB 10 s)).tail := by rw [List.tail_drop]
    rw [hd, ih]
    rw [ih] at hl
    rcases line_cases (restTo s g) with ⟨_, _, _, _, h5, _⟩ | ⟨i, _, _, _, _, h5, _⟩
    · rw [h5] at hl; simp at hl
    · rw [h5]; rfl
theorem ln_head (s : Str) (g : Nat) (h : g ≤ lnsN s) : lnAt s g = (sB 10 (restTo s g)).headD [] := by
  rw [← drop_rest s g h]
  unfold lnAt
  rw [List.getD_eq_getElem?_getD, List.headD_eq_head?_getD, List.head?_drop]
theorem ln_in (s : Str) (g : Nat) (h : g < lnsN s) : restTo s g ≠ [] ∧ lineOf (restTo s g) = lnAt s g ++ [10] ∧ hsf (lineOf (restTo s g)) [10] = true ∧ tsf (lineOf (restTo s g)) [10] = lnAt s g := by
  have hl : 2 ≤ (List.drop g (sB 10 s)).length := by unfold lnsN at h; rw [List.length_drop]; omega
  rw [drop_rest s g (by omega)] at hl
  have hh := ln_head s g (by omega)
  rcases line_cases (restTo s g) with ⟨_, _, _, _, h5, _⟩ | ⟨i, h1, h2, h3, _, h5, h6, h7⟩
  · rw [h5] at hl; simp at hl
  · rw [h5] at hh
    simp only [List.headD_cons] at hh
    refine ⟨fun e => by rw [e] at h2; simp at h2, by rw [h3, hh], h6, by rw [h7, hh]⟩
theorem ln_last (s : Str) : restTo s (lnsN s) = lnAt s (lnsN s) ∧ hsf (lineOf (restTo s (lnsN s))) [10] = false := by
  have hl : (List.drop (lnsN s) (sB 10 s)).length = 1 := by
    have := (sB_len 10 s).1
    unfold lnsN; rw [List.length_drop]; omega
  rw [drop_rest s _ (Nat.le_refl _)] at hl
  have hh := ln_head s _ (Nat.le_refl _)
  rcases line_cases (restTo s (lnsN s)) with ⟨_, _, h3, _, h5, h6⟩ | ⟨i, _, _, _, _, h5, _⟩
  · rw [h5] at hh
    exact ⟨hh.symm, by rw [h3]; exact h6⟩
  · have := (sB_len 10 (restOf (restTo s (lnsN s)))).1
    rw [h5, List.length_cons] at hl; omega
theorem headW_hdW {g : Nat} (h : g < 3) : headW g = hdW g := by
  match g, h with
  | 0, _ => rfl
  | 1, _ => rfl
  | 2, _ => rfl
theorem good_in (s : Str) (g : Nat) (h : g < lnsN s) : goodAt s g = (decide (g < 3) && rdOk (lnAt s g) (hdW g)) := by
  obtain ⟨h1, h2, h3, h4⟩ := ln_in s g h
  by_cases hg : g < 3
  · have e1 : goodAt s g = (hsf (lineOf (restTo s g)) [10] && decide (g < 3) && decide (List.getD (wdsAt s g) 0 [] = headW g) && !wrTo (tlAt s g) (tlAt s g).length) := rfl
    have e2 : wdsAt s g = sB 32 (lnAt s g) := by unfold wdsAt; rw [h4, spl_sB]
    rw [e1, h3, wrTo_eq, headW_hdW hg]
    unfold tlAt
    rw [e2, getD_headD]
    unfold rdOk
    simp [hg]
  · have e1 : goodAt s g = (hsf (lineOf (restTo s g)) [10] && decide (g < 3) && decide (List.getD (wdsAt s g) 0 [] = headW g) && !wrTo (tlAt s g) (tlAt s g).length) := rfl
    rw [e1, decide_eq_false hg]; simp
theorem nums_in (s : Str) (g : Nat) (h : g < lnsN s) (hr : rdOk (lnAt s g) (hdW g) = true) : numsAt s g = rdV (lnAt s g) := by
  obtain ⟨h1, h2, h3, h4⟩ := ln_in s g h
  have e2 : wdsAt s g = sB 32 (lnAt s g) := by unfold wdsAt; rw [h4, spl_sB]
  unfold numsAt tlAt rdV
  rw [e2]
  unfold rdOk at hr
  rw [Bool.and_eq_true] at hr
  exact List.map_congr_left fun w hw => atV_sg w (List.all_eq_true.1 hr.2 w hw)
theorem preA_le (s : Str) (k : Nat) (h : preA s k) : k ≤ 3 := by
  apply Nat.le_of_not_lt
  intro h3
  have := (h 3 h3).2
  have e1 : goodAt s 3 = (hsf (lineOf (restTo s 3)) [10] && decide (3 < 3) && decide (List.getD (wdsAt s 3) 0 [] = headW 3) && !wrTo (tlAt s 3) (tlAt s 3).length) := rfl
  rw [e1] at this
  simp at this
theorem preA_zero (s : Str) : preA s 0 := fun i hi => absurd hi (Nat.not_lt_zero _)
theorem preA_succ {s : Str} {k : Nat} (h : preA s k) (h1 : restTo s k ≠ []) (h2 : goodAt s k = true) : preA s (k + 1) := fun i hi => by
  rcases Nat.lt_succ_iff_lt_or_eq.1 hi with h3 | h3
  · exact h i h3
  · subst h3; exact ⟨h1, h2⟩
theorem prs_to (s : Str) (hs : s.length ≤ 4096) : ∀ k, preA s k → prsN s = prsG s (4 - k) k
  | 0, _ => by unfold prsN; rw [if_neg (by omega)]
  | k + 1, h => by
    have hk := preA_le s (k + 1) h
    have h1 := h k (Nat.lt_succ_self k)
    rw [prs_to s hs k (fun i hi => h i (Nat.lt_succ_of_lt hi))]
    have e : 4 - k = (4 - (k + 1)) + 1 := by omega
    rw [e, prsG, if_neg h1.1, if_pos h1.2]
theorem prs_end {s : Str} (hs : s.length ≤ 4096) {k : Nat} (h : preA s k) (hr : restTo s k = []) : prsN s = finP s k := by
  have hk := preA_le s k h
  rw [prs_to s hs k h]
  have e : 4 - k = (3 - k) + 1 := by omega
  rw [e, prsG, if_pos hr]
theorem prs_bad {s : Str} (hs : s.length ≤ 4096) {k : Nat} (h : preA s k) (hr : restTo s k ≠ []) (hg : goodAt s k ≠ true) : prsN s = badP k := by
  have hk := preA_le s k h
  rw [prs_to s hs k h]
  have e : 4 - k = (3 - k) + 1 := by omega
  rw [e, prsG, if_neg hr, if_neg hg]
theorem prs_long {s : Str} (hs : 4096 < s.length) : prsN s = (([], [], []), 0, 26) := by unfold prsN; rw [if_pos hs]
def preR (s : Str) (g : Nat) : Prop := ∀ i, i < g → i < 3 ∧ rdOk (lnAt s i) (hdW i) = true
theorem preR_A {s : Str} {g : Nat} (h : preR s g) (hg : g ≤ lnsN s) : preA s g := fun i hi => by
  have := h i hi
  refine ⟨(ln_in s i (by omega)).1, ?_⟩
  rw [good_in s i (by omega), this.2, decide_eq_true this.1]; rfl
theorem ref_bad {s : Str} (hs : s.length ≤ 4096) {g : Nat} (h : preR s g) (hg : g < lnsN s) (hb : ¬ (g < 3 ∧ rdOk (lnAt s g) (hdW g) = true)) : prsN s = badP g := by
  refine prs_bad hs (preR_A h (by omega)) (ln_in s g hg).1 fun e => hb ?_
  rw [good_in s g hg, Bool.and_eq_true] at e
  exact ⟨of_decide_eq_true e.1, e.2⟩
theorem ref_open {s : Str} (hs : s.length ≤ 4096) (h : preR s (lnsN s)) (hb : lnAt s (lnsN s) ≠ []) : prsN s = badP (lnsN s) := by
  obtain ⟨h1, h2⟩ := ln_last s
  refine prs_bad hs (preR_A h (Nat.le_refl _)) (by rw [h1]; exact hb) fun e => ?_
  have e1 : goodAt s (lnsN s) = (hsf (lineOf (restTo s (lnsN s))) [10] && decide (lnsN s < 3) && decide (List.getD (wdsAt s (lnsN s)) 0 [] = headW (lnsN s)) && !wrTo (tlAt s (lnsN s)) (tlAt s (lnsN s)).length) := rfl
  rw [e1, h2] at e
  simp at e
theorem ref_end {s : Str} (hs : s.length ≤ 4096) (h : preR s (lnsN s)) (hb : lnAt s (lnsN s) = []) : prsN s = finP s (lnsN s) := by
  obtain ⟨h1, h2⟩ := ln_last s
  exact prs_end hs (preR_A h (Nat.le_refl _)) (by rw [h1]; exact hb)
theorem ref_nums {s : Str} {g : Nat} (h : preR s g) (hg : g ≤ lnsN s) {i : Nat} (hi : i < g) : numsAt s i = rdV (lnAt s i) :=
  nums_in s i (by omega) (h i hi).2
theorem fin_few {s : Str} {g : Nat} (h : g < 3) : finP s g = (([], [], []), (g : Int), 2) := by
  have e : endE s g = 2 := by
    unfold endE
    rw [show whenE (decide ((g : Int) < 3)) 2 = 2 from by rw [decide_eq_true (by omega)]; rfl]
    rfl
  unfold finP
  rw [e, if_pos (by omega)]
theorem end_three (s : Str) : endE s 3 = if (numsAt s 0).any lgI || ((numsAt s 1).any lgI || (numsAt s 2).any lgI) then 3 else 0 := by
  unfold endE
  rw [anyL_flt]
  have e : (listsTo s 3).any (fun x => x.any lgI) = ((numsAt s 0).any lgI || ((numsAt s 1).any lgI || (numsAt s 2).any lgI)) := by
    unfold listsTo tab
    simp [List.range_succ]
  rw [e]
  cases ((numsAt s 0).any lgI || ((numsAt s 1).any lgI || (numsAt s 2).any lgI)) <;> rfl
theorem good_three (s : Str) : goodAt s 3 ≠ true := fun e => by
  have e1 : goodAt s 3 = (hsf (lineOf (restTo s 3)) [10] && decide (3 < 3) && decide (List.getD (wdsAt s 3) 0 [] = headW 3) && !wrTo (tlAt s 3) (tlAt s 3).length) := rfl
  rw [e1] at e
  simp at e
theorem atV_fits (w : Str) : fits .i64 (atV w) := by
  have hV : atV w = atoV w := by unfold atV; rw [hd_eq]
  rw [hV]
  unfold atoV
  split
  · rename_i h; exact Lib.atoiAll_bounds h
  · exact Lib.atoiSat_bounds w
  · simp only [fits]; omega
theorem take_snoc {ws : List Str} {g : Nat} (h : g < ws.length) : List.take (g + 1) ws = List.take g ws ++ [List.getD ws g []] := by
  rw [List.take_add_one]
  have : ws[g]? = some (ws.getD g []) := by rw [List.getD_eq_getElem?_getD, List.getElem?_eq_getElem h]; rfl
  rw [this]; rfl
theorem first_two (b : Int) (l : List Int) : first (whenE true 2 :: b :: l) = 2 := rfl
theorem end_bd {s : Str} (h : endE s 3 = 0) : Bd 16384 (numsAt s 0) ∧ Bd 16384 (numsAt s 1) ∧ Bd 16384 (numsAt s 2) := by
  have key : ∀ l : List Int, l.any lgI = false → Bd 16384 l := fun l h n hn => by
    have := List.any_eq_false.1 h n hn
    unfold lgI at this
    simp at this; omega
  rw [end_three] at h
  split at h
  · cases h
  · rename_i hl
    simp only [Bool.or_eq_true, not_or, Bool.not_eq_true] at hl
    exact ⟨key _ hl.1, key _ hl.2.1, key _ hl.2.2⟩
end Go.Sx.U

namespace Go.Sx.U
open Go.Sx
theorem fin_three (s : Str) : finP s 3 = if ((numsAt s 0).any lgI || ((numsAt s 1).any lgI || (numsAt s 2).any lgI)) = true then (([], [], []), 3, 3)
    else if chkPt (sixL s 0) (sixL s 1) (sixL s 2) ≠ 0 then (([], [], []), 3, chkPt (sixL s 0) (sixL s 1) (sixL s 2))
    else ((sixL s 0, sixL s 1, sixL s 2), 0, 0) := by
  unfold finP
  rw [end_three]
  cases ((numsAt s 0).any lgI || ((numsAt s 1).any lgI || (numsAt s 2).any lgI)) <;> rfl
theorem bd_lg {l : List Int} (h : Bd 16384 l) : l.any lgI = false := by
  rw [List.any_eq_false]
  intro n hn
  have := h n hn
  unfold lgI
  simp; omega
theorem same_ok {y u v : List Nat} (h : chkPt y u v = 0) : sameP (y, u, v) (y, u, v) = true := by
  obtain ⟨h1, h2, h3, h4, h5⟩ := chkPt_zero.1 h
  obtain ⟨k1, k2, k3⟩ := chkSig_zero.1 h1
  unfold sameP
  rw [sameS_self k3, sameS_self h4, sameS_self h5]
  rfl
theorem finP_form (s : Str) (g : Nat) : ((finP s g).2.2 ≠ 0 ∧ (finP s g).1 = ([], [], []) ∧ (finP s g).2.1 = g) ∨ ((finP s g).2.2 = 0 ∧ (finP s g).2.1 = 0 ∧ chkPt (finP s g).1.1 (finP s g).1.2.1 (finP s g).1.2.2 = 0) := by
  unfold finP
  split
  · rename_i h; exact .inl ⟨h, rfl, rfl⟩
  · split
    · rename_i h; exact .inl ⟨h, rfl, rfl⟩
    · rename_i h; exact .inr ⟨rfl, rfl, Decidable.not_not.1 h⟩
theorem prsG_form (s : Str) : ∀ n g, ((prsG s n g).2.2 ≠ 0 ∧ (prsG s n g).1 = ([], [], [])) ∨ ((prsG s n g).2.2 = 0 ∧ (prsG s n g).2.1 = 0 ∧ chkPt (prsG s n g).1.1 (prsG s n g).1.2.1 (prsG s n g).1.2.2 = 0)
  | 0, g => .inl ⟨by simp [prsG, badP], rfl⟩
  | n + 1, g => by
    unfold prsG
    split
    · rcases finP_form s g with h | h
      · exact .inl ⟨h.1, h.2.1⟩
      · exact .inr h
    · split
      · exact prsG_form s n (g + 1)
      · exact .inl ⟨by simp [badP], rfl⟩
theorem prs_form (s : Str) : ((prsN s).2.2 ≠ 0 ∧ (prsN s).1 = ([], [], [])) ∨ ((prsN s).2.2 = 0 ∧ (prsN s).2.1 = 0 ∧ chkPt (prsN s).1.1 (prsN s).1.2.1 (prsN s).1.2.2 = 0) := by
  unfold prsN
  split
  · exact .inl ⟨by simp, rfl⟩
  · exact prsG_form s 4 0
theorem prs_same (s : Str) : sameP (prsN s).1 (prsN s).1 = true := by
  rcases prs_form s with ⟨_, h⟩ | ⟨_, _, h⟩
  · rw [h]; rfl
  · exact same_ok h
theorem prs_lens (s : Str) : (prsN s).1.1.length ≤ 256 ∧ (prsN s).1.2.1.length ≤ 256 ∧ (prsN s).1.2.2.length ≤ 256 := by
  rcases prs_form s with ⟨_, h⟩ | ⟨_, _, h⟩
  · rw [h]; simp
  · obtain ⟨h1, h2, h3, h4, h5⟩ := chkPt_zero.1 h
    obtain ⟨k1, k2, k3⟩ := chkSig_zero.1 h1
    omega
end Go.Sx.U
