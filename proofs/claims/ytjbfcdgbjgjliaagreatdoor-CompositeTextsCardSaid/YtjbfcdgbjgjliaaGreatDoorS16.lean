/- A verified symbolic run of functions, part 16: lemmas, no claim of their own. -/
import Derived.Test.YtjbfcdgbjgjliaaGreatDoorS15
import Derived.Lib.AppendIntMem
import Derived.Shelf.Strconv.Itoa3
import Derived.Shelf.Strings.OnBuilder
import Derived.Shelf.LaysM
import Derived.Test.YtjbfcdgbjgjliaaGreatDoorProg
import Derived.Shelf.Spec.SlicesGrow
namespace Go.Sx
open U
theorem fn146 (n : Int)  : Fn P1 gl1 146 [iV n] (.val (iV (within n (-1000) 1000))) true := by
  refine Fn.flat ?_ rfl
  refine fn_of false [(96, sp96)] [] h0 0 Proofs.Tryz.f146 ⟨so96, trivial⟩ trivial (by kernel_rfl) rfl (by kernel_rfl) rfl rfl rfl ?_
  rw [vc146]
  try simp only [splitB_iff, -eq_self]
  exact ⟨rfl, trivial⟩
theorem so146_ : SpecOk P1 gl1 146 sp146 := by
  intro vs ps r h _
  simp only [sp146] at h
  split at h
  · cases h; exact fn146 _ 
  · cases h
theorem so146 : Sp1 146 sp146 := ⟨so146_, Proofs.Tryz.f146, _, by kernel_rfl, rfl, by kernel_rfl⟩
theorem fn145 (l : List Int) (hl : l.length ≤ 1000000) : Fn P1 gl1 145 [.one (.sl (.int .i64) l), .one (.fn 146 [] [])] (.val (.one (.frs (.int .i64) (l.map fun n => within n (-1000) 1000)))) true := by
  refine Fn.flat ?_ rfl
  refine fn_of false [(146, sp146)] [] h79 0 Proofs.Tryz.f145 ⟨so146, trivial⟩ trivial (by kernel_rfl) rfl (by kernel_rfl) rfl rfl rfl ?_
  rw [vc145]
  try simp only [splitB_iff, -eq_self]
  refine ⟨⟨0, Nat.zero_le _, rfl, rfl, rfl, by simp⟩, fun g hg => ⟨fun hlt => ?_, fun hge => ?_⟩⟩
  · have hlt' : g < l.length := by simpa using hlt
    refine ⟨by omega, by simp only [room, List.length_map, List.length_take]; omega, by simp only [fits]; omega, g + 1, hlt', by omega, by simp, rfl, rfl, ?_, trivial⟩
    rw [getD_of hlt', List.take_succ_eq_append_getElem hlt', List.map_append]
    rfl
  · have hge' : ¬ g < l.length := by simpa using hge
    rw [List.take_of_length_le (by omega)]
    exact ⟨rfl, trivial⟩
theorem so145_ : SpecOk P1 gl1 145 sp145 := by
  intro vs ps r h hp
  simp only [sp145] at h
  split at h
  · cases h; exact fn145 _ (hp _ (.head _))
  · cases h
theorem so145 : Sp1 145 sp145 := ⟨so145_, Proofs.Tryz.f145, _, by kernel_rfl, rfl, by kernel_rfl⟩
theorem fn79 (t : List Int)  : Fn P1 gl1 79 [.one (.sl (.int .i64) t)] (.val (iV (chkTap t))) true := by
  refine Fn.flat ?_ rfl
  refine fn_of false [(104, sp104), (95, sp95), (145, sp145)] [] h0 0 Proofs.Tryz.f79 ⟨so104, so95, so145, trivial⟩ trivial (by kernel_rfl) rfl (by kernel_rfl) rfl rfl rfl ?_
  rw [vc79]
  try simp only [splitB_iff, -eq_self]
  unfold chkTap
  by_cases h1 : t.length = 0
  · have e : (t.length : Int) = 0 := by omega
    simp [h1, whenE, first]
  · have e : ¬ (t.length : Int) = 0 := by omega
    by_cases h2 : 8 < t.length
    · have e2 : (8 : Int) < (t.length : Int) := by omega
      have e3 : ¬ t = [] := fun k => h1 (by rw [k]; rfl)
      simp [h2, e2, e3, whenE, first]
    · have e2 : ¬ (8 : Int) < (t.length : Int) := by omega
      have e3 : ¬ t = [] := fun k => h1 (by rw [k]; rfl)
      simp [h2, e2, e3, whenE, first]; omega
theorem so79_ : SpecOk P1 gl1 79 sp79 := by
  intro vs ps r h _
  simp only [sp79] at h
  split at h
  · cases h; exact fn79 _ 
  · cases h
theorem so79 : Sp1 79 sp79 := ⟨so79_, Proofs.Tryz.f79, _, by kernel_rfl, rfl, by kernel_rfl⟩
theorem fn72 (t : List Int)  : Fn P1 gl1 72 [.one (.sl (.int .i64) t)] (.tup [.agg [.arr 4 (.cpx .f64) (resN t)], iV (chkTap t)]) true := by
  refine Fn.flat ?_ rfl
  refine fn_of false [(79, sp79), (109, sp109)] [] h79 0 Proofs.Tryz.f72 ⟨so79, so109, trivial⟩ trivial (by kernel_rfl) rfl (by kernel_rfl) rfl rfl rfl ?_
  rw [vc72]
  try simp only [splitB_iff, -eq_self]
  simp only [tab_get (show 0 < 4 by decide), tab_get (show 1 < 4 by decide), tab_get (show 2 < 4 by decide), tab_get (show 3 < 4 by decide), -eq_self]
  unfold resN
  refine ⟨fun h => ?_, fun h => ?_⟩
  · have h := bneZ.1 h
    rw [if_neg h]
    exact ⟨rfl, rfl, trivial⟩
  · have h := bneF.1 h
    obtain ⟨h1, h2, h3⟩ := chkTap_zero.1 h
    rw [if_pos h]
    simp only [fits, -eq_self]
    exact ⟨by omega, bd_le h3 (by omega), by omega, by omega, by omega, by omega, by omega, by omega, by omega, by omega, by omega, by omega, by omega, by omega, by omega, by omega, by omega, by omega, rfl, h.symm, trivial⟩
theorem fn142 (l : List Nat) (t : List Int) (w : Int) (hw : w = 1 ∨ w = -1) : Fn P1 gl1 142 [.one (.sl (.flt .f32) l), .one (.sl (.int .i64) t), iV w] (.tup [.one (.frs (.flt .f32) (fltN l t w)), iV (fltE l t w)]) true := by
  refine Fn.flat ?_ rfl
  refine fn_of false [(41, sp41), (79, sp79), (95, sp95), (108, sp108), (138, sp138)] [fb178, fb179] h142 3 Proofs.Tryz.f142 ⟨so41, so79, so95, so108, so138, trivial⟩ ⟨⟨by kernel_rfl, by kernel_rfl, _, rfl, by kernel_rfl⟩, ⟨by kernel_rfl, by kernel_rfl, _, rfl, by kernel_rfl⟩, trivial⟩ (by kernel_rfl) rfl (by kernel_rfl) rfl rfl rfl ?_
  rw [vc142]
  try simp only [splitB_iff, -eq_self]
  refine ⟨by decide, fun h => ?_, fun h => ?_⟩
  · have h : ¬ fltB l t = 0 := bneZ.1 h
    unfold fltN fltE
    rw [if_neg h, if_neg h]
    exact ⟨rfl, rfl, trivial⟩
  · have h : fltB l t = 0 := bneF.1 h
    have hz := first_zero.1 h
    obtain ⟨k1, k2, k3⟩ := chkSig_zero.1 (hz _ (.head _))
    obtain ⟨t1, t2, t3⟩ := chkTap_zero.1 (hz _ (.tail _ (.head _)))
    have hb := bd_sixs k3
    unfold fltN fltE fltI
    rw [if_pos h, if_pos h]
    simp only [sixs_len, fits, room, tab_len, -eq_self]
    refine ⟨by omega, k3, ⟨0, Nat.zero_le _, rfl, rfl, rfl, rfl, rfl, rfl, rfl, rfl, trivial⟩, fun g hg => ⟨fun hlt => ⟨⟨0, Nat.zero_le _, rfl, rfl, rfl, rfl, rfl, rfl, rfl, rfl, rfl, rfl, rfl, rfl, rfl, trivial⟩, fun j hj => ⟨fun hlt2 => ?_, fun hge2 => ?_⟩⟩, fun hge => ?_⟩⟩
    · have hlt : g < l.length := by simpa using hlt
      have hlt2 : j < t.length := by simpa using hlt2
      have hwj : -(j : Int) ≤ w * (j : Int) ∧ w * (j : Int) ≤ (j : Int) := by rcases hw with e | e <;> rw [e] <;> omega
      have hp := mul_bd (bd_get t3 (i := j) (by omega)) (bd_get hb (i := Int.toNat ((g : Int) - w * (j : Int))) (by omega))
      have hs := swTo_bd (n := l.length) (w := w) (by omega) (lat_bd hb (by omega)) t3 g j
      refine ⟨by omega, by omega, by omega, fun k => ?_, fun k => ?_⟩
      · rw [bcond_r, Bool.and_eq_true] at k
        have k4 := of_decide_eq_true k.1
        have k5 := of_decide_eq_true k.2
        refine ⟨by omega, by omega, by omega, by omega, by omega, j + 1, hlt2, by omega, by simp, ?_, rfl, rfl, rfl, rfl, rfl, rfl, rfl, rfl, rfl, rfl, rfl, trivial⟩
        show _ = if _ then _ else _
        rw [if_pos ⟨k4, k5⟩]
        rfl
      · rw [bcond_r, Bool.and_eq_false_iff] at k
        have k4 : ¬ (0 ≤ (g : Int) - w * (j : Int) ∧ (g : Int) - w * (j : Int) < (l.length : Int)) := by
          rintro ⟨a1, a2⟩
          rcases k with k | k
          · exact of_decide_eq_false k a1
          · exact of_decide_eq_false k a2
        refine ⟨by omega, j + 1, hlt2, by omega, by simp, ?_, rfl, rfl, rfl, rfl, rfl, rfl, rfl, rfl, rfl, rfl, rfl, trivial⟩
        show _ = if _ then _ else _
        rw [if_neg k4]
    · have hlt : g < l.length := by simpa using hlt
      have hj : j ≤ t.length := hj
      have hge2 : ¬ j < t.length := by simpa using hge2
      have e : j = t.length := by omega
      subst e
      exact ⟨by omega, by omega, g + 1, hlt, by omega, by simp, rfl, rfl, rfl, rfl, (tab_succ _ _).symm, rfl, rfl, trivial⟩
    · have hg : g ≤ l.length := hg
      have hge : ¬ g < l.length := by simpa using hge
      have e : g = l.length := by omega
      subst e
      exact ⟨by omega, rfl, rfl, trivial⟩
theorem so142_ : SpecOk P1 gl1 142 sp142 := by
  intro vs ps r h hp
  simp only [sp142] at h
  split at h
  · cases h; exact fn142 _ _ _ (hp _ (.head _))
  · cases h
theorem so142 : Sp1 142 sp142 := ⟨so142_, Proofs.Tryz.f142, _, by kernel_rfl, rfl, by kernel_rfl⟩
theorem fn74 (l : List Nat) (t : List Int)  : Fn P1 gl1 74 [.one (.sl (.flt .f32) l), .one (.sl (.int .i64) t)] (.tup [.one (.frs (.flt .f32) (fltN l t 1)), iV (fltE l t 1)]) true := by
  refine Fn.flat ?_ rfl
  refine fn_of false [(142, sp142)] [] h0 0 Proofs.Tryz.f74 ⟨so142, trivial⟩ trivial (by kernel_rfl) rfl (by kernel_rfl) rfl rfl rfl ?_
  rw [vc74]
  try simp only [splitB_iff, -eq_self]
  exact ⟨.inl rfl, rfl, rfl, trivial⟩
theorem fn75 (l : List Nat) (t : List Int)  : Fn P1 gl1 75 [.one (.sl (.flt .f32) l), .one (.sl (.int .i64) t)] (.tup [.one (.frs (.flt .f32) (fltN l t (-1))), iV (fltE l t (-1))]) true := by
  refine Fn.flat ?_ rfl
  refine fn_of false [(142, sp142)] [] h0 0 Proofs.Tryz.f75 ⟨so142, trivial⟩ trivial (by kernel_rfl) rfl (by kernel_rfl) rfl rfl rfl ?_
  rw [vc75]
  try simp only [splitB_iff, -eq_self]
  exact ⟨.inr rfl, rfl, rfl, trivial⟩
end Go.Sx

namespace Go.Sx
open Go.Proofs Go.RowKit Go.Shelf Go.Lib
theorem arr_tab {H : IH} {k : IntKind} {n : Nat} {zs : List Int} {c : Array Value} (h : Rd H (.arr n (.int k)) zs (seg c 0 (Ty.arr n (.int k)).sz)) (hs : c.size = (Ty.arr n (.int k)).sz) : c = (zs.map fun z => Value.int k z).toArray := by
  obtain ⟨h1, _, h3⟩ := h
  have hz : c.size = zs.length := by rw [hs, show zs.length = n from h1]; simp [Ty.sz]
  apply Array.ext
  · simp [hz]
  · intro i hi hi'
    have hiz : i < zs.length := by omega
    have h4 : ((seg c 0 (Ty.arr n (.int k)).sz).drop (i * (Ty.int k).sz)).take (Ty.int k).sz = [Value.int k zs[i]] := h3 i hiz
    rw [seg_seg (by rw [← hs]; simp [Ty.sz]; omega)] at h4
    have h5 := seg_get (c := c) (o := 0 + i * (Ty.int k).sz) (n := (Ty.int k).sz) (j := 0) (v := Value.int k zs[i]) (by rw [h4]; rfl)
    have e : 0 + i * (Ty.int k).sz + 0 = i := by simp [Ty.sz]
    rw [e, Array.getElem?_eq_getElem hi] at h5
    rw [Option.some.inj h5]
    simp
theorem fn_str {P : Program} {f : FuncId} {w : World} {args : Array Value} {l : List UInt8}
    (h : Calls P f args w fun e w' => e = .returned (.string ⟨l.toArray⟩) ∧ Below w.heap.size w w') :
    Calls P f args w fun e w' => ∃ v H', e = .returned v ∧ Below w.heap.size w w' ∧ Agree H' w' ∧ (∀ b, b < w.heap.size → H' b = if true then none else (fun _ => none : IH) b) ∧ DenRSV w' w.heap.size H' (.val (.one (.str l))) v :=
  h.mono fun _ _ ⟨he, hb⟩ => ⟨_, fun _ => none, he, hb, fun _ _ h => (by cases h), fun _ _ => rfl, rfl, rfl⟩
theorem itoa_fn {P : Program} {ρ : Ren} (L : LaysM.n171 P ρ) {gl : Nat → Option ((t : Ty) × t.T)} {g : Nat} (hg : P.globalNamed "internal/strconv.uint64pow10" = some g)
    (hgl : gl g = some ⟨.arr 20 (.int .u64), Lib.pow10Tab⟩) (n : Int) (hn : fits .i64 n) : Fn P gl (ρ.f 171) [.one (.int .i64 n)] (.val (.one (.str (Lib.itoa n)))) true := by
  intro w H vs hA hG hD
  obtain ⟨v, r, rfl, hv, hr⟩ := hD
  obtain rfl : r = [] := hr
  obtain rfl : v = .int .i64 n := hv
  obtain ⟨c, e, fr, h1, h2, h3⟩ := hG g _ hgl
  have ht : Lib.TabIs P w "internal/strconv.uint64pow10" .u64 Lib.pow10Tab := by
    unfold Lib.TabIs World.var?
    rw [hg]
    simp only [Option.bind_some, hA g _ h1]
    rw [arr_tab h2 h3]
  refine fn_str ((Any.strconv_Itoa L n (by simp only [fits] at hn; omega) (by simp only [fits] at hn; omega) w ht).mono fun e w' ⟨he, k, os, hw⟩ => ⟨he, ?_⟩)
  rw [hw]
  exact below_grow _ _ (Nat.le_refl _) _ _
theorem join_fn {P : Program} {ρ : Ren} (L : Lays.n156 P ρ) (X : Builder.Extra P ρ) {gl : Nat → Option ((t : Ty) × t.T)} (xs : List (List UInt8)) (sep : List UInt8) (h1 : xs.length ≤ 1000000)
    (h2 : (Lib.join xs sep).length ≤ 140737488355328) : Fn P gl (ρ.f 156) [.one (.sl .str xs), .one (.str sep)] (.val (.one (.str (Lib.join xs sep)))) true := by
  intro w H vs hA hG hD
  obtain ⟨v, r, rfl, hv, v2, r2, rfl, hv2, hr⟩ := hD
  obtain rfl : r2 = [] := hr
  obtain rfl : v2 = .string ⟨⟨sep⟩⟩ := hv2
  obtain ⟨a, cap, hc, hcap, hx⟩ := (show Rd H (.sl .str) xs [v] from hv)
  obtain rfl : v = .slice a (List.length xs) cap := by simpa using hc
  refine fn_str ?_
  rcases hx with h0 | ⟨b, off, c, e, fr, rfl, hb, hr⟩
  · obtain rfl : xs = [] := List.length_eq_zero_iff.1 h0
    exact (Any.strings_Join_none L X a cap _ w).mono fun e w' ⟨he, hw⟩ => ⟨by rw [he]; rfl, hw ▸ Below.refl _ _⟩
  · have hbw := hA b _ hb
    have hbs : b < w.heap.size := by
      rcases Nat.lt_or_ge b w.heap.size with h | h
      · exact h
      · rw [Array.getElem?_eq_none h] at hbw; cases hbw
    have e1 : ((xs.map fun x => (⟨⟨x⟩⟩ : ByteArray)).map (·.data.toList)) = xs := by simp [List.map_map, Function.comp_def]
    have := Any.strings_Join L X b off cap (xs.map fun x => (⟨⟨x⟩⟩ : ByteArray)) ⟨⟨sep⟩⟩ w (fun j x hj => ?_) hbs (by simp only [List.length_map]; omega) (by simpa using hcap) (by rw [e1]; exact h2)
    · rw [e1, List.length_map] at this
      exact this
    · rw [List.getElem?_map] at hj
      obtain ⟨y, hy, rfl⟩ := Option.map_eq_some_iff.1 hj
      obtain ⟨hlt, hyj⟩ := List.getElem?_eq_some_iff.1 hy
      have h4 : seg c (off + j * Ty.str.sz) Ty.str.sz = [.string ⟨⟨xs[j]⟩⟩] := hr j hlt
      have h5 := cell_seg (w := w) hbw (o := off + j * Ty.str.sz) (n := Ty.str.sz) 0 (.string ⟨⟨xs[j]⟩⟩) (by rw [h4]; rfl)
      rw [← hyj]
      have e2 : off + j * Ty.str.sz = off + j := by simp [Ty.sz]
      rw [e2] at h5
      exact h5
end Go.Sx

namespace Go.Proofs
open Go.Shelf
def Tryz.lays156_ren : Go.Shelf.Ren := ⟨fun | 156 => 152 | 165 => 185 | 166 => 186 | 169 => 187 | 240 => 203 | 241 => 204 | 276 => 221 | 277 => 222 | n => n, fun | 31 => 155 | 9 => 9 | 3 => 3 | 4 => 4 | 0 => 0 | 20 => 20 | 72 => 250 | 76 => 254 | 70 => 247 | 37 => 248 | 75 => 253 | 127 => 266 | 164 => 281 | 5 => 5 | 80 => 256 | n => n, fun | n => n⟩
theorem Tryz.lays156 : Go.Proofs.Lays.n156 Tryz.prog Tryz.lays156_ren := {
  mixed := by kernel_rfl
  f156 := Tryz.func152.trans (congrArg some (by kernel_rfl))
  f165 := Tryz.func185.trans (congrArg some (by kernel_rfl))
  f166 := Tryz.func186.trans (congrArg some (by kernel_rfl))
  f169 := Tryz.func187.trans (congrArg some (by kernel_rfl))
  f240 := Tryz.func203.trans (congrArg some (by kernel_rfl))
  f241 := Tryz.func204.trans (congrArg some (by kernel_rfl))
  f276 := Tryz.func221.trans (congrArg some (by kernel_rfl))
  f277 := Tryz.func222.trans (congrArg some (by kernel_rfl))
  t0 := Tryz.underlying0
  a0 := Tryz.isAgg0
  z0 := Tryz.sizeOf0
  v0 := Tryz.zeroValue0
  t3 := Tryz.underlying3
  a3 := Tryz.isAgg3
  z3 := Tryz.sizeOf3
  v3 := Tryz.zeroValue3
  t4 := Tryz.underlying4
  a4 := Tryz.isAgg4
  z4 := Tryz.sizeOf4
  v4 := Tryz.zeroValue4
  t9 := Tryz.underlying9
  a9 := Tryz.isAgg9
  z9 := Tryz.sizeOf9
  v9 := Tryz.zeroValue9
  t20 := Tryz.underlying20
  a20 := Tryz.isAgg20
  z20 := Tryz.sizeOf20
  v20 := Tryz.zeroValue20
  t31 := Tryz.underlying155
  a31 := Tryz.isAgg155
  z31 := Tryz.sizeOf155
  v31 := Tryz.zeroValue155
  t37 := Tryz.underlying248
  a37 := Tryz.isAgg248
  z37 := Tryz.sizeOf248
  v37 := Tryz.zeroValue248
  t70 := Tryz.underlying247
  a70 := Tryz.isAgg247
  z70 := Tryz.sizeOf247
  v70 := Tryz.zeroValue247
  t72 := Tryz.underlying250
  a72 := Tryz.isAgg250
  z72 := Tryz.sizeOf250
  v72 := Tryz.zeroValue250
  t75 := Tryz.underlying253
  a75 := Tryz.isAgg253
  z75 := Tryz.sizeOf253
  v75 := Tryz.zeroValue253
  t76 := Tryz.underlying254
  a76 := Tryz.isAgg254
  z76 := Tryz.sizeOf254
  v76 := Tryz.zeroValue254
  t127 := Tryz.underlying266
  a127 := Tryz.isAgg266
  z127 := Tryz.sizeOf266
  v127 := Tryz.zeroValue266
  t164 := Tryz.underlying281
  a164 := Tryz.isAgg281
  z164 := Tryz.sizeOf281
  v164 := Tryz.zeroValue281 }
theorem Tryz.Builder_Extra_156 : Builder.Extra Tryz.prog Tryz.lays156_ren := {
  sizeBuilder := by kernel_rfl
  liesBuilder := by kernel_rfl
  t5 := Tryz.underlying5
  a5 := Tryz.isAgg5
  z5 := Tryz.sizeOf5
  v5 := Tryz.zeroValue5
  infoByte := by kernel_rfl
  cellsByte := by kernel_rfl
  sizeByte := by kernel_rfl
  neB5 := by decide }
def Tryz.laysM171_ren : Go.Shelf.Ren := ⟨fun | 171 => 151 | 243 => 184 | 246 => 202 | 283 => 217 | 284 => 218 | 285 => 219 | 286 => 220 | 129 => 238 | 317 => 237 | 318 => 239 | 319 => 240 | 320 => 241 | 337 => 251 | 338 => 252 | n => n, fun | 3 => 3 | 9 => 9 | 2 => 2 | 4 => 4 | 171 => 276 | 0 => 0 | 53 => 272 | 37 => 248 | 5 => 5 | 173 => 279 | 212 => 296 | 51 => 297 | 20 => 20 | 213 => 298 | 46 => 299 | 232 => 318 | 233 => 319 | n => n, fun | 17 => 2 | 18 => 8 | 19 => 9 | n => n⟩
theorem Tryz.laysM171 : Go.Proofs.LaysM.n171 Tryz.prog Tryz.laysM171_ren := {
  mixed := by kernel_rfl
  f129 := Tryz.func238.trans (congrArg some (by kernel_rfl))
  f171 := Tryz.func151.trans (congrArg some (by kernel_rfl))
  f243 := Tryz.func184.trans (congrArg some (by kernel_rfl))
  f246 := Tryz.func202.trans (congrArg some (by kernel_rfl))
  f283 := Tryz.func217.trans (congrArg some (by kernel_rfl))
  f284 := Tryz.func218.trans (congrArg some (by kernel_rfl))
  f285 := Tryz.func219.trans (congrArg some (by kernel_rfl))
  f286 := Tryz.func220.trans (congrArg some (by kernel_rfl))
  f317 := Tryz.func237.trans (congrArg some (by kernel_rfl))
  f318 := Tryz.func239.trans (congrArg some (by kernel_rfl))
  f319 := Tryz.func240.trans (congrArg some (by kernel_rfl))
  f320 := Tryz.func241.trans (congrArg some (by kernel_rfl))
  f337 := Tryz.func251.trans (congrArg some (by kernel_rfl))
  f338 := Tryz.func252.trans (congrArg some (by kernel_rfl))
  t0 := Tryz.underlying0
  a0 := Tryz.isAgg0
  z0 := Tryz.sizeOf0
  v0 := Tryz.zeroValue0
  t2 := Tryz.underlying2
  a2 := Tryz.isAgg2
  z2 := Tryz.sizeOf2
  v2 := Tryz.zeroValue2
  t3 := Tryz.underlying3
  a3 := Tryz.isAgg3
  z3 := Tryz.sizeOf3
  v3 := Tryz.zeroValue3
  t4 := Tryz.underlying4
  a4 := Tryz.isAgg4
  z4 := Tryz.sizeOf4
  v4 := Tryz.zeroValue4
  t5 := Tryz.underlying5
  a5 := Tryz.isAgg5
  z5 := Tryz.sizeOf5
  v5 := Tryz.zeroValue5
  t9 := Tryz.underlying9
  a9 := Tryz.isAgg9
  z9 := Tryz.sizeOf9
  v9 := Tryz.zeroValue9
  t20 := Tryz.underlying20
  a20 := Tryz.isAgg20
  z20 := Tryz.sizeOf20
  v20 := Tryz.zeroValue20
  t37 := Tryz.underlying248
  a37 := Tryz.isAgg248
  z37 := Tryz.sizeOf248
  v37 := Tryz.zeroValue248
  t46 := Tryz.underlying299
  a46 := Tryz.isAgg299
  z46 := Tryz.sizeOf299
  v46 := Tryz.zeroValue299
  t51 := Tryz.underlying297
  a51 := Tryz.isAgg297
  z51 := Tryz.sizeOf297
  v51 := Tryz.zeroValue297
  t53 := Tryz.underlying272
  a53 := Tryz.isAgg272
  z53 := Tryz.sizeOf272
  v53 := Tryz.zeroValue272
  t171 := Tryz.underlying276
  a171 := Tryz.isAgg276
  z171 := Tryz.sizeOf276
  v171 := Tryz.zeroValue276
  t173 := Tryz.underlying279
  a173 := Tryz.isAgg279
  z173 := Tryz.sizeOf279
  v173 := Tryz.zeroValue279
  t212 := Tryz.underlying296
  a212 := Tryz.isAgg296
  z212 := Tryz.sizeOf296
  v212 := Tryz.zeroValue296
  t213 := Tryz.underlying298
  a213 := Tryz.isAgg298
  z213 := Tryz.sizeOf298
  t232 := Tryz.underlying318
  a232 := Tryz.isAgg318
  z232 := Tryz.sizeOf318
  v232 := Tryz.zeroValue318
  t233 := Tryz.underlying319
  a233 := Tryz.isAgg319
  z233 := Tryz.sizeOf319
  v233 := Tryz.zeroValue319
  g17 := by kernel_rfl
  g18 := by kernel_rfl
  g19 := by kernel_rfl
  i0 := by kernel_rfl
  i2 := by kernel_rfl
  i3 := by kernel_rfl
  i4 := by kernel_rfl
  i5 := by kernel_rfl
  i9 := by kernel_rfl
  i20 := by kernel_rfl
  i37 := by kernel_rfl
  i46 := by kernel_rfl
  i51 := by kernel_rfl
  i53 := by kernel_rfl
  i171 := by kernel_rfl
  i173 := by kernel_rfl
  i212 := by kernel_rfl
  i232 := by kernel_rfl
  i233 := by kernel_rfl
  m17 := by kernel_rfl
  m18 := by kernel_rfl
  m19 := by kernel_rfl }
end Go.Proofs

namespace Go.Sx
theorem itoa1 (n : Int) (hn : fits .i64 n) : Fn P1 gl1 151 [iV n] (.val (sV (Lib.itoa n))) true :=
  itoa_fn Proofs.Tryz.laysM171 (g := 2) (by kernel_rfl) rfl n hn
theorem join1 (xs : List (List UInt8)) (sep : List UInt8) (h1 : xs.length ≤ 1000000) (h2 : (Lib.join xs sep).length ≤ 140737488355328) : Fn P1 gl1 152 [.one (.sl .str xs), sV sep] (.val (sV (Lib.join xs sep))) true :=
  join_fn Proofs.Tryz.lays156 Proofs.Tryz.Builder_Extra_156 xs sep h1 h2
end Go.Sx

namespace Go.Sx.U
def lineW (w : List UInt8) (l : List Nat) : List UInt8 := Lib.join (w :: (sixs l).map Lib.itoa) [32] ++ [10]
def prtN (y u v : List Nat) : List UInt8 := lineW [108, 117, 109, 97] y ++ lineW [117] u ++ lineW [118] v
def prN (y u v : List Nat) : List UInt8 := if chkPt y u v = 0 then prtN y u v else []
def fldM : List (Int × List UInt8 × Option Nat) := [(0, [108, 117, 109, 97], some 181), (1, [117], some 182), (2, [118], some 183)]
end Go.Sx.U
namespace Go.Sx
open U
abbrev fieldT : Ty := .pair .str .fnp
def h88 : Hints := ⟨fun f k s => match f, k with
  | 150, 3 => hMapG (.int .i64) .str Lib.itoa 8 10 5 [1, 9] s
  | _, _ => none, 4⟩
def sp151 : FSpec := ⟨fun vs => match vs with
  | [.one (.int .i64 n)] => some ([fits .i64 n], .val (.one (.str (Lib.itoa n))))
  | _ => none, true⟩
def sp152 : FSpec := ⟨fun vs => match vs with
  | [.one (.sl .str xs), .one (.str sep)] => some ([List.length xs ≤ 1000000, List.length (Lib.join xs sep) ≤ 140737488355328], .val (.one (.str (Lib.join xs sep))))
  | _ => none, true⟩
end Go.Sx
namespace Go.Sx
open U
def sp150 : FSpec := ⟨fun vs => match vs with
  | [.one (.sl (.int .i64) l), .one (.fn 151 [] [])] => some ([List.length l ≤ 1000000, Bd 1000000 l], .val (.one (.frs .str (List.map Lib.itoa l))))
  | _ => none, true⟩
def sp149 : FSpec := ⟨fun vs => match vs with
  | [] => some ([], .val (.one (.mp false true (.int .i64) fieldT fldM)))
  | _ => none, false⟩
end Go.Sx

namespace Go.Sx
open U
theorem vc150 (l : List Int) : exF (env false [(151, sp151)] []) h88 0 150 Proofs.Tryz.f150 [.one (.sl (.int .i64) l), .one (.fn 151 [] [])] (.val (.one (.frs .str (l.map Lib.itoa)))) = (let q0 := (↑(List.length l) : Int); (∃ (g : Nat), Nat.le g (List.length l) ∧ (0 : Int) = (↑g : Int) ∧ q0 = q0 ∧ l = l ∧ List.map Lib.itoa (List.take g l) = [] ∧ True) ∧ ∀ (g : Nat), Nat.le g (List.length l) → splitB (decide ((↑g : Int) < q0)) (((0 : Int) ≤ (↑g : Int) ∧ (↑g : Int) < q0) ∧ fits IntKind.i64 (List.getD l g (0 : Int)) ∧ room (List.length (List.map Lib.itoa (List.take g l)) + (1 : Nat)) (16 : Nat) ∧ fits IntKind.i64 ((↑g : Int) + (1 : Int)) ∧ ∃ (g' : Nat), Nat.le g' (List.length l) ∧ List.length l - g' < List.length l - g ∧ (↑g : Int) + (1 : Int) = (↑g' : Int) ∧ q0 = q0 ∧ l = l ∧ List.map Lib.itoa (List.take g l) ++ [Lib.itoa (List.getD l g (0 : Int))] = List.map Lib.itoa (List.take g' l) ∧ True) (List.map Lib.itoa (List.take g l) = List.map Lib.itoa l ∧ True)) := by
  kernel_rfl
theorem vc149 (_u : Unit) : exF (env false [] []) h0 0 149 Proofs.Tryz.f149 [] (.val (.one (.mp false true (.int .i64) fieldT fldM))) = (mapPut (Ty.int IntKind.i64) (Ty.pair Ty.str Ty.fnp) (mapPut (Ty.int IntKind.i64) (Ty.pair Ty.str Ty.fnp) (mapPut (Ty.int IntKind.i64) (Ty.pair Ty.str Ty.fnp) [] (0 : Int) (Array.toList (ByteArray.data { data := #[(108 : UInt8), (117 : UInt8), (109 : UInt8), (97 : UInt8)] }), some (181 : Nat))) (1 : Int) (Array.toList (ByteArray.data { data := #[(117 : UInt8)] }), some (182 : Nat))) (2 : Int) (Array.toList (ByteArray.data { data := #[(118 : UInt8)] }), some (183 : Nat)) = fldM ∧ True) := by
  kernel_rfl
theorem vc88 (y u v : List Nat) : exF (env false [(26, sp26), (108, sp108), (150, sp150), (152, sp152), (149, sp149)] []) h88 0 88 Proofs.Tryz.f88 [ptV y u v] (.tup [sV (prN y u v), iV (chkPt y u v)]) = (let q2 := (Array.toList (ByteArray.data { data := #[(32 : UInt8)] })); let q4 := ([(Option.getD (mapGet (Ty.int IntKind.i64) (Ty.pair Ty.str Ty.fnp) fldM (0 : Int)) ([], none)).1] ++ List.map Lib.itoa (sixs y)); let q5 := (ByteArray.data { data := #[(10 : UInt8)] }); let q0 := (Lib.join q4 q2 ++ Array.toList q5); let q1 := ([(Option.getD (mapGet (Ty.int IntKind.i64) (Ty.pair Ty.str Ty.fnp) fldM (1 : Int)) ([], none)).1] ++ List.map Lib.itoa (sixs u)); let q3 := ([(Option.getD (mapGet (Ty.int IntKind.i64) (Ty.pair Ty.str Ty.fnp) fldM (2 : Int)) ([], none)).1] ++ List.map Lib.itoa (sixs v)); let q6 := (9223372036854775807 : Nat); let q7 := (ByteArray.data { data := #[] }); let q8 := (1000000 : Nat); let q9 := (Lib.join q1 q2 ++ Array.toList q5); List.length y ≤ (1000000000 : Nat) ∧ splitB (chkPt y u v != (0 : Int)) (Array.toList q7 = prN y u v ∧ chkPt y u v = chkPt y u v ∧ True) (List.length y ≤ q8 ∧ OkS y ∧ List.length (sixs y) ≤ q8 ∧ Bd (1000000 : Int) (sixs y) ∧ room ((1 : Nat) + List.length (List.map Lib.itoa (sixs y))) (16 : Nat) ∧ List.length q4 ≤ q8 ∧ List.length (Lib.join q4 q2) ≤ (140737488355328 : Nat) ∧ List.length (Lib.join q4 q2) + List.length (Array.toList q5) ≤ q6 ∧ List.length (Array.toList q7) + List.length q0 ≤ q6 ∧ fits IntKind.i64 (1 : Int) ∧ List.length u ≤ q8 ∧ OkS u ∧ List.length (sixs u) ≤ q8 ∧ Bd (1000000 : Int) (sixs u) ∧ room ((1 : Nat) + List.length (List.map Lib.itoa (sixs u))) (16 : Nat) ∧ List.length q1 ≤ q8 ∧ List.length (Lib.join q1 q2) ≤ (140737488355328 : Nat) ∧ List.length (Lib.join q1 q2) + List.length (Array.toList q5) ≤ q6 ∧ List.length (Array.toList q7 ++ q0) + List.length q9 ≤ q6 ∧ fits IntKind.i64 (2 : Int) ∧ List.length v ≤ q8 ∧ OkS v ∧ List.length (sixs v) ≤ q8 ∧ Bd (1000000 : Int) (sixs v) ∧ room ((1 : Nat) + List.length (List.map Lib.itoa (sixs v))) (16 : Nat) ∧ List.length q3 ≤ q8 ∧ List.length (Lib.join q3 q2) ≤ (140737488355328 : Nat) ∧ List.length (Lib.join q3 q2) + List.length (Array.toList q5) ≤ q6 ∧ List.length (Array.toList q7 ++ q0 ++ q9) + List.length (Lib.join q3 q2 ++ Array.toList q5) ≤ q6 ∧ fits IntKind.i64 (3 : Int) ∧ Array.toList q7 ++ q0 ++ q9 ++ (Lib.join q3 q2 ++ Array.toList q5) = prN y u v ∧ (0 : Int) = chkPt y u v ∧ True)) := by
  kernel_rfl
end Go.Sx

namespace Go.Sx
open U
theorem so151 : Sp1 151 sp151 := by
  refine ⟨fun vs ps r h hp => ?_, Proofs.Tryz.f151, _, by kernel_rfl, rfl, by kernel_rfl⟩
  simp only [sp151] at h
  split at h
  · cases h; exact itoa1 _ (hp _ (by simp))
  · cases h
theorem so152 : Sp1 152 sp152 := by
  refine ⟨fun vs ps r h hp => ?_, Proofs.Tryz.f152, _, by kernel_rfl, rfl, by kernel_rfl⟩
  simp only [sp152] at h
  split at h
  · cases h; exact join1 _ _ (hp _ (by simp)) (hp _ (by simp))
  · cases h
theorem get0 : (Option.getD (U.mapGet (.int .i64) (.pair .str .fnp) fldM 0) ([], none)).1 = [108, 117, 109, 97] := rfl
theorem get1 : (Option.getD (U.mapGet (.int .i64) (.pair .str .fnp) fldM 1) ([], none)).1 = [117] := rfl
theorem get2 : (Option.getD (U.mapGet (.int .i64) (.pair .str .fnp) fldM 2) ([], none)).1 = [118] := rfl
theorem nd_le : ∀ (k u : Nat), u < 10 ^ (k + 1) → Lib.nDigits u ≤ k + 1
  | 0, u, h => by rw [Lib.nDigits_small (by simpa using h)]; omega
  | k + 1, u, h => by
    by_cases h1 : u < 10
    · rw [Lib.nDigits_small h1]; omega
    · rw [Lib.nDigits_big h1]
      have := nd_le k (u / 10) (by rw [Nat.pow_succ] at h; omega)
      omega
theorem itoa_len {n : Int} (h : -1000000 ≤ n ∧ n ≤ 1000000) : (Lib.itoa n).length ≤ 8 := by
  have h1 : ∀ u : Nat, u < 10 ^ 7 → (Lib.decDigits u).length ≤ 7 := fun u hu => by rw [Lib.decDigits_length]; exact nd_le 6 u hu
  unfold Lib.itoa
  split
  · have := h1 n.natAbs (by omega)
    simp only [List.length_cons]; omega
  · have := h1 n.toNat (by omega)
    omega
theorem lens_le : ∀ {l : List Int}, Bd 1000000 l → Lib.lens (l.map Lib.itoa) ≤ 8 * l.length
  | [], _ => by simp [Lib.lens]
  | n :: r, h => by
    have h1 := itoa_len (h n List.mem_cons_self)
    have h2 := lens_le (l := r) fun m hm => h m (List.mem_cons_of_mem _ hm)
    simp only [Lib.lens, List.map_cons, List.sum_cons, List.length_cons] at h2 ⊢
    omega
theorem line_len (w : List UInt8) {l : List Int} (h : Bd 1000000 l) : (Lib.join ([w] ++ l.map Lib.itoa) [32]).length ≤ w.length + 9 * l.length := by
  have h1 := lens_le h
  have e : [w] ++ l.map Lib.itoa = w :: l.map Lib.itoa := rfl
  rw [e, Lib.join_length]
  simp only [Lib.lens, List.map_cons, List.sum_cons, List.length_cons, List.length_nil, List.length_map] at h1 ⊢
  omega
theorem fn150 (l : List Int) (hl : l.length ≤ 1000000) (hb : Bd 1000000 l) : Fn P1 gl1 150 [.one (.sl (.int .i64) l), .one (.fn 151 [] [])] (.val (.one (.frs .str (l.map Lib.itoa)))) true := by
  refine Fn.flat ?_ rfl
  refine fn_of false [(151, sp151)] [] h88 0 Proofs.Tryz.f150 ⟨so151, trivial⟩ trivial (by kernel_rfl) rfl (by kernel_rfl) rfl rfl rfl ?_
  rw [vc150]
  try simp only [splitB_iff, -eq_self]
  refine ⟨⟨0, Nat.zero_le _, rfl, rfl, rfl, by simp⟩, fun g hg => ⟨fun hlt => ?_, fun hge => ?_⟩⟩
  · have hlt' : g < l.length := by simpa using hlt
    have hk := bd_get hb (i := g) (by omega)
    refine ⟨by omega, by simp only [fits]; omega, by simp only [room, List.length_map, List.length_take]; omega, by simp only [fits]; omega, g + 1, hlt', by omega, by simp, rfl, rfl, ?_, trivial⟩
    rw [getD_of hlt', List.take_succ_eq_append_getElem hlt', List.map_append]
    rfl
  · have hge' : ¬ g < l.length := by simpa using hge
    rw [List.take_of_length_le (by omega)]
    exact ⟨rfl, trivial⟩
theorem so150_ : SpecOk P1 gl1 150 sp150 := by
  intro vs ps r h hp
  simp only [sp150] at h
  split at h
  · cases h; exact fn150 _ (hp _ (.head _)) (hp _ (.tail _ (.head _)))
  · cases h
theorem so150 : Sp1 150 sp150 := ⟨so150_, Proofs.Tryz.f150, _, by kernel_rfl, rfl, by kernel_rfl⟩
theorem fn149   : Fn P1 gl1 149 [] (.val (.one (.mp false true (.int .i64) fieldT fldM))) false := by
  refine fn_of false [] [] h0 0 Proofs.Tryz.f149 trivial trivial (by kernel_rfl) rfl (by kernel_rfl) rfl rfl rfl ?_
  rw [vc149 ()]
  try simp only [-eq_self]
  exact ⟨rfl, trivial⟩
theorem so149_ : SpecOk P1 gl1 149 sp149 := by
  intro vs ps r h _
  simp only [sp149] at h
  split at h
  · cases h; exact fn149  
  · cases h
theorem so149 : Sp1 149 sp149 := ⟨so149_, Proofs.Tryz.f149, _, by kernel_rfl, rfl, by kernel_rfl⟩
theorem fn88 (y u v : List Nat) (hl : y.length ≤ 1000000000) : Fn P1 gl1 88 [ptV y u v] (.tup [sV (prN y u v), iV (chkPt y u v)]) true := by
  refine Fn.flat ?_ rfl
  refine fn_of false [(26, sp26), (108, sp108), (150, sp150), (152, sp152), (149, sp149)] [] h88 0 Proofs.Tryz.f88 ⟨so26, so108, so150, so152, so149, trivial⟩ trivial (by kernel_rfl) rfl (by kernel_rfl) rfl rfl rfl ?_
  rw [vc88]
  try simp only [splitB_iff, -eq_self]
  rw [get0, get1, get2]
  refine ⟨hl, fun h => ?_, fun h => ?_⟩
  · have h := bneZ.1 h
    unfold prN
    rw [if_neg h]
    exact ⟨rfl, rfl, trivial⟩
  · have h := bneF.1 h
    obtain ⟨h1, h2, h3, h4, h5⟩ := chkPt_zero.1 h
    obtain ⟨k1, k2, k3⟩ := chkSig_zero.1 h1
    have j1 := line_len [108, 117, 109, 97] (bd_le (bd_sixs k3) (by omega))
    have j2 := line_len [117] (bd_le (bd_sixs h4) (by omega))
    have j3 := line_len [118] (bd_le (bd_sixs h5) (by omega))
    unfold prN
    rw [if_pos h]
    simp only [sixs_len, List.length_append, List.length_map, List.length_cons, List.length_nil, room, fits, -eq_self] at j1 j2 j3 ⊢
    exact ⟨by omega, k3, by omega, bd_le (bd_sixs k3) (by omega), by omega, by omega, by omega, by omega, by omega, by omega, by omega, h4, by omega, bd_le (bd_sixs h4) (by omega), by omega, by omega, by omega, by omega, by omega, by omega, by omega, h5, by omega, bd_le (bd_sixs h5) (by omega), by omega, by omega, by omega, by omega, by omega, by omega, rfl, h.symm, trivial⟩
end Go.Sx

namespace Go.Sx
open U
def sp20h : FSpec := ⟨fun vs => match vs with
  | [.agg [.one (.sl (.flt .f32) a), .one (.sl (.flt .f32) b), .one (.sl (.flt .f32) d)], .one (.int .i64 n)] => if (show Int from n) = 0 then some ([n = 0, a = [1092616192, 1101004800, 1092616192, 1101004800], b = [1077936128], d = [3221225472]], .tup [.one (.frs (.flt .f32) [1095761920, 1099956224, 1088421888, 1102053376]), iV 0]) else some ([n = 1, a = [1092616192, 1101004800, 1092616192, 1101004800], b = [1077936128], d = [3221225472]], .tup [.one (.frs (.flt .f32) [1088421888, 1102053376, 1095761920, 1099956224]), iV 0])
  | _ => none, true⟩
def sp33h : FSpec := ⟨fun vs => match vs with
  | [.one (.sl (.flt .f32) a)] => some ([a = [1095761920, 1099956224, 1088421888, 1102053376]], .tup [.one (.frs panT [[(1114636288, 0), (1086324736, 1082130432), (3248488448, 0), (1086324736, 3229614080)]]), iV 0])
  | _ => none, true⟩
def sp43h : FSpec := ⟨fun vs => match vs with
  | [.one (.sl (.flt .f32) a), .one (.int .i64 n)] => if (show List Nat from a) = [1095761920, 1099956224, 1088421888, 1102053376] then some ([a = [1095761920, 1099956224, 1088421888, 1102053376], n = 0], .tup [ptV [1092616192, 1101004800, 1092616192, 1101004800] [1077936128] [3221225472], iV 0]) else some ([a = [1095761920, 1099956224, 1093664768, 1102053376], n = 0], .tup [ptV [1094713344, 1101004800, 1094713344, 1101004800] [1065353216] [3221225472], iV 0])
  | _ => none, true⟩
def sp57h : FSpec := ⟨fun vs => match vs with
  | [.agg [.one (.sl (.flt .f32) a), .one (.sl (.flt .f32) b), .one (.sl (.flt .f32) d)]] => some ([a = [1092616192, 1101004800, 1096810496, 1101004800], b = [1077936128], d = [3221225472]], .tup [fV 1073741824, iV 0])
  | _ => none, true⟩
def sp58h : FSpec := ⟨fun vs => match vs with
  | [.agg [.one (.sl (.flt .f32) a), .one (.sl (.flt .f32) b), .one (.sl (.flt .f32) d)], .agg [.one (.sl (.flt .f32) e), .one (.sl (.flt .f32) f), .one (.sl (.flt .f32) g)]] => some ([a = [1092616192, 1101004800, 1096810496, 1101004800], b = [1077936128], d = [3221225472], e = [1094713344, 1101004800, 1094713344, 1101004800], f = [1065353216], g = [3221225472]], .tup [.agg [.arr 2 (.flt .f32) [1073741824, 1073741824]], iV 0])
  | _ => none, true⟩
def sp47h : FSpec := ⟨fun vs => match vs with
  | [.one (.sl (.sl (.flt .f32)) a), .one (.int .i64 n)] => some ([a = [[1095761920, 1099956224, 1093664768, 1102053376], [1088421888, 1102053376, 1099431936, 1099956224]], n = 0], .tup [ptV [1092616192, 1101004800, 1096810496, 1101004800] [1077936128] [3221225472], iV 0])
  | _ => none, true⟩
def sp48h : FSpec := ⟨fun vs => match vs with
  | [.one (.sl (.sl (.flt .f32)) a), .one (.int .i64 n)] => some ([a = [[1095761920, 1099956224, 1093664768, 1102053376], [1088421888, 1102577664, 1100480512, 1100480512], [1099431936, 1101004800, 1093664768, 1103101952]], n = 1], .tup [ptV [1093664768, 1101529088, 1097859072, 1101529088] [1082130432] [3221225472], iV 0])
  | _ => none, true⟩
def sp62h : FSpec := ⟨fun vs => match vs with
  | [.agg [.arr 4 (.flt .f32) a]] => some ([a = [0, 1084227584, 0, 3231711232]], .tup [gsV (0, 160), iV 0])
  | _ => none, true⟩
def sp63h : FSpec := ⟨fun vs => match vs with
  | [.agg [.arr 4 (.flt .f32) a], .one (.int .i64 n)] => some ([a = [0, 1084227584, 0, 3231711232], n = 160], .tup [iV 1, iV 0])
  | _ => none, true⟩
def sp67h : FSpec := ⟨fun vs => match vs with
  | [.one (.sl (.flt .f32) a), .one (.int .i64 n)] => some ([a = [1065353216, 1073741824, 1077936128, 1082130432, 1084227584, 1086324736, 1088421888, 1090519040], n = 1], .tup [.one (.frs (.flt .f32) [1073741824, 1077936128, 1082130432, 1084227584]), iV 0])
  | _ => none, true⟩
def sp68h : FSpec := ⟨fun vs => match vs with
  | [.one (.sl (.flt .f32) a), .agg [.one (.int .i64 m), .one (.int .i64 n)], .one (.flt .f32 b)] => some ([a = [1077936128, 1084227584, 1088421888, 1091567616], m = 0, n = 2, b = 1065353216], .tup [.one (.frs (.flt .f32) [0, 1073741824, 1082130432, 1086324736]), iV 0])
  | _ => none, true⟩
def sp72h : FSpec := ⟨fun vs => match vs with
  | [.one (.sl (.int .i64) a)] => some ([a = [1, 0, -1]], .tup [.agg [.arr 4 (.cpx .f64) [(0, 0), (4611686018427387904, 0), (0, 0), (4611686018427387904, 0)]], iV 0])
  | _ => none, true⟩
def sp74h : FSpec := ⟨fun vs => match vs with
  | [.one (.sl (.flt .f32) a), .one (.sl (.int .i64) t)] => some ([a = [1065353216, 1073741824, 1082130432, 1090519040], t = [1, 0, -1]], .tup [.one (.frs (.flt .f32) [1065353216, 1073741824, 1077936128, 1086324736]), iV 0])
  | _ => none, true⟩
def sp75h : FSpec := ⟨fun vs => match vs with
  | [.one (.sl (.flt .f32) a), .one (.sl (.int .i64) t)] => some ([a = [1065353216, 1073741824, 1082130432, 1090519040], t = [1, 0, -1]], .tup [.one (.frs (.flt .f32) [3225419776, 3233808384, 1082130432, 1090519040]), iV 0])
  | _ => none, true⟩
def sp88h : FSpec := ⟨fun vs => match vs with
  | [.agg [.one (.sl (.flt .f32) a), .one (.sl (.flt .f32) b), .one (.sl (.flt .f32) d)]] => some ([a = [1092616192, 1101004800, 1092616192, 1101004800], b = [1077936128], d = [3221225472]], .tup [sV [108, 117, 109, 97, 32, 49, 54, 48, 32, 51, 50, 48, 32, 49, 54, 48, 32, 51, 50, 48, 10, 117, 32, 52, 56, 10, 118, 32, 45, 51, 50, 10], iV 0])
  | _ => none, true⟩
def sp27h : FSpec := ⟨fun vs => match vs with
  | [.one (.sl (.flt .f32) a), .one (.sl (.flt .f32) b)] => if (show List Nat from a) = b then some ([chkSs a = 0, List.length a ≤ 1000000000], .val (bV true)) else none
  | _ => none, true⟩
def sp45h : FSpec := ⟨fun vs => match vs with
  | [.agg [.one (.sl (.flt .f32) y), .one (.sl (.flt .f32) u), .one (.sl (.flt .f32) v)], .agg [.one (.sl (.flt .f32) y'), .one (.sl (.flt .f32) u'), .one (.sl (.flt .f32) v')]] => if (show Pt from (y, u, v)) = (y', u', v') then some ([chkSs y = 0, List.length y ≤ 1000000000, chkSs u = 0, List.length u ≤ 1000000000, chkSs v = 0, List.length v ≤ 1000000000], .val (bV true)) else none
  | _ => none, true⟩
end Go.Sx
namespace Go.Sx
open U
def sp93 : FSpec := ⟨fun vs => match vs with
  | [] => some ([], .val (ptV [1092616192, 1101004800, 1092616192, 1101004800] [1077936128] [3221225472]))
  | _ => none, true⟩
def sp94 : FSpec := ⟨fun vs => match vs with
  | [] => some ([], .val (ptV [1092616192, 1101004800, 1096810496, 1101004800] [1077936128] [3221225472]))
  | _ => none, true⟩
def sp19 : FSpec := ⟨fun vs => match vs with
  | [] => some ([], .val (bV true))
  | _ => none, true⟩
end Go.Sx

namespace Go.Sx
open U
theorem vc93 (_u : Unit) : exFr (env false [] []) h0 0 93 Proofs.Tryz.f93 [] (.val (ptV [1092616192, 1101004800, 1092616192, 1101004800] [1077936128] [3221225472])) = ([(1092616192 : Nat), (1101004800 : Nat), (1092616192 : Nat), (1101004800 : Nat)] = [(1092616192 : Nat), (1101004800 : Nat), (1092616192 : Nat), (1101004800 : Nat)] ∧ [(1077936128 : Nat)] = [(1077936128 : Nat)] ∧ [(3221225472 : Nat)] = [(3221225472 : Nat)] ∧ True) := by
  kernel_rfl
theorem vc94 (_u : Unit) : exFr (env false [] []) h0 0 94 Proofs.Tryz.f94 [] (.val (ptV [1092616192, 1101004800, 1096810496, 1101004800] [1077936128] [3221225472])) = ([(1092616192 : Nat), (1101004800 : Nat), (1096810496 : Nat), (1101004800 : Nat)] = [(1092616192 : Nat), (1101004800 : Nat), (1096810496 : Nat), (1101004800 : Nat)] ∧ [(1077936128 : Nat)] = [(1077936128 : Nat)] ∧ [(3221225472 : Nat)] = [(3221225472 : Nat)] ∧ True) := by
  kernel_rfl
theorem vc19 (_u : Unit) : exF (env false [(93, sp93), (94, sp94), (46, sp46), (20, sp20h), (33, sp33h), (43, sp43h), (57, sp57h), (58, sp58h), (47, sp47h), (48, sp48h), (62, sp62h), (63, sp63h), (67, sp67h), (68, sp68h), (72, sp72h), (74, sp74h), (75, sp75h), (88, sp88h), (27, sp27h), (45, sp45h)] []) h0 0 19 Proofs.Tryz.f19 [] (.val (bV true)) = ((0 : Int) = (0 : Int) ∧ [(1092616192 : Nat), (1101004800 : Nat), (1092616192 : Nat), (1101004800 : Nat)] = [(1092616192 : Nat), (1101004800 : Nat), (1092616192 : Nat), (1101004800 : Nat)] ∧ [(1077936128 : Nat)] = [(1077936128 : Nat)] ∧ [(3221225472 : Nat)] = [(3221225472 : Nat)] ∧ (1 : Int) = (1 : Int) ∧ [(1092616192 : Nat), (1101004800 : Nat), (1092616192 : Nat), (1101004800 : Nat)] = [(1092616192 : Nat), (1101004800 : Nat), (1092616192 : Nat), (1101004800 : Nat)] ∧ [(1077936128 : Nat)] = [(1077936128 : Nat)] ∧ [(3221225472 : Nat)] = [(3221225472 : Nat)] ∧ [(1095761920 : Nat), (1099956224 : Nat), (1088421888 : Nat), (1102053376 : Nat)] = [(1095761920 : Nat), (1099956224 : Nat), (1088421888 : Nat), (1102053376 : Nat)] ∧ [(1095761920 : Nat), (1099956224 : Nat), (1088421888 : Nat), (1102053376 : Nat)] = [(1095761920 : Nat), (1099956224 : Nat), (1088421888 : Nat), (1102053376 : Nat)] ∧ (0 : Int) = (0 : Int) ∧ [(1095761920 : Nat), (1099956224 : Nat), (1093664768 : Nat), (1102053376 : Nat)] = [(1095761920 : Nat), (1099956224 : Nat), (1093664768 : Nat), (1102053376 : Nat)] ∧ (0 : Int) = (0 : Int) ∧ [(1092616192 : Nat), (1101004800 : Nat), (1096810496 : Nat), (1101004800 : Nat)] = [(1092616192 : Nat), (1101004800 : Nat), (1096810496 : Nat), (1101004800 : Nat)] ∧ [(1077936128 : Nat)] = [(1077936128 : Nat)] ∧ [(3221225472 : Nat)] = [(3221225472 : Nat)] ∧ [(1092616192 : Nat), (1101004800 : Nat), (1096810496 : Nat), (1101004800 : Nat)] = [(1092616192 : Nat), (1101004800 : Nat), (1096810496 : Nat), (1101004800 : Nat)] ∧ [(1077936128 : Nat)] = [(1077936128 : Nat)] ∧ [(3221225472 : Nat)] = [(3221225472 : Nat)] ∧ [(1094713344 : Nat), (1101004800 : Nat), (1094713344 : Nat), (1101004800 : Nat)] = [(1094713344 : Nat), (1101004800 : Nat), (1094713344 : Nat), (1101004800 : Nat)] ∧ [(1065353216 : Nat)] = [(1065353216 : Nat)] ∧ [(3221225472 : Nat)] = [(3221225472 : Nat)] ∧ fits IntKind.i64 (0 : Int) ∧ fits IntKind.i64 (0 : Int) ∧ fits IntKind.i64 (0 : Int) ∧ fits IntKind.i64 (0 : Int) ∧ fits IntKind.i64 (0 : Int) ∧ fits IntKind.i64 (0 : Int) ∧ (((0 : Int) != (0 : Int)) = false → chkSs [(1095761920 : Nat), (1099956224 : Nat), (1088421888 : Nat), (1102053376 : Nat)] = (0 : Int)) ∧ (((0 : Int) != (0 : Int)) = false → (4 : Nat) ≤ (1000000000 : Nat)) ∧ ((bif (0 : Int) != (0 : Int) then true else !true) = false → chkSs [(1088421888 : Nat), (1102053376 : Nat), (1095761920 : Nat), (1099956224 : Nat)] = (0 : Int)) ∧ ((bif (0 : Int) != (0 : Int) then true else !true) = false → (4 : Nat) ≤ (1000000000 : Nat)) ∧ ((bif bif bif (0 : Int) != (0 : Int) then true else !true then true else !true then true else (1 : Int) != (1 : Int)) = false → (0 : Int) ≤ (0 : Int) ∧ (0 : Int) < (1 : Int)) ∧ ((bif bif bif (0 : Int) != (0 : Int) then true else !true then true else !true then true else (1 : Int) != (1 : Int)) = false → (0 : Nat) < (1 : Nat)) ∧ ((bif bif bif bif (0 : Int) != (0 : Int) then true else !true then true else !true then true else (1 : Int) != (1 : Int) then true else !eqT (Ty.arr (4 : Nat) (Ty.cpx FloatKind.f32)) [((1114636288 : Nat), (0 : Nat)), ((1086324736 : Nat), (1082130432 : Nat)), ((3248488448 : Nat), (0 : Nat)), ((1086324736 : Nat), (3229614080 : Nat))] [((1114636288 : Nat), (0 : Nat)), ((1086324736 : Nat), (1082130432 : Nat)), ((3248488448 : Nat), (0 : Nat)), ((1086324736 : Nat), (3229614080 : Nat))]) = false → chkSs [(1092616192 : Nat), (1101004800 : Nat), (1092616192 : Nat), (1101004800 : Nat)] = (0 : Int)) ∧ ((bif bif bif bif (0 : Int) != (0 : Int) then true else !true then true else !true then true else (1 : Int) != (1 : Int) then true else !eqT (Ty.arr (4 : Nat) (Ty.cpx FloatKind.f32)) [((1114636288 : Nat), (0 : Nat)), ((1086324736 : Nat), (1082130432 : Nat)), ((3248488448 : Nat), (0 : Nat)), ((1086324736 : Nat), (3229614080 : Nat))] [((1114636288 : Nat), (0 : Nat)), ((1086324736 : Nat), (1082130432 : Nat)), ((3248488448 : Nat), (0 : Nat)), ((1086324736 : Nat), (3229614080 : Nat))]) = false → (4 : Nat) ≤ (1000000000 : Nat)) ∧ ((bif bif bif bif (0 : Int) != (0 : Int) then true else !true then true else !true then true else (1 : Int) != (1 : Int) then true else !eqT (Ty.arr (4 : Nat) (Ty.cpx FloatKind.f32)) [((1114636288 : Nat), (0 : Nat)), ((1086324736 : Nat), (1082130432 : Nat)), ((3248488448 : Nat), (0 : Nat)), ((1086324736 : Nat), (3229614080 : Nat))] [((1114636288 : Nat), (0 : Nat)), ((1086324736 : Nat), (1082130432 : Nat)), ((3248488448 : Nat), (0 : Nat)), ((1086324736 : Nat), (3229614080 : Nat))]) = false → chkSs [(1077936128 : Nat)] = (0 : Int)) ∧ ((bif bif bif bif (0 : Int) != (0 : Int) then true else !true then true else !true then true else (1 : Int) != (1 : Int) then true else !eqT (Ty.arr (4 : Nat) (Ty.cpx FloatKind.f32)) [((1114636288 : Nat), (0 : Nat)), ((1086324736 : Nat), (1082130432 : Nat)), ((3248488448 : Nat), (0 : Nat)), ((1086324736 : Nat), (3229614080 : Nat))] [((1114636288 : Nat), (0 : Nat)), ((1086324736 : Nat), (1082130432 : Nat)), ((3248488448 : Nat), (0 : Nat)), ((1086324736 : Nat), (3229614080 : Nat))]) = false → (1 : Nat) ≤ (1000000000 : Nat)) ∧ ((bif bif bif bif (0 : Int) != (0 : Int) then true else !true then true else !true then true else (1 : Int) != (1 : Int) then true else !eqT (Ty.arr (4 : Nat) (Ty.cpx FloatKind.f32)) [((1114636288 : Nat), (0 : Nat)), ((1086324736 : Nat), (1082130432 : Nat)), ((3248488448 : Nat), (0 : Nat)), ((1086324736 : Nat), (3229614080 : Nat))] [((1114636288 : Nat), (0 : Nat)), ((1086324736 : Nat), (1082130432 : Nat)), ((3248488448 : Nat), (0 : Nat)), ((1086324736 : Nat), (3229614080 : Nat))]) = false → chkSs [(3221225472 : Nat)] = (0 : Int)) ∧ ((bif bif bif bif (0 : Int) != (0 : Int) then true else !true then true else !true then true else (1 : Int) != (1 : Int) then true else !eqT (Ty.arr (4 : Nat) (Ty.cpx FloatKind.f32)) [((1114636288 : Nat), (0 : Nat)), ((1086324736 : Nat), (1082130432 : Nat)), ((3248488448 : Nat), (0 : Nat)), ((1086324736 : Nat), (3229614080 : Nat))] [((1114636288 : Nat), (0 : Nat)), ((1086324736 : Nat), (1082130432 : Nat)), ((3248488448 : Nat), (0 : Nat)), ((1086324736 : Nat), (3229614080 : Nat))]) = false → (1 : Nat) ≤ (1000000000 : Nat)) ∧ ((bif bif bif bif bif (0 : Int) != (0 : Int) then true else !true then true else !true then true else (1 : Int) != (1 : Int) then true else !eqT (Ty.arr (4 : Nat) (Ty.cpx FloatKind.f32)) [((1114636288 : Nat), (0 : Nat)), ((1086324736 : Nat), (1082130432 : Nat)), ((3248488448 : Nat), (0 : Nat)), ((1086324736 : Nat), (3229614080 : Nat))] [((1114636288 : Nat), (0 : Nat)), ((1086324736 : Nat), (1082130432 : Nat)), ((3248488448 : Nat), (0 : Nat)), ((1086324736 : Nat), (3229614080 : Nat))] then true else !true) = false → chkSs [(1094713344 : Nat), (1101004800 : Nat), (1094713344 : Nat), (1101004800 : Nat)] = (0 : Int)) ∧ ((bif bif bif bif bif (0 : Int) != (0 : Int) then true else !true then true else !true then true else (1 : Int) != (1 : Int) then true else !eqT (Ty.arr (4 : Nat) (Ty.cpx FloatKind.f32)) [((1114636288 : Nat), (0 : Nat)), ((1086324736 : Nat), (1082130432 : Nat)), ((3248488448 : Nat), (0 : Nat)), ((1086324736 : Nat), (3229614080 : Nat))] [((1114636288 : Nat), (0 : Nat)), ((1086324736 : Nat), (1082130432 : Nat)), ((3248488448 : Nat), (0 : Nat)), ((1086324736 : Nat), (3229614080 : Nat))] then true else !true) = false → (4 : Nat) ≤ (1000000000 : Nat)) ∧ ((bif bif bif bif bif (0 : Int) != (0 : Int) then true else !true then true else !true then true else (1 : Int) != (1 : Int) then true else !eqT (Ty.arr (4 : Nat) (Ty.cpx FloatKind.f32)) [((1114636288 : Nat), (0 : Nat)), ((1086324736 : Nat), (1082130432 : Nat)), ((3248488448 : Nat), (0 : Nat)), ((1086324736 : Nat), (3229614080 : Nat))] [((1114636288 : Nat), (0 : Nat)), ((1086324736 : Nat), (1082130432 : Nat)), ((3248488448 : Nat), (0 : Nat)), ((1086324736 : Nat), (3229614080 : Nat))] then true else !true) = false → chkSs [(1065353216 : Nat)] = (0 : Int)) ∧ ((bif bif bif bif bif (0 : Int) != (0 : Int) then true else !true then true else !true then true else (1 : Int) != (1 : Int) then true else !eqT (Ty.arr (4 : Nat) (Ty.cpx FloatKind.f32)) [((1114636288 : Nat), (0 : Nat)), ((1086324736 : Nat), (1082130432 : Nat)), ((3248488448 : Nat), (0 : Nat)), ((1086324736 : Nat), (3229614080 : Nat))] [((1114636288 : Nat), (0 : Nat)), ((1086324736 : Nat), (1082130432 : Nat)), ((3248488448 : Nat), (0 : Nat)), ((1086324736 : Nat), (3229614080 : Nat))] then true else !true) = false → (1 : Nat) ≤ (1000000000 : Nat)) ∧ ((bif bif bif bif bif (0 : Int) != (0 : Int) then true else !true then true else !true then true else (1 : Int) != (1 : Int) then true else !eqT (Ty.arr (4 : Nat) (Ty.cpx FloatKind.f32)) [((1114636288 : Nat), (0 : Nat)), ((1086324736 : Nat), (1082130432 : Nat)), ((3248488448 : Nat), (0 : Nat)), ((1086324736 : Nat), (3229614080 : Nat))] [((1114636288 : Nat), (0 : Nat)), ((1086324736 : Nat), (1082130432 : Nat)), ((3248488448 : Nat), (0 : Nat)), ((1086324736 : Nat), (3229614080 : Nat))] then true else !true) = false → chkSs [(3221225472 : Nat)] = (0 : Int)) ∧ ((bif bif bif bif bif (0 : Int) != (0 : Int) then true else !true then true else !true then true else (1 : Int) != (1 : Int) then true else !eqT (Ty.arr (4 : Nat) (Ty.cpx FloatKind.f32)) [((1114636288 : Nat), (0 : Nat)), ((1086324736 : Nat), (1082130432 : Nat)), ((3248488448 : Nat), (0 : Nat)), ((1086324736 : Nat), (3229614080 : Nat))] [((1114636288 : Nat), (0 : Nat)), ((1086324736 : Nat), (1082130432 : Nat)), ((3248488448 : Nat), (0 : Nat)), ((1086324736 : Nat), (3229614080 : Nat))] then true else !true) = false → (1 : Nat) ≤ (1000000000 : Nat)) ∧ [[(1095761920 : Nat), (1099956224 : Nat), (1093664768 : Nat), (1102053376 : Nat)], [(1088421888 : Nat), (1102053376 : Nat), (1099431936 : Nat), (1099956224 : Nat)]] = [[(1095761920 : Nat), (1099956224 : Nat), (1093664768 : Nat), (1102053376 : Nat)], [(1088421888 : Nat), (1102053376 : Nat), (1099431936 : Nat), (1099956224 : Nat)]] ∧ (0 : Int) = (0 : Int) ∧ [[(1095761920 : Nat), (1099956224 : Nat), (1093664768 : Nat), (1102053376 : Nat)], [(1088421888 : Nat), (1102577664 : Nat), (1100480512 : Nat), (1100480512 : Nat)], [(1099431936 : Nat), (1101004800 : Nat), (1093664768 : Nat), (1103101952 : Nat)]] = [[(1095761920 : Nat), (1099956224 : Nat), (1093664768 : Nat), (1102053376 : Nat)], [(1088421888 : Nat), (1102577664 : Nat), (1100480512 : Nat), (1100480512 : Nat)], [(1099431936 : Nat), (1101004800 : Nat), (1093664768 : Nat), (1103101952 : Nat)]] ∧ (1 : Int) = (1 : Int) ∧ [(0 : Nat), (1084227584 : Nat), (0 : Nat), (3231711232 : Nat)] = [(0 : Nat), (1084227584 : Nat), (0 : Nat), (3231711232 : Nat)] ∧ [(0 : Nat), (1084227584 : Nat), (0 : Nat), (3231711232 : Nat)] = [(0 : Nat), (1084227584 : Nat), (0 : Nat), (3231711232 : Nat)] ∧ (160 : Int) = (160 : Int) ∧ [(1065353216 : Nat), (1073741824 : Nat), (1077936128 : Nat), (1082130432 : Nat), (1084227584 : Nat), (1086324736 : Nat), (1088421888 : Nat), (1090519040 : Nat)] = [(1065353216 : Nat), (1073741824 : Nat), (1077936128 : Nat), (1082130432 : Nat), (1084227584 : Nat), (1086324736 : Nat), (1088421888 : Nat), (1090519040 : Nat)] ∧ (1 : Int) = (1 : Int) ∧ [(1077936128 : Nat), (1084227584 : Nat), (1088421888 : Nat), (1091567616 : Nat)] = [(1077936128 : Nat), (1084227584 : Nat), (1088421888 : Nat), (1091567616 : Nat)] ∧ (0 : Int) = (0 : Int) ∧ (2 : Int) = (2 : Int) ∧ (1065353216 : Nat) = (1065353216 : Nat) ∧ [(1 : Int), (0 : Int), (-1 : Int)] = [(1 : Int), (0 : Int), (-1 : Int)] ∧ [(1065353216 : Nat), (1073741824 : Nat), (1082130432 : Nat), (1090519040 : Nat)] = [(1065353216 : Nat), (1073741824 : Nat), (1082130432 : Nat), (1090519040 : Nat)] ∧ [(1 : Int), (0 : Int), (-1 : Int)] = [(1 : Int), (0 : Int), (-1 : Int)] ∧ [(1065353216 : Nat), (1073741824 : Nat), (1082130432 : Nat), (1090519040 : Nat)] = [(1065353216 : Nat), (1073741824 : Nat), (1082130432 : Nat), (1090519040 : Nat)] ∧ [(1 : Int), (0 : Int), (-1 : Int)] = [(1 : Int), (0 : Int), (-1 : Int)] ∧ [(1092616192 : Nat), (1101004800 : Nat), (1092616192 : Nat), (1101004800 : Nat)] = [(1092616192 : Nat), (1101004800 : Nat), (1092616192 : Nat), (1101004800 : Nat)] ∧ [(1077936128 : Nat)] = [(1077936128 : Nat)] ∧ [(3221225472 : Nat)] = [(3221225472 : Nat)] ∧ fits IntKind.i64 (0 : Int) ∧ fits IntKind.i64 (0 : Int) ∧ fits IntKind.i64 (0 : Int) ∧ fits IntKind.i64 (0 : Int) ∧ fits IntKind.i64 (0 : Int) ∧ fits IntKind.i64 (0 : Int) ∧ fits IntKind.i64 (0 : Int) ∧ fits IntKind.i64 (0 : Int) ∧ fits IntKind.i64 (0 : Int) ∧ (((0 : Int) == (0 : Int)) = true → chkSs [(1092616192 : Nat), (1101004800 : Nat), (1096810496 : Nat), (1101004800 : Nat)] = (0 : Int)) ∧ (((0 : Int) == (0 : Int)) = true → (4 : Nat) ≤ (1000000000 : Nat)) ∧ (((0 : Int) == (0 : Int)) = true → chkSs [(1077936128 : Nat)] = (0 : Int)) ∧ (((0 : Int) == (0 : Int)) = true → (1 : Nat) ≤ (1000000000 : Nat)) ∧ (((0 : Int) == (0 : Int)) = true → chkSs [(3221225472 : Nat)] = (0 : Int)) ∧ (((0 : Int) == (0 : Int)) = true → (1 : Nat) ≤ (1000000000 : Nat)) ∧ ((bif (0 : Int) == (0 : Int) then true else false) = true → chkSs [(1093664768 : Nat), (1101529088 : Nat), (1097859072 : Nat), (1101529088 : Nat)] = (0 : Int)) ∧ ((bif (0 : Int) == (0 : Int) then true else false) = true → (4 : Nat) ≤ (1000000000 : Nat)) ∧ ((bif (0 : Int) == (0 : Int) then true else false) = true → chkSs [(1082130432 : Nat)] = (0 : Int)) ∧ ((bif (0 : Int) == (0 : Int) then true else false) = true → (1 : Nat) ≤ (1000000000 : Nat)) ∧ ((bif (0 : Int) == (0 : Int) then true else false) = true → chkSs [(3221225472 : Nat)] = (0 : Int)) ∧ ((bif (0 : Int) == (0 : Int) then true else false) = true → (1 : Nat) ≤ (1000000000 : Nat)) ∧ ((bif bif bif bif (0 : Int) == (0 : Int) then true else false then true else false then eqT (Ty.pair (Ty.int IntKind.i64) (Ty.int IntKind.i64)) ((0 : Int), (160 : Int)) ((0 : Int), (160 : Int)) else false then (1 : Int) == (1 : Int) else false) = true → chkSs [(1073741824 : Nat), (1077936128 : Nat), (1082130432 : Nat), (1084227584 : Nat)] = (0 : Int)) ∧ ((bif bif bif bif (0 : Int) == (0 : Int) then true else false then true else false then eqT (Ty.pair (Ty.int IntKind.i64) (Ty.int IntKind.i64)) ((0 : Int), (160 : Int)) ((0 : Int), (160 : Int)) else false then (1 : Int) == (1 : Int) else false) = true → (4 : Nat) ≤ (1000000000 : Nat)) ∧ ((bif bif bif bif bif (0 : Int) == (0 : Int) then true else false then true else false then eqT (Ty.pair (Ty.int IntKind.i64) (Ty.int IntKind.i64)) ((0 : Int), (160 : Int)) ((0 : Int), (160 : Int)) else false then (1 : Int) == (1 : Int) else false then true else false) = true → chkSs [(0 : Nat), (1073741824 : Nat), (1082130432 : Nat), (1086324736 : Nat)] = (0 : Int)) ∧ ((bif bif bif bif bif (0 : Int) == (0 : Int) then true else false then true else false then eqT (Ty.pair (Ty.int IntKind.i64) (Ty.int IntKind.i64)) ((0 : Int), (160 : Int)) ((0 : Int), (160 : Int)) else false then (1 : Int) == (1 : Int) else false then true else false) = true → (4 : Nat) ≤ (1000000000 : Nat)) ∧ ((bif bif bif bif bif bif bif (0 : Int) == (0 : Int) then true else false then true else false then eqT (Ty.pair (Ty.int IntKind.i64) (Ty.int IntKind.i64)) ((0 : Int), (160 : Int)) ((0 : Int), (160 : Int)) else false then (1 : Int) == (1 : Int) else false then true else false then true else false then eqT (Ty.arr (4 : Nat) (Ty.cpx FloatKind.f64)) [((0 : Nat), (0 : Nat)), ((4611686018427387904 : Nat), (0 : Nat)), ((0 : Nat), (0 : Nat)), ((4611686018427387904 : Nat), (0 : Nat))] [((0 : Nat), (0 : Nat)), ((4611686018427387904 : Nat), (0 : Nat)), ((0 : Nat), (0 : Nat)), ((4611686018427387904 : Nat), (0 : Nat))] else false) = true → chkSs [(1065353216 : Nat), (1073741824 : Nat), (1077936128 : Nat), (1086324736 : Nat)] = (0 : Int)) ∧ ((bif bif bif bif bif bif bif (0 : Int) == (0 : Int) then true else false then true else false then eqT (Ty.pair (Ty.int IntKind.i64) (Ty.int IntKind.i64)) ((0 : Int), (160 : Int)) ((0 : Int), (160 : Int)) else false then (1 : Int) == (1 : Int) else false then true else false then true else false then eqT (Ty.arr (4 : Nat) (Ty.cpx FloatKind.f64)) [((0 : Nat), (0 : Nat)), ((4611686018427387904 : Nat), (0 : Nat)), ((0 : Nat), (0 : Nat)), ((4611686018427387904 : Nat), (0 : Nat))] [((0 : Nat), (0 : Nat)), ((4611686018427387904 : Nat), (0 : Nat)), ((0 : Nat), (0 : Nat)), ((4611686018427387904 : Nat), (0 : Nat))] else false) = true → (4 : Nat) ≤ (1000000000 : Nat)) ∧ ((bif bif bif bif bif bif bif bif (0 : Int) == (0 : Int) then true else false then true else false then eqT (Ty.pair (Ty.int IntKind.i64) (Ty.int IntKind.i64)) ((0 : Int), (160 : Int)) ((0 : Int), (160 : Int)) else false then (1 : Int) == (1 : Int) else false then true else false then true else false then eqT (Ty.arr (4 : Nat) (Ty.cpx FloatKind.f64)) [((0 : Nat), (0 : Nat)), ((4611686018427387904 : Nat), (0 : Nat)), ((0 : Nat), (0 : Nat)), ((4611686018427387904 : Nat), (0 : Nat))] [((0 : Nat), (0 : Nat)), ((4611686018427387904 : Nat), (0 : Nat)), ((0 : Nat), (0 : Nat)), ((4611686018427387904 : Nat), (0 : Nat))] else false then true else false) = true → chkSs [(3225419776 : Nat), (3233808384 : Nat), (1082130432 : Nat), (1090519040 : Nat)] = (0 : Int)) ∧ ((bif bif bif bif bif bif bif bif (0 : Int) == (0 : Int) then true else false then true else false then eqT (Ty.pair (Ty.int IntKind.i64) (Ty.int IntKind.i64)) ((0 : Int), (160 : Int)) ((0 : Int), (160 : Int)) else false then (1 : Int) == (1 : Int) else false then true else false then true else false then eqT (Ty.arr (4 : Nat) (Ty.cpx FloatKind.f64)) [((0 : Nat), (0 : Nat)), ((4611686018427387904 : Nat), (0 : Nat)), ((0 : Nat), (0 : Nat)), ((4611686018427387904 : Nat), (0 : Nat))] [((0 : Nat), (0 : Nat)), ((4611686018427387904 : Nat), (0 : Nat)), ((0 : Nat), (0 : Nat)), ((4611686018427387904 : Nat), (0 : Nat))] else false then true else false) = true → (4 : Nat) ≤ (1000000000 : Nat)) ∧ (bif bif bif bif bif bif bif bif bif bif (0 : Int) == (0 : Int) then true else false then true else false then eqT (Ty.pair (Ty.int IntKind.i64) (Ty.int IntKind.i64)) ((0 : Int), (160 : Int)) ((0 : Int), (160 : Int)) else false then (1 : Int) == (1 : Int) else false then true else false then true else false then eqT (Ty.arr (4 : Nat) (Ty.cpx FloatKind.f64)) [((0 : Nat), (0 : Nat)), ((4611686018427387904 : Nat), (0 : Nat)), ((0 : Nat), (0 : Nat)), ((4611686018427387904 : Nat), (0 : Nat))] [((0 : Nat), (0 : Nat)), ((4611686018427387904 : Nat), (0 : Nat)), ((0 : Nat), (0 : Nat)), ((4611686018427387904 : Nat), (0 : Nat))] else false then true else false then true else false then [(108 : UInt8), (117 : UInt8), (109 : UInt8), (97 : UInt8), (32 : UInt8), (49 : UInt8), (54 : UInt8), (48 : UInt8), (32 : UInt8), (51 : UInt8), (50 : UInt8), (48 : UInt8), (32 : UInt8), (49 : UInt8), (54 : UInt8), (48 : UInt8), (32 : UInt8), (51 : UInt8), (50 : UInt8), (48 : UInt8), (10 : UInt8), (117 : UInt8), (32 : UInt8), (52 : UInt8), (56 : UInt8), (10 : UInt8), (118 : UInt8), (32 : UInt8), (45 : UInt8), (51 : UInt8), (50 : UInt8), (10 : UInt8)] == Array.toList (ByteArray.data { data := #[(108 : UInt8), (117 : UInt8), (109 : UInt8), (97 : UInt8), (32 : UInt8), (49 : UInt8), (54 : UInt8), (48 : UInt8), (32 : UInt8), (51 : UInt8), (50 : UInt8), (48 : UInt8), (32 : UInt8), (49 : UInt8), (54 : UInt8), (48 : UInt8), (32 : UInt8), (51 : UInt8), (50 : UInt8), (48 : UInt8), (10 : UInt8), (117 : UInt8), (32 : UInt8), (52 : UInt8), (56 : UInt8), (10 : UInt8), (118 : UInt8), (32 : UInt8), (45 : UInt8), (51 : UInt8), (50 : UInt8), (10 : UInt8)] }) else false) = true ∧ True) := by
  kernel_rfl
end Go.Sx

namespace Go.Sx
open U
theorem c20a : Fn P1 gl1 20 [ptV [1092616192, 1101004800, 1092616192, 1101004800] [1077936128] [3221225472], iV 0] (.tup [.one (.frs (.flt .f32) [1095761920, 1099956224, 1088421888, 1102053376]), iV 0]) true := by
  have h := fn20 [1092616192, 1101004800, 1092616192, 1101004800] [1077936128] [3221225472] 0 (by decide)
  rw [show encL [1092616192, 1101004800, 1092616192, 1101004800] [1077936128] [3221225472] 0 = [1095761920, 1099956224, 1088421888, 1102053376] from by decide +kernel, show encE [1092616192, 1101004800, 1092616192, 1101004800] [1077936128] [3221225472] 0 = 0 from by decide +kernel] at h
  exact h
theorem c20b : Fn P1 gl1 20 [ptV [1092616192, 1101004800, 1092616192, 1101004800] [1077936128] [3221225472], iV 1] (.tup [.one (.frs (.flt .f32) [1088421888, 1102053376, 1095761920, 1099956224]), iV 0]) true := by
  have h := fn20 [1092616192, 1101004800, 1092616192, 1101004800] [1077936128] [3221225472] 1 (by decide)
  rw [show encL [1092616192, 1101004800, 1092616192, 1101004800] [1077936128] [3221225472] 1 = [1088421888, 1102053376, 1095761920, 1099956224] from by decide +kernel, show encE [1092616192, 1101004800, 1092616192, 1101004800] [1077936128] [3221225472] 1 = 0 from by decide +kernel] at h
  exact h
theorem so20h_ : SpecOk P1 gl1 20 sp20h := by
  intro vs ps r h hp
  simp only [sp20h] at h
  split at h
  · split at h
    · cases h
      have q0 := hp _ (.head _)
      have q1 := hp _ (.tail _ (.head _))
      have q2 := hp _ (.tail _ (.tail _ (.head _)))
      have q3 := hp _ (.tail _ (.tail _ (.tail _ (.head _))))
      subst q0 q1 q2 q3
      exact c20a
    · cases h
      have q0 := hp _ (.head _)
      have q1 := hp _ (.tail _ (.head _))
      have q2 := hp _ (.tail _ (.tail _ (.head _)))
      have q3 := hp _ (.tail _ (.tail _ (.tail _ (.head _))))
      subst q0 q1 q2 q3
      exact c20b
  · cases h
theorem so20h : Sp1 20 sp20h := ⟨so20h_, Proofs.Tryz.f20, _, by kernel_rfl, rfl, by kernel_rfl⟩
theorem c33a : Fn P1 gl1 33 [.one (.sl (.flt .f32) [1095761920, 1099956224, 1088421888, 1102053376])] (.tup [.one (.frs panT [[(1114636288, 0), (1086324736, 1082130432), (3248488448, 0), (1086324736, 3229614080)]]), iV 0]) true := by
  have h := fn33 [1095761920, 1099956224, 1088421888, 1102053376]
  rw [show panN [1095761920, 1099956224, 1088421888, 1102053376] = [[(1114636288, 0), (1086324736, 1082130432), (3248488448, 0), (1086324736, 3229614080)]] from by decide +kernel, show chkSig [1095761920, 1099956224, 1088421888, 1102053376] = 0 from by decide +kernel] at h
  exact h
theorem so33h_ : SpecOk P1 gl1 33 sp33h := by
  intro vs ps r h hp
  simp only [sp33h] at h
  split at h
  · cases h
    have q0 := hp _ (.head _)
    subst q0
    exact c33a
  · cases h
theorem so33h : Sp1 33 sp33h := ⟨so33h_, Proofs.Tryz.f33, _, by kernel_rfl, rfl, by kernel_rfl⟩
theorem c43a : Fn P1 gl1 43 [.one (.sl (.flt .f32) [1095761920, 1099956224, 1088421888, 1102053376]), iV 0] (.tup [ptV [1092616192, 1101004800, 1092616192, 1101004800] [1077936128] [3221225472], iV 0]) true := by
  have h := fn43 [1095761920, 1099956224, 1088421888, 1102053376] 0
  rw [show bndP [1095761920, 1099956224, 1088421888, 1102053376] 0 = ([1092616192, 1101004800, 1092616192, 1101004800], [1077936128], [3221225472]) from by decide +kernel, show bndE [1095761920, 1099956224, 1088421888, 1102053376] 0 = 0 from by decide +kernel] at h
  exact h
theorem c43b : Fn P1 gl1 43 [.one (.sl (.flt .f32) [1095761920, 1099956224, 1093664768, 1102053376]), iV 0] (.tup [ptV [1094713344, 1101004800, 1094713344, 1101004800] [1065353216] [3221225472], iV 0]) true := by
  have h := fn43 [1095761920, 1099956224, 1093664768, 1102053376] 0
  rw [show bndP [1095761920, 1099956224, 1093664768, 1102053376] 0 = ([1094713344, 1101004800, 1094713344, 1101004800], [1065353216], [3221225472]) from by decide +kernel, show bndE [1095761920, 1099956224, 1093664768, 1102053376] 0 = 0 from by decide +kernel] at h
  exact h
theorem so43h_ : SpecOk P1 gl1 43 sp43h := by
  intro vs ps r h hp
  simp only [sp43h] at h
  split at h
  · split at h
    · cases h
      have q0 := hp _ (.head _)
      have q1 := hp _ (.tail _ (.head _))
      subst q0 q1
      exact c43a
    · cases h
      have q0 := hp _ (.head _)
      have q1 := hp _ (.tail _ (.head _))
      subst q0 q1
      exact c43b
  · cases h
theorem so43h : Sp1 43 sp43h := ⟨so43h_, Proofs.Tryz.f43, _, by kernel_rfl, rfl, by kernel_rfl⟩
theorem c57a : Fn P1 gl1 57 [ptV [1092616192, 1101004800, 1096810496, 1101004800] [1077936128] [3221225472]] (.tup [fV 1073741824, iV 0]) true := by
  have h := fn57 [1092616192, 1101004800, 1096810496, 1101004800] [1077936128] [3221225472] (by decide)
  rw [show (if chkPt [1092616192, 1101004800, 1096810496, 1101004800] [1077936128] [3221225472] = 0 then smp ((unevI (sixs [1092616192, 1101004800, 1096810496, 1101004800]) + 1) / 2) else 0) = 1073741824 from by decide +kernel, show chkPt [1092616192, 1101004800, 1096810496, 1101004800] [1077936128] [3221225472] = 0 from by decide +kernel] at h
  exact h
theorem so57h_ : SpecOk P1 gl1 57 sp57h := by
  intro vs ps r h hp
  simp only [sp57h] at h
  split at h
  · cases h
    have q0 := hp _ (.head _)
    have q1 := hp _ (.tail _ (.head _))
    have q2 := hp _ (.tail _ (.tail _ (.head _)))
    subst q0 q1 q2
    exact c57a
  · cases h
theorem so57h : Sp1 57 sp57h := ⟨so57h_, Proofs.Tryz.f57, _, by kernel_rfl, rfl, by kernel_rfl⟩
theorem c58a : Fn P1 gl1 58 [ptV [1092616192, 1101004800, 1096810496, 1101004800] [1077936128] [3221225472], ptV [1094713344, 1101004800, 1094713344, 1101004800] [1065353216] [3221225472]] (.tup [.agg [.arr 2 (.flt .f32) [1073741824, 1073741824]], iV 0]) true := by
  have h := fn58 [1092616192, 1101004800, 1096810496, 1101004800] [1077936128] [3221225472] [1094713344, 1101004800, 1094713344, 1101004800] [1065353216] [3221225472] (by decide) (by decide)
  rw [show difP [1092616192, 1101004800, 1096810496, 1101004800] [1077936128] [3221225472] [1094713344, 1101004800, 1094713344, 1101004800] [1065353216] [3221225472] = [1073741824, 1073741824] from by decide +kernel, show difE [1092616192, 1101004800, 1096810496, 1101004800] [1077936128] [3221225472] [1094713344, 1101004800, 1094713344, 1101004800] [1065353216] [3221225472] = 0 from by decide +kernel] at h
  exact h
theorem so58h_ : SpecOk P1 gl1 58 sp58h := by
  intro vs ps r h hp
  simp only [sp58h] at h
  split at h
  · cases h
    have q0 := hp _ (.head _)
    have q1 := hp _ (.tail _ (.head _))
    have q2 := hp _ (.tail _ (.tail _ (.head _)))
    have q3 := hp _ (.tail _ (.tail _ (.tail _ (.head _))))
    have q4 := hp _ (.tail _ (.tail _ (.tail _ (.tail _ (.head _)))))
    have q5 := hp _ (.tail _ (.tail _ (.tail _ (.tail _ (.tail _ (.head _))))))
    subst q0 q1 q2 q3 q4 q5
    exact c58a
  · cases h
theorem so58h : Sp1 58 sp58h := ⟨so58h_, Proofs.Tryz.f58, _, by kernel_rfl, rfl, by kernel_rfl⟩
theorem c47a : Fn P1 gl1 47 [fldV [[1095761920, 1099956224, 1093664768, 1102053376], [1088421888, 1102053376, 1099431936, 1099956224]], iV 0] (.tup [ptV [1092616192, 1101004800, 1096810496, 1101004800] [1077936128] [3221225472], iV 0]) true := by
  have h := fn47 [[1095761920, 1099956224, 1093664768, 1102053376], [1088421888, 1102053376, 1099431936, 1099956224]] 0
  rw [show errP (twoE [[1095761920, 1099956224, 1093664768, 1102053376], [1088421888, 1102053376, 1099431936, 1099956224]] 0) (twoI [[1095761920, 1099956224, 1093664768, 1102053376], [1088421888, 1102053376, 1099431936, 1099956224]] 0) = ([1092616192, 1101004800, 1096810496, 1101004800], [1077936128], [3221225472]) from by decide +kernel, show errE (twoE [[1095761920, 1099956224, 1093664768, 1102053376], [1088421888, 1102053376, 1099431936, 1099956224]] 0) (twoI [[1095761920, 1099956224, 1093664768, 1102053376], [1088421888, 1102053376, 1099431936, 1099956224]] 0) = 0 from by decide +kernel] at h
  exact h
theorem so47h_ : SpecOk P1 gl1 47 sp47h := by
  intro vs ps r h hp
  simp only [sp47h] at h
  split at h
  · cases h
    have q0 := hp _ (.head _)
    have q1 := hp _ (.tail _ (.head _))
    subst q0 q1
    exact c47a
  · cases h
theorem so47h : Sp1 47 sp47h := ⟨so47h_, Proofs.Tryz.f47, _, by kernel_rfl, rfl, by kernel_rfl⟩
theorem c48a : Fn P1 gl1 48 [fldV [[1095761920, 1099956224, 1093664768, 1102053376], [1088421888, 1102577664, 1100480512, 1100480512], [1099431936, 1101004800, 1093664768, 1103101952]], iV 1] (.tup [ptV [1093664768, 1101529088, 1097859072, 1101529088] [1082130432] [3221225472], iV 0]) true := by
  have h := fn48 [[1095761920, 1099956224, 1093664768, 1102053376], [1088421888, 1102577664, 1100480512, 1100480512], [1099431936, 1101004800, 1093664768, 1103101952]] 1
  rw [show errP (threeE [[1095761920, 1099956224, 1093664768, 1102053376], [1088421888, 1102577664, 1100480512, 1100480512], [1099431936, 1101004800, 1093664768, 1103101952]] 1) (threeL [[1095761920, 1099956224, 1093664768, 1102053376], [1088421888, 1102577664, 1100480512, 1100480512], [1099431936, 1101004800, 1093664768, 1103101952]] 1) = ([1093664768, 1101529088, 1097859072, 1101529088], [1082130432], [3221225472]) from by decide +kernel, show errE (threeE [[1095761920, 1099956224, 1093664768, 1102053376], [1088421888, 1102577664, 1100480512, 1100480512], [1099431936, 1101004800, 1093664768, 1103101952]] 1) (threeL [[1095761920, 1099956224, 1093664768, 1102053376], [1088421888, 1102577664, 1100480512, 1100480512], [1099431936, 1101004800, 1093664768, 1103101952]] 1) = 0 from by decide +kernel] at h
  exact h
theorem so48h_ : SpecOk P1 gl1 48 sp48h := by
  intro vs ps r h hp
  simp only [sp48h] at h
  split at h
  · cases h
    have q0 := hp _ (.head _)
    have q1 := hp _ (.tail _ (.head _))
    subst q0 q1
    exact c48a
  · cases h
theorem so48h : Sp1 48 sp48h := ⟨so48h_, Proofs.Tryz.f48, _, by kernel_rfl, rfl, by kernel_rfl⟩
theorem c62a : Fn P1 gl1 62 [b4V [0, 1084227584, 0, 3231711232]] (.tup [gsV (0, 160), iV 0]) true := by
  have h := fn62 [0, 1084227584, 0, 3231711232] rfl
  rw [show burZ [0, 1084227584, 0, 3231711232] = (0, 160) from by decide +kernel, show chkSs [0, 1084227584, 0, 3231711232] = 0 from by decide +kernel] at h
  exact h
theorem so62h_ : SpecOk P1 gl1 62 sp62h := by
  intro vs ps r h hp
  simp only [sp62h] at h
  split at h
  · cases h
    have q0 := hp _ (.head _)
    subst q0
    exact c62a
  · cases h
theorem so62h : Sp1 62 sp62h := ⟨so62h_, Proofs.Tryz.f62, _, by kernel_rfl, rfl, by kernel_rfl⟩
theorem c63a : Fn P1 gl1 63 [b4V [0, 1084227584, 0, 3231711232], iV 160] (.tup [iV 1, iV 0]) true := by
  have h := fn63 [0, 1084227584, 0, 3231711232] 160 rfl
  rw [show lkN [0, 1084227584, 0, 3231711232] 160 = 1 from by decide +kernel, show lkE [0, 1084227584, 0, 3231711232] 160 = 0 from by decide +kernel] at h
  exact h
theorem so63h_ : SpecOk P1 gl1 63 sp63h := by
  intro vs ps r h hp
  simp only [sp63h] at h
  split at h
  · cases h
    have q0 := hp _ (.head _)
    have q1 := hp _ (.tail _ (.head _))
    subst q0 q1
    exact c63a
  · cases h
theorem so63h : Sp1 63 sp63h := ⟨so63h_, Proofs.Tryz.f63, _, by kernel_rfl, rfl, by kernel_rfl⟩
theorem c67a : Fn P1 gl1 67 [.one (.sl (.flt .f32) [1065353216, 1073741824, 1077936128, 1082130432, 1084227584, 1086324736, 1088421888, 1090519040]), iV 1] (.tup [.one (.frs (.flt .f32) [1073741824, 1077936128, 1082130432, 1084227584]), iV 0]) true := by
  have h := fn67 [1065353216, 1073741824, 1077936128, 1082130432, 1084227584, 1086324736, 1088421888, 1090519040] 1
  rw [show algN [1065353216, 1073741824, 1077936128, 1082130432, 1084227584, 1086324736, 1088421888, 1090519040] 1 = [1073741824, 1077936128, 1082130432, 1084227584] from by decide +kernel, show algE [1065353216, 1073741824, 1077936128, 1082130432, 1084227584, 1086324736, 1088421888, 1090519040] 1 = 0 from by decide +kernel] at h
  exact h
theorem so67h_ : SpecOk P1 gl1 67 sp67h := by
  intro vs ps r h hp
  simp only [sp67h] at h
  split at h
  · cases h
    have q0 := hp _ (.head _)
    have q1 := hp _ (.tail _ (.head _))
    subst q0 q1
    exact c67a
  · cases h
theorem so67h : Sp1 67 sp67h := ⟨so67h_, Proofs.Tryz.f67, _, by kernel_rfl, rfl, by kernel_rfl⟩
theorem c68a : Fn P1 gl1 68 [.one (.sl (.flt .f32) [1077936128, 1084227584, 1088421888, 1091567616]), gsV (0, 2), fV 1065353216] (.tup [.one (.frs (.flt .f32) [0, 1073741824, 1082130432, 1086324736]), iV 0]) true := by
  have h := fn68 [1077936128, 1084227584, 1088421888, 1091567616] 0 2 1065353216
  rw [show clN [1077936128, 1084227584, 1088421888, 1091567616] 0 2 1065353216 = [0, 1073741824, 1082130432, 1086324736] from by decide +kernel, show clE [1077936128, 1084227584, 1088421888, 1091567616] 0 2 1065353216 = 0 from by decide +kernel] at h
  exact h
theorem so68h_ : SpecOk P1 gl1 68 sp68h := by
  intro vs ps r h hp
  simp only [sp68h] at h
  split at h
  · cases h
    have q0 := hp _ (.head _)
    have q1 := hp _ (.tail _ (.head _))
    have q2 := hp _ (.tail _ (.tail _ (.head _)))
    have q3 := hp _ (.tail _ (.tail _ (.tail _ (.head _))))
    subst q0 q1 q2 q3
    exact c68a
  · cases h
theorem so68h : Sp1 68 sp68h := ⟨so68h_, Proofs.Tryz.f68, _, by kernel_rfl, rfl, by kernel_rfl⟩
theorem c72a : Fn P1 gl1 72 [.one (.sl (.int .i64) [1, 0, -1])] (.tup [.agg [.arr 4 (.cpx .f64) [(0, 0), (4611686018427387904, 0), (0, 0), (4611686018427387904, 0)]], iV 0]) true := by
  have h := fn72 [1, 0, -1]
  rw [show resN [1, 0, -1] = [(0, 0), (4611686018427387904, 0), (0, 0), (4611686018427387904, 0)] from by decide +kernel, show chkTap [1, 0, -1] = 0 from by decide +kernel] at h
  exact h
theorem so72h_ : SpecOk P1 gl1 72 sp72h := by
  intro vs ps r h hp
  simp only [sp72h] at h
  split at h
  · cases h
    have q0 := hp _ (.head _)
    subst q0
    exact c72a
  · cases h
theorem so72h : Sp1 72 sp72h := ⟨so72h_, Proofs.Tryz.f72, _, by kernel_rfl, rfl, by kernel_rfl⟩
theorem c74a : Fn P1 gl1 74 [.one (.sl (.flt .f32) [1065353216, 1073741824, 1082130432, 1090519040]), .one (.sl (.int .i64) [1, 0, -1])] (.tup [.one (.frs (.flt .f32) [1065353216, 1073741824, 1077936128, 1086324736]), iV 0]) true := by
  have h := fn74 [1065353216, 1073741824, 1082130432, 1090519040] [1, 0, -1]
  rw [show fltN [1065353216, 1073741824, 1082130432, 1090519040] [1, 0, -1] 1 = [1065353216, 1073741824, 1077936128, 1086324736] from by decide +kernel, show fltE [1065353216, 1073741824, 1082130432, 1090519040] [1, 0, -1] 1 = 0 from by decide +kernel] at h
  exact h
theorem so74h_ : SpecOk P1 gl1 74 sp74h := by
  intro vs ps r h hp
  simp only [sp74h] at h
  split at h
  · cases h
    have q0 := hp _ (.head _)
    have q1 := hp _ (.tail _ (.head _))
    subst q0 q1
    exact c74a
  · cases h
theorem so74h : Sp1 74 sp74h := ⟨so74h_, Proofs.Tryz.f74, _, by kernel_rfl, rfl, by kernel_rfl⟩
theorem c75a : Fn P1 gl1 75 [.one (.sl (.flt .f32) [1065353216, 1073741824, 1082130432, 1090519040]), .one (.sl (.int .i64) [1, 0, -1])] (.tup [.one (.frs (.flt .f32) [3225419776, 3233808384, 1082130432, 1090519040]), iV 0]) true := by
  have h := fn75 [1065353216, 1073741824, 1082130432, 1090519040] [1, 0, -1]
  rw [show fltN [1065353216, 1073741824, 1082130432, 1090519040] [1, 0, -1] (-1) = [3225419776, 3233808384, 1082130432, 1090519040] from by decide +kernel, show fltE [1065353216, 1073741824, 1082130432, 1090519040] [1, 0, -1] (-1) = 0 from by decide +kernel] at h
  exact h
theorem so75h_ : SpecOk P1 gl1 75 sp75h := by
  intro vs ps r h hp
  simp only [sp75h] at h
  split at h
  · cases h
    have q0 := hp _ (.head _)
    have q1 := hp _ (.tail _ (.head _))
    subst q0 q1
    exact c75a
  · cases h
theorem so75h : Sp1 75 sp75h := ⟨so75h_, Proofs.Tryz.f75, _, by kernel_rfl, rfl, by kernel_rfl⟩
theorem c88a : Fn P1 gl1 88 [ptV [1092616192, 1101004800, 1092616192, 1101004800] [1077936128] [3221225472]] (.tup [sV [108, 117, 109, 97, 32, 49, 54, 48, 32, 51, 50, 48, 32, 49, 54, 48, 32, 51, 50, 48, 10, 117, 32, 52, 56, 10, 118, 32, 45, 51, 50, 10], iV 0]) true := by
  have h := fn88 [1092616192, 1101004800, 1092616192, 1101004800] [1077936128] [3221225472] (by decide)
  rw [show prN [1092616192, 1101004800, 1092616192, 1101004800] [1077936128] [3221225472] = [108, 117, 109, 97, 32, 49, 54, 48, 32, 51, 50, 48, 32, 49, 54, 48, 32, 51, 50, 48, 10, 117, 32, 52, 56, 10, 118, 32, 45, 51, 50, 10] from by decide +kernel, show chkPt [1092616192, 1101004800, 1092616192, 1101004800] [1077936128] [3221225472] = 0 from by decide +kernel] at h
  exact h
theorem so88h_ : SpecOk P1 gl1 88 sp88h := by
  intro vs ps r h hp
  simp only [sp88h] at h
  split at h
  · cases h
    have q0 := hp _ (.head _)
    have q1 := hp _ (.tail _ (.head _))
    have q2 := hp _ (.tail _ (.tail _ (.head _)))
    subst q0 q1 q2
    exact c88a
  · cases h
theorem so88h : Sp1 88 sp88h := ⟨so88h_, Proofs.Tryz.f88, _, by kernel_rfl, rfl, by kernel_rfl⟩
theorem so27h_ : SpecOk P1 gl1 27 sp27h := by
  intro vs ps r h hp
  simp only [sp27h] at h
  split at h
  · rename_i a b
    split at h
    · rename_i e
      cases h
      obtain rfl : a = b := e
      have q0 := hp _ (.head _)
      have h := fn27 a a (hp _ (.tail _ (.head _)))
      rw [sameS_self (chkSs_zero.1 q0)] at h
      exact h
    · cases h
  · cases h
theorem so27h : Sp1 27 sp27h := ⟨so27h_, Proofs.Tryz.f27, _, by kernel_rfl, rfl, by kernel_rfl⟩
theorem so45h_ : SpecOk P1 gl1 45 sp45h := by
  intro vs ps r h hp
  simp only [sp45h] at h
  split at h
  · rename_i y u v y' u' v'
    split at h
    · rename_i e
      cases h
      obtain ⟨rfl, e2⟩ := Prod.mk.inj e
      obtain ⟨rfl, rfl⟩ := Prod.mk.inj e2
      have q0 := hp _ (.head _)
      have q2 := hp _ (.tail _ (.tail _ (.head _)))
      have q4 := hp _ (.tail _ (.tail _ (.tail _ (.tail _ (.head _)))))
      have h := fn45 (y, u, v) (y, u, v) (hp _ (.tail _ (.head _))) (hp _ (.tail _ (.tail _ (.tail _ (.head _))))) (hp _ (.tail _ (.tail _ (.tail _ (.tail _ (.tail _ (.head _)))))))
      rw [show sameP (y, u, v) (y, u, v) = true by unfold sameP; rw [sameS_self (chkSs_zero.1 q0), sameS_self (chkSs_zero.1 q2), sameS_self (chkSs_zero.1 q4)]; rfl] at h
      exact h
    · cases h
  · cases h
theorem so45h : Sp1 45 sp45h := ⟨so45h_, Proofs.Tryz.f45, _, by kernel_rfl, rfl, by kernel_rfl⟩
theorem fn93   : Fn P1 gl1 93 [] (.val (ptV [1092616192, 1101004800, 1092616192, 1101004800] [1077936128] [3221225472])) true := by
  refine fn_ofr false [] [] h0 0 Proofs.Tryz.f93 trivial trivial (by kernel_rfl) rfl (by kernel_rfl) rfl rfl rfl ?_
  rw [vc93 ()]
  try simp only [splitB_iff, -eq_self]
  exact ⟨rfl, rfl, rfl, trivial⟩
theorem so93_ : SpecOk P1 gl1 93 sp93 := by
  intro vs ps r h _
  simp only [sp93] at h
  split at h
  · cases h; exact fn93  
  · cases h
theorem so93 : Sp1 93 sp93 := ⟨so93_, Proofs.Tryz.f93, _, by kernel_rfl, rfl, by kernel_rfl⟩
theorem fn94   : Fn P1 gl1 94 [] (.val (ptV [1092616192, 1101004800, 1096810496, 1101004800] [1077936128] [3221225472])) true := by
  refine fn_ofr false [] [] h0 0 Proofs.Tryz.f94 trivial trivial (by kernel_rfl) rfl (by kernel_rfl) rfl rfl rfl ?_
  rw [vc94 ()]
  try simp only [splitB_iff, -eq_self]
  exact ⟨rfl, rfl, rfl, trivial⟩
theorem so94_ : SpecOk P1 gl1 94 sp94 := by
  intro vs ps r h _
  simp only [sp94] at h
  split at h
  · cases h; exact fn94  
  · cases h
theorem so94 : Sp1 94 sp94 := ⟨so94_, Proofs.Tryz.f94, _, by kernel_rfl, rfl, by kernel_rfl⟩
theorem fn19   : Fn P1 gl1 19 [] (.val (bV true)) true := by
  refine Fn.flat ?_ rfl
  refine fn_of false [(93, sp93), (94, sp94), (46, sp46), (20, sp20h), (33, sp33h), (43, sp43h), (57, sp57h), (58, sp58h), (47, sp47h), (48, sp48h), (62, sp62h), (63, sp63h), (67, sp67h), (68, sp68h), (72, sp72h), (74, sp74h), (75, sp75h), (88, sp88h), (27, sp27h), (45, sp45h)] [] h0 0 Proofs.Tryz.f19 ⟨so93, so94, so46, so20h, so33h, so43h, so57h, so58h, so47h, so48h, so62h, so63h, so67h, so68h, so72h, so74h, so75h, so88h, so27h, so45h, trivial⟩ trivial (by kernel_rfl) rfl (by kernel_rfl) rfl rfl rfl ?_
  rw [vc19 ()]
  try simp only [-eq_self]
  repeat' first | apply And.intro | intro hh
  all_goals first | rfl | trivial | decide +kernel | exact absurd hh (by decide +kernel)
theorem so19_ : SpecOk P1 gl1 19 sp19 := by
  intro vs ps r h _
  simp only [sp19] at h
  split at h
  · cases h; exact fn19  
  · cases h
theorem so19 : Sp1 19 sp19 := ⟨so19_, Proofs.Tryz.f19, _, by kernel_rfl, rfl, by kernel_rfl⟩
end Go.Sx

namespace Go.Sx.U
open Ieee
theorem smpsN_len (l : List Int) : (smpsN l).length ≤ l.length := by
  unfold smpsN
  split <;> simp
theorem shortS_len {l : List Nat} (h : shortS l = true) : l.length ≤ 260 := by
  unfold shortS at h
  simp only [Bool.or_eq_true, decide_eq_true_eq] at h
  omega
theorem shortP_len {y u v : List Nat} (h : shortP y u v = true) : y.length ≤ 260 ∧ u.length ≤ 24 ∧ v.length ≤ 24 := by
  unfold shortP at h
  simp only [Bool.and_eq_true, decide_eq_true_eq] at h
  have := shortS_len h.1
  omega
theorem partsP_len (x : It) : (partsP x).1.length ≤ x.1.length ∧ (partsP x).2.1.length ≤ x.2.1.length ∧ (partsP x).2.2.length ≤ x.2.2.length := by
  unfold partsP
  split
  · exact ⟨smpsN_len _, smpsN_len _, smpsN_len _⟩
  · simp
end Go.Sx.U

namespace Go.Sx
open U
end Go.Sx

namespace Go.Sx
open U
end Go.Sx

namespace Go.Sx
open U
end Go.Sx

namespace Go.Sx.U
end Go.Sx.U

namespace Go.Sx
open U
end Go.Sx
namespace Go.Sx
open U
end Go.Sx

namespace Go.Sx
open U
end Go.Sx

namespace Go.Sx
open U
end Go.Sx

namespace Go.Sx
open Go.Proofs Go.RowKit Go.Shelf Go.Lib
theorem grow_fn {P : Program} {ρ : Ren} (L : Lays8.n4 P ρ) {gl : Nat → Option ((t : Ty) × t.T)} {i : TypeInfo} {z : Value} {t : Ty} (hi : P.info? (ρ.t 25) = some i) (hz : i.zero = some z) (hs : 0 < i.size) (hzs : z.cells.size = t.sz)
    (n : Int) (h0 : 0 ≤ n) (hn : n ≤ 1000000000) (hb : n.toNat * i.bytes ≤ 140737488355328) : Fn P gl (ρ.f 4) [.one .nils, .one (.int .i64 n)] (.val (.one (.frs t []))) true := by
  intro w H vs hA hG hD
  obtain ⟨v, r, rfl, hv, v2, r2, rfl, hv2, hr⟩ := hD
  obtain rfl : r2 = [] := hr
  obtain rfl : v2 = .int .i64 n := hv2
  obtain rfl : v = .slice none 0 0 := hv
  obtain ⟨k, rfl⟩ : ∃ k : Nat, n = k := ⟨n.toNat, by omega⟩
  have hk : ((k : Int)).toNat = k := by omega
  rw [hk] at hb
  by_cases h : k = 0
  · subst h
    refine (Any8.slices_Grow_room L none 0 0 0 w (Nat.le_refl _) (by omega) (by omega) (by omega)).mono fun e w' ⟨he, hw⟩ => ?_
    subst hw
    exact ⟨_, fun _ => none, he, Below.refl _ _, fun _ _ h => (by cases h), fun _ _ => rfl, .inl ⟨rfl, rfl⟩⟩
  · refine (Any8.slices_Grow_grow L i z hi hz hs none 0 0 k [] w (Nat.le_refl _) (by omega) (by rw [Nat.zero_add]; exact hb) (by omega) (by simp) (fun _ => rfl) (fun _ h => by cases h)).mono fun e w' ⟨he, hw⟩ => ?_
    subst hw
    have hcap := grownCap_ge w (0 + k) 0 (ρ.t 25)
    have hcapm := grownCap_le_maxLen w (0 + k) 0 (ρ.t 25) (by simp only [maxLen]; omega)
    refine ⟨_, fun _ => none, he, ⟨rfl, rfl, rfl, ?_, fun j hj => ?_⟩, fun _ _ h => (by cases h), fun _ _ => rfl, .inr ⟨w.heap.size, grownCap w (0 + k) 0 (ρ.t 25), #[] ++ Builtin.zeroCells z.cells (0 + k - 0) ++ Builtin.zeroCells z.cells (grownCap w (0 + k) 0 (ρ.t 25) - (0 + k)), ρ.t 25, rfl, Nat.le_refl _, rfl, ⟨(0, 0), .inl rfl, ?_⟩, Nat.zero_le _, hcapm, ?_, fun i h => absurd h (Nat.not_lt_zero _)⟩⟩
    · show w.heap.size ≤ (w.heap.push _).size
      simp
    · show (w.heap.push _)[j]? = _
      rw [Array.getElem?_push, if_neg (by omega)]
    · show (w.heap.push _)[w.heap.size]? = _
      rw [Array.getElem?_push, if_pos rfl]
    · simp only [Array.size_append, List.size_toArray, List.length_nil, size_zeroCells, hzs]
      rw [Nat.zero_add, ← Nat.add_mul]; congr 1; omega
end Go.Sx

namespace Go.Proofs
open Go.Shelf
def Tryz.lays8_ren : Go.Shelf.Ren := ⟨fun | 4 => 195 | n => n, fun | 22 => 35 | 25 => 3 | n => n, fun | n => n⟩
theorem Tryz.lays8 : Go.Proofs.Lays8.n4 Tryz.prog Tryz.lays8_ren := {
  mixed := by kernel_rfl
  f4 := ⟨"slices.Grow[[]int,int]", by kernel_rfl, Tryz.func195.trans (congrArg some (by kernel_rfl))⟩
  t0 := Tryz.underlying0
  a0 := Tryz.isAgg0
  z0 := Tryz.sizeOf0
  v0 := Tryz.zeroValue0
  t3 := Tryz.underlying3
  a3 := Tryz.isAgg3
  z3 := Tryz.sizeOf3
  v3 := Tryz.zeroValue3
  t4 := Tryz.underlying4
  a4 := Tryz.isAgg4
  z4 := Tryz.sizeOf4
  v4 := Tryz.zeroValue4
  t9 := Tryz.underlying9
  a9 := Tryz.isAgg9
  z9 := Tryz.sizeOf9
  v9 := Tryz.zeroValue9
  t20 := Tryz.underlying20
  a20 := Tryz.isAgg20
  z20 := Tryz.sizeOf20
  v20 := Tryz.zeroValue20
  t22 := Tryz.underlying35
  a22 := Tryz.isAgg35
  z22 := Tryz.sizeOf35
  v22 := Tryz.zeroValue35
}
end Go.Proofs
namespace Go.Sx
theorem grow1 (n : Int) (h0 : 0 ≤ n) (hn : n ≤ 1000000) : Fn P1 gl1 195 [.one .nils, (.one (.int .i64 n))] (.val (.one (.frs (.int .i64) []))) true := by
  obtain ⟨i, z, g1, g2, g3, g4, _, g6⟩ := (tt_ok tab1_ok 3 _ rfl).info
  have hz := g6 (.int .i64) rfl (fun _ => none)
  have hzs : z.cells.size = Ty.sz (.int .i64) := by simpa using Rd.len _ _ _ hz
  have g2' : i.size = 1 := g2
  have g3' : i.bytes = 8 := g3
  exact grow_fn (i := i) (z := z) (t := .int .i64) Proofs.Tryz.lays8 g1 g4 (by omega) hzs n h0 (by omega) (by rw [g3']; omega)
end Go.Sx

namespace Go.Sx.U
def widN (f : Fld) : Nat := (List.getD f 0 []).length
def colN (f : Fld) (a : Nat) : List Int := f.map fun l => List.getD (sixs l) a 0
structure FldOk (f : Fld) (t : List Int) : Prop where
  len : f.length ≤ 32
  sig : ∀ i, i < f.length → (List.getD f i []).length ≤ 256 ∧ (List.getD f i []).length % 4 = 0 ∧ OkS (List.getD f i [])
  wid : ∀ i, i < f.length → (List.getD f i []).length = widN f
  t0 : t.length ≠ 0
  t1 : t.length ≤ 8
  t2 : Bd 1000 t
theorem FldOk.all {f : Fld} {t : List Int} (h : FldOk f t) : ∀ l ∈ f, l.length ≤ 256 ∧ OkS l ∧ l.length = widN f := by
  intro l hl
  obtain ⟨i, hi, rfl⟩ := List.mem_iff_getElem.1 hl
  have h1 := h.sig i hi
  have h2 := h.wid i hi
  rw [getD_of hi] at h1 h2
  exact ⟨h1.1, h1.2.2, h2⟩
theorem FldOk.col {f : Fld} {t : List Int} (h : FldOk f t) (a : Nat) : Bd 16384 (colN f a) := by
  intro n hn
  obtain ⟨l, hl, rfl⟩ := List.mem_map.1 hn
  exact bd_get (bd_sixs (h.all l hl).2.1) (by omega)
theorem FldOk.val {f : Fld} {t : List Int} (h : FldOk f t) (w : Int) (i a j : Nat) : -((j : Int) * 16384000) ≤ swTo f.length (lat (colN f a)) t w i j ∧ swTo f.length (lat (colN f a)) t w i j ≤ (j : Int) * 16384000 := by
  have := swTo_bd (n := f.length) (w := w) (B := 16384) (by omega) (lat_bd (h.col a) (by omega)) h.t2 i j
  simpa using this
end Go.Sx.U

namespace Go.Sx.U
def flatTo (ls : List (List Int)) (i : Nat) : List Int := (ls.take i).flatten
end Go.Sx.U
namespace Go.Sx
open U
def sp195 : FSpec := ⟨fun vs => match vs with
  | [.one .nils, .one (.int .i64 n)] => some ([0 ≤ n, n ≤ 1000000], .val (.one (.frs (.int .i64) [])))
  | _ => none, true⟩
def h158 : Hints := ⟨fun f k s => match f, k with
  | 158, 3 => match listAs s 9 (.sl (.int .i64)) with
    | some ls => some ⟨Nat, fun i => s.at [0, 9, 10] [tI 11 i, tI 3 ((flatTo ls i).length : Int)], fun i => i ≤ List.length ls, fun i => List.length ls - i⟩
    | _ => none
  | 158, 11 => match listAs s 25 (.sl (.int .i64)) with
    | some ls => some ⟨Nat, fun i => ⟨[tI 27 i, (6, .val (.one (.own s.nx)))] ++ keepT [25, 26] s.tm, (s.nx, some (.row (.int .i64) (flatTo ls i))) :: lessO s [6], s.nx + 1, s.lr⟩, fun i => i ≤ List.length ls, fun i => List.length ls - i⟩
    | _ => none
  | _, _ => none, 0⟩
def keepC (l : List Nat) (tm : List (Nat × SV)) : List (Nat × SV) := l.filterMap fun t => (lookT tm t).map fun v => (t, v)
def ptrM (s : St) (t : Nat) : Option Nat := match lookT s.tm t with
  | some (.val (.one (.ptr id 0))) => some id
  | _ => none
def boxX (s : St) (t : Nat) : Option (Nat × List (List Int)) := match lookT s.tm t with
  | some (.val (.one (.ptr id 0))) => match lookO s.ob id with
    | some (.box [.one c]) => match rowAs (lookO s.ob) (.sl (.int .i64)) c with
      | some X => some (id, X)
      | none => none
    | _ => none
  | _ => none
def obK (s : St) (l : List Nat) : List (Nat × Option AObj) := l.map fun i => (i, lookO s.ob i)
end Go.Sx
namespace Go.Sx
open U
def sp158 : FSpec := ⟨fun vs => match vs with
  | [.one (.sl (.sl (.int .i64)) l)] => some ([List.length l ≤ 1000, List.length (List.flatten (show List (List Int) from l)) ≤ 1000000], .val (.one (.frs (.int .i64) (List.flatten (show List (List Int) from l)))))
  | _ => none, true⟩
end Go.Sx
