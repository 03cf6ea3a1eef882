/- The law CompositeAdjoint holds: for every input the call returns true, and its arguments read as before; conditions: the package variables that the row lays hold what the program's text lays. -/
import Derived.Test.YtjbfcdgbjgjliaaGreatDoorS19
import Derived.Test.YtjbfcdgbjgjliaaGreatDoorCards
import Derived.Test.YtjbfcdgbjgjliaaGreatDoorTie
import Derived.WalkKit
import Derived.ProofKit
import Derived.OpenShut
import Derived.Deep.DeepHandedRow
import Derived.Lib.LaidTab
/- CompositeAdjoint: the row and its card. -/
namespace Go.Proofs.YtjbfcdgbjgjliaaGreatDoor.CompositeAdjoint
open Go.ChangeShapes Go.WideShapes Go.ChangeAt Go.RowKit Go.Sx
theorem own : ownKnob Tryz.prog.godebug = none := by kernel_rfl
theorem gPowers : Tryz.prog.globalNamed "genlock/composite.powers" = some 0 := by kernel_rfl
theorem gPow : Tryz.prog.globalNamed "internal/strconv.uint64pow10" = some 2 := by kernel_rfl
theorem laidOut : laidOutB Tryz.prog = true := j4a
theorem pow_lit : Lib.pow10Tab = [1, 10, 100, 1000, 10000, 100000, 1000000, 10000000, 100000000, 1000000000, 10000000000, 100000000000, 1000000000000, 10000000000000, 100000000000000, 1000000000000000, 10000000000000000, 100000000000000000, 1000000000000000000, 10000000000000000000] := by decide +kernel
theorem rd137 : rdChk Tryz.prog 16 137 (.arr 4 (.arr 4 (.int .i8))) = true := by decide +kernel
theorem ag137 : aggOf Tryz.prog 137 = true := by decide +kernel
theorem rd138 : rdChk Tryz.prog 16 138 (.sl (.int .i8)) = true := by decide +kernel
theorem ag138 : aggOf Tryz.prog 138 = false := by decide +kernel
theorem globs {W : World} (h : laidMetH Tryz.prog Rows.compositeAdjointRow.laid W) : GlobOk gl1 (HW W) := by
  rw [MakeChecks.laidMetH_plain _ _ _ (by kernel_rfl)] at h
  intro g x hx
  unfold gl1 at hx
  split at hx
  · cases hx
    exact pairs_at (k := .i64) (zs := [(1, 0), (0, -1), (-1, 0), (0, 1)]) (t := 172) (e := 57) (n := 4) (List.mem_cons_of_mem _ (List.mem_cons_of_mem _ (List.mem_cons_of_mem _ List.mem_cons_self))) gPowers (by kernel_rfl) (by kernel_rfl) rfl (by kernel_rfl) (by kernel_rfl) (by decide +kernel) h
  · cases hx
    have hp := tab_at (k := .u64) (zs := [1, 10, 100, 1000, 10000, 100000, 1000000, 10000000, 100000000, 1000000000, 10000000000, 100000000000, 1000000000000, 10000000000000, 100000000000000, 1000000000000000, 10000000000000000, 100000000000000000, 1000000000000000000, 10000000000000000000]) (t := 296) (e := 272) (n := 20) (List.mem_cons_of_mem _ (List.mem_cons_of_mem _ List.mem_cons_self)) gPow (by kernel_rfl) (by kernel_rfl) (by kernel_rfl) (by kernel_rfl) (by kernel_rfl) h
    rw [← pow_lit] at hp
    exact glob_tab hp gPow
  · cases hx
set_option maxRecDepth 100000 in
theorem contract (H : Type) (enc : TypeId × Value → H) (W : World) (base : Nat) (args : Array Value) (ds gs : List (DataW H)) (before : List MemPlace)
    (hval : ∀ (j : Nat) t v, Tryz.f14.params[j]? = some t → args[j]? = some v → Value.okWide Tryz.prog W .any base t v)
    (hW : DataW.Whole enc Tryz.prog Tryz.f14.params.toList Rows.compositeAdjointSpec.vars false W args.toList ds gs before) (hL : laidMetH Tryz.prog Rows.compositeAdjointRow.laid W) :
    Calls Tryz.prog 14 args W fun e W' => ∃ v, e = .returned v ∧ Rows.compositeAdjointSpec.post enc Tryz.prog Tryz.f14 false true false false W args v W' := by
  have hW' := hW
  obtain ⟨p, q, hA0, hV, rfl, hfz, hnd⟩ := hW
  have hA : DataW.TrodAll enc Tryz.prog W 0 (fun _ => true) true Tryz.f14.params.toList args.toList ds p := hA0
  rw [Tryz.params14] at hA hval
  obtain ⟨v0, vs0, d0, ds0, p0, q0, hargs, rfl, rfl, h0, r0⟩ := trodAll_cons hA
  obtain ⟨v1, vs1, d1, ds1, p1, q1, rfl, rfl, rfl, h1, r1⟩ := trodAll_cons r0
  obtain ⟨v2, vs2, d2, ds2, p2, q2, rfl, rfl, rfl, h2, r2⟩ := trodAll_cons r1
  obtain ⟨rfl, rfl, rfl⟩ := trodAll_nil r2
  obtain rfl : args = #[v0, v1, v2] := by cases args; simp_all
  obtain ⟨c0, y0, rfl, hy0, hw0⟩ := arg_agg rd137 ag137 (hval 0 137 v0 rfl rfl) h0
  obtain ⟨c1, y1, rfl, hy1, hw1⟩ := arg_agg rd137 ag137 (hval 1 137 v1 rfl rfl) h1
  obtain ⟨y2, hy2, hw2⟩ := arg_one rd138 ag138 (hval 2 138 v2 rfl rfl) h2
  have hl0 : c0.length = 16 := Rd.len _ _ _ hy0
  have hl1 : c1.length = 16 := Rd.len _ _ _ hy1
  have r0 : ∀ x ∈ y0, List.length x = 4 := fun x hx => by
    obtain ⟨i, hi, rfl⟩ := List.mem_iff_getElem.1 hx
    exact (hw0.2 i hi).1
  have r1 : ∀ x ∈ y1, List.length x = 4 := fun x hx => by
    obtain ⟨i, hi, rfl⟩ := List.mem_iff_getElem.1 hx
    exact (hw1.2 i hi).1
  have r2 : ∀ x ∈ y2, (-128 : Int) ≤ x ∧ x ≤ 127 := fun x hx => wf_i8 (wf_mem hw2 x hx)
  exact law_calls laidOut rfl (by kernel_rfl) rfl (tb := 4) (by kernel_rfl) rfl hW' (fn14 y0 y1 y2 hw0.1 r0 hw1.1 r1 hw2.1 r2) (globs hL) ⟨_, _, rfl, ⟨c0, rfl, by show Rd _ _ _ (c0.take 16); rw [List.take_of_length_le (by omega)]; exact hy0, by show c0.drop 16 = []; exact List.drop_of_length_le (by omega)⟩, _, _, rfl, ⟨c1, rfl, by show Rd _ _ _ (c1.take 16); rw [List.take_of_length_le (by omega)]; exact hy1, by show c1.drop 16 = []; exact List.drop_of_length_le (by omega)⟩, v2, _, rfl, hy2, rfl⟩
def setTo (k : IntKind) (zs : List Int) : Obj → Obj
  | .cells _ t frozen => .cells (zs.map fun z => Value.int k z).toArray t frozen
  | o => o
noncomputable def laidWorld (os : Os) : World :=
  { World.holding Tryz.prog os ⟨#[], #[], []⟩ with heap := Array.modify (Array.modify (Array.modify (Array.modify ((World.holding Tryz.prog os ⟨#[], #[], []⟩).heap) 8 (setTo .u8 [0, 1, 28, 2, 29, 14, 24, 3, 30, 22, 20, 15, 25, 17, 4, 8, 31, 27, 13, 23, 21, 19, 16, 7, 26, 12, 18, 6, 11, 5, 10, 9])) 9 (setTo .u8 [0, 1, 56, 2, 57, 49, 28, 3, 61, 58, 42, 50, 38, 29, 17, 4, 62, 47, 59, 36, 45, 43, 51, 22, 53, 39, 33, 30, 24, 18, 12, 5, 63, 55, 48, 27, 60, 41, 37, 16, 46, 35, 44, 21, 52, 32, 23, 11, 54, 26, 40, 15, 34, 20, 31, 10, 25, 14, 19, 9, 13, 8, 7, 6])) 2 (setTo .u64 [1, 10, 100, 1000, 10000, 100000, 1000000, 10000000, 100000000, 1000000000, 10000000000, 100000000000, 1000000000000, 10000000000000, 100000000000000, 1000000000000000, 10000000000000000, 100000000000000000, 1000000000000000000, 10000000000000000000])) 0 (setTo .i64 [1, 0, 0, -1, -1, 0, 0, 1]) }
def wargs : Array Value := #[.agg #[.int .i8 0, .int .i8 0, .int .i8 0, .int .i8 0, .int .i8 0, .int .i8 0, .int .i8 0, .int .i8 0, .int .i8 0, .int .i8 0, .int .i8 0, .int .i8 0, .int .i8 0, .int .i8 0, .int .i8 0, .int .i8 0], .agg #[.int .i8 0, .int .i8 0, .int .i8 0, .int .i8 0, .int .i8 0, .int .i8 0, .int .i8 0, .int .i8 0, .int .i8 0, .int .i8 0, .int .i8 0, .int .i8 0, .int .i8 0, .int .i8 0, .int .i8 0, .int .i8 0], .slice none 0 0]
theorem laid_met (os : Os) : laidMet Tryz.prog Rows.compositeAdjointRow.laid ((laidWorld os).forCall (fun _ _ => 0) ⟨#[], wargs, []⟩).memory :=
  laidMet_of_run' 8 (by kernel_rfl) (by kernel_rfl)
theorem reads (os : Os) {H : Type} (enc : TypeId × Value → H) : ∃ places, DataW.whole enc Tryz.prog ((laidWorld os).forCall (fun _ _ => 0) ⟨#[], wargs, []⟩).memory Tryz.f14.params.toList Rows.compositeAdjointSpec.vars false wargs.toList 8 = some ([.agg [.agg [.lit (.int .i8 0), .lit (.int .i8 0), .lit (.int .i8 0), .lit (.int .i8 0)], .agg [.lit (.int .i8 0), .lit (.int .i8 0), .lit (.int .i8 0), .lit (.int .i8 0)], .agg [.lit (.int .i8 0), .lit (.int .i8 0), .lit (.int .i8 0), .lit (.int .i8 0)], .agg [.lit (.int .i8 0), .lit (.int .i8 0), .lit (.int .i8 0), .lit (.int .i8 0)]], .agg [.agg [.lit (.int .i8 0), .lit (.int .i8 0), .lit (.int .i8 0), .lit (.int .i8 0)], .agg [.lit (.int .i8 0), .lit (.int .i8 0), .lit (.int .i8 0), .lit (.int .i8 0)], .agg [.lit (.int .i8 0), .lit (.int .i8 0), .lit (.int .i8 0), .lit (.int .i8 0)], .agg [.lit (.int .i8 0), .lit (.int .i8 0), .lit (.int .i8 0), .lit (.int .i8 0)]], .nil], [], places) :=
  ⟨[], by kernel_rfl⟩
set_option maxRecDepth 100000 in
theorem lifted (os : Os) (started : os.Started) (H : Type) (enc : TypeId × Value → H) (F : Stop.Interp) :
    ReturnsInHanded {} Tryz.checked os 14 .any ((OpenSpec.ofChange Rows.compositeAdjointSpec).preRow enc Tryz.prog Tryz.f14 Rows.compositeAdjointRow.domain false Rows.compositeAdjointRow.laid) (((OpenSpec.ofChange Rows.compositeAdjointSpec).at F).post enc Tryz.prog Tryz.f14 false true false false) := by
  obtain ⟨places, hx⟩ := reads os enc
  refine returnsInHanded_of_row (C := Tryz.checked) (s := OpenSpec.ofChange Rows.compositeAdjointSpec) own started (by kernel_rfl) Tryz.func14
    (witness_row_at (enc := enc) (C := Tryz.checked) false (laidWorld os) wargs rfl (by kernel_rfl) (by kernel_rfl) (by kernel_rfl)
      (OpenSpec.preRow_of_cond 8 hx (by kernel_rfl) (fun k hk => by cases hk) (by kernel_rfl) (laid_met os))) ?_
  intro W base args ds gs before hval hW _ _ _ hL _ _
  exact contract H enc W base args ds gs before hval hW hL
theorem j0 : laidOutB Tryz.pinned.checked.prog = true := j4a
theorem j1 : mapsRowed Tryz.pinned.checked.prog = true := j4b
theorem j2 : (Rows.compositeAdjointRow.inPlace == Tryz.pinned.checked.prog.inPlace 14) = true := by kernel_rfl
theorem j3 : (Rows.compositeAdjointRow.unfollowed == Tryz.pinned.checked.prog.unfollowed 14) = true := by kernel_rfl
theorem j4 : (Rows.compositeAdjointRow.recurses == Tryz.pinned.checked.prog.recurses 14) = true := by kernel_rfl
theorem j5 : (Rows.compositeAdjointRow.named == Tryz.pinned.checked.prog.varsNamed 14) = true := by kernel_rfl
theorem j6 : Tryz.pinned.checked.prog.stopsHeard = true := j4c
theorem j7 : Tryz.pinned.checked.prog.mayEnter = true := j4d
theorem closed : joinedFacts Tryz.pinned.checked.prog 14 Tryz.f14 (OpenSpec.ofChange Rows.compositeAdjointSpec).bare Rows.compositeAdjointRow = true := by
  unfold joinedFacts
  rw [j0, j1, j2, j3, j4, j5, j6, j7]
  kernel_rfl
theorem said : Rows.CompositeAdjointSaid :=
  OpenClaim.holds_of_cond 14 Tryz.f14 rfl rfl rfl rfl rfl rfl rfl ⟨rfl, rfl, rfl, rfl, rfl⟩ rfl rfl rfl rfl rfl (by kernel_rfl) Tryz.func14 closed
    (of_decide_eq_true (by kernel_rfl)) (by unfold Func.isWrapper; first | (rw [if_pos (by decide +kernel)]; kernel_rfl) | (rw [if_neg (by decide +kernel)]; exact ⟨rfl, rfl⟩))
    (fun os started H enc _ F => by rw [OpenClaim.pre_eq_preRow]; exact lifted os started H enc F)
theorem plain (f : FuncId) (fn : Func) (hf : Tryz.pinned.checked.prog.funcNamed "genlock/genlocklaw03.CompositeAdjoint" = some f) (hfn : Tryz.pinned.checked.prog.funcs[f]? = some fn) :
    true = Tryz.pinned.checked.prog.looks [] ∧ ∀ (j : Nat) t, fn.params[j]? = some t → Tryz.pinned.checked.prog.wantsStandIn t = false := by
  obtain rfl : f = 14 := Option.some.inj ((show Tryz.prog.funcNamed "genlock/genlocklaw03.CompositeAdjoint" = some 14 by kernel_rfl).symm.trans hf) |>.symm
  obtain rfl : fn = Tryz.f14 := (Option.some.inj (Tryz.func14.symm.trans hfn)).symm
  refine ⟨by kernel_rfl, fun j t ht => ?_⟩
  rw [Tryz.params14] at ht
  have hm : t ∈ [137, 137, 138] := by simpa using Array.mem_of_getElem? ht
  have hall : ([137, 137, 138].all fun u => !Tryz.prog.wantsStandIn u) = true := by kernel_rfl
  exact (show Tryz.prog.wantsStandIn t = false by simpa using List.all_eq_true.1 hall t hm)
theorem g1 : Tryz.pinned.checked.prog.mainIs = some (true, "3e979f7626ed13d08699ead7b200aa91fb70bbeb356de8bb752c23a4f8cad264".toList) := by kernel_rfl
theorem g2 : false = Rows.compositeAdjointRow.goesBy Tryz.pinned.checked.prog := by kernel_rfl
theorem g3 : Rows.compositeAdjointRow.wfByText (OpenSpec.ofChange Rows.compositeAdjointSpec) = true := by kernel_rfl
theorem card : Rows.CompositeAdjointCardSaid :=
  Claim7.holds_tied_plain_at .later [] _ _ (true, "3e979f7626ed13d08699ead7b200aa91fb70bbeb356de8bb752c23a4f8cad264") _ said (fun _ h => by cases h) g3 (fun _ h => by cases h) compositeAdjoint_row_tie rfl ⟨rfl, rfl⟩ g1 rfl plain g2
#print axioms card
end Go.Proofs.YtjbfcdgbjgjliaaGreatDoor.CompositeAdjoint
