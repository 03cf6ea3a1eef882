/- The law TopDollyPrimaries holds: for every input the call returns true, and its arguments read as before; conditions: the package variables that the row lays hold what the program's text lays. -/
import Derived.Test.YtlgimjcnnndbhaaGreatDoorS17
import Derived.Test.YtlgimjcnnndbhaaGreatDoorCards
import Derived.Test.YtlgimjcnnndbhaaGreatDoorTie
import Derived.WalkKit
import Derived.ProofKit
import Derived.OpenShut
import Derived.Deep.DeepHandedRow
import Derived.Lib.LaidTab
namespace Go.Proofs.YtlgimjcnnndbhaaGreatDoor.TopDollyPrimaries
open Go.ChangeShapes Go.WideShapes Go.ChangeAt Go.RowKit Go.Sx
theorem own : ownKnob Tryz.prog.godebug = none := by kernel_rfl
theorem gOthers : Tryz.prog.globalNamed "genlock/colour.others" = some 0 := by kernel_rfl
theorem laidOut : laidOutB Tryz.prog = true := j4a
theorem rd22 : rdChk Tryz.prog 16 22 (.sl (.arr 3 (.int .i16))) = true := by decide +kernel
theorem ag22 : aggOf Tryz.prog 22 = false := by decide +kernel
theorem rd5 : rdChk Tryz.prog 16 5 (.int .u8) = true := by decide +kernel
theorem ag5 : aggOf Tryz.prog 5 = false := by decide +kernel
theorem globs {W : World} (h : laidMetH Tryz.prog Rows.topDollyPrimariesRow.laid W) : GlobOk gl1 (HW W) := by
  rw [MakeChecks.laidMetH_plain _ _ _ (by kernel_rfl)] at h
  intro g x hx
  unfold gl1 at hx
  split at hx
  · cases hx
    exact rows_at (k := .i64) (zs := [[1, 2], [2, 0], [0, 1]]) (t := 117) (e := 110) (f := 3) (n := 3) (m := 2) List.mem_cons_self gOthers (by kernel_rfl) (by kernel_rfl) rfl (fun z hz => by simp at hz; rcases hz with rfl | rfl | rfl <;> rfl) (by kernel_rfl) (by kernel_rfl) (by kernel_rfl) (by kernel_rfl) (by kernel_rfl) h
  · cases hx
set_option maxRecDepth 100000 in
theorem contract (H : Type) (enc : TypeId × Value → H) (W : World) (base : Nat) (args : Array Value) (ds gs : List (DataW H)) (before : List MemPlace)
    (hval : ∀ (j : Nat) t v, Tryz.f3.params[j]? = some t → args[j]? = some v → Value.okWide Tryz.prog W .any base t v)
    (hW : DataW.Whole enc Tryz.prog Tryz.f3.params.toList Rows.topDollyPrimariesSpec.vars false W args.toList ds gs before) (hL : laidMetH Tryz.prog Rows.topDollyPrimariesRow.laid W) :
    Calls Tryz.prog 3 args W fun e W' => ∃ v, e = .returned v ∧ Rows.topDollyPrimariesSpec.post enc Tryz.prog Tryz.f3 false true false false W args v W' := by
  have hW' := hW
  obtain ⟨p, q, hA0, hV, rfl, hfz, hnd⟩ := hW
  have hA : DataW.TrodAll enc Tryz.prog W 0 (fun _ => true) true Tryz.f3.params.toList args.toList ds p := hA0
  rw [Tryz.params3] at hA hval
  obtain ⟨v0, vs0, d0, ds0, p0, q0, hargs, rfl, rfl, h0, r0⟩ := trodAll_cons hA
  obtain ⟨v1, vs1, d1, ds1, p1, q1, rfl, rfl, rfl, h1, r1⟩ := trodAll_cons r0
  obtain ⟨rfl, rfl, rfl⟩ := trodAll_nil r1
  obtain rfl : args = #[v0, v1] := by cases args; simp_all
  obtain ⟨y0, hy0, hw0⟩ := arg_one rd22 ag22 (hval 0 22 v0 rfl rfl) h0
  obtain ⟨y1, hy1, hw1⟩ := arg_one rd5 ag5 (hval 1 5 v1 rfl rfl) h1
  have r0 : ∀ x ∈ y0, List.length x = 3 ∧ U.Bd 32768 x := fun x hx => by
    have w := wf_mem hw0 x hx
    refine ⟨w.1, fun n hn => ?_⟩
    obtain ⟨i, hi, rfl⟩ := List.mem_iff_getElem.1 hn
    have e := w.2 i hi
    have e : (Lit.int .i16 x[i]).wf = true := e
    simp [Lit.wf, IntKind.min, IntKind.max, IntKind.signed, IntKind.bits] at e
    omega
  have e1 : (0 : Int) ≤ y1 ∧ y1 ≤ 255 := wf_u8 hw1
  exact law_calls laidOut rfl (by kernel_rfl) rfl (tb := 4) (by kernel_rfl) rfl hW' (fn3 y0 y1 r0 e1) (globs hL) ⟨v0, _, rfl, hy0, v1, _, rfl, (List.cons.inj hy1).1, rfl⟩
def setTo (k : IntKind) (zs : List Int) : Obj → Obj
  | .cells _ t frozen => .cells (zs.map fun z => Value.int k z).toArray t frozen
  | o => o
noncomputable def laidWorld (os : Os) : World :=
  { World.holding Tryz.prog os ⟨#[], #[], []⟩ with heap := Array.modify ((World.holding Tryz.prog os ⟨#[], #[], []⟩).heap) 0 (setTo .i64 [1, 2, 2, 0, 0, 1]) }
def wargs : Array Value := #[.slice none 0 0, .int .u8 0]
theorem laid_met (os : Os) : laidMet Tryz.prog Rows.topDollyPrimariesRow.laid ((laidWorld os).forCall (fun _ _ => 0) ⟨#[], wargs, []⟩).memory :=
  laidMet_of_run' 8 (by kernel_rfl) (by kernel_rfl)
theorem reads (os : Os) {H : Type} (enc : TypeId × Value → H) : ∃ places, DataW.whole enc Tryz.prog ((laidWorld os).forCall (fun _ _ => 0) ⟨#[], wargs, []⟩).memory Tryz.f3.params.toList Rows.topDollyPrimariesSpec.vars false wargs.toList 8 = some ([.nil, .lit (.int .u8 0)], [], places) :=
  ⟨[], by kernel_rfl⟩
set_option maxRecDepth 100000 in
theorem lifted (os : Os) (started : os.Started) (H : Type) (enc : TypeId × Value → H) (F : Stop.Interp) :
    ReturnsInHanded {} Tryz.checked os 3 .any ((OpenSpec.ofChange Rows.topDollyPrimariesSpec).preRow enc Tryz.prog Tryz.f3 Rows.topDollyPrimariesRow.domain false Rows.topDollyPrimariesRow.laid) (((OpenSpec.ofChange Rows.topDollyPrimariesSpec).at F).post enc Tryz.prog Tryz.f3 false true false false) := by
  obtain ⟨places, hx⟩ := reads os enc
  refine returnsInHanded_of_row (C := Tryz.checked) (s := OpenSpec.ofChange Rows.topDollyPrimariesSpec) own started (by kernel_rfl) Tryz.func3
    (witness_row_at (enc := enc) (C := Tryz.checked) false (laidWorld os) wargs rfl (by kernel_rfl) (by kernel_rfl) (by kernel_rfl)
      (OpenSpec.preRow_of_cond 8 hx (by kernel_rfl) (fun k hk => by cases hk) (by kernel_rfl) (laid_met os))) ?_
  intro W base args ds gs before hval hW _ _ _ hL _ _
  exact contract H enc W base args ds gs before hval hW hL
theorem j0 : laidOutB Tryz.pinned.checked.prog = true := j4a
theorem j1 : mapsRowed Tryz.pinned.checked.prog = true := j4b
theorem j2 : (Rows.topDollyPrimariesRow.inPlace == Tryz.pinned.checked.prog.inPlace 3) = true := by kernel_rfl
theorem j3 : (Rows.topDollyPrimariesRow.unfollowed == Tryz.pinned.checked.prog.unfollowed 3) = true := by kernel_rfl
theorem j4 : (Rows.topDollyPrimariesRow.recurses == Tryz.pinned.checked.prog.recurses 3) = true := by kernel_rfl
theorem j5 : (Rows.topDollyPrimariesRow.named == Tryz.pinned.checked.prog.varsNamed 3) = true := by kernel_rfl
theorem j6 : Tryz.pinned.checked.prog.stopsHeard = true := j4c
theorem j7 : Tryz.pinned.checked.prog.mayEnter = true := j4d
theorem closed : joinedFacts Tryz.pinned.checked.prog 3 Tryz.f3 (OpenSpec.ofChange Rows.topDollyPrimariesSpec).bare Rows.topDollyPrimariesRow = true := by
  unfold joinedFacts
  rw [j0, j1, j2, j3, j4, j5, j6, j7]
  kernel_rfl
theorem said : Rows.TopDollyPrimariesSaid :=
  OpenClaim.holds_of_cond 3 Tryz.f3 rfl rfl rfl rfl rfl rfl rfl ⟨rfl, rfl, rfl, rfl, rfl⟩ rfl rfl rfl rfl rfl (by kernel_rfl) Tryz.func3 closed
    (of_decide_eq_true (by kernel_rfl)) (by unfold Func.isWrapper; first | (rw [if_pos (by decide +kernel)]; kernel_rfl) | (rw [if_neg (by decide +kernel)]; exact ⟨rfl, rfl⟩))
    (fun os started H enc _ F => by rw [OpenClaim.pre_eq_preRow]; exact lifted os started H enc F)
theorem plain (f : FuncId) (fn : Func) (hf : Tryz.pinned.checked.prog.funcNamed "genlock/genlocktop.TopDollyPrimaries" = some f) (hfn : Tryz.pinned.checked.prog.funcs[f]? = some fn) :
    false = Tryz.pinned.checked.prog.looks [] ∧ ∀ (j : Nat) t, fn.params[j]? = some t → Tryz.pinned.checked.prog.wantsStandIn t = false := by
  obtain rfl : f = 3 := Option.some.inj ((show Tryz.prog.funcNamed "genlock/genlocktop.TopDollyPrimaries" = some 3 by kernel_rfl).symm.trans hf) |>.symm
  obtain rfl : fn = Tryz.f3 := (Option.some.inj (Tryz.func3.symm.trans hfn)).symm
  refine ⟨by kernel_rfl, fun j t ht => ?_⟩
  rw [Tryz.params3] at ht
  have hm : t ∈ [22, 5] := by simpa using Array.mem_of_getElem? ht
  have hall : ([22, 5].all fun u => !Tryz.prog.wantsStandIn u) = true := by kernel_rfl
  exact (show Tryz.prog.wantsStandIn t = false by simpa using List.all_eq_true.1 hall t hm)
theorem g1 : Tryz.pinned.checked.prog.mainIs = some (true, "c0095a7fe7facf2fd27367a0a7bb8e0cbc274ae280530458beaaf14f590e5512".toList) := by kernel_rfl
theorem g2 : false = Rows.topDollyPrimariesRow.goesBy Tryz.pinned.checked.prog := by kernel_rfl
theorem g3 : Rows.topDollyPrimariesRow.wfByText (OpenSpec.ofChange Rows.topDollyPrimariesSpec) = true := by kernel_rfl
theorem card : Rows.TopDollyPrimariesCardSaid :=
  Claim7.holds_tied_plain_at .later [] _ _ (true, "c0095a7fe7facf2fd27367a0a7bb8e0cbc274ae280530458beaaf14f590e5512") _ said (fun _ h => by cases h) g3 (fun _ h => by cases h) topDollyPrimaries_row_tie rfl ⟨rfl, rfl⟩ g1 rfl plain g2
#print axioms card
end Go.Proofs.YtlgimjcnnndbhaaGreatDoor.TopDollyPrimaries
