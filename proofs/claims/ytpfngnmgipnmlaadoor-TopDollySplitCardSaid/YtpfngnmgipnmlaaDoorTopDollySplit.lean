/- TopDollySplit answers true for every input of its types; condition: tape.whole and tape.magic hold what their initialisers lay. -/
import Derived.Test.YtpfngnmgipnmlaaDoorS19
import Derived.Test.YtpfngnmgipnmlaaDoorCards
import Derived.Test.YtpfngnmgipnmlaaDoorTie
import Derived.WalkKit
import Derived.ProofKit
import Derived.OpenShut
import Derived.Deep.DeepHandedRow
import Derived.Lib.LaidTab
/- TopDollySplit: the row and its card. -/
namespace Go.Proofs.YtpfngnmgipnmlaaDoor.TopDollySplit
open Go.ChangeShapes Go.WideShapes Go.ChangeAt Go.RowKit Go.Sx

theorem own : ownKnob Tryd.prog.godebug = none := by kernel_rfl
theorem gMagic : Tryd.prog.globalNamed "genlock/tape.magic" = some 0 := by kernel_rfl
theorem laidOut : laidOutB Tryd.prog = true := by kernel_rfl

theorem gWhole : Tryd.prog.globalNamed "genlock/tape.whole" = some 2 := by kernel_rfl

theorem rd78 : rdChk Tryd.prog 16 78 (.sl rlT) = true := by decide +kernel
theorem rd79 : rdChk Tryd.prog 16 79 (.sl edT) = true := by decide +kernel
theorem rd105 : rdChk Tryd.prog 16 105 (.int .i8) = true := by decide +kernel
theorem ag78 : aggOf Tryd.prog 78 = false := by decide +kernel
theorem ag79 : aggOf Tryd.prog 79 = false := by decide +kernel
theorem ag105 : aggOf Tryd.prog 105 = false := by decide +kernel

theorem globs {W : World} (h : laidMetH Tryd.prog Rows.topDollySplitRow.laid W) : GlobOk gl1 (HW W) := by
  rw [MakeChecks.laidMetH_plain _ _ _ (by kernel_rfl)] at h
  intro g x hx
  unfold gl1 at hx
  split at hx
  · cases hx
    exact glob_tab (tab_at (k := .u8) (zs := [82, 69, 69, 76]) (t := 167) (e := 5) (n := 4) (List.mem_cons_of_mem _ List.mem_cons_self) gMagic (by kernel_rfl) (by kernel_rfl) (by kernel_rfl) (by kernel_rfl) (by kernel_rfl) h) gMagic
  · cases hx
    exact pair_at' (t := 114) (k := .i64) (k' := .i64) (a := 1) (b := 1) List.mem_cons_self gWhole (by kernel_rfl) (by decide +kernel) h
  · cases hx

set_option maxRecDepth 100000 in
theorem contract (H : Type) (enc : TypeId × Value → H) (W : World) (base : Nat) (args : Array Value) (ds gs : List (DataW H)) (before : List MemPlace)
    (hval : ∀ (j : Nat) t v, Tryd.f6.params[j]? = some t → args[j]? = some v → Value.okWide Tryd.prog W .any base t v)
    (hW : DataW.Whole enc Tryd.prog Tryd.f6.params.toList Rows.topDollySplitSpec.vars false W args.toList ds gs before) (hL : laidMetH Tryd.prog Rows.topDollySplitRow.laid W) :
    Calls Tryd.prog 6 args W fun e W' => ∃ v, e = .returned v ∧ Rows.topDollySplitSpec.post enc Tryd.prog Tryd.f6 false true false false W args v W' := by
  have hW' := hW
  obtain ⟨p, q, hA0, hV, rfl, hfz, hnd⟩ := hW
  have hA : DataW.TrodAll enc Tryd.prog W 0 (fun _ => true) true Tryd.f6.params.toList args.toList ds p := hA0
  rw [Tryd.params6] at hA hval
  obtain ⟨v0, vs0, d0, ds0, p0, q0, hargs, rfl, rfl, h0, r0⟩ := trodAll_cons hA
  obtain ⟨v1, vs1, d1, ds1, p1, q1, rfl, rfl, rfl, h1, r1⟩ := trodAll_cons r0
  obtain ⟨v2, vs2, d2, ds2, p2, q2, rfl, rfl, rfl, h2, r2⟩ := trodAll_cons r1
  obtain ⟨rfl, rfl, rfl⟩ := trodAll_nil r2
  obtain rfl : args = #[v0, v1, v2] := by cases args; simp_all
  obtain ⟨y0, hy0, hw0⟩ := arg_one rd78 ag78 (hval 0 78 v0 rfl rfl) h0
  obtain ⟨y1, hy1, hw1⟩ := arg_one rd79 ag79 (hval 1 79 v1 rfl rfl) h1
  obtain ⟨y2, hy2, hw2⟩ := arg_one rd105 ag105 (hval 2 105 v2 rfl rfl) h2
  refine law_calls laidOut rfl (by kernel_rfl) rfl (tb := 4) (by kernel_rfl) rfl hW' (fn6 y0 y1 y2 hw0.1 hw1.1 (fun x hx => wf_i64 (wf_mem hw1 x hx).2.2.1) (wf_i8 hw2)) (globs hL) ⟨v0, _, rfl, hy0, v1, _, rfl, hy1, v2, _, rfl, ?_, rfl⟩
  show v2 = .int .i8 y2
  have : [v2] = [Value.int .i8 y2] := hy2
  simpa using this

def setMagic : Obj → Obj
  | .cells _ t frozen => .cells #[.int .u8 82, .int .u8 69, .int .u8 69, .int .u8 76] t frozen
  | o => o
def setWhole : Obj → Obj
  | .cells _ t frozen => .cells #[.int .i64 1, .int .i64 1] t frozen
  | o => o
/-- A world for the witness. -/
noncomputable def laidWorld (os : Os) : World :=
  { World.holding Tryd.prog os ⟨#[], #[], []⟩ with heap := ((World.holding Tryd.prog os ⟨#[], #[], []⟩).heap.modify 0 setMagic).modify 2 setWhole }
def wargs : Array Value := #[.slice none 0 0, .slice none 0 0, .int .i8 0]
theorem laid_met (os : Os) : laidMet Tryd.prog Rows.topDollySplitRow.laid ((laidWorld os).forCall (fun _ _ => 0) ⟨#[], wargs, []⟩).memory :=
  laidMet_of_run' 8 (by kernel_rfl) (by kernel_rfl)
theorem reads (os : Os) {H : Type} (enc : TypeId × Value → H) : ∃ places, DataW.whole enc Tryd.prog ((laidWorld os).forCall (fun _ _ => 0) ⟨#[], wargs, []⟩).memory Tryd.f6.params.toList Rows.topDollySplitSpec.vars false wargs.toList 8 = some ([.nil, .nil, .lit (.int .i8 0)], [], places) :=
  ⟨[], by kernel_rfl⟩

set_option maxRecDepth 100000 in
theorem lifted (os : Os) (started : os.Started) (H : Type) (enc : TypeId × Value → H) (F : Stop.Interp) :
    ReturnsInHanded {} Tryd.checked os 6 .any ((OpenSpec.ofChange Rows.topDollySplitSpec).preRow enc Tryd.prog Tryd.f6 Rows.topDollySplitRow.domain false Rows.topDollySplitRow.laid) (((OpenSpec.ofChange Rows.topDollySplitSpec).at F).post enc Tryd.prog Tryd.f6 false true false false) := by
  obtain ⟨places, hx⟩ := reads os enc
  refine returnsInHanded_of_row (C := Tryd.checked) (s := OpenSpec.ofChange Rows.topDollySplitSpec) own started (by kernel_rfl) Tryd.func6
    (witness_row_at (enc := enc) (C := Tryd.checked) false (laidWorld os) wargs rfl (by kernel_rfl) (by kernel_rfl) (by kernel_rfl)
      (OpenSpec.preRow_of_cond 8 hx (by kernel_rfl) (fun k hk => by cases hk) (by kernel_rfl) (laid_met os))) ?_
  intro W base args ds gs before hval hW _ _ _ hL _ _
  exact contract H enc W base args ds gs before hval hW hL

theorem said : Rows.TopDollySplitSaid :=
  OpenClaim.holds_of_cond 6 Tryd.f6 rfl rfl rfl rfl rfl rfl rfl ⟨rfl, rfl, rfl, rfl, rfl⟩ rfl rfl rfl rfl rfl (by kernel_rfl) Tryd.func6 (by kernel_rfl)
    (of_decide_eq_true (by kernel_rfl)) (by unfold Func.isWrapper; first | (rw [if_pos (by decide +kernel)]; kernel_rfl) | (rw [if_neg (by decide +kernel)]; exact ⟨rfl, rfl⟩))
    (fun os started H enc _ F => by rw [OpenClaim.pre_eq_preRow]; exact lifted os started H enc F)

theorem plain (f : FuncId) (fn : Func) (hf : Tryd.pinned.checked.prog.funcNamed "genlock/genlocktop.TopDollySplit" = some f) (hfn : Tryd.pinned.checked.prog.funcs[f]? = some fn) :
    false = Tryd.pinned.checked.prog.looks [] ∧ ∀ (j : Nat) t, fn.params[j]? = some t → Tryd.pinned.checked.prog.wantsStandIn t = false := by
  obtain rfl : f = 6 := Option.some.inj ((show Tryd.prog.funcNamed "genlock/genlocktop.TopDollySplit" = some 6 by kernel_rfl).symm.trans hf) |>.symm
  obtain rfl : fn = Tryd.f6 := (Option.some.inj (Tryd.func6.symm.trans hfn)).symm
  refine ⟨by kernel_rfl, fun j t ht => ?_⟩
  rw [Tryd.params6] at ht
  have hm : t ∈ [78, 79, 105] := by simpa using Array.mem_of_getElem? ht
  have hall : ([78, 79, 105].all fun u => !Tryd.prog.wantsStandIn u) = true := by kernel_rfl
  exact (show Tryd.prog.wantsStandIn t = false by simpa using List.all_eq_true.1 hall t hm)

/-- The card. -/
theorem card : Rows.TopDollySplitCardSaid :=
  Claim7.holds_tied_plain_at .later [] _ _ _ _ said (fun _ h => by cases h) (by kernel_rfl) (fun _ h => by cases h) topDollySplit_row_tie rfl ⟨rfl, rfl⟩ (by kernel_rfl) rfl plain (by kernel_rfl)
#print axioms card
end Go.Proofs.YtpfngnmgipnmlaaDoor.TopDollySplit
