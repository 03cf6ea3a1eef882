/- TopPedestalLeft returns true for every input, whatever the arguments' data; the package variables code.rates, tape.whole and tape.magic hold what the program lays in them. -/
import Derived.Test.YtpfngnmgipnmlaaDoorS18
import Derived.Test.YtpfngnmgipnmlaaDoorCards
import Derived.Test.YtpfngnmgipnmlaaDoorTie
import Derived.WalkKit
import Derived.ProofKit
import Derived.OpenShut
import Derived.Deep.DeepHandedRow
import Derived.Lib.LaidTab
/- TopPedestalLeft: the row and its card. -/
namespace Go.Proofs.YtpfngnmgipnmlaaDoor.TopPedestalLeft
open Go.ChangeShapes Go.WideShapes Go.ChangeAt Go.RowKit Go.Sx

theorem own : ownKnob Tryd.prog.godebug = none := by kernel_rfl
theorem gRates : Tryd.prog.globalNamed "genlock/code.rates" = some 1 := by kernel_rfl
theorem gMagic : Tryd.prog.globalNamed "genlock/tape.magic" = some 0 := by kernel_rfl
theorem gWhole : Tryd.prog.globalNamed "genlock/tape.whole" = some 2 := by kernel_rfl
theorem laidOut : laidOutB Tryd.prog = true := by kernel_rfl

theorem rd78 : rdChk Tryd.prog 16 78 (.sl rlT) = true := by decide +kernel
theorem rd79 : rdChk Tryd.prog 16 79 (.sl edT) = true := by decide +kernel
theorem rd28 : rdChk Tryd.prog 16 28 (.arr 2 (.int .u8)) = true := by decide +kernel
theorem ag78 : aggOf Tryd.prog 78 = false := by decide +kernel
theorem ag79 : aggOf Tryd.prog 79 = false := by decide +kernel
theorem ag28 : aggOf Tryd.prog 28 = true := by decide +kernel

theorem globs {W : World} (h : laidMetH Tryd.prog Rows.topPedestalLeftRow.laid W) : GlobOk gl1 (HW W) := by
  rw [MakeChecks.laidMetH_plain _ _ _ (by kernel_rfl)] at h
  intro g x hx
  unfold gl1 at hx
  split at hx
  · cases hx
    exact glob_tab (tab_at (k := .u8) (zs := [82, 69, 69, 76]) (t := 167) (e := 5) (n := 4) (List.mem_cons_of_mem _ (List.mem_cons_of_mem _ List.mem_cons_self)) gMagic (by kernel_rfl) (by kernel_rfl) (by kernel_rfl) (by kernel_rfl) (by kernel_rfl) h) gMagic
  · cases hx
    exact glob_tab (tab_at (k := .i64) (zs := [24, 25, 30]) (t := 218) (e := 3) (n := 3) List.mem_cons_self gRates (by kernel_rfl) (by kernel_rfl) (by kernel_rfl) (by kernel_rfl) (by kernel_rfl) h) gRates
  · cases hx
    exact pair_at' (t := 114) (k := .i64) (k' := .i64) (a := 1) (b := 1) (List.mem_cons_of_mem _ List.mem_cons_self) gWhole (by kernel_rfl) (by decide +kernel) h
  · cases hx

set_option maxRecDepth 100000 in
theorem contract (H : Type) (enc : TypeId × Value → H) (W : World) (base : Nat) (args : Array Value) (ds gs : List (DataW H)) (before : List MemPlace)
    (hval : ∀ (j : Nat) t v, Tryd.f7.params[j]? = some t → args[j]? = some v → Value.okWide Tryd.prog W .any base t v)
    (hW : DataW.Whole enc Tryd.prog Tryd.f7.params.toList Rows.topPedestalLeftSpec.vars false W args.toList ds gs before) (hL : laidMetH Tryd.prog Rows.topPedestalLeftRow.laid W) :
    Calls Tryd.prog 7 args W fun e W' => ∃ v, e = .returned v ∧ Rows.topPedestalLeftSpec.post enc Tryd.prog Tryd.f7 false true false false W args v W' := by
  have hW' := hW
  obtain ⟨p, q, hA0, hV, rfl, hfz, hnd⟩ := hW
  have hA : DataW.TrodAll enc Tryd.prog W 0 (fun _ => true) true Tryd.f7.params.toList args.toList ds p := hA0
  rw [Tryd.params7] at hA hval
  obtain ⟨v0, vs0, d0, ds0, p0, q0, hargs, rfl, rfl, h0, r0⟩ := trodAll_cons hA
  obtain ⟨v1, vs1, d1, ds1, p1, q1, rfl, rfl, rfl, h1, r1⟩ := trodAll_cons r0
  obtain ⟨v2, vs2, d2, ds2, p2, q2, rfl, rfl, rfl, h2, r2⟩ := trodAll_cons r1
  obtain ⟨rfl, rfl, rfl⟩ := trodAll_nil r2
  obtain rfl : args = #[v0, v1, v2] := by cases args; simp_all
  obtain ⟨y0, hy0, hw0⟩ := arg_one rd78 ag78 (hval 0 78 v0 rfl rfl) h0
  obtain ⟨y1, hy1, hw1⟩ := arg_one rd79 ag79 (hval 1 79 v1 rfl rfl) h1
  obtain ⟨c2, y2, rfl, hy2, hw2⟩ := arg_agg rd28 ag28 (hval 2 28 v2 rfl rfl) h2
  have hb : ∀ n : Int, (Lit.int .u8 n).wf = true → 0 ≤ n ∧ n ≤ 255 := fun n h => by
    simp [Lit.wf, IntKind.min, IntKind.max, IntKind.signed, IntKind.bits] at h
    omega
  refine law_calls laidOut rfl (by kernel_rfl) rfl (tb := 4) (by kernel_rfl) rfl hW' (fn7 y0 y1 y2 hw0.1 hw1.1 (fun x hx => wf_i64 (wf_mem hw1 x hx).2.2.1) hw2.1 ?_) (globs hL) ⟨v0, _, rfl, hy0, v1, _, rfl, hy1, _, _, rfl, ⟨c2, rfl, ?_⟩, rfl⟩
  · intro x hx
    obtain ⟨i, hi, rfl⟩ := List.mem_iff_getElem.1 hx
    have := hb _ (hw2.2 i hi)
    omega
  · refine ⟨?_, ?_⟩
    · rw [List.take_of_length_le (by rw [hy2.2.1]; exact Nat.le_refl _)]; exact hy2
    · rw [List.drop_eq_nil_of_le (by rw [hy2.2.1]; exact Nat.le_refl _)]; rfl

def setMagic : Obj → Obj
  | .cells _ t frozen => .cells #[.int .u8 82, .int .u8 69, .int .u8 69, .int .u8 76] t frozen
  | o => o
def setRates : Obj → Obj
  | .cells _ t frozen => .cells #[.int .i64 24, .int .i64 25, .int .i64 30] t frozen
  | o => o
def setWhole : Obj → Obj
  | .cells _ t frozen => .cells #[.int .i64 1, .int .i64 1] t frozen
  | o => o
/-- A world for the witness. -/
noncomputable def laidWorld (os : Os) : World :=
  { World.holding Tryd.prog os ⟨#[], #[], []⟩ with heap := ((World.holding Tryd.prog os ⟨#[], #[], []⟩).heap.modify 1 setRates).modify 2 setWhole |>.modify 0 setMagic }
def wargs : Array Value := #[.slice none 0 0, .slice none 0 0, .agg #[.int .u8 0, .int .u8 0]]
theorem laid_met (os : Os) : laidMet Tryd.prog Rows.topPedestalLeftRow.laid ((laidWorld os).forCall (fun _ _ => 0) ⟨#[], wargs, []⟩).memory :=
  laidMet_of_run' 8 (by kernel_rfl) (by kernel_rfl)
theorem reads (os : Os) {H : Type} (enc : TypeId × Value → H) : ∃ places, DataW.whole enc Tryd.prog ((laidWorld os).forCall (fun _ _ => 0) ⟨#[], wargs, []⟩).memory Tryd.f7.params.toList Rows.topPedestalLeftSpec.vars false wargs.toList 8 = some ([.nil, .nil, .agg [.lit (.int .u8 0), .lit (.int .u8 0)]], [], places) :=
  ⟨[], by kernel_rfl⟩

set_option maxRecDepth 100000 in
theorem lifted (os : Os) (started : os.Started) (H : Type) (enc : TypeId × Value → H) (F : Stop.Interp) :
    ReturnsInHanded {} Tryd.checked os 7 .any ((OpenSpec.ofChange Rows.topPedestalLeftSpec).preRow enc Tryd.prog Tryd.f7 Rows.topPedestalLeftRow.domain false Rows.topPedestalLeftRow.laid) (((OpenSpec.ofChange Rows.topPedestalLeftSpec).at F).post enc Tryd.prog Tryd.f7 false true false false) := by
  obtain ⟨places, hx⟩ := reads os enc
  refine returnsInHanded_of_row (C := Tryd.checked) (s := OpenSpec.ofChange Rows.topPedestalLeftSpec) own started (by kernel_rfl) Tryd.func7
    (witness_row_at (enc := enc) (C := Tryd.checked) false (laidWorld os) wargs rfl (by kernel_rfl) (by kernel_rfl) (by kernel_rfl)
      (OpenSpec.preRow_of_cond 8 hx (by kernel_rfl) (fun k hk => by cases hk) (by kernel_rfl) (laid_met os))) ?_
  intro W base args ds gs before hval hW _ _ _ hL _ _
  exact contract H enc W base args ds gs before hval hW hL

theorem said : Rows.TopPedestalLeftSaid :=
  OpenClaim.holds_of_cond 7 Tryd.f7 rfl rfl rfl rfl rfl rfl rfl ⟨rfl, rfl, rfl, rfl, rfl⟩ rfl rfl rfl rfl rfl (by kernel_rfl) Tryd.func7 (by kernel_rfl)
    (of_decide_eq_true (by kernel_rfl)) (by unfold Func.isWrapper; first | (rw [if_pos (by decide +kernel)]; kernel_rfl) | (rw [if_neg (by decide +kernel)]; exact ⟨rfl, rfl⟩))
    (fun os started H enc _ F => by rw [OpenClaim.pre_eq_preRow]; exact lifted os started H enc F)

theorem plain (f : FuncId) (fn : Func) (hf : Tryd.pinned.checked.prog.funcNamed "genlock/genlocktop.TopPedestalLeft" = some f) (hfn : Tryd.pinned.checked.prog.funcs[f]? = some fn) :
    false = Tryd.pinned.checked.prog.looks [] ∧ ∀ (j : Nat) t, fn.params[j]? = some t → Tryd.pinned.checked.prog.wantsStandIn t = false := by
  obtain rfl : f = 7 := Option.some.inj ((show Tryd.prog.funcNamed "genlock/genlocktop.TopPedestalLeft" = some 7 by kernel_rfl).symm.trans hf) |>.symm
  obtain rfl : fn = Tryd.f7 := (Option.some.inj (Tryd.func7.symm.trans hfn)).symm
  refine ⟨by kernel_rfl, fun j t ht => ?_⟩
  rw [Tryd.params7] at ht
  have hm : t ∈ [78, 79, 28] := by simpa using Array.mem_of_getElem? ht
  have hall : ([78, 79, 28].all fun u => !Tryd.prog.wantsStandIn u) = true := by kernel_rfl
  exact (show Tryd.prog.wantsStandIn t = false by simpa using List.all_eq_true.1 hall t hm)

/-- The card. -/
theorem card : Rows.TopPedestalLeftCardSaid :=
  Claim7.holds_tied_plain_at .later [] _ _ _ _ said (fun _ h => by cases h) (by kernel_rfl) (fun _ h => by cases h) topPedestalLeft_row_tie rfl ⟨rfl, rfl⟩ (by kernel_rfl) rfl plain (by kernel_rfl)
#print axioms card
end Go.Proofs.YtpfngnmgipnmlaaDoor.TopPedestalLeft
