/- The law TopBoomPackets holds: for every input the call returns true, and its arguments read as before; no conditions. -/
import Derived.Test.YtlgimjcnnndbhaaS15
import Derived.Test.YtlgimjcnnndbhaaRows
import Derived.JoinedCond
import Derived.KernelRfl
import Derived.WalkKit
import Derived.ProofKit
import Derived.OpenShut
import Derived.Deep.DeepHandedRow
import Derived.Lib.LaidTab
namespace Go.Proofs.Ytlgimjcnnndbhaa.TopBoomPackets
open Go.ChangeShapes Go.WideShapes Go.ChangeAt Go.RowKit Go.Sx
theorem own : ownKnob Try.prog.godebug = none := by kernel_rfl
theorem laidOut : laidOutB Try.prog = true := by kernel_rfl
theorem rd24 : rdChk Try.prog 16 24 (.pair .str (.pair (.int .i64) (.pair (.int .i64) (.sl (.flt .f32))))) = true := by decide +kernel
theorem ag24 : aggOf Try.prog 24 = true := by decide +kernel
theorem rd48 : rdChk Try.prog 16 48 (.sl (.int .u8)) = true := by decide +kernel
theorem ag48 : aggOf Try.prog 48 = false := by decide +kernel
theorem rd5 : rdChk Try.prog 16 5 (.int .u8) = true := by decide +kernel
theorem ag5 : aggOf Try.prog 5 = false := by decide +kernel
theorem globs {W : World} : GlobOk gl1 (HW W) := fun g x hx => by cases hx
set_option maxRecDepth 100000 in
theorem contract (H : Type) (enc : TypeId × Value → H) (W : World) (base : Nat) (args : Array Value) (ds gs : List (DataW H)) (before : List MemPlace)
    (hval : ∀ (j : Nat) t v, Try.f4.params[j]? = some t → args[j]? = some v → Value.okWide Try.prog W .any base t v)
    (hW : DataW.Whole enc Try.prog Try.f4.params.toList Rows.topBoomPacketsSpec.vars false W args.toList ds gs before) (_hL : laidMetH Try.prog Rows.topBoomPacketsRow.laid W) :
    Calls Try.prog 4 args W fun e W' => ∃ v, e = .returned v ∧ Rows.topBoomPacketsSpec.post enc Try.prog Try.f4 false true false false W args v W' := by
  have hW' := hW
  obtain ⟨p, q, hA0, hV, rfl, hfz, hnd⟩ := hW
  have hA : DataW.TrodAll enc Try.prog W 0 (fun _ => true) true Try.f4.params.toList args.toList ds p := hA0
  rw [Try.params4] at hA hval
  obtain ⟨v0, vs0, d0, ds0, p0, q0, hargs, rfl, rfl, h0, r0⟩ := trodAll_cons hA
  obtain ⟨v1, vs1, d1, ds1, p1, q1, rfl, rfl, rfl, h1, r1⟩ := trodAll_cons r0
  obtain ⟨v2, vs2, d2, ds2, p2, q2, rfl, rfl, rfl, h2, r2⟩ := trodAll_cons r1
  obtain ⟨rfl, rfl, rfl⟩ := trodAll_nil r2
  obtain rfl : args = #[v0, v1, v2] := by cases args; simp_all
  obtain ⟨c0, y0, rfl, hy0, hw0⟩ := arg_agg rd24 ag24 (hval 0 24 v0 rfl rfl) h0
  obtain ⟨y1, hy1, hw1⟩ := arg_one rd48 ag48 (hval 1 48 v1 rfl rfl) h1
  obtain ⟨y2, hy2, hw2⟩ := arg_one rd5 ag5 (hval 2 5 v2 rfl rfl) h2
  obtain ⟨nm, w1, h1, s1⟩ := y0
  have e0 : U.Wd s1 := fun b hb => by
    have e : (Lit.float .f32 b).wf = true := wf_mem (t := .flt .f32) hw0.2.2.2 b hb
    simpa [Lit.wf] using e
  have e1 : U.Bytes y1 := fun x hx => wf_u8 (wf_mem hw1 x hx)
  have e2 : (0 : Int) ≤ y2 ∧ y2 ≤ 255 := wf_u8 hw2
  exact law_calls laidOut rfl (by kernel_rfl) rfl (tb := 4) (by kernel_rfl) rfl hW' (fn4 nm w1 h1 s1 y1 y2 e1 e0 e2) globs ⟨_, _, rfl, ⟨c0, rfl, toChs_den _ _ _ hy0⟩, v1, _, rfl, hy1, v2, _, rfl, (List.cons.inj hy2).1, rfl⟩
noncomputable def laidWorld (os : Os) : World :=
  World.holding Try.prog os ⟨#[], #[], []⟩
def wargs : Array Value := #[.agg #[.string ⟨#[]⟩, .int .i64 0, .int .i64 0, .slice none 0 0], .slice none 0 0, .int .u8 0]
theorem laid_met (os : Os) : laidMet Try.prog Rows.topBoomPacketsRow.laid ((laidWorld os).forCall (fun _ _ => 0) ⟨#[], wargs, []⟩).memory :=
  laidMet_of_run' 8 (by kernel_rfl) (by kernel_rfl)
theorem reads (os : Os) {H : Type} (enc : TypeId × Value → H) : ∃ places, DataW.whole enc Try.prog ((laidWorld os).forCall (fun _ _ => 0) ⟨#[], wargs, []⟩).memory Try.f4.params.toList Rows.topBoomPacketsSpec.vars false wargs.toList 8 = some ([.agg [.lit (.string []), .lit (.int .i64 0), .lit (.int .i64 0), .nil], .nil, .lit (.int .u8 0)], [], places) :=
  ⟨[], by kernel_rfl⟩
set_option maxRecDepth 100000 in
theorem lifted (os : Os) (started : os.Started) (H : Type) (enc : TypeId × Value → H) (F : Stop.Interp) :
    ReturnsInHanded {} Try.checked os 4 .any ((OpenSpec.ofChange Rows.topBoomPacketsSpec).preRow enc Try.prog Try.f4 Rows.topBoomPacketsRow.domain false Rows.topBoomPacketsRow.laid) (((OpenSpec.ofChange Rows.topBoomPacketsSpec).at F).post enc Try.prog Try.f4 false true false false) := by
  obtain ⟨places, hx⟩ := reads os enc
  refine returnsInHanded_of_row (C := Try.checked) (s := OpenSpec.ofChange Rows.topBoomPacketsSpec) own started (by kernel_rfl) Try.func4
    (witness_row_at (enc := enc) (C := Try.checked) false (laidWorld os) wargs rfl (by kernel_rfl) (by kernel_rfl) (by kernel_rfl)
      (OpenSpec.preRow_of_cond 8 hx (by kernel_rfl) (fun k hk => by cases hk) (by kernel_rfl) (laid_met os))) ?_
  intro W base args ds gs before hval hW _ _ _ hL _ _
  exact contract H enc W base args ds gs before hval hW hL
theorem j0 : laidOutB Try.pinned.checked.prog = true := laidOut
theorem j1 : mapsRowed Try.pinned.checked.prog = true := by kernel_rfl
theorem j2 : (Rows.topBoomPacketsRow.inPlace == Try.pinned.checked.prog.inPlace 4) = true := by kernel_rfl
theorem j3 : (Rows.topBoomPacketsRow.unfollowed == Try.pinned.checked.prog.unfollowed 4) = true := by kernel_rfl
theorem j4 : (Rows.topBoomPacketsRow.recurses == Try.pinned.checked.prog.recurses 4) = true := by kernel_rfl
theorem j5 : (Rows.topBoomPacketsRow.named == Try.pinned.checked.prog.varsNamed 4) = true := by kernel_rfl
theorem j6 : Try.pinned.checked.prog.stopsHeard = true := by kernel_rfl
theorem j7 : Try.pinned.checked.prog.mayEnter = true := by kernel_rfl
theorem closed : joinedFacts Try.pinned.checked.prog 4 Try.f4 (OpenSpec.ofChange Rows.topBoomPacketsSpec).bare Rows.topBoomPacketsRow = true := by
  unfold joinedFacts
  rw [j0, j1, j2, j3, j4, j5, j6, j7]
  kernel_rfl
theorem said : Rows.TopBoomPacketsSaid :=
  OpenClaim.holds_of_cond 4 Try.f4 rfl rfl rfl rfl rfl rfl rfl ⟨rfl, rfl, rfl, rfl, rfl⟩ rfl rfl rfl rfl rfl (by kernel_rfl) Try.func4 closed
    (of_decide_eq_true (by kernel_rfl)) (by unfold Func.isWrapper; first | (rw [if_pos (by decide +kernel)]; kernel_rfl) | (rw [if_neg (by decide +kernel)]; exact ⟨rfl, rfl⟩))
    (fun os started H enc _ F => by rw [OpenClaim.pre_eq_preRow]; exact lifted os started H enc F)
#print axioms said
end Go.Proofs.Ytlgimjcnnndbhaa.TopBoomPackets
