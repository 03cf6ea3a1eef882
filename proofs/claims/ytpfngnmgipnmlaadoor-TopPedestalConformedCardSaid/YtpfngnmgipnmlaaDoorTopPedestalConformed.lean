/- TopPedestalConformed: the row and its card. -/
import Derived.Test.YtpfngnmgipnmlaaDoorS18
import Derived.Test.YtpfngnmgipnmlaaDoorCards
import Derived.Test.YtpfngnmgipnmlaaDoorTie
import Derived.WalkKit
import Derived.ProofKit
import Derived.OpenShut
import Derived.Deep.DeepHandedRow
import Derived.Lib.LaidTab
/- TopPedestalConformed: the row and its card. -/
namespace Go.Proofs.YtpfngnmgipnmlaaDoor.TopPedestalConformed
open Go.ChangeShapes Go.WideShapes Go.ChangeAt Go.RowKit Go.Sx

theorem own : ownKnob Tryd.prog.godebug = none := by kernel_rfl
theorem gRates : Tryd.prog.globalNamed "genlock/code.rates" = some 1 := by kernel_rfl
theorem gWhole : Tryd.prog.globalNamed "genlock/tape.whole" = some 2 := by kernel_rfl
theorem laidOut : laidOutB Tryd.prog = true := by kernel_rfl

theorem rd78 : rdChk Tryd.prog 16 78 (.sl rlT) = true := by decide +kernel
theorem rd79 : rdChk Tryd.prog 16 79 (.sl edT) = true := by decide +kernel
theorem rd81 : rdChk Tryd.prog 16 81 (.pair (.sl (.int .i64)) stT) = true := by decide +kernel
theorem ag78 : aggOf Tryd.prog 78 = false := by decide +kernel
theorem ag79 : aggOf Tryd.prog 79 = false := by decide +kernel
theorem ag81 : aggOf Tryd.prog 81 = true := by decide +kernel

theorem rd_pair {H : IH} {a b : Ty} {x : (Ty.pair a b).T} {cs : List Value} (h : Rd H (.pair a b) x cs) : ∃ c1 c2, cs = c1 ++ c2 ∧ Rd H a x.1 c1 ∧ Rd H b x.2 c2 :=
  ⟨_, _, (List.take_append_drop a.sz cs).symm, h.1, h.2⟩
theorem rd_row {H : IH} {t : Ty} {x : List t.T} {cs : List Value} (h : Rd H (.sl t) x cs) : ∃ v, cs = [v] := by
  obtain ⟨a, cap, h1, _⟩ := h
  exact ⟨_, h1⟩

theorem globs {W : World} (h : laidMetH Tryd.prog Rows.topPedestalConformedRow.laid W) : GlobOk gl1 (HW W) := by
  rw [MakeChecks.laidMetH_plain _ _ _ (by kernel_rfl)] at h
  intro g x hx
  unfold gl1 at hx
  split at hx
  · cases hx
    exact glob_tab (tab_at (k := .i64) (zs := [24, 25, 30]) (t := 218) (e := 3) (n := 3) List.mem_cons_self gRates (by kernel_rfl) (by kernel_rfl) (by kernel_rfl) (by kernel_rfl) (by kernel_rfl) h) gRates
  · cases hx
    exact pair_at' (t := 114) (k := .i64) (k' := .i64) (a := 1) (b := 1) (List.mem_cons_of_mem _ List.mem_cons_self) gWhole (by kernel_rfl) (by decide +kernel) h
  · cases hx

set_option maxRecDepth 100000 in
theorem contract (H : Type) (enc : TypeId × Value → H) (W : World) (base : Nat) (args : Array Value) (ds gs : List (DataW H)) (before : List MemPlace)
    (hval : ∀ (j : Nat) t v, Tryd.f5.params[j]? = some t → args[j]? = some v → Value.okWide Tryd.prog W .any base t v)
    (hW : DataW.Whole enc Tryd.prog Tryd.f5.params.toList Rows.topPedestalConformedSpec.vars false W args.toList ds gs before) (hL : laidMetH Tryd.prog Rows.topPedestalConformedRow.laid W) :
    Calls Tryd.prog 5 args W fun e W' => ∃ v, e = .returned v ∧ Rows.topPedestalConformedSpec.post enc Tryd.prog Tryd.f5 false true false false W args v W' := by
  have hW' := hW
  obtain ⟨p, q, hA0, hV, rfl, hfz, hnd⟩ := hW
  have hA : DataW.TrodAll enc Tryd.prog W 0 (fun _ => true) true Tryd.f5.params.toList args.toList ds p := hA0
  rw [Tryd.params5] at hA hval
  obtain ⟨v0, vs0, d0, ds0, p0, q0, hargs, rfl, rfl, h0, r0⟩ := trodAll_cons hA
  obtain ⟨v1, vs1, d1, ds1, p1, q1, rfl, rfl, rfl, h1, r1⟩ := trodAll_cons r0
  obtain ⟨v2, vs2, d2, ds2, p2, q2, rfl, rfl, rfl, h2, r2⟩ := trodAll_cons r1
  obtain ⟨rfl, rfl, rfl⟩ := trodAll_nil r2
  obtain rfl : args = #[v0, v1, v2] := by cases args; simp_all
  obtain ⟨y0, hy0, hw0⟩ := arg_one rd78 ag78 (hval 0 78 v0 rfl rfl) h0
  obtain ⟨y1, hy1, hw1⟩ := arg_one rd79 ag79 (hval 1 79 v1 rfl rfl) h1
  obtain ⟨c2, y2, rfl, hy2, hw2⟩ := arg_agg rd81 ag81 (hval 2 81 v2 rfl rfl) h2
  obtain ⟨l, ⟨F, D⟩, ⟨hh, m, s, f⟩, u⟩ := y2
  obtain ⟨_, _, rfl, p0, p00⟩ := rd_pair hy2
  obtain ⟨_, _, rfl, p1, p2⟩ := rd_pair p00
  obtain ⟨_, _, rfl, p3, p4⟩ := rd_pair p1
  obtain ⟨_, _, rfl, p5, p6⟩ := rd_pair p2
  obtain ⟨_, _, rfl, p7, p8⟩ := rd_pair p5
  obtain ⟨_, _, rfl, p9, p10⟩ := rd_pair p8
  obtain ⟨_, _, rfl, p11, p12⟩ := rd_pair p10
  obtain ⟨w, rfl⟩ := rd_row p0
  obtain rfl := show _ = [Value.int .i64 F] from p3
  obtain rfl := show _ = [Value.bool D] from p4
  obtain rfl := show _ = [Value.int .i64 u] from p6
  obtain rfl := show _ = [Value.int .i64 hh] from p7
  obtain rfl := show _ = [Value.int .i64 m] from p9
  obtain rfl := show _ = [Value.int .i64 s] from p11
  obtain rfl := show _ = [Value.int .i64 f] from p12
  exact law_calls laidOut rfl (by kernel_rfl) rfl (tb := 4) (by kernel_rfl) rfl hW' (fn5 y0 y1 l F D hh m s f u hw0.1 hw1.1 (fun x hx => wf_i64 (wf_mem hw1 x hx).2.2.1)) (globs hL)
    ⟨v0, _, rfl, hy0, v1, _, rfl, hy1, _, _, rfl, ⟨_, rfl, ⟨_, _, rfl, p0, _, _, rfl, rfl, _, _, rfl, rfl, _, _, rfl, rfl, _, _, rfl, rfl, _, _, rfl, rfl, _, _, rfl, rfl, _, _, rfl, rfl, rfl⟩⟩, rfl⟩

def setRates : Obj → Obj
  | .cells _ t frozen => .cells #[.int .i64 24, .int .i64 25, .int .i64 30] t frozen
  | o => o
def setWhole : Obj → Obj
  | .cells _ t frozen => .cells #[.int .i64 1, .int .i64 1] t frozen
  | o => o
/-- A world for the witness. -/
noncomputable def laidWorld (os : Os) : World :=
  { World.holding Tryd.prog os ⟨#[], #[], []⟩ with heap := ((World.holding Tryd.prog os ⟨#[], #[], []⟩).heap.modify 1 setRates).modify 2 setWhole }
def wargs : Array Value := #[.slice none 0 0, .slice none 0 0, .agg #[.slice none 0 0, .int .i64 0, .bool false, .int .i64 0, .int .i64 0, .int .i64 0, .int .i64 0, .int .i64 0]]
theorem laid_met (os : Os) : laidMet Tryd.prog Rows.topPedestalConformedRow.laid ((laidWorld os).forCall (fun _ _ => 0) ⟨#[], wargs, []⟩).memory :=
  laidMet_of_run' 8 (by kernel_rfl) (by kernel_rfl)
theorem reads (os : Os) {H : Type} (enc : TypeId × Value → H) : ∃ places, DataW.whole enc Tryd.prog ((laidWorld os).forCall (fun _ _ => 0) ⟨#[], wargs, []⟩).memory Tryd.f5.params.toList Rows.topPedestalConformedSpec.vars false wargs.toList 8 = some ([.nil, .nil, .agg [.nil, .agg [.agg [.lit (.int .i64 0), .lit (.bool false)], .agg [.lit (.int .i64 0), .lit (.int .i64 0), .lit (.int .i64 0), .lit (.int .i64 0)], .lit (.int .i64 0)]]], [], places) :=
  ⟨[], by kernel_rfl⟩

set_option maxRecDepth 100000 in
theorem lifted (os : Os) (started : os.Started) (H : Type) (enc : TypeId × Value → H) (F : Stop.Interp) :
    ReturnsInHanded {} Tryd.checked os 5 .any ((OpenSpec.ofChange Rows.topPedestalConformedSpec).preRow enc Tryd.prog Tryd.f5 Rows.topPedestalConformedRow.domain false Rows.topPedestalConformedRow.laid) (((OpenSpec.ofChange Rows.topPedestalConformedSpec).at F).post enc Tryd.prog Tryd.f5 false true false false) := by
  obtain ⟨places, hx⟩ := reads os enc
  refine returnsInHanded_of_row (C := Tryd.checked) (s := OpenSpec.ofChange Rows.topPedestalConformedSpec) own started (by kernel_rfl) Tryd.func5
    (witness_row_at (enc := enc) (C := Tryd.checked) false (laidWorld os) wargs rfl (by kernel_rfl) (by kernel_rfl) (by kernel_rfl)
      (OpenSpec.preRow_of_cond 8 hx (by kernel_rfl) (fun k hk => by cases hk) (by kernel_rfl) (laid_met os))) ?_
  intro W base args ds gs before hval hW _ _ _ hL _ _
  exact contract H enc W base args ds gs before hval hW hL

theorem said : Rows.TopPedestalConformedSaid :=
  OpenClaim.holds_of_cond 5 Tryd.f5 rfl rfl rfl rfl rfl rfl rfl ⟨rfl, rfl, rfl, rfl, rfl⟩ rfl rfl rfl rfl rfl (by kernel_rfl) Tryd.func5 (by kernel_rfl)
    (of_decide_eq_true (by kernel_rfl)) (by unfold Func.isWrapper; first | (rw [if_pos (by decide +kernel)]; kernel_rfl) | (rw [if_neg (by decide +kernel)]; exact ⟨rfl, rfl⟩))
    (fun os started H enc _ F => by rw [OpenClaim.pre_eq_preRow]; exact lifted os started H enc F)

theorem plain (f : FuncId) (fn : Func) (hf : Tryd.pinned.checked.prog.funcNamed "genlock/genlocktop.TopPedestalConformed" = some f) (hfn : Tryd.pinned.checked.prog.funcs[f]? = some fn) :
    false = Tryd.pinned.checked.prog.looks [] ∧ ∀ (j : Nat) t, fn.params[j]? = some t → Tryd.pinned.checked.prog.wantsStandIn t = false := by
  obtain rfl : f = 5 := Option.some.inj ((show Tryd.prog.funcNamed "genlock/genlocktop.TopPedestalConformed" = some 5 by kernel_rfl).symm.trans hf) |>.symm
  obtain rfl : fn = Tryd.f5 := (Option.some.inj (Tryd.func5.symm.trans hfn)).symm
  refine ⟨by kernel_rfl, fun j t ht => ?_⟩
  rw [Tryd.params5] at ht
  have hm : t ∈ [78, 79, 81] := by simpa using Array.mem_of_getElem? ht
  have hall : ([78, 79, 81].all fun u => !Tryd.prog.wantsStandIn u) = true := by kernel_rfl
  exact (show Tryd.prog.wantsStandIn t = false by simpa using List.all_eq_true.1 hall t hm)

/-- The card. -/
theorem card : Rows.TopPedestalConformedCardSaid :=
  Claim7.holds_tied_plain_at .later [] _ _ _ _ said (fun _ h => by cases h) (by kernel_rfl) (fun _ h => by cases h) topPedestalConformed_row_tie rfl ⟨rfl, rfl⟩ (by kernel_rfl) rfl plain (by kernel_rfl)
#print axioms card
end Go.Proofs.YtpfngnmgipnmlaaDoor.TopPedestalConformed
