/- TopPedestalCounted: the row and its card. -/
import Derived.Test.YtpfngnmgipnmlaaDoorS20
import Derived.Test.YtpfngnmgipnmlaaDoorCards
import Derived.Test.YtpfngnmgipnmlaaDoorTie
import Derived.WalkKit
import Derived.ProofKit
import Derived.OpenShut
import Derived.Deep.DeepHandedRow
import Derived.Lib.LaidTab
/- TopPedestalCounted: the row and its card. -/
namespace Go.Proofs.YtpfngnmgipnmlaaDoor.TopPedestalCounted
open Go.ChangeShapes Go.WideShapes Go.ChangeAt Go.RowKit Go.Sx

theorem own : ownKnob Tryd.prog.godebug = none := by kernel_rfl
theorem gRates : Tryd.prog.globalNamed "genlock/code.rates" = some 1 := by kernel_rfl
theorem laidOut : laidOutB Tryd.prog = true := by kernel_rfl

theorem rd27 : rdChk Tryd.prog 16 27 (.pair (.pair (.int .i64) .bool) (.pair (.pair (.int .i64) (.pair (.int .i64) (.pair (.int .i64) (.int .i64)))) (.int .i64))) = true := by decide +kernel
theorem rd28 : rdChk Tryd.prog 8 28 (.arr 2 (.int .u8)) = true := by decide +kernel
theorem rd29 : rdChk Tryd.prog 8 29 (.arr 3 (.int .u8)) = true := by decide +kernel
theorem ag27 : aggOf Tryd.prog 27 = true := by decide +kernel
theorem ag28 : aggOf Tryd.prog 28 = true := by decide +kernel
theorem ag29 : aggOf Tryd.prog 29 = true := by decide +kernel

/-- What the row's list gives: the rates. -/
theorem table {W : World} (h : laidMetH Tryd.prog Rows.topPedestalCountedRow.laid W) : Lib.TabIs Tryd.prog W "genlock/code.rates" .i64 [24, 25, 30] := by
  rw [MakeChecks.laidMetH_plain _ _ _ (by kernel_rfl)] at h
  exact Lib.tabIs_of_head (t := 218) (e := 3) (n := 3) (rest := []) gRates (by kernel_rfl) (by kernel_rfl) (by kernel_rfl) (by kernel_rfl) (by kernel_rfl) h

theorem rd_pair {H : IH} {a b : Ty} {x : (Ty.pair a b).T} {cs : List Value} (h : Rd H (.pair a b) x cs) : ∃ c1 c2, cs = c1 ++ c2 ∧ Rd H a x.1 c1 ∧ Rd H b x.2 c2 :=
  ⟨_, _, (List.take_append_drop a.sz cs).symm, h.1, h.2⟩

theorem globs {W : World} (h : laidMetH Tryd.prog Rows.topPedestalCountedRow.laid W) : GlobOk gl1 (HW W) := by
  intro g x hx
  unfold gl1 at hx
  split at hx
  · cases hx
    exact glob_tab (table h) gRates
  · cases hx

set_option maxRecDepth 100000 in
theorem contract (H : Type) (enc : TypeId × Value → H) (W : World) (base : Nat) (args : Array Value) (ds gs : List (DataW H)) (before : List MemPlace)
    (hval : ∀ (j : Nat) t v, Tryd.f3.params[j]? = some t → args[j]? = some v → Value.okWide Tryd.prog W .any base t v)
    (hW : DataW.Whole enc Tryd.prog Tryd.f3.params.toList Rows.topPedestalCountedSpec.vars false W args.toList ds gs before) (hL : laidMetH Tryd.prog Rows.topPedestalCountedRow.laid W) :
    Calls Tryd.prog 3 args W fun e W' => ∃ v, e = .returned v ∧ Rows.topPedestalCountedSpec.post enc Tryd.prog Tryd.f3 false true false false W args v W' := by
  have hW' := hW
  obtain ⟨p, q, hA0, hV, rfl, hfz, hnd⟩ := hW
  have hA : DataW.TrodAll enc Tryd.prog W 0 (fun _ => true) true Tryd.f3.params.toList args.toList ds p := hA0
  rw [Tryd.params3] at hA hval
  obtain ⟨v0, vs0, d0, ds0, p0, q0, hargs, rfl, rfl, h0, r0⟩ := trodAll_cons hA
  obtain ⟨v1, vs1, d1, ds1, p1, q1, rfl, rfl, rfl, h1, r1⟩ := trodAll_cons r0
  obtain ⟨v2, vs2, d2, ds2, p2, q2, rfl, rfl, rfl, h2, r2⟩ := trodAll_cons r1
  obtain ⟨rfl, rfl, rfl⟩ := trodAll_nil r2
  obtain rfl : args = #[v0, v1, v2] := by cases args; simp_all
  obtain ⟨c0, y0, rfl, hy0, hw0⟩ := arg_agg rd27 ag27 (hval 0 27 v0 rfl rfl) h0
  obtain ⟨c1, y1, rfl, hy1, hw1⟩ := arg_agg rd28 ag28 (hval 1 28 v1 rfl rfl) h1
  obtain ⟨c2, y2, rfl, hy2, hw2⟩ := arg_agg rd29 ag29 (hval 2 29 v2 rfl rfl) h2
  have hb : ∀ n : Int, (Lit.int .u8 n).wf = true → 0 ≤ n ∧ n ≤ 255 := fun n h => by
    simp [Lit.wf, IntKind.min, IntKind.max, IntKind.signed, IntKind.bits] at h
    omega
  have hbs : ∀ y : List Int, (∀ i (h : i < y.length), WF (.int .u8) (y[i]'h)) → U.Bytes y := by
    intro y h x hx
    obtain ⟨i, hi, rfl⟩ := List.mem_iff_getElem.1 hx
    have := hb _ (h i hi)
    omega
  obtain ⟨⟨F, D⟩, ⟨hh, m, s, f⟩, u⟩ := y0
  obtain ⟨_, _, rfl, p1, p2⟩ := rd_pair hy0
  obtain ⟨_, _, rfl, p3, p4⟩ := rd_pair p1
  obtain ⟨_, _, rfl, p5, p6⟩ := rd_pair p2
  obtain ⟨_, _, rfl, p7, p8⟩ := rd_pair p5
  obtain ⟨_, _, rfl, p9, p10⟩ := rd_pair p8
  obtain ⟨_, _, rfl, p11, p12⟩ := rd_pair p10
  obtain rfl := show _ = [Value.int .i64 F] from p3
  obtain rfl := show _ = [Value.bool D] from p4
  obtain rfl := show _ = [Value.int .i64 u] from p6
  obtain rfl := show _ = [Value.int .i64 hh] from p7
  obtain rfl := show _ = [Value.int .i64 m] from p9
  obtain rfl := show _ = [Value.int .i64 s] from p11
  obtain rfl := show _ = [Value.int .i64 f] from p12
  refine law_calls laidOut rfl (by kernel_rfl) rfl (tb := 4) (by kernel_rfl) rfl hW' (fn3 F D hh m s f u y1 y2 hw1.1 (hbs _ hw1.2) hw2.1 (hbs _ hw2.2)) (globs hL)
    ⟨_, _, rfl, ⟨_, rfl, ⟨_, _, rfl, rfl, _, _, rfl, rfl, _, _, rfl, rfl, _, _, rfl, rfl, _, _, rfl, rfl, _, _, rfl, rfl, _, _, rfl, rfl, rfl⟩⟩, _, _, rfl, ⟨c1, rfl, ?_⟩, _, _, rfl, ⟨c2, rfl, ?_⟩, rfl⟩
  · refine ⟨?_, ?_⟩
    · rw [List.take_of_length_le (by rw [hy1.2.1]; exact Nat.le_refl _)]; exact hy1
    · rw [List.drop_eq_nil_of_le (by rw [hy1.2.1]; exact Nat.le_refl _)]; rfl
  · refine ⟨?_, ?_⟩
    · rw [List.take_of_length_le (by rw [hy2.2.1]; exact Nat.le_refl _)]; exact hy2
    · rw [List.drop_eq_nil_of_le (by rw [hy2.2.1]; exact Nat.le_refl _)]; rfl

/-- A world for the witness. -/
noncomputable def laidWorld (os : Os) : World :=
  { World.holding Tryd.prog os ⟨#[], #[], []⟩ with heap := (World.holding Tryd.prog os ⟨#[], #[], []⟩).heap.modify 1 fun
      | .cells _ t frozen => .cells #[.int .i64 24, .int .i64 25, .int .i64 30] t frozen
      | o => o }
def wargs : Array Value := #[.agg #[.int .i64 0, .bool false, .int .i64 0, .int .i64 0, .int .i64 0, .int .i64 0, .int .i64 0], .agg #[.int .u8 0, .int .u8 0], .agg #[.int .u8 0, .int .u8 0, .int .u8 0]]
theorem laid_met (os : Os) : laidMet Tryd.prog Rows.topPedestalCountedRow.laid ((laidWorld os).forCall (fun _ _ => 0) ⟨#[], wargs, []⟩).memory :=
  laidMet_of_run' 8 (by kernel_rfl) (by kernel_rfl)
theorem reads (os : Os) {H : Type} (enc : TypeId × Value → H) : ∃ places, DataW.whole enc Tryd.prog ((laidWorld os).forCall (fun _ _ => 0) ⟨#[], wargs, []⟩).memory Tryd.f3.params.toList Rows.topPedestalCountedSpec.vars false wargs.toList 8 = some ([.agg [.agg [.lit (.int .i64 0), .lit (.bool false)], .agg [.lit (.int .i64 0), .lit (.int .i64 0), .lit (.int .i64 0), .lit (.int .i64 0)], .lit (.int .i64 0)], .agg [.lit (.int .u8 0), .lit (.int .u8 0)], .agg [.lit (.int .u8 0), .lit (.int .u8 0), .lit (.int .u8 0)]], [], places) :=
  ⟨[], by kernel_rfl⟩

set_option maxRecDepth 100000 in
theorem lifted (os : Os) (started : os.Started) (H : Type) (enc : TypeId × Value → H) (F : Stop.Interp) :
    ReturnsInHanded {} Tryd.checked os 3 .any ((OpenSpec.ofChange Rows.topPedestalCountedSpec).preRow enc Tryd.prog Tryd.f3 Rows.topPedestalCountedRow.domain false Rows.topPedestalCountedRow.laid) (((OpenSpec.ofChange Rows.topPedestalCountedSpec).at F).post enc Tryd.prog Tryd.f3 false true false false) := by
  obtain ⟨places, hx⟩ := reads os enc
  refine returnsInHanded_of_row (C := Tryd.checked) (s := OpenSpec.ofChange Rows.topPedestalCountedSpec) own started (by kernel_rfl) Tryd.func3
    (witness_row_at (enc := enc) (C := Tryd.checked) false (laidWorld os) wargs rfl (by kernel_rfl) (by kernel_rfl) (by kernel_rfl)
      (OpenSpec.preRow_of_cond 8 hx (by kernel_rfl) (fun k hk => by cases hk) (by kernel_rfl) (laid_met os))) ?_
  intro W base args ds gs before hval hW _ _ _ hL _ _
  exact contract H enc W base args ds gs before hval hW hL

theorem said : Rows.TopPedestalCountedSaid :=
  OpenClaim.holds_of_cond 3 Tryd.f3 rfl rfl rfl rfl rfl rfl rfl ⟨rfl, rfl, rfl, rfl, rfl⟩ rfl rfl rfl rfl rfl (by kernel_rfl) Tryd.func3 (by kernel_rfl)
    (of_decide_eq_true (by kernel_rfl)) (by unfold Func.isWrapper; first | (rw [if_pos (by decide +kernel)]; kernel_rfl) | (rw [if_neg (by decide +kernel)]; exact ⟨rfl, rfl⟩))
    (fun os started H enc _ F => by rw [OpenClaim.pre_eq_preRow]; exact lifted os started H enc F)

theorem plain (f : FuncId) (fn : Func) (hf : Tryd.pinned.checked.prog.funcNamed "genlock/genlocktop.TopPedestalCounted" = some f) (hfn : Tryd.pinned.checked.prog.funcs[f]? = some fn) :
    false = Tryd.pinned.checked.prog.looks [] ∧ ∀ (j : Nat) t, fn.params[j]? = some t → Tryd.pinned.checked.prog.wantsStandIn t = false := by
  obtain rfl : f = 3 := Option.some.inj ((show Tryd.prog.funcNamed "genlock/genlocktop.TopPedestalCounted" = some 3 by kernel_rfl).symm.trans hf) |>.symm
  obtain rfl : fn = Tryd.f3 := (Option.some.inj (Tryd.func3.symm.trans hfn)).symm
  refine ⟨by kernel_rfl, fun j t ht => ?_⟩
  rw [Tryd.params3] at ht
  have hm : t ∈ [27, 28, 29] := by simpa using Array.mem_of_getElem? ht
  have hall : ([27, 28, 29].all fun u => !Tryd.prog.wantsStandIn u) = true := by kernel_rfl
  exact (show Tryd.prog.wantsStandIn t = false by simpa using List.all_eq_true.1 hall t hm)

/-- The card. -/
theorem card : Rows.TopPedestalCountedCardSaid :=
  Claim7.holds_tied_plain_at .later [] _ _ _ _ said (fun _ h => by cases h) (by kernel_rfl) (fun _ h => by cases h) topPedestalCounted_row_tie rfl ⟨rfl, rfl⟩ (by kernel_rfl) rfl plain (by kernel_rfl)
#print axioms card
end Go.Proofs.YtpfngnmgipnmlaaDoor.TopPedestalCounted
