/- A verified symbolic run of functions, part 19: lemmas, no claim of their own. -/
import Derived.Test.YtjbfcdgbjgjliaaGreatDoorS18
import Derived.Lib.LaidTab
import Derived.ChangeSame
import Derived.WalkKit
import Derived.Deep.DeepHandedRow
import Derived.JoinedCond
import Derived.KernelRfl
import Derived.Test.YtjbfcdgbjgjliaaGreatDoorProg
import Derived.Test.YtjbfcdgbjgjliaaGreatDoorCards
import Derived.LaidLaws
import Derived.Shelf.Vars
import Derived.Deep.DeepWitnessRowRef
namespace Go.Sx
open Go.RowKit Go.ChangeShapes Go.WideShapes Go.ChangeAt
section
variable {X : Type} {enc : TypeId × Value → X} {P : Program} {w : World} {base base' : Nat} {spare : Nat → Bool} {held : Bool} {n : Nat} {t : TypeId} {u : Ty} {v : Value} {d : DataW X} {ps : List MemPlace}
theorem cells_one (hv : ∀ cs, v ≠ .agg cs) : v.cells.toList = [v] := by
  cases v <;> simp_all [Value.cells]
theorem okWide_one (ha : aggOf P t = false) (hok : Value.okWide P w .any base' t v) : ∀ cs, v ≠ .agg cs := by
  intro cs hv
  subst hv
  unfold aggOf at ha
  unfold Value.okWide at hok
  split at hok
  · rename_i h; rw [h] at ha; cases ha
  · rename_i h; rw [h] at ha; cases ha
  · unfold Cell.okWide at hok
    split at hok <;> try (rename_i h; cases h; done)
    all_goals first | (rename_i h _; cases h; done) | skip
    all_goals first | (unfold Cell.ok at hok; split at hok <;> first | (exact hok) | (rename_i h; cases h; done) | (rename_i h _; cases h; done) | simp_all; done) | simp_all
theorem arg_one (h : rdChk P n t u = true) (ha : aggOf P t = false) (hok : Value.okWide P w .any base' t v) (hT : DataW.Trod enc P w base spare held t v d ps) : ∃ y : u.T, Rd (HW w) u y [v] ∧ WF u y := by
  obtain ⟨fuel, hT⟩ := hT
  rw [cells_one (okWide_one ha hok)] at hT
  exact trod_rd n h hT
theorem arg_agg (h : rdChk P n t u = true) (ha : aggOf P t = true) (hok : Value.okWide P w .any base' t v) (hT : DataW.Trod enc P w base spare held t v d ps) : ∃ (vs : List Value) (y : u.T), v = .agg ⟨vs⟩ ∧ Rd (HW w) u y vs ∧ WF u y := by
  obtain ⟨fuel, hT⟩ := hT
  have hv : ∃ cs, v = .agg cs := by
    unfold aggOf at ha
    unfold Value.okWide at hok
    split at hok
    · exact ⟨_, hok.choose_spec.1⟩
    · exact ⟨_, hok.choose_spec.1⟩
    · rename_i h1 h2
      split at ha
      · exact absurd ‹_› (h1 _)
      · exact absurd ‹_› (h2 _ _)
      · cases ha
  obtain ⟨cs, rfl⟩ := hv
  obtain ⟨y, h1, h2⟩ := trod_rd n h hT
  exact ⟨cs.toList, y, rfl, h1, h2⟩
end
theorem trodAll_below {X : Type} {enc : TypeId × Value → X} {P : Program} (hl : laidOutB P = true) {W W' : World} (hb : Below W.heap.size W W') : ∀ {ts : List TypeId} {vs : List Value} {ds : List (DataW X)} {ps : List MemPlace},
    (ts.all fun t => P.readableRec t && decide (t < P.types.size)) = true → DataW.TrodAll enc P W 0 (fun _ => true) true ts vs ds ps → (∀ x ∈ ps, x.block < W.heap.size) → DataW.TrodAll enc P W' 0 (fun b => decide (b < W.heap.size)) true ts vs ds ps
  | [], vs, ds, ps, _, h, _ => by
    cases vs <;> cases ds <;> simp_all [DataW.TrodAll]
  | t :: ts, vs, ds, ps, ht, h, hlt => by
    obtain ⟨v, vs', d, ds', p, q, rfl, rfl, rfl, h1, h2⟩ := trodAll_cons h
    simp only [List.all_cons, Bool.and_eq_true, decide_eq_true_eq] at ht
    refine trodAll_cons_mk (Below.trod hl ht.1.1 ht.1.2 h1 hb fun x hx => hlt x (by simp [hx])) (trodAll_below hl hb ht.2 h2 fun x hx => hlt x (by simp [hx]))
theorem law_post {X : Type} {enc : TypeId × Value → X} {P : Program} (hl : laidOutB P = true) {s : ChangeSpec} {f : Func} {tb : TypeId} {W W' : World} {args : Array Value} {ds gs : List (DataW X)} {before : List MemPlace} {r : Value}
    (hvars : s.vars = []) (hts : (f.params.toList.all fun t => P.readableRec t && decide (t < P.types.size)) = true) (hres : f.resultTypes = #[tb]) (htb : P.underlying tb = some .bool)
    (hfn : s.fn X ds = { results := [.lit (.bool true)], args := ds })
    (hW : DataW.Whole enc P f.params.toList s.vars false W args.toList ds gs before) (hb : Below W.heap.size W W') (hr : r = .bool true) :
    s.post enc P f false true false false W args r W' := by
  subst hr
  have hW' := hW
  obtain ⟨p, q, hA, hV, rfl, hfz, hnd⟩ := hW
  rw [hvars] at hV
  obtain ⟨rfl, rfl⟩ := trodVars_none hV
  have hlt : ∀ x ∈ p, x.block < W.heap.size := fun x hx => hW'.lt x (by simp [hx])
  refine ⟨ds, [], p ++ [], [], p, [], hW', ?_, ?_, ?_, hb.frame _, fun h => by cases h⟩
  · rw [List.append_nil, hfn, hres]
    exact trodAll_cons_mk (shut_bool htb _) trodAll_mk0
  · rw [List.append_nil, hfn]
    exact trodAll_below hl hb hts hA hlt
  · rw [List.append_nil, hfn, hvars]
    rfl
theorem law_calls {X : Type} {enc : TypeId × Value → X} {P : Program} (hl : laidOutB P = true) {s : ChangeSpec} {f : Func} {tb : TypeId} {fid : FuncId} {W : World} {args : Array Value} {ds gs : List (DataW X)} {before : List MemPlace}
    (hvars : s.vars = []) (hts : (f.params.toList.all fun t => P.readableRec t && decide (t < P.types.size)) = true) (hres : f.resultTypes = #[tb]) (htb : P.underlying tb = some .bool)
    (hfn : s.fn X ds = { results := [.lit (.bool true)], args := ds })
    (hW : DataW.Whole enc P f.params.toList s.vars false W args.toList ds gs before)
    {gl : Nat → Option ((t : Ty) × t.T)} {avs : List V} (hF : Fn P gl fid avs (.val (.one (.bool true))) true) (hg : GlobOk gl (HW W)) (ha : DenVs ρ0 (HW W) avs args.toList) :
    Calls P fid args W fun e W' => ∃ v, e = .returned v ∧ s.post enc P f false true false false W args v W' := by
  refine (hF W (HW W) args.toList (fun b o h => h) hg ha).mono fun e W' h => ?_
  obtain ⟨v, H', rfl, hb, _, _, hd⟩ := h
  exact ⟨v, rfl, law_post hl hvars hts hres htb hfn hW hb hd.2⟩
theorem glob_tab {P : Program} {W : World} {name : String} {k : IntKind} {zs : List Int} {g : Nat} (h : Lib.TabIs P W name k zs) (hg : P.globalNamed name = some g) :
    ∃ c e fr, HW W g = some (.cells c e fr) ∧ Rd (HW W) (.arr zs.length (.int k)) zs (seg c 0 (zs.length * 1)) ∧ c.size = zs.length * 1 := by
  unfold Lib.TabIs at h
  simp only [World.var?, hg, Option.bind_some] at h
  split at h
  · rename_i cs e fr hh
    cases h
    refine ⟨_, _, _, hh, ?_, by simp⟩
    have e1 : seg (zs.map fun z => Value.int k z).toArray 0 (zs.length * 1) = zs.map fun z => Value.int k z := by
      simp [seg, List.take_of_length_le]
    rw [e1]
    refine ⟨rfl, by simp [Ty.sz], fun i hi => ?_⟩
    show List.take 1 (List.drop (i * 1) (List.map (fun z => Value.int k z) zs)) = [Value.int k zs[i]]
    simp only [Nat.mul_one]
    rw [List.drop_eq_getElem_cons (by simpa using hi)]
    simp
  · cases h
end Go.Sx

namespace Go.Sx
open Go.RowKit
theorem laid_at {P : Program} {W : World} {name : String} {d : DataW Unit} {l : List (String × DataW Unit)} (h : laidMet P l W) (hm : (name, d) ∈ l) :
    ∃ g t cs fuel p, P.globalNamed name = some g ∧ (P.globals[g]?).map (·.type) = some t ∧ W.var? P name = some cs ∧ DataW.trod (fun _ => ()) P W 0 (fun _ => true) false fuel t cs.toList = some (d, p) := by
  obtain ⟨ps, h, hrest⟩ := h
  clear hrest
  induction l generalizing ps with
  | nil => cases hm
  | cons x r ih =>
    obtain ⟨n, e⟩ := x
    obtain ⟨g, t, cs, fuel, p, q, h1, h2, h3, h4, h5, h6⟩ := h
    rcases List.mem_cons.1 hm with e | hm
    · cases e; exact ⟨g, t, cs, fuel, p, h1, h2, h3, h4⟩
    · exact ih hm _ h5
theorem tab_at {P : Program} {W : World} {name : String} {k : IntKind} {zs : List Int} {l : List (String × DataW Unit)} {g : Nat} {t e : TypeId} {n : Nat} (hm : (name, Lib.tabData k zs) ∈ l)
    (hg : P.globalNamed name = some g) (hty : (P.globals[g]?).map (·.type) = some t) (ht : P.underlying t = some (.array n e)) (he : P.underlying e = some (.int k)) (hce : P.cellsOf e = 1) (hct : P.cellsOf t = n)
    (h : laidMet P l W) : Lib.TabIs P W name k zs := by
  obtain ⟨g', t', cs, fuel, p, h1, h2, h3, h4⟩ := laid_at h hm
  obtain rfl := Option.some.inj (hg.symm.trans h1)
  obtain rfl := Option.some.inj (hty.symm.trans h2)
  unfold Lib.TabIs
  rw [h3, ← Lib.cells_of_tab ht he hce hct h4]
theorem var_heap {P : Program} {W : World} {name : String} {g : Nat} {cs : Array Value} (hg : P.globalNamed name = some g) (h : W.var? P name = some cs) : ∃ e fr, W.heap[g]? = some (.cells cs e fr) := by
  simp only [World.var?, hg, Option.bind_some] at h
  split at h
  · rename_i cs' e fr hh
    cases h
    exact ⟨e, fr, hh⟩
  · cases h
def intB (P : Program) (t : TypeId) (k : IntKind) : Bool := match P.underlying t with
  | some (.int q) => decide (q = k)
  | _ => false
theorem intB_ok {P : Program} {t : TypeId} {k : IntKind} (h : intB P t k = true) : P.underlying t = some (.int k) := by
  unfold intB at h
  split at h
  · rename_i q hq
    rw [hq, of_decide_eq_true h]
  · cases h
def pairB (P : Program) (t : TypeId) (k k' : IntKind) : Bool := match P.underlying t with
  | some (.struct fs) => match fs.toList with
    | [f0, f1] => decide (f0.offset = 0) && decide (f1.offset = 1) && decide (P.cellsOf f0.type = 1) && decide (P.cellsOf f1.type = 1) && intB P f0.type k && intB P f1.type k' && decide (P.cellsOf t = 2)
    | _ => false
  | _ => false
theorem rd_pair {H : IH} {a b : Ty} {x : (Ty.pair a b).T} {cs : List Value} (h : Rd H (.pair a b) x cs) : ∃ c1 c2, cs = c1 ++ c2 ∧ Rd H a x.1 c1 ∧ Rd H b x.2 c2 :=
  ⟨_, _, (List.take_append_drop a.sz cs).symm, h.1, h.2⟩
end Go.Sx

namespace Go.Sx
open Go.RowKit
theorem pair_cells {P : Program} {W : World} {k k' : IntKind} {a b : Int} {t : TypeId} {fuel : Nat} {cs : List Value} {p : List MemPlace} (hc : pairB P t k k' = true)
    (h : DataW.trod (fun _ => ()) P W 0 (fun _ => true) false fuel t cs = some (.agg [.lit (.int k a), .lit (.int k' b)], p)) : cs = [.int k a, .int k' b] := by
  unfold pairB at hc
  split at hc
  · rename_i fs ht
    split at hc
    · rename_i f0 f1 hfs
      simp only [Bool.and_eq_true, decide_eq_true_eq] at hc
      obtain ⟨⟨⟨⟨⟨⟨ho0, ho1⟩, hc0⟩, hc1⟩, hu0⟩, hu1⟩, hct⟩ := hc
      cases fuel with
      | zero => simp [DataW.trod] at h
      | succ fuel =>
        simp only [DataW.trod, ht, hct, hfs, hc0, hc1, ho0, ho1, List.mapM_cons, List.mapM_nil] at h
        split at h
        · rename_i hl
          obtain ⟨xs, hx1, hx2⟩ := Option.map_eq_some_iff.1 h
          simp only [Option.bind_eq_bind, Option.bind_eq_some_iff, Option.pure_def, Option.some.injEq] at hx1
          obtain ⟨y0, hy0, r, ⟨y1, hy1, r2, rfl, rfl⟩, rfl⟩ := hx1
          obtain ⟨m0, e0, hz0, _⟩ := DataW.trod_int (intB_ok hu0) hy0
          obtain ⟨m1, e1, hz1, _⟩ := DataW.trod_int (intB_ok hu1) hy1
          subst hz0 hz1
          simp only [List.map_cons, List.map_nil, Prod.mk.injEq, DataW.agg.injEq, List.cons.injEq, DataW.lit.injEq, Lit.int.injEq, true_and, and_true] at hx2
          obtain ⟨⟨rfl, rfl⟩, _⟩ := hx2
          match cs, hl with
          | [u, v], _ =>
            simp at e0 e1
            rw [e0, e1]
        · cases h
    · cases hc
  · cases hc
theorem pairs_at {P : Program} {W : World} {name : String} {k : IntKind} {zs : List (Int × Int)} {l : List (String × DataW Unit)} {g : Nat} {t e : TypeId} {n : Nat}
    (hm : (name, .agg (zs.map fun z => .agg [.lit (.int k z.1), .lit (.int k z.2)])) ∈ l) (hg : P.globalNamed name = some g) (hty : (P.globals[g]?).map (·.type) = some t) (ht : P.underlying t = some (.array n e))
    (hn : zs.length = n) (hce : P.cellsOf e = 2) (hct : P.cellsOf t = n * 2) (hc : pairB P e k k = true) (h : laidMet P l W) :
    ∃ c e fr, HW W g = some (.cells c e fr) ∧ Rd (HW W) (.arr n (.pair (.int k) (.int k))) zs (seg c 0 (n * 2)) ∧ c.size = n * 2 := by
  obtain ⟨g', t', cs, fuel, p, h1, h2, h3, h4⟩ := laid_at h hm
  obtain rfl := Option.some.inj (hg.symm.trans h1)
  obtain rfl := Option.some.inj (hty.symm.trans h2)
  obtain ⟨ee, fr, hh⟩ := var_heap hg h3
  obtain ⟨xs, m, _, hx, hl, hxl, hi⟩ := DataW.trod_array ht h4
  have hx1 : (zs.map fun z => (.agg [.lit (.int k z.1), .lit (.int k z.2)] : DataW Unit)) = xs.map (·.1) := by
    have := congrArg Prod.fst hx
    simpa using this
  have hs : cs.size = n * 2 := by rw [← Array.length_toList, hl, hct]
  have hseg : seg cs 0 (n * 2) = cs.toList := by
    unfold seg
    rw [List.drop_zero, List.take_of_length_le (by rw [Array.length_toList]; omega)]
  refine ⟨cs, ee, fr, hh, ?_, hs⟩
  rw [hseg]
  refine ⟨hn, by rw [Array.length_toList, hs]; rfl, fun i hiz => ?_⟩
  have hin : i < n := by rw [← hn]; exact hiz
  have hix : i < xs.length := by rw [hxl]; exact hin
  have q := hi i hin
  rw [List.getElem?_eq_getElem hix, hce] at q
  have e1 : xs[i].1 = .agg [.lit (.int k zs[i].1), .lit (.int k zs[i].2)] := by
    have := congrArg (fun l => l[i]?) hx1
    simp only [List.getElem?_map, List.getElem?_eq_getElem hix, List.getElem?_eq_getElem hiz, Option.map_some, Option.some.injEq] at this
    exact this.symm
  have q' : DataW.trod (fun _ => ()) P W 0 (fun _ => true) false m e ((cs.toList.drop (i * 2)).take 2) = some (.agg [.lit (.int k zs[i].1), .lit (.int k zs[i].2)], xs[i].2) := by
    rw [q, ← e1]
  have hcell := pair_cells hc q'
  show Rd (HW W) (.pair (.int k) (.int k)) zs[i] ((cs.toList.drop (i * 2)).take 2)
  rw [hcell]
  exact ⟨rfl, rfl⟩
theorem j4a : laidOutB Proofs.Tryz.prog = true := by kernel_rfl
theorem j4b : mapsRowed Proofs.Tryz.prog = true := by kernel_rfl
theorem j4c : Proofs.Tryz.prog.stopsHeard = true := by kernel_rfl
theorem j4d : Proofs.Tryz.prog.mayEnter = true := by kernel_rfl
end Go.Sx

namespace Go.Sx
open Go.RowKit
theorem opqE_at {P : Program} {W : World} {name nm : String} {d : DataW Unit} {l : List (String × DataW Unit)} {g : Nat} {ti : TypeId} {ms : Array (String × TypeId)} (hm : (name, .iface nm d) ∈ l)
    (hg : P.globalNamed name = some g) (hty : (P.globals[g]?).map (·.type) = some ti) (hi : P.underlying ti = some (.interface ms)) (h : laidMet P l W) :
    ∃ c e fr, HW W g = some (.cells c e fr) ∧ Rd (HW W) (.opq true) () (seg c 0 (Ty.opq true).sz) ∧ c.size = (Ty.opq true).sz := by
  obtain ⟨g', t', cs, fuel, p, h1, h2, h3, h4⟩ := laid_at h hm
  obtain rfl := Option.some.inj (hg.symm.trans h1)
  obtain rfl := Option.some.inj (hty.symm.trans h2)
  obtain ⟨ee, fr, hh⟩ := var_heap hg h3
  obtain ⟨_, u, v, hc, _⟩ := iface_of_trod hi h4
  obtain ⟨cl⟩ := cs
  have hc : cl = [.iface u v] := hc
  subst hc
  exact ⟨_, ee, fr, hh, ⟨_, rfl, .inr ⟨rfl, u, v, rfl⟩⟩, rfl⟩
theorem opqI_at {P : Program} {W : World} {g : Nat} {t : TypeId} {zero : Array Value} (h : W.ShapedOpen P) (hg : g < P.globals.size)
    (h0 : ((begin P (fun _ _ => 0) default).world.heap[g]?).bind Obj.row? = some (zero, t)) (hz : zero.size = 1)
    (hb : P.buildable t = true) (hc : P.cellTypes P.depth t = some [t]) (hu : P.underlying t = some (.int .i64)) :
    ∃ c e fr, HW W g = some (.cells c e fr) ∧ Rd (HW W) (.opq false) () (seg c 0 (Ty.opq false).sz) ∧ c.size = (Ty.opq false).sz := by
  obtain ⟨m, hm⟩ := Proofs.cell_of_shapedOpen_int h hg h0 hz hb hc hu
  obtain ⟨cs, hh, hs, _⟩ := h.1 g zero t hg h0
  obtain ⟨cl⟩ := cs
  have hl : cl.length = 1 := by have : cl.length = zero.size := hs; omega
  match cl, hl with
  | [v], _ =>
    have hv : v = .int .i64 m := by simpa [World.cell?, hh] using hm
    exact ⟨_, _, _, hh, ⟨_, rfl, .inl ⟨rfl, m, hv⟩⟩, rfl⟩
end Go.Sx
