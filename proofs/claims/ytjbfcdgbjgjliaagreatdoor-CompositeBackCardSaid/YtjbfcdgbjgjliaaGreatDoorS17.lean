/- A verified symbolic run of functions, part 17: lemmas, no claim of their own. -/
import Derived.Test.YtjbfcdgbjgjliaaGreatDoorS16
import Derived.JoinedCond
import Derived.KernelRfl
import Derived.Test.YtjbfcdgbjgjliaaGreatDoorProg
import Derived.Test.YtjbfcdgbjgjliaaGreatDoorCards
/- What a row's list of variables gives: rows of pairs of numbers; what every row of this seat asks of the program. -/
namespace Go.Sx
open Go.RowKit
theorem pair_cells {P : Program} {W : World} {k k' : IntKind} {a b : Int} {t : TypeId} {fuel : Nat} {cs : List Value} {p : List MemPlace} (hc : pairB P t k k' = true)
    (h : DataW.trod (fun _ => ()) P W 0 (fun _ => true) false fuel t cs = some (.agg [.lit (.int k a), .lit (.int k' b)], p)) : cs = [.int k a, .int k' b] := by
  unfold pairB at hc
  split at hc
  · rename_i fs ht
    split at hc
    · rename_i f0 f1 hfs
      simp only [Bool.and_eq_true, decide_eq_true_eq] at hc
      obtain ⟨⟨⟨⟨⟨⟨ho0, ho1⟩, hc0⟩, hc1⟩, hu0⟩, hu1⟩, hct⟩ := hc
      cases fuel with
      | zero => simp [DataW.trod] at h
      | succ fuel =>
        simp only [DataW.trod, ht, hct, hfs, hc0, hc1, ho0, ho1, List.mapM_cons, List.mapM_nil] at h
        split at h
        · rename_i hl
          obtain ⟨xs, hx1, hx2⟩ := Option.map_eq_some_iff.1 h
          simp only [Option.bind_eq_bind, Option.bind_eq_some_iff, Option.pure_def, Option.some.injEq] at hx1
          obtain ⟨y0, hy0, r, ⟨y1, hy1, r2, rfl, rfl⟩, rfl⟩ := hx1
          obtain ⟨m0, e0, hz0, _⟩ := DataW.trod_int (intB_ok hu0) hy0
          obtain ⟨m1, e1, hz1, _⟩ := DataW.trod_int (intB_ok hu1) hy1
          subst hz0 hz1
          simp only [List.map_cons, List.map_nil, Prod.mk.injEq, DataW.agg.injEq, List.cons.injEq, DataW.lit.injEq, Lit.int.injEq, true_and, and_true] at hx2
          obtain ⟨⟨rfl, rfl⟩, _⟩ := hx2
          match cs, hl with
          | [u, v], _ =>
            simp at e0 e1
            rw [e0, e1]
        · cases h
    · cases hc
  · cases hc
theorem pairs_at {P : Program} {W : World} {name : String} {k : IntKind} {zs : List (Int × Int)} {l : List (String × DataW Unit)} {g : Nat} {t e : TypeId} {n : Nat}
    (hm : (name, .agg (zs.map fun z => .agg [.lit (.int k z.1), .lit (.int k z.2)])) ∈ l) (hg : P.globalNamed name = some g) (hty : (P.globals[g]?).map (·.type) = some t) (ht : P.underlying t = some (.array n e))
    (hn : zs.length = n) (hce : P.cellsOf e = 2) (hct : P.cellsOf t = n * 2) (hc : pairB P e k k = true) (h : laidMet P l W) :
    ∃ c e fr, HW W g = some (.cells c e fr) ∧ Rd (HW W) (.arr n (.pair (.int k) (.int k))) zs (seg c 0 (n * 2)) ∧ c.size = n * 2 := by
  obtain ⟨g', t', cs, fuel, p, h1, h2, h3, h4⟩ := laid_at h hm
  obtain rfl := Option.some.inj (hg.symm.trans h1)
  obtain rfl := Option.some.inj (hty.symm.trans h2)
  obtain ⟨ee, fr, hh⟩ := var_heap hg h3
  obtain ⟨xs, m, _, hx, hl, hxl, hi⟩ := DataW.trod_array ht h4
  have hx1 : (zs.map fun z => (.agg [.lit (.int k z.1), .lit (.int k z.2)] : DataW Unit)) = xs.map (·.1) := by
    have := congrArg Prod.fst hx
    simpa using this
  have hs : cs.size = n * 2 := by rw [← Array.length_toList, hl, hct]
  have hseg : seg cs 0 (n * 2) = cs.toList := by
    unfold seg
    rw [List.drop_zero, List.take_of_length_le (by rw [Array.length_toList]; omega)]
  refine ⟨cs, ee, fr, hh, ?_, hs⟩
  rw [hseg]
  refine ⟨hn, by rw [Array.length_toList, hs]; rfl, fun i hiz => ?_⟩
  have hin : i < n := by rw [← hn]; exact hiz
  have hix : i < xs.length := by rw [hxl]; exact hin
  have q := hi i hin
  rw [List.getElem?_eq_getElem hix, hce] at q
  have e1 : xs[i].1 = .agg [.lit (.int k zs[i].1), .lit (.int k zs[i].2)] := by
    have := congrArg (fun l => l[i]?) hx1
    simp only [List.getElem?_map, List.getElem?_eq_getElem hix, List.getElem?_eq_getElem hiz, Option.map_some, Option.some.injEq] at this
    exact this.symm
  have q' : DataW.trod (fun _ => ()) P W 0 (fun _ => true) false m e ((cs.toList.drop (i * 2)).take 2) = some (.agg [.lit (.int k zs[i].1), .lit (.int k zs[i].2)], xs[i].2) := by
    rw [q, ← e1]
  have hcell := pair_cells hc q'
  show Rd (HW W) (.pair (.int k) (.int k)) zs[i] ((cs.toList.drop (i * 2)).take 2)
  rw [hcell]
  exact ⟨rfl, rfl⟩
theorem j4a : laidOutB Proofs.Tryz.prog = true := by kernel_rfl
theorem j4b : mapsRowed Proofs.Tryz.prog = true := by kernel_rfl
theorem j4c : Proofs.Tryz.prog.stopsHeard = true := by kernel_rfl
theorem j4d : Proofs.Tryz.prog.mayEnter = true := by kernel_rfl
end Go.Sx
