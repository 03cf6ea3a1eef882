/- A verified symbolic run of functions, part 17: lemmas, no claim of their own. -/
import Derived.Test.YtjbfcdgbjgjliaaGreatDoorS16
/- What the engine asks, written out (printed by a program). -/
namespace Go.Sx
open U
theorem vc106 (l : List Pt) : exF (env false [(103, sp103)] []) h31 0 106 Proofs.Tryz.f106 [plV l, .one (.fn 103 [] [])] (.val (.one (.frs (.int .i64) (l.map fun x => ((List.length x.1 : Nat) : Int))))) = (let q0 := (↑(List.length l) : Int); (∃ (g : Nat), Nat.le g (List.length l) ∧ (0 : Int) = (↑g : Int) ∧ q0 = q0 ∧ l = l ∧ List.map (fun (x : List Nat × List Nat × List Nat) => (↑(List.length x.1) : Int)) (List.take g l) = [] ∧ True) ∧ ∀ (g : Nat), Nat.le g (List.length l) → splitB (decide ((↑g : Int) < q0)) (((0 : Int) ≤ (↑g : Int) ∧ (↑g : Int) < q0) ∧ room (List.length (List.map (fun (x : List Nat × List Nat × List Nat) => (↑(List.length x.1) : Int)) (List.take g l)) + (1 : Nat)) (8 : Nat) ∧ fits IntKind.i64 ((↑g : Int) + (1 : Int)) ∧ ∃ (g' : Nat), Nat.le g' (List.length l) ∧ List.length l - g' < List.length l - g ∧ (↑g : Int) + (1 : Int) = (↑g' : Int) ∧ q0 = q0 ∧ l = l ∧ List.map (fun (x : List Nat × List Nat × List Nat) => (↑(List.length x.1) : Int)) (List.take g l) ++ [(↑(List.length (List.getD l g ([], [], [])).1) : Int)] = List.map (fun (x : List Nat × List Nat × List Nat) => (↑(List.length x.1) : Int)) (List.take g' l) ∧ True) (List.map (fun (x : List Nat × List Nat × List Nat) => (↑(List.length x.1) : Int)) (List.take g l) = List.map (fun (x : Pt) => (↑(List.length x.1) : Int)) l ∧ True)) := by
  kernel_rfl
theorem vc31 (l : List Pt) : exF (env false [(106, sp106), (26, sp26), (104, sp104), (95, sp95), (97, sp97)] []) h31 0 31 Proofs.Tryz.f31 [plV l] (.tup [fldV (encFN l), iV (encFE l)]) = (let q1 := (↑(List.length l) : Int); splitB (decide ((32 : Int) < q1)) (encFN l = [] ∧ (5 : Int) = encFE l ∧ True) (List.length l ≤ (1000000 : Nat) ∧ (∃ (g : Nat), (g ≤ List.length l ∧ upTo (chkLi l) g = (0 : Int)) ∧ (0 : Int) = (↑g : Int) ∧ q1 = q1 ∧ l = l ∧ l = l ∧ List.map (fun (x : Pt) => (↑(List.length x.1) : Int)) l = List.map (fun (x : Pt) => (↑(List.length x.1) : Int)) l ∧ True) ∧ ∀ (g : Nat), let q2 := (List.getD l g ([], [], [])); g ≤ List.length l ∧ upTo (chkLi l) g = (0 : Int) → splitB (decide ((↑g : Int) < q1)) (((0 : Int) ≤ (↑g : Int) ∧ (↑g : Int) < q1) ∧ List.length q2.1 ≤ (1000000000 : Nat) ∧ ((0 : Int) ≤ (↑g : Int) ∧ (↑g : Int) < (↑(List.length (List.map (fun (x : Pt) => (↑(List.length x.1) : Int)) l)) : Int)) ∧ g < List.length (List.map (fun (x : Pt) => (↑(List.length x.1) : Int)) l) ∧ ((0 : Int) ≤ (0 : Int) ∧ (0 : Int) < (↑(List.length (List.map (fun (x : Pt) => (↑(List.length x.1) : Int)) l)) : Int)) ∧ (0 : Nat) < List.length (List.map (fun (x : Pt) => (↑(List.length x.1) : Int)) l) ∧ (2 : Nat) ≤ (1000000000 : Nat) ∧ splitB (first [chkPt q2.1 q2.2.1 q2.2.2, whenE (List.getD (List.map (fun (x : Pt) => (↑(List.length x.1) : Int)) l) g (0 : Int) != List.getD (List.map (fun (x : Pt) => (↑(List.length x.1) : Int)) l) (0 : Nat) (0 : Int)) (2 : Int)] != (0 : Int)) (encFN l = [] ∧ first [chkPt q2.1 q2.2.1 q2.2.2, whenE (List.getD (List.map (fun (x : Pt) => (↑(List.length x.1) : Int)) l) g (0 : Int) != List.getD (List.map (fun (x : Pt) => (↑(List.length x.1) : Int)) l) (0 : Nat) (0 : Int)) (2 : Int)] = encFE l ∧ True) (fits IntKind.i64 ((↑g : Int) + (1 : Int)) ∧ ∃ (g' : Nat), (g' ≤ List.length l ∧ upTo (chkLi l) g' = (0 : Int)) ∧ List.length l - g' < List.length l - g ∧ (↑g : Int) + (1 : Int) = (↑g' : Int) ∧ q1 = q1 ∧ l = l ∧ l = l ∧ List.map (fun (x : Pt) => (↑(List.length x.1) : Int)) l = List.map (fun (x : Pt) => (↑(List.length x.1) : Int)) l ∧ True)) ((∃ (g : Nat), (g ≤ List.length l ∧ upTo (fun (i : Nat) => lgE (encP l i)) g = (0 : Int)) ∧ (0 : Int) = (↑g : Int) ∧ q1 = q1 ∧ l = l ∧ l = l ∧ (tab g fun (i : Nat) => smpsN (encP l i)) = [] ∧ List.map (fun (x : Pt) => (↑(List.length x.1) : Int)) l = List.map (fun (x : Pt) => (↑(List.length x.1) : Int)) l ∧ True) ∧ ∀ (g : Nat), let q0 := (List.getD l g ([], [], [])); let q3 := (encI q0.1 q0.2.1 q0.2.2 (↑g : Int)); g ≤ List.length l ∧ upTo (fun (i : Nat) => lgE (encP l i)) g = (0 : Int) → splitB (decide ((↑g : Int) < q1)) (((0 : Int) ≤ (↑g : Int) ∧ (↑g : Int) < q1) ∧ chkPt q0.1 q0.2.1 q0.2.2 = (0 : Int) ∧ (0 : Int) ≤ (↑g : Int) ∧ splitB (lgE q3 != (0 : Int)) (encFN l = [] ∧ lgE q3 = encFE l ∧ True) (room (List.length (tab g fun (i : Nat) => smpsN (encP l i)) + (1 : Nat)) (24 : Nat) ∧ fits IntKind.i64 ((↑g : Int) + (1 : Int)) ∧ ∃ (g' : Nat), (g' ≤ List.length l ∧ upTo (fun (i : Nat) => lgE (encP l i)) g' = (0 : Int)) ∧ List.length l - g' < List.length l - g ∧ (↑g : Int) + (1 : Int) = (↑g' : Int) ∧ q1 = q1 ∧ l = l ∧ l = l ∧ ((tab g fun (i : Nat) => smpsN (encP l i)) ++ [smpsN q3] = tab g' fun (i : Nat) => smpsN (encP l i)) ∧ List.map (fun (x : Pt) => (↑(List.length x.1) : Int)) l = List.map (fun (x : Pt) => (↑(List.length x.1) : Int)) l ∧ True)) ((tab g fun (i : Nat) => smpsN (encP l i)) = encFN l ∧ (0 : Int) = encFE l ∧ True)))) := by
  kernel_rfl
theorem vc32 (l : List Pt) : exF (env false [(21, sp21)] []) h31 0 32 Proofs.Tryz.f32 [plV l] (.val (plV l)) = (let q1 := (↑(List.length l) : Int); (∃ (g : Nat), Nat.le g (List.length l) ∧ (0 : Int) = (↑g : Int) ∧ q1 = q1 ∧ l = l ∧ List.map (fun (x : List Nat × List Nat × List Nat) => x) (List.take g l) = [] ∧ True) ∧ ∀ (g : Nat), let q0 := (List.getD l g ([], [], [])); Nat.le g (List.length l) → splitB (decide ((↑g : Int) < q1)) (((0 : Int) ≤ (↑g : Int) ∧ (↑g : Int) < q1) ∧ List.length q0.1 ≤ (1000000 : Nat) ∧ List.length q0.2.1 ≤ (1000000 : Nat) ∧ List.length q0.2.2 ≤ (1000000 : Nat) ∧ room (List.length (List.map (fun (x : List Nat × List Nat × List Nat) => x) (List.take g l)) + (1 : Nat)) (72 : Nat) ∧ fits IntKind.i64 ((↑g : Int) + (1 : Int)) ∧ ∃ (g' : Nat), Nat.le g' (List.length l) ∧ List.length l - g' < List.length l - g ∧ (↑g : Int) + (1 : Int) = (↑g' : Int) ∧ q1 = q1 ∧ l = l ∧ List.map (fun (x : List Nat × List Nat × List Nat) => x) (List.take g l) ++ [(q0.1, q0.2.1, q0.2.2)] = List.map (fun (x : List Nat × List Nat × List Nat) => x) (List.take g' l) ∧ True) (List.map (fun (x : List Nat × List Nat × List Nat) => x) (List.take g l) = l ∧ True)) := by
  kernel_rfl
theorem vc39 (l : Fld) : exF (env false [(34, sp34)] []) h31 0 39 Proofs.Tryz.f39 [fldV l] (.val (fldV l)) = (let q0 := (↑(List.length l) : Int); (∃ (g : Nat), Nat.le g (List.length l) ∧ (0 : Int) = (↑g : Int) ∧ q0 = q0 ∧ l = l ∧ List.map (fun (x : List Nat) => x) (List.take g l) = [] ∧ True) ∧ ∀ (g : Nat), Nat.le g (List.length l) → splitB (decide ((↑g : Int) < q0)) (((0 : Int) ≤ (↑g : Int) ∧ (↑g : Int) < q0) ∧ List.length (List.getD l g []) ≤ (1000000 : Nat) ∧ room (List.length (List.map (fun (x : List Nat) => x) (List.take g l)) + (1 : Nat)) (24 : Nat) ∧ fits IntKind.i64 ((↑g : Int) + (1 : Int)) ∧ ∃ (g' : Nat), Nat.le g' (List.length l) ∧ List.length l - g' < List.length l - g ∧ (↑g : Int) + (1 : Int) = (↑g' : Int) ∧ q0 = q0 ∧ l = l ∧ List.map (fun (x : List Nat) => x) (List.take g l) ++ [List.getD l g []] = List.map (fun (x : List Nat) => x) (List.take g' l) ∧ True) (List.map (fun (x : List Nat) => x) (List.take g l) = l ∧ True)) := by
  kernel_rfl
theorem vc35 (l : List Pt) : exF (env false [(23, sp23)] []) h31 0 35 Proofs.Tryz.f35 [plV l] (.val (iV (chkLs l))) = (let q1 := (↑(List.length l) : Int); splitB (decide ((32 : Int) < q1)) ((5 : Int) = chkLs l ∧ True) ((∃ (g : Nat), (g ≤ List.length l ∧ upTo (chkLi l) g = (0 : Int)) ∧ (0 : Int) = (↑g : Int) ∧ l = l ∧ True) ∧ ∀ (g : Nat), let q0 := (List.getD l g ([], [], [])); g ≤ List.length l ∧ upTo (chkLi l) g = (0 : Int) → splitB (decide ((↑g : Int) < q1)) (((0 : Int) ≤ (↑g : Int) ∧ (↑g : Int) < q1) ∧ List.length q0.1 ≤ (1000000000 : Nat) ∧ splitB (chkPt q0.1 q0.2.1 q0.2.2 != (0 : Int)) (chkPt q0.1 q0.2.1 q0.2.2 = chkLs l ∧ True) (((0 : Int) ≤ (↑g : Int) ∧ (↑g : Int) < q1) ∧ ((0 : Int) ≤ (0 : Int) ∧ (0 : Int) < q1) ∧ splitB ((↑(List.length q0.1) : Int) != (↑(List.length (List.getD l (0 : Nat) ([], [], [])).1) : Int)) ((2 : Int) = chkLs l ∧ True) (fits IntKind.i64 ((↑g : Int) + (1 : Int)) ∧ ∃ (g' : Nat), (g' ≤ List.length l ∧ upTo (chkLi l) g' = (0 : Int)) ∧ List.length l - g' < List.length l - g ∧ (↑g : Int) + (1 : Int) = (↑g' : Int) ∧ l = l ∧ True))) ((0 : Int) = chkLs l ∧ True))) := by
  kernel_rfl
theorem vc42 (a b : Fld) : exF (env false [(27, sp27)] []) h31 0 42 Proofs.Tryz.f42 [fldV a, fldV b] (.val (bV (sameF a b))) = (splitB ((↑(List.length a) : Int) != (↑(List.length b) : Int)) (false = sameF a b ∧ True) ((∃ (g : Nat), (g ≤ List.length a ∧ ∀ (j : Nat), j < g → sameS (List.getD a j []) (List.getD b j []) = true) ∧ (0 : Int) = (↑g : Int) ∧ a = a ∧ b = b ∧ True) ∧ ∀ (g : Nat), (g ≤ List.length a ∧ ∀ (j : Nat), j < g → sameS (List.getD a j []) (List.getD b j []) = true) → splitB (decide ((↑g : Int) < (↑(List.length a) : Int))) (((0 : Int) ≤ (↑g : Int) ∧ (↑g : Int) < (↑(List.length a) : Int)) ∧ ((0 : Int) ≤ (↑g : Int) ∧ (↑g : Int) < (↑(List.length b) : Int)) ∧ List.length (List.getD a g []) ≤ (1000000000 : Nat) ∧ splitB (!sameS (List.getD a g []) (List.getD b g [])) (false = sameF a b ∧ True) (fits IntKind.i64 ((↑g : Int) + (1 : Int)) ∧ ∃ (g' : Nat), (g' ≤ List.length a ∧ ∀ (j : Nat), j < g' → sameS (List.getD a j []) (List.getD b j []) = true) ∧ List.length a - g' < List.length a - g ∧ (↑g : Int) + (1 : Int) = (↑g' : Int) ∧ a = a ∧ b = b ∧ True)) (true = sameF a b ∧ True))) := by
  kernel_rfl
end Go.Sx

/- Contracts. -/
namespace Go.Sx
open U
theorem fn106 (l : List Pt) (hl : l.length ≤ 1000000) : Fn P1 gl1 106 [plV l, .one (.fn 103 [] [])] (.val (.one (.frs (.int .i64) (l.map fun x => ((List.length x.1 : Nat) : Int))))) true := by
  refine Fn.flat ?_ rfl
  refine fn_of false [(103, sp103)] [] h31 0 Proofs.Tryz.f106 ⟨so103, trivial⟩ trivial (by kernel_rfl) rfl (by kernel_rfl) rfl rfl rfl ?_
  rw [vc106]
  try simp only [splitB_iff, -eq_self]
  refine ⟨⟨0, Nat.zero_le _, rfl, rfl, rfl, by simp⟩, fun g hg => ⟨fun hlt => ?_, fun hge => ?_⟩⟩
  · have hlt' : g < l.length := by simpa using hlt
    refine ⟨by omega, by simp only [room, List.length_map, List.length_take]; omega, by simp only [fits]; omega, g + 1, hlt', by omega, by simp, rfl, rfl, ?_, trivial⟩
    rw [getD_of hlt', List.take_succ_eq_append_getElem hlt', List.map_append]
    rfl
  · have hge' : ¬ g < l.length := by simpa using hge
    rw [List.take_of_length_le (by omega)]
    exact ⟨rfl, trivial⟩
theorem so106_ : SpecOk P1 gl1 106 sp106 := by
  intro vs ps r h hp
  simp only [sp106] at h
  split at h
  · cases h; exact fn106 _ (hp _ (.head _))
  · cases h
theorem so106 : Sp1 106 sp106 := ⟨so106_, Proofs.Tryz.f106, _, by kernel_rfl, rfl, by kernel_rfl⟩
theorem fn31 (l : List Pt) (hy : ∀ x ∈ l, x.1.length ≤ 1000000000) : Fn P1 gl1 31 [plV l] (.tup [fldV (encFN l), iV (encFE l)]) false := by
  refine fn_of false [(106, sp106), (26, sp26), (104, sp104), (95, sp95), (97, sp97)] [] h31 0 Proofs.Tryz.f31 ⟨so106, so26, so104, so95, so97, trivial⟩ trivial (by kernel_rfl) rfl (by kernel_rfl) rfl rfl rfl ?_
  rw [vc31]
  try simp only [splitB_iff, -eq_self]
  have hm : ∀ g, g < l.length → List.getD (l.map fun x : Pt => ((List.length x.1 : Nat) : Int)) g 0 = ((pAt l g).1.length : Int) := fun g hg => by
    rw [List.getD_eq_getElem?_getD, List.getElem?_map, List.getElem?_eq_getElem hg]
    show _ = (((List.getD l g ([], [], [])).1.length : Nat) : Int)
    rw [getD_of hg]
    rfl
  have hN : encFE l ≠ 0 → encFN l = [] := fun e => by unfold encFN; rw [if_neg e]
  refine ⟨fun h => ?_, fun h => ?_⟩
  · have h : (32 : Int) < (l.length : Int) := of_decide_eq_true h
    have e : encFE l = 5 := by
      have : chkLs l = 5 := by unfold chkLs; rw [if_pos (by omega)]
      unfold encFE
      rw [this]; rfl
    rw [hN (by rw [e]; decide), e]
    exact ⟨rfl, rfl, trivial⟩
  · have h : ¬ (32 : Int) < (l.length : Int) := of_decide_eq_false h
    refine ⟨by omega, ⟨0, ⟨by omega, rfl⟩, rfl, rfl, rfl, rfl, rfl, trivial⟩, fun g hg => ⟨fun hlt => ?_, fun hge => ?_⟩⟩
    · have hlt : g < l.length := by simpa using hlt
      rw [hm g hlt, hm 0 (by omega), List.length_map]
      have e : first [chkPt (List.getD l g ([], [], [])).1 (List.getD l g ([], [], [])).2.1 (List.getD l g ([], [], [])).2.2, whenE (((pAt l g).1.length : Int) != ((pAt l 0).1.length : Int)) 2] = chkLi l g := li_first l g
      rw [e]
      refine ⟨by omega, hy _ (getD_mem' hlt), by omega, by omega, by omega, by omega, by decide, fun k => ?_, fun k => ⟨by simp only [fits]; omega, g + 1, ⟨by omega, upTo_next hg.2 (bneF.1 k)⟩, by omega, by simp, rfl, rfl, rfl, rfl, trivial⟩⟩
      have k := bneZ.1 k
      have e2 : chkLs l = chkLi l g := by unfold chkLs; rw [if_neg (by omega), upTo_stop hg.2 k hlt]
      have e3 : encFE l = chkLi l g := by unfold encFE; rw [e2, if_neg k]
      rw [hN (by rw [e3]; exact k), e3]
      exact ⟨rfl, rfl, trivial⟩
    · have hge : ¬ g < l.length := by simpa using hge
      have e : g = l.length := by omega
      subst e
      have hc : chkLs l = 0 := by unfold chkLs; rw [if_neg (by omega)]; exact hg.2
      have hE : encFE l = upTo (fun i => lgE (encP l i)) l.length := by unfold encFE; rw [if_pos hc]
      refine ⟨⟨0, ⟨by omega, rfl⟩, rfl, rfl, rfl, rfl, rfl, rfl, trivial⟩, fun g hg2 => ⟨fun hlt => ?_, fun hge => ?_⟩⟩
      · have hlt : g < l.length := by simpa using hlt
        have hp : chkP (pAt l g) = 0 := ((chkLs_zero.1 hc).2 g hlt).1
        refine ⟨by omega, hp, by omega, fun k => ?_, fun k => ?_⟩
        · have k : lgE (encP l g) ≠ 0 := bneZ.1 k
          have e3 : encFE l = lgE (encP l g) := by rw [hE, upTo_stop (f := fun i => lgE (encP l i)) hg2.2 k hlt]
          rw [hN (by rw [e3]; exact k), e3]
          exact ⟨rfl, rfl, trivial⟩
        · have k : lgE (encP l g) = 0 := bneF.1 k
          exact ⟨by simp only [room, tab_len]; omega, by simp only [fits]; omega, g + 1, ⟨by omega, upTo_next (f := fun i => lgE (encP l i)) hg2.2 k⟩, by omega, by simp, rfl, rfl, rfl, (tab_succ g fun i => smpsN (encP l i)).symm, rfl, trivial⟩
      · have hge : ¬ g < l.length := by simpa using hge
        have e : g = l.length := by omega
        subst e
        have hE0 : encFE l = 0 := by rw [hE]; exact hg2.2
        rw [hE0]
        unfold encFN
        rw [if_pos hE0]
        exact ⟨rfl, rfl, trivial⟩
theorem so31_ : SpecOk P1 gl1 31 sp31 := by
  intro vs ps r h hp
  simp only [sp31] at h
  split at h
  · cases h; exact fn31 _ (hp _ (.head _))
  · cases h
theorem so31 : Sp1 31 sp31 := ⟨so31_, Proofs.Tryz.f31, _, by kernel_rfl, rfl, by kernel_rfl⟩
theorem fn32 (l : List Pt) (hl : l.length ≤ 1000000) (hy : ∀ x ∈ l, x.1.length ≤ 1000000 ∧ x.2.1.length ≤ 1000000 ∧ x.2.2.length ≤ 1000000) : Fn P1 gl1 32 [plV l] (.val (plV l)) false := by
  refine fn_of false [(21, sp21)] [] h31 0 Proofs.Tryz.f32 ⟨so21, trivial⟩ trivial (by kernel_rfl) rfl (by kernel_rfl) rfl rfl rfl ?_
  rw [vc32]
  try simp only [splitB_iff, -eq_self]
  refine ⟨⟨0, Nat.zero_le _, rfl, rfl, rfl, by simp⟩, fun g hg => ⟨fun hlt => ?_, fun hge => ?_⟩⟩
  · have hlt' : g < l.length := by simpa using hlt
    have hk := hy _ (getD_mem' (d := ([], [], [])) hlt')
    refine ⟨by omega, hk.1, hk.2.1, hk.2.2, by simp only [room, List.length_map, List.length_take]; omega, by simp only [fits]; omega, g + 1, hlt', by omega, by simp, rfl, rfl, ?_, trivial⟩
    rw [getD_of hlt', List.take_succ_eq_append_getElem hlt', List.map_append]
    rfl
  · have hge' : ¬ g < l.length := by simpa using hge
    rw [List.take_of_length_le (by omega)]
    exact ⟨by simp, trivial⟩
theorem so32_ : SpecOk P1 gl1 32 sp32 := by
  intro vs ps r h hp
  simp only [sp32] at h
  split at h
  · cases h; exact fn32 _ (hp _ (.head _)) (hp _ (.tail _ (.head _)))
  · cases h
theorem so32 : Sp1 32 sp32 := ⟨so32_, Proofs.Tryz.f32, _, by kernel_rfl, rfl, by kernel_rfl⟩
theorem fn39 (l : Fld) (hl : l.length ≤ 1000000) (hy : ∀ x ∈ l, x.length ≤ 1000000) : Fn P1 gl1 39 [fldV l] (.val (fldV l)) false := by
  refine fn_of false [(34, sp34)] [] h31 0 Proofs.Tryz.f39 ⟨so34, trivial⟩ trivial (by kernel_rfl) rfl (by kernel_rfl) rfl rfl rfl ?_
  rw [vc39]
  try simp only [splitB_iff, -eq_self]
  refine ⟨⟨0, Nat.zero_le _, rfl, rfl, rfl, by simp⟩, fun g hg => ⟨fun hlt => ?_, fun hge => ?_⟩⟩
  · have hlt' : g < l.length := by simpa using hlt
    refine ⟨by omega, hy _ (getD_mem' hlt'), by simp only [room, List.length_map, List.length_take]; omega, by simp only [fits]; omega, g + 1, hlt', by omega, by simp, rfl, rfl, ?_, trivial⟩
    rw [getD_of hlt', List.take_succ_eq_append_getElem hlt', List.map_append]
    rfl
  · have hge' : ¬ g < l.length := by simpa using hge
    rw [List.take_of_length_le (by omega)]
    exact ⟨by simp, trivial⟩
theorem so39_ : SpecOk P1 gl1 39 sp39 := by
  intro vs ps r h hp
  simp only [sp39] at h
  split at h
  · cases h; exact fn39 _ (hp _ (.head _)) (hp _ (.tail _ (.head _)))
  · cases h
theorem so39 : Sp1 39 sp39 := ⟨so39_, Proofs.Tryz.f39, _, by kernel_rfl, rfl, by kernel_rfl⟩
theorem fn35 (l : List Pt) (hy : ∀ x ∈ l, x.1.length ≤ 1000000000) : Fn P1 gl1 35 [plV l] (.val (iV (chkLs l))) true := by
  refine Fn.flat ?_ rfl
  refine fn_of false [(23, sp23)] [] h31 0 Proofs.Tryz.f35 ⟨so23, trivial⟩ trivial (by kernel_rfl) rfl (by kernel_rfl) rfl rfl rfl ?_
  rw [vc35]
  try simp only [splitB_iff, -eq_self]
  refine ⟨fun h => ?_, fun h => ⟨⟨0, ⟨by omega, rfl⟩, rfl, rfl, trivial⟩, fun g hg => ⟨fun hlt => ?_, fun hge => ?_⟩⟩⟩
  · have h : (32 : Int) < (l.length : Int) := of_decide_eq_true h
    unfold chkLs
    rw [if_pos (by omega)]
    exact ⟨rfl, trivial⟩
  · have h : ¬ (32 : Int) < (l.length : Int) := of_decide_eq_false h
    have hlt : g < l.length := by simpa using hlt
    refine ⟨by omega, hy _ (getD_mem' hlt), fun k => ?_, fun k => ⟨by omega, by omega, fun k2 => ?_, fun k2 => ⟨by simp only [fits]; omega, g + 1, ⟨by omega, ?_⟩, by omega, by simp, rfl, trivial⟩⟩⟩
    · have k : chkP (pAt l g) ≠ 0 := bneZ.1 k
      have e : chkLi l g = chkP (pAt l g) := by unfold chkLi; rw [if_neg k]
      unfold chkLs
      rw [if_neg (by omega), upTo_stop hg.2 (by rw [e]; exact k) hlt, e]
      exact ⟨rfl, trivial⟩
    · have k : chkP (pAt l g) = 0 := bneF.1 k
      have k2 : ¬ ((pAt l g).1.length : Int) = ((pAt l 0).1.length : Int) := bne_iff_ne.1 k2
      have e : chkLi l g = 2 := by unfold chkLi; rw [if_pos k, if_neg (by omega)]
      unfold chkLs
      rw [if_neg (by omega), upTo_stop hg.2 (by rw [e]; decide) hlt, e]
      exact ⟨rfl, trivial⟩
    · have k : chkP (pAt l g) = 0 := bneF.1 k
      have k2 : ((pAt l g).1.length : Int) = ((pAt l 0).1.length : Int) := bne_eq_false_iff_eq.1 k2
      exact upTo_next hg.2 (chkLi_zero.2 ⟨k, by omega⟩)
  · have h : ¬ (32 : Int) < (l.length : Int) := of_decide_eq_false h
    have hge : ¬ g < l.length := by simpa using hge
    have e : g = l.length := by omega
    subst e
    unfold chkLs
    rw [if_neg (by omega), hg.2]
    exact ⟨rfl, trivial⟩
theorem so35_ : SpecOk P1 gl1 35 sp35 := by
  intro vs ps r h hp
  simp only [sp35] at h
  split at h
  · cases h; exact fn35 _ (hp _ (.head _))
  · cases h
theorem so35 : Sp1 35 sp35 := ⟨so35_, Proofs.Tryz.f35, _, by kernel_rfl, rfl, by kernel_rfl⟩
theorem fn42 (a b : Fld) (hl : a.length ≤ 1000000) (hy : ∀ x ∈ a, x.length ≤ 1000000) : Fn P1 gl1 42 [fldV a, fldV b] (.val (bV (sameF a b))) true := by
  refine Fn.flat ?_ rfl
  refine fn_of false [(27, sp27)] [] h31 0 Proofs.Tryz.f42 ⟨so27, trivial⟩ trivial (by kernel_rfl) rfl (by kernel_rfl) rfl rfl rfl ?_
  rw [vc42]
  try simp only [splitB_iff, -eq_self]
  refine ⟨fun h => ?_, fun h => ⟨⟨0, ⟨by omega, fun j hj => absurd hj (by omega)⟩, rfl, rfl, rfl, trivial⟩, fun g hg => ⟨fun hlt => ?_, fun hge => ?_⟩⟩⟩
  · have h : ¬ (a.length : Int) = b.length := bne_iff_ne.1 h
    unfold sameF
    rw [decide_eq_false h]
    exact ⟨rfl, trivial⟩
  · have h : (a.length : Int) = b.length := bne_eq_false_iff_eq.1 h
    have hlt : g < a.length := by simpa using hlt
    have hk := hy _ (getD_mem' (d := []) hlt)
    refine ⟨by omega, by omega, by omega, fun k => ?_, fun k => ⟨by simp only [fits]; omega, g + 1, ⟨by omega, fun j hj => ?_⟩, by omega, by simp, rfl, rfl, trivial⟩⟩
    · rw [Bool.not_eq_true'] at k
      have : sameF a b = false := by
        unfold sameF
        rw [Bool.and_eq_false_iff]
        exact .inr (List.all_eq_false.2 ⟨g, List.mem_range.2 hlt, by rw [k]; decide⟩)
      rw [this]
      exact ⟨rfl, trivial⟩
    · by_cases e : j = g
      · subst e; rw [Bool.not_eq_false'] at k; exact k
      · exact hg.2 j (by omega)
  · have h : (a.length : Int) = b.length := bne_eq_false_iff_eq.1 h
    have hge : ¬ g < a.length := by simpa using hge
    have : sameF a b = true := by
      unfold sameF
      simp only [Bool.and_eq_true, decide_eq_true_eq, List.all_eq_true, List.mem_range]
      exact ⟨h, fun i hi => hg.2 i (by omega)⟩
    rw [this]
    exact ⟨rfl, trivial⟩
theorem so42_ : SpecOk P1 gl1 42 sp42 := by
  intro vs ps r h hp
  simp only [sp42] at h
  split at h
  · cases h
    exact fn42 _ _ (hp _ (.head _)) (hp _ (.tail _ (.head _)))
  · cases h
    exact Fn.args (fn42 _ [] (hp _ (.head _)) (hp _ (.tail _ (.head _)))) fun H vs d => by
      obtain ⟨v0, r0, rfl, h0, v1, r1, rfl, h1, hz⟩ := d
      exact ⟨_, _, rfl, h0, _, _, rfl, nil_sl h1, hz⟩
  · cases h
theorem so42 : Sp1 42 sp42 := ⟨so42_, Proofs.Tryz.f42, _, by kernel_rfl, rfl, by kernel_rfl⟩
end Go.Sx

/- Plain functions of the law Fields. -/
namespace Go.Sx.U
end Go.Sx.U

/- Plain functions of composite: decoding by choice. -/
namespace Go.Sx.U
def dstTo (a b : List Int) (c : Nat) : Nat → Int
  | 0 => 0
  | j + 1 => dstTo a b c j + farI (List.getD a (4 * c + j) 0) (List.getD b (4 * c + j) 0)
theorem dstTo_nonneg (a b : List Int) (c : Nat) : ∀ j, 0 ≤ dstTo a b c j
  | 0 => Int.le_refl 0
  | j + 1 => by
    have h1 := dstTo_nonneg a b c j
    have h2 := farI_nonneg (List.getD a (4 * c + j) 0) (List.getD b (4 * c + j) 0)
    unfold dstTo
    omega
theorem dstTo_mono (a b : List Int) (c : Nat) {i : Nat} : ∀ {j : Nat}, i ≤ j → dstTo a b c i ≤ dstTo a b c j
  | 0, h => by
    have : i = 0 := by omega
    subst this
    exact Int.le_refl _
  | j + 1, h => by
    by_cases e : i = j + 1
    · subst e; exact Int.le_refl _
    · have h1 := dstTo_mono a b c (i := i) (j := j) (by omega)
      have h2 := farI_nonneg (List.getD a (4 * c + j) 0) (List.getD b (4 * c + j) 0)
      show _ ≤ dstTo a b c j + farI (List.getD a (4 * c + j) 0) (List.getD b (4 * c + j) 0)
      omega
theorem dstTo_bd {a b : List Int} {B : Int} (ha : Bd B a) (hb : Bd B b) (hB : 0 ≤ B) (c : Nat) : ∀ j : Nat, dstTo a b c j ≤ (j : Int) * (2 * B)
  | 0 => by show (0 : Int) ≤ _; omega
  | j + 1 => by
    have h1 := dstTo_bd ha hb hB c j
    have h2 := bd_get ha (i := 4 * c + j) hB
    have h3 := bd_get hb (i := 4 * c + j) hB
    have e : (((j + 1 : Nat) : Int)) * (2 * B) = (j : Int) * (2 * B) + 2 * B := by rw [Int.natCast_add, Int.add_mul]; simp
    rw [e]
    show dstTo a b c j + farI _ _ ≤ _
    unfold farI
    omega
theorem farI_self (x : Int) : farI x x = 0 := by unfold farI; omega
theorem dstTo_self (a : List Int) (c : Nat) : ∀ j, dstTo a a c j = 0
  | 0 => rfl
  | j + 1 => by
    show dstTo a a c j + farI _ _ = 0
    rw [dstTo_self a c j, farI_self]; rfl
theorem dst_cyc (a b : List Int) (c : Nat) : dstTo (List.take 4 (List.drop (4 * c) a)) (List.take 4 (List.drop (4 * c) b)) 0 4 = dstTo a b c 4 := by
  show (((0 + farI (List.getD _ (4 * 0 + 0) 0) (List.getD _ (4 * 0 + 0) 0)) + farI (List.getD _ (4 * 0 + 1) 0) (List.getD _ (4 * 0 + 1) 0)) + farI (List.getD _ (4 * 0 + 2) 0) (List.getD _ (4 * 0 + 2) 0)) + farI (List.getD _ (4 * 0 + 3) 0) (List.getD _ (4 * 0 + 3) 0) = (((0 + farI (List.getD a (4 * c + 0) 0) (List.getD b (4 * c + 0) 0)) + farI (List.getD a (4 * c + 1) 0) (List.getD b (4 * c + 1) 0)) + farI (List.getD a (4 * c + 2) 0) (List.getD b (4 * c + 2) 0)) + farI (List.getD a (4 * c + 3) 0) (List.getD b (4 * c + 3) 0)
  simp only [Nat.mul_zero, Nat.zero_add, cyc_get _ c 0 (by omega), cyc_get _ c 1 (by omega), cyc_get _ c 2 (by omega), cyc_get _ c 3 (by omega)]
theorem list4 {a : List Int} (h : a.length = 4) : a = [List.getD a 0 0, List.getD a 1 0, List.getD a 2 0, List.getD a 3 0] := by
  match a, h with
  | [x, y, z, w], _ => rfl
theorem eq4_self {a b : List Int} (ha : a.length = 4) (hb : b.length = 4) (h : eqT (.arr 4 (.int .i64)) a b = true) : a = b := by
  have h' : ((List.range 4).all fun i => eqT (.int .i64) (List.getD a i 0) (List.getD b i 0)) = true := h
  have key : ∀ i, i < 4 → List.getD a i 0 = List.getD b i 0 := fun i hi => by
    have := List.all_eq_true.1 h' i (List.mem_range.2 hi)
    exact eq_of_beq (show (List.getD a i 0 == List.getD b i 0) = true from this)
  rw [list4 ha, list4 hb, key 0 (by omega), key 1 (by omega), key 2 (by omega), key 3 (by omega)]
def rwI (L : List (List Int)) (k : Int) : List Int := List.getD L k.toNat []
def useC (L : List (List Int)) (line limit : Int) (c : Nat) : Bool := (decide (0 < line) && decide (line < (L.length : Int) - 1)) && decide (dstTo (rwI L (line - 1)) (rwI L (line + 1)) c 4 ≤ limit)
def thrL (L : List (List Int)) (line : Int) : List Int := thrD (rwI L (line - 1)) (rwI L line) (rwI L (line + 1))
def choY (L : List (List Int)) (line limit : Int) (n : Nat) : Int := bif useC L line limit (n / 4) then apAt (rwI L line) (thrL L line) line 8 n else apAt (rwI L line) (rwI L line) line 2 n
def choC (j : Nat) (L : List (List Int)) (line limit : Int) (c : Nat) : Int := bif useC L line limit c then diffAt j (thrL L line) c line 8 else diffAt j (rwI L line) c line 2
def choI (L : List (List Int)) (line limit : Int) : It := (tab (rwI L line).length (choY L line limit), tab ((rwI L line).length / 4) (choC 0 L line limit), tab ((rwI L line).length / 4) (choC 1 L line limit))
def choU (L : List (List Int)) (line limit : Int) : List Bool := tab ((rwI L line).length / 4) (useC L line limit)
def FldI (L : List (List Int)) : Prop := L.length ≤ 32 ∧ ∀ x ∈ L, Bd 16384 x ∧ x.length ≤ 256 ∧ x.length % 4 = 0 ∧ x.length = (List.getD L 0 []).length
theorem fldI_of {l : Fld} (h : chkFld l = 0) : FldI (l.map sixs) := by
  refine ⟨by rw [List.length_map]; exact (chkFld_zero.1 h).1, fun x hx => ?_⟩
  obtain ⟨y, hy, e⟩ := List.mem_map.1 hx
  obtain ⟨i, hi, e2⟩ := List.mem_iff_getElem.1 hy
  obtain ⟨k1, k2, k3, k4⟩ := fld_line h hi
  have e3 : List.getD l i [] = y := by rw [getD_of hi, e2]
  rw [e3] at k1 k2 k3 k4
  rw [← e, map_get, sixs_len, sixs_len]
  exact ⟨bd_sixs k1, k2, k3, k4⟩
theorem fldI_get {L : List (List Int)} (h : FldI L) {k : Int} (h0 : 0 ≤ k) (h1 : k < L.length) : Bd 16384 (rwI L k) ∧ (rwI L k).length ≤ 256 ∧ (rwI L k).length % 4 = 0 ∧ (rwI L k).length = (List.getD L 0 []).length :=
  h.2 _ (getD_mem' (by omega))
theorem choY_t {L : List (List Int)} {line lim : Int} {g : Nat} (h : useC L line lim g = true) {n : Nat} (hn : n / 4 = g) : choY L line lim n = apAt (rwI L line) (thrL L line) line 8 n := by
  unfold choY; rw [hn, h]; rfl
theorem choY_f {L : List (List Int)} {line lim : Int} {g : Nat} (h : useC L line lim g = false) {n : Nat} (hn : n / 4 = g) : choY L line lim n = apAt (rwI L line) (rwI L line) line 2 n := by
  unfold choY; rw [hn, h]; rfl
theorem choC_t {L : List (List Int)} {line lim : Int} {g : Nat} (j : Nat) (h : useC L line lim g = true) : choC j L line lim g = diffAt j (thrL L line) g line 8 := by
  unfold choC; rw [h]; rfl
theorem choC_f {L : List (List Int)} {line lim : Int} {g : Nat} (j : Nat) (h : useC L line lim g = false) : choC j L line lim g = diffAt j (rwI L line) g line 2 := by
  unfold choC; rw [h]; rfl
theorem put_skip {α : Type} {d : α} {l : List α} {f : Nat → α} {i k : Nat} (hik : i ≤ k) (h : ∀ j, i ≤ j → j < k → j < l.length → List.getD l j d = f j) : putTo d l f i = putTo d l f k := by
  unfold putTo
  refine tab_ext fun j hj => ?_
  by_cases h1 : j < i
  · rw [if_pos h1, if_pos (by omega)]
  · rw [if_neg h1]
    by_cases h2 : j < k
    · rw [if_pos h2]; exact h j (by omega) h2 hj
    · rw [if_neg h2]
theorem put_copy {d : Int} {l ys : List Int} {f : Nat → Int} {g n : Nat} (hn : n = 4) (hy : ys.length = 4) (hl : 4 * g + 4 ≤ l.length) (h : ∀ j, j < 4 → List.getD ys j d = f (4 * g + j)) : copyL (4 * g) n (putTo d l f (4 * g)) ys = putTo d l f (4 * (g + 1)) := by
  subst hn
  have hp := putTo_len d l f (4 * g)
  have hq := putTo_len d l f (4 * (g + 1))
  refine List.ext_getElem ?_ fun j h1 h2 => ?_
  · unfold copyL
    rw [hq]
    simp only [List.length_append, List.length_take, List.length_drop, hp, hy]
    omega
  · have hj : j < l.length := by rw [hq] at h2; exact h2
    have key : ∀ (m : List Int) (hm : j < m.length), m[j] = List.getD m j d := fun m hm => by
      rw [List.getD_eq_getElem?_getD, List.getElem?_eq_getElem hm]; rfl
    rw [key _ h1, key _ h2]
    unfold copyL putTo
    rw [tab_get hj]
    have ht : List.take 4 ys = ys := List.take_of_length_le (by omega)
    rw [ht, hy]
    simp only [List.getD_eq_getElem?_getD]
    by_cases c1 : j < 4 * g
    · rw [if_pos (by omega), List.append_assoc, List.getElem?_append_left (by simp only [List.length_take, tab_len]; omega), List.getElem?_take_of_lt c1]
      have := tab_get (f := fun j => if j < 4 * g then f j else List.getD l j d) (d := d) hj
      rw [List.getD_eq_getElem?_getD, if_pos c1] at this
      exact this
    · by_cases c2 : j < 4 * g + 4
      · rw [if_pos (by omega), List.getElem?_append_left (by simp only [List.length_append, List.length_take, tab_len, hy]; omega), List.getElem?_append_right (by simp only [List.length_take, tab_len]; omega)]
        have e : j - (List.take (4 * g) (tab l.length fun j => if j < 4 * g then f j else (l[j]?).getD d)).length = j - 4 * g := by
          rw [List.length_take, tab_len]; omega
        rw [e]
        have := h (j - 4 * g) (by omega)
        rw [List.getD_eq_getElem?_getD, show 4 * g + (j - 4 * g) = j by omega] at this
        exact this
      · rw [if_neg (by omega), List.getElem?_append_right (by simp only [List.length_append, List.length_take, tab_len, hy]; omega), List.getElem?_drop]
        have e : 4 * g + min 4 4 + (j - (List.take (4 * g) (tab l.length fun j => if j < 4 * g then f j else (l[j]?).getD d) ++ ys).length) = j := by
          rw [List.length_append, List.length_take, tab_len, hy]; omega
        rw [e]
        have := tab_get (f := fun j => if j < 4 * g then f j else List.getD l j d) (d := d) hj
        rw [List.getD_eq_getElem?_getD, if_neg c1] at this
        simp only [List.getD_eq_getElem?_getD] at this
        exact this
theorem fill_next {α : Type} {d : α} {n : Nat} {f : Nat → α} {g : Nat} (h : f g = d) : fillTo d n f g = fillTo d n f (g + 1) := by
  unfold fillTo
  refine tab_ext fun j hj => ?_
  by_cases h1 : j < g
  · rw [if_pos h1, if_pos (by omega)]
  · rw [if_neg h1]
    by_cases h2 : j < g + 1
    · rw [if_pos h2, show j = g by omega, h]
    · rw [if_neg h2]
def decB (l : Fld) (lim : Int) : Int := first [chkFld l, within lim 0 1048576]
def decE (l : Fld) (lim : Int) : Int := if decB l lim = 0 then upTo (fun k => partsE (choI (l.map sixs) k lim)) l.length else decB l lim
def decP (l : Fld) (lim : Int) : List Pt := if decE l lim = 0 then tab l.length fun k => partsP (choI (l.map sixs) k lim) else []
def decU (l : Fld) (lim : Int) : List (List Bool) := if decE l lim = 0 then tab l.length fun k => choU (l.map sixs) k lim else []
theorem rwI_map (l : Fld) (k : Int) : rwI (l.map sixs) k = sixs (List.getD l k.toNat []) := map_get _ _
theorem rwI_nat (l : Fld) (g : Nat) : rwI (l.map sixs) (g : Int) = sixs (List.getD l g []) := by rw [rwI_map, Int.toNat_natCast]
theorem useC_in {L : List (List Int)} {line lim : Int} {c : Nat} (h : useC L line lim c = true) : 0 < line ∧ line < (L.length : Int) - 1 := by
  unfold useC at h
  simp only [Bool.and_eq_true, decide_eq_true_eq] at h
  exact h.1
theorem decE_of {l : Fld} {lim : Int} (h : decB l lim = 0) : decE l lim = upTo (fun k => partsE (choI (l.map sixs) k lim)) l.length := by unfold decE; rw [if_pos h]
def sameB (a b : List Bool) : Bool := decide ((a.length : Int) = b.length) && (List.range a.length).all fun i => List.getD a i false == List.getD b i false
end Go.Sx.U

/- Plain functions and hints. -/
namespace Go.Sx
open U
@[reducible] def itF (x : It) : V := .agg [.one (.frs (.int .i64) x.1), .one (.frs (.int .i64) x.2.1), .one (.frs (.int .i64) x.2.2)]
@[reducible] def fiV (L : List (List Int)) : V := .one (.sl (.sl (.int .i64)) L)
def dstS (s : St) : Option (List Int × List Int) := match boxS s with
  | (_, [.arr 4 (.int .i64) a]) :: (_, [.arr 4 (.int .i64) b]) :: _ => some (a, b)
  | _ => none
def own3 : List (Nat × List Ch) → List (Nat × Nat × Nat × Nat)
  | [] => []
  | (i, [.one (.own a), .one (.own b), .one (.own c)]) :: r => (i, a, b, c) :: own3 r
  | _ :: r => own3 r
def own1 : List (Nat × List Ch) → List (Nat × Nat)
  | [] => []
  | (i, [.one (.own a)]) :: r => (i, a) :: own1 r
  | _ :: r => own1 r
def intsB : List (Nat × List Ch) → List Int
  | [] => []
  | (_, [.one (.int .i64 n)]) :: r => n :: intsB r
  | _ :: r => intsB r
def fldB : List (Nat × List Ch) → List (List (List Int))
  | [] => []
  | (_, [.one (.sl (.sl (.int .i64)) L)]) :: r => L :: fldB r
  | _ :: r => fldB r
def h49 : Hints := ⟨fun f k s => match f, k with
  | 172, 5 => match dstS s, intOfT s 2 with
    | some (a, b), some lim => some ⟨Nat, fun i => s.at [2, 3, 4, 8] [tI 13 i, tI 7 (dstTo a b 0 i)], fun i => i ≤ 4 ∧ dstTo a b 0 i ≤ lim, fun i => 4 - i⟩
    | _, _ => none
  | 167, 1 => match fldB (boxS s), intsB (boxS s), own3 (boxS s), own1 (boxS s) with
    | L :: _, line :: lim :: _, (_, y, u, v) :: _, (_, us) :: _ => match lookO s.ob y, lookO s.ob u, lookO s.ob v with
      | some (.row (.int .i64) ly), some (.row (.int .i64) lu), some (.row (.int .i64) lv) => some ⟨Nat, fun i => ⟨tI 7 i :: keepT [0, 1, 6] s.tm,
        (y, some (.row (.int .i64) (putTo 0 ly (choY L line lim) (4 * i)))) :: (u, some (.row (.int .i64) (putTo 0 lu (choC 0 L line lim) i))) :: (v, some (.row (.int .i64) (putTo 0 lv (choC 1 L line lim) i))) :: (us, some (.row .bool (fillTo false (List.length (rwI L line) / 4) (useC L line lim) i))) :: dropO s [y, u, v, us], s.nx, s.lr⟩,
        fun i => i ≤ List.length (rwI L line) / 4, fun i => List.length (rwI L line) / 4 - i⟩
      | _, _, _ => none
    | _, _, _, _ => none
  | _, _ => none, 0⟩
end Go.Sx
namespace Go.Sx
open U
def sp172 : FSpec := ⟨fun vs => match vs with
  | [.agg [.arr 4 (.int .i64) a], .agg [.arr 4 (.int .i64) b], .one (.int .i64 lim)] => some ([List.length a = 4, List.length b = 4, Bd 16384 a, Bd 16384 b, 0 ≤ lim ∧ lim ≤ 1048576], .val (bV (decide (dstTo a b 0 4 ≤ lim))))
  | _ => none, true⟩
def sp111 : FSpec := ⟨fun vs => match vs with
  | [.one (.sl (.int .i64) l), .one (.int .i64 line)] => some ([Bd 16384 l, List.length l ≤ 256, List.length l % 4 = 0, 0 ≤ line], .val (itF (bandI l line)))
  | _ => none, true⟩
def sp122 : FSpec := ⟨fun vs => match vs with
  | [.one (.sl (.sl (.int .i64)) L), .one (.int .i64 line)] => some ([FldI L, 0 < line ∧ line < ((List.length L : Nat) : Int) - 1], .val (itV (apartI (rwI L line) (thrL L line) line 8)))
  | _ => none, true⟩
def sp124 : FSpec := ⟨fun vs => match vs with
  | [.one (.sl (.sl (.int .i64)) L), .one (.int .i64 line), .one (.int .i64 lim)] => some ([FldI L, 0 ≤ line ∧ line < ((List.length L : Nat) : Int), 0 ≤ lim ∧ lim ≤ 1048576], .tup [itV (choI L line lim), .one (.sl .bool (choU L line lim))])
  | _ => none, false⟩
end Go.Sx

/- What the engine asks, written out (printed by a program). -/
namespace Go.Sx
open U
theorem vc172 (a b : List Int) (lim : Int) : exF (env false [] []) h49 0 172 Proofs.Tryz.f172 [.agg [.arr 4 (.int .i64) a], .agg [.arr 4 (.int .i64) b], iV lim] (.val (bV (decide (dstTo a b 0 4 ≤ lim)))) = (let q3 := (dstTo a b (0 : Nat) (4 : Nat) ≤ lim); splitB (eqT (Ty.arr (4 : Nat) (Ty.int IntKind.i64)) a b) (true = decide q3 ∧ True) ((∃ (g : Nat), (g ≤ (4 : Nat) ∧ dstTo a b (0 : Nat) g ≤ lim) ∧ (0 : Int) = (↑g : Int) ∧ (0 : Int) = dstTo a b (0 : Nat) g ∧ false = false ∧ lim = lim ∧ b = b ∧ a = a ∧ True) ∧ ∀ (g : Nat), let q0 := (List.getD a g (0 : Int) - List.getD b g (0 : Int)); let q1 := (List.getD b g (0 : Int) - List.getD a g (0 : Int)); let q2 := ((0 : Int) ≤ (↑g : Int) ∧ (↑g : Int) < (4 : Int)); g ≤ (4 : Nat) ∧ dstTo a b (0 : Nat) g ≤ lim → splitB (decide ((↑g : Int) < (4 : Int))) (q2 ∧ g < List.length a ∧ q2 ∧ g < List.length b ∧ fits IntKind.i64 q0 ∧ q2 ∧ g < List.length b ∧ q2 ∧ g < List.length a ∧ fits IntKind.i64 q1 ∧ fits IntKind.i64 (dstTo a b (0 : Nat) g + max q0 q1) ∧ splitB (decide (lim < dstTo a b (0 : Nat) g + max q0 q1)) ((!true) = decide q3 ∧ True) (fits IntKind.i64 ((↑g : Int) + (1 : Int)) ∧ ∃ (g' : Nat), (g' ≤ (4 : Nat) ∧ dstTo a b (0 : Nat) g' ≤ lim) ∧ (4 : Nat) - g' < (4 : Nat) - g ∧ (↑g : Int) + (1 : Int) = (↑g' : Int) ∧ dstTo a b (0 : Nat) g + max q0 q1 = dstTo a b (0 : Nat) g' ∧ false = false ∧ lim = lim ∧ b = b ∧ a = a ∧ True)) ((!false) = decide q3 ∧ True))) := by
  kernel_rfl
theorem vc111 (l : List Int) (line : Int) : exF (env false [(117, sp117), (118, sp118), (116, sp116), (163, sp163)] [fb168]) h0 3 111 Proofs.Tryz.f111 [.one (.sl (.int .i64) l), iV line] (.val (itF (bandI l line))) = (List.length l ≤ (100000 : Nat) ∧ Bd (1000000 : Int) l ∧ (0 : Int) ≤ line ∧ ((0 : Int) < (2 : Int) ∧ (2 : Int) ≤ (1000 : Int)) ∧ List.length (diffN (0 : Nat) l line (2 : Int)) ≤ (100000 : Nat) ∧ List.length (diffN (1 : Nat) l line (2 : Int)) = List.length (diffN (0 : Nat) l line (2 : Int)) ∧ Bd (1000000 : Int) (diffN (0 : Nat) l line (2 : Int)) ∧ Bd (1000000 : Int) (diffN (1 : Nat) l line (2 : Int)) ∧ (0 : Int) ≤ line ∧ List.length l ≤ (100000 : Nat) ∧ List.length (carI (diffN (0 : Nat) l line (2 : Int)) (diffN (1 : Nat) l line (2 : Int)) (signI line)) = List.length l ∧ Bd (1000000 : Int) l ∧ Bd (1000000 : Int) (carI (diffN (0 : Nat) l line (2 : Int)) (diffN (1 : Nat) l line (2 : Int)) (signI line)) ∧ combI minusI l (carI (diffN (0 : Nat) l line (2 : Int)) (diffN (1 : Nat) l line (2 : Int)) (signI line)) = Prod.fst (bandI l line) ∧ diffN (0 : Nat) l line (2 : Int) = Prod.fst (Prod.snd (bandI l line)) ∧ diffN (1 : Nat) l line (2 : Int) = Prod.snd (Prod.snd (bandI l line)) ∧ True) := by
  kernel_rfl
theorem vc122 (L : List (List Int)) (line : Int) : exFr (env false [(117, sp117), (164, sp164), (171, sp171), (116, sp116), (163, sp163), (118, sp118)] [fb168]) h0 3 122 Proofs.Tryz.f122 [fiV L, iV line] (.val (itV (apartI (rwI L line) (thrL L line) line 8))) = (fits IntKind.i64 (line - (1 : Int)) ∧ ((0 : Int) ≤ line - (1 : Int) ∧ line - (1 : Int) < (↑(List.length L) : Int)) ∧ fits IntKind.i64 (line + (1 : Int)) ∧ ((0 : Int) ≤ line + (1 : Int) ∧ line + (1 : Int) < (↑(List.length L) : Int)) ∧ List.length (List.getD L (Int.toNat (line - (1 : Int))) []) ≤ (100000 : Nat) ∧ List.length (List.getD L (Int.toNat (line + (1 : Int))) []) = List.length (List.getD L (Int.toNat (line - (1 : Int))) []) ∧ Bd (1000000 : Int) (List.getD L (Int.toNat (line - (1 : Int))) []) ∧ Bd (1000000 : Int) (List.getD L (Int.toNat (line + (1 : Int))) []) ∧ ((0 : Int) ≤ line ∧ line < (↑(List.length L) : Int)) ∧ ((0 : Int) ≤ line ∧ line < (↑(List.length L) : Int)) ∧ List.length (List.getD L (Int.toNat line) []) ≤ (100000 : Nat) ∧ List.length (combI plusI (List.getD L (Int.toNat (line - (1 : Int))) []) (List.getD L (Int.toNat (line + (1 : Int))) [])) = List.length (List.getD L (Int.toNat line) []) ∧ Bd (1000000 : Int) (List.getD L (Int.toNat line) []) ∧ Bd (1000000 : Int) (combI plusI (List.getD L (Int.toNat (line - (1 : Int))) []) (List.getD L (Int.toNat (line + (1 : Int))) [])) ∧ List.length (combI lessI (List.getD L (Int.toNat line) []) (combI plusI (List.getD L (Int.toNat (line - (1 : Int))) []) (List.getD L (Int.toNat (line + (1 : Int))) []))) ≤ (100000 : Nat) ∧ Bd (1000000 : Int) (combI lessI (List.getD L (Int.toNat line) []) (combI plusI (List.getD L (Int.toNat (line - (1 : Int))) []) (List.getD L (Int.toNat (line + (1 : Int))) []))) ∧ (0 : Int) ≤ line ∧ ((0 : Int) < (8 : Int) ∧ (8 : Int) ≤ (1000 : Int)) ∧ List.length (diffN (0 : Nat) (combI lessI (List.getD L (Int.toNat line) []) (combI plusI (List.getD L (Int.toNat (line - (1 : Int))) []) (List.getD L (Int.toNat (line + (1 : Int))) []))) line (8 : Int)) ≤ (100000 : Nat) ∧ List.length (diffN (1 : Nat) (combI lessI (List.getD L (Int.toNat line) []) (combI plusI (List.getD L (Int.toNat (line - (1 : Int))) []) (List.getD L (Int.toNat (line + (1 : Int))) []))) line (8 : Int)) = List.length (diffN (0 : Nat) (combI lessI (List.getD L (Int.toNat line) []) (combI plusI (List.getD L (Int.toNat (line - (1 : Int))) []) (List.getD L (Int.toNat (line + (1 : Int))) []))) line (8 : Int)) ∧ Bd (1000000 : Int) (diffN (0 : Nat) (combI lessI (List.getD L (Int.toNat line) []) (combI plusI (List.getD L (Int.toNat (line - (1 : Int))) []) (List.getD L (Int.toNat (line + (1 : Int))) []))) line (8 : Int)) ∧ Bd (1000000 : Int) (diffN (1 : Nat) (combI lessI (List.getD L (Int.toNat line) []) (combI plusI (List.getD L (Int.toNat (line - (1 : Int))) []) (List.getD L (Int.toNat (line + (1 : Int))) []))) line (8 : Int)) ∧ (0 : Int) ≤ line ∧ List.length (List.getD L (Int.toNat line) []) ≤ (100000 : Nat) ∧ List.length (carI (diffN (0 : Nat) (combI lessI (List.getD L (Int.toNat line) []) (combI plusI (List.getD L (Int.toNat (line - (1 : Int))) []) (List.getD L (Int.toNat (line + (1 : Int))) []))) line (8 : Int)) (diffN (1 : Nat) (combI lessI (List.getD L (Int.toNat line) []) (combI plusI (List.getD L (Int.toNat (line - (1 : Int))) []) (List.getD L (Int.toNat (line + (1 : Int))) []))) line (8 : Int)) (signI line)) = List.length (List.getD L (Int.toNat line) []) ∧ Bd (1000000 : Int) (List.getD L (Int.toNat line) []) ∧ Bd (1000000 : Int) (carI (diffN (0 : Nat) (combI lessI (List.getD L (Int.toNat line) []) (combI plusI (List.getD L (Int.toNat (line - (1 : Int))) []) (List.getD L (Int.toNat (line + (1 : Int))) []))) line (8 : Int)) (diffN (1 : Nat) (combI lessI (List.getD L (Int.toNat line) []) (combI plusI (List.getD L (Int.toNat (line - (1 : Int))) []) (List.getD L (Int.toNat (line + (1 : Int))) []))) line (8 : Int)) (signI line)) ∧ combI minusI (List.getD L (Int.toNat line) []) (carI (diffN (0 : Nat) (combI lessI (List.getD L (Int.toNat line) []) (combI plusI (List.getD L (Int.toNat (line - (1 : Int))) []) (List.getD L (Int.toNat (line + (1 : Int))) []))) line (8 : Int)) (diffN (1 : Nat) (combI lessI (List.getD L (Int.toNat line) []) (combI plusI (List.getD L (Int.toNat (line - (1 : Int))) []) (List.getD L (Int.toNat (line + (1 : Int))) []))) line (8 : Int)) (signI line)) = Prod.fst (apartI (rwI L line) (thrL L line) line (8 : Int)) ∧ diffN (0 : Nat) (combI lessI (List.getD L (Int.toNat line) []) (combI plusI (List.getD L (Int.toNat (line - (1 : Int))) []) (List.getD L (Int.toNat (line + (1 : Int))) []))) line (8 : Int) = Prod.fst (Prod.snd (apartI (rwI L line) (thrL L line) line (8 : Int))) ∧ diffN (1 : Nat) (combI lessI (List.getD L (Int.toNat line) []) (combI plusI (List.getD L (Int.toNat (line - (1 : Int))) []) (List.getD L (Int.toNat (line + (1 : Int))) []))) line (8 : Int) = Prod.snd (Prod.snd (apartI (rwI L line) (thrL L line) line (8 : Int))) ∧ True) := by
  kernel_rfl
theorem vc124 (L : List (List Int)) (line lim : Int) : exF (env false [(172, sp172), (121, sp121), (111, sp111), (122, sp122)] [fb107, fb167]) h49 3 124 Proofs.Tryz.f124 [fiV L, iV line, iV lim] (.tup [itV (choI L line lim), .one (.sl .bool (choU L line lim))]) = (let q7 := (List.getD L (Int.toNat line) []); let q0 := (bandI q7 line); let q1 := (apartI (rwI L line) (thrL L line) line (8 : Int)); let q8 := (Int.toNat (line - (1 : Int))); let q3 := (↑(List.length (List.getD L q8 [])) : Int); let q4 := (List.length (rwI L line) / (4 : Nat)); let q10 := (choC (0 : Nat) L line lim); let q11 := (choC (1 : Nat) L line lim); let q12 := (↑(List.length L) : Int); let q13 := (↑(List.length q7) : Int); let q15 := (useC L line lim); let q16 := (choI L line lim); let q17 := (choY L line lim); let q21 := (Int.toNat (q13 / (4 : Int))); let q22 := (List.getD L (Int.toNat (line + (1 : Int))) []); ((0 : Int) ≤ line ∧ line < q12) ∧ Bd (16384 : Int) q7 ∧ List.length q7 ≤ (256 : Nat) ∧ List.length q7 % (4 : Nat) = (0 : Nat) ∧ (0 : Int) ≤ line ∧ ((0 : Int) ≤ line ∧ line < q12) ∧ ((0 : Int) ≤ q13 ∧ (0 : Int) < (4 : Int) ∧ fits IntKind.i64 (q13 / (4 : Int))) ∧ (0 : Int) ≤ q13 / (4 : Int) ∧ room q21 (1 : Nat) ∧ ((0 : Int) ≤ q12 ∧ q12 ≤ (1000000000 : Int)) ∧ splitB (!(decide ((0 : Int) < line) && decide (line < q12 - (1 : Int)))) (q0.1 = q16.1 ∧ q0.2.1 = q16.2.1 ∧ q0.2.2 = q16.2.2 ∧ List.replicate q21 false = choU L line lim ∧ True) (FldI L ∧ ((0 : Int) < line ∧ line < q12 - (1 : Int)) ∧ fits IntKind.i64 (line - (1 : Int)) ∧ ((0 : Int) ≤ line - (1 : Int) ∧ line - (1 : Int) < q12) ∧ ((0 : Int) ≤ q3 ∧ (0 : Int) < (4 : Int) ∧ fits IntKind.i64 (q3 / (4 : Int))) ∧ (∃ (g : Nat), Nat.le g q4 ∧ (0 : Int) = (↑g : Int) ∧ q3 / (4 : Int) = q3 / (4 : Int) ∧ q0.1 = putTo (0 : Int) q0.1 q17 ((4 : Nat) * g) ∧ q0.2.1 = putTo (0 : Int) q0.2.1 q10 g ∧ q0.2.2 = putTo (0 : Int) q0.2.2 q11 g ∧ List.replicate q21 false = fillTo false q4 q15 g ∧ List.getD L q8 [] = List.getD L q8 [] ∧ q1.1 = q1.1 ∧ q1.2.1 = q1.2.1 ∧ q1.2.2 = q1.2.2 ∧ lim = lim ∧ line = line ∧ L = L ∧ True) ∧ ∀ (g : Nat), let q9 := ((4 : Int) * (↑g : Int)); let q18 := ((4 : Int) * (↑g : Int) + (4 : Int)); let q2 := (Int.toNat q18 - Int.toNat q9); let q5 := (List.take q2 (List.drop (Int.toNat q9) (List.getD L q8 []))); let q6 := (List.take q2 (List.drop (Int.toNat q9) q22)); let q14 := (putTo (0 : Int) q0.1 q17 ((4 : Nat) * g)); let q19 := (putTo (0 : Int) q0.2.1 q10 g); let q20 := (putTo (0 : Int) q0.2.2 q11 g); Nat.le g q4 → splitB (decide ((↑g : Int) < q3 / (4 : Int))) (fits IntKind.i64 q9 ∧ fits IntKind.i64 q9 ∧ fits IntKind.i64 q18 ∧ ((0 : Int) ≤ (4 : Int) * (↑g : Int) ∧ (4 : Int) * (↑g : Int) ≤ (4 : Int) * (↑g : Int) + (4 : Int) ∧ (4 : Int) * (↑g : Int) + (4 : Int) ≤ q3) ∧ (4 : Nat) ≤ List.length q5 ∧ fits IntKind.i64 q9 ∧ fits IntKind.i64 q9 ∧ fits IntKind.i64 q18 ∧ fits IntKind.i64 (line + (1 : Int)) ∧ ((0 : Int) ≤ line + (1 : Int) ∧ line + (1 : Int) < q12) ∧ ((0 : Int) ≤ (4 : Int) * (↑g : Int) ∧ (4 : Int) * (↑g : Int) ≤ (4 : Int) * (↑g : Int) + (4 : Int) ∧ (4 : Int) * (↑g : Int) + (4 : Int) ≤ (↑(List.length q22) : Int)) ∧ (4 : Nat) ≤ List.length q6 ∧ List.length (List.take (4 : Nat) q5) = (4 : Nat) ∧ List.length (List.take (4 : Nat) q6) = (4 : Nat) ∧ Bd (16384 : Int) (List.take (4 : Nat) q5) ∧ Bd (16384 : Int) (List.take (4 : Nat) q6) ∧ ((0 : Int) ≤ lim ∧ lim ≤ (1048576 : Int)) ∧ splitB (decide (dstTo (List.take (4 : Nat) q5) (List.take (4 : Nat) q6) (0 : Nat) (4 : Nat) ≤ lim)) (((0 : Int) ≤ (↑g : Int) ∧ (↑g : Int) < (↑(List.length (fillTo false q4 q15 g)) : Int)) ∧ g < List.length (fillTo false q4 q15 g) ∧ ((0 : Int) ≤ (4 : Int) * (↑g : Int) ∧ (4 : Int) * (↑g : Int) ≤ (4 : Int) * (↑g : Int) + (4 : Int) ∧ (4 : Int) * (↑g : Int) + (4 : Int) ≤ (↑(List.length q14) : Int)) ∧ ((0 : Int) ≤ (4 : Int) * (↑g : Int) ∧ (4 : Int) * (↑g : Int) ≤ (4 : Int) * (↑g : Int) + (4 : Int) ∧ (4 : Int) * (↑g : Int) + (4 : Int) ≤ (↑(List.length q1.1) : Int)) ∧ Int.toNat q9 + q2 ≤ List.length q14 ∧ ((0 : Int) ≤ (↑g : Int) ∧ (↑g : Int) < (↑(List.length q1.2.1) : Int)) ∧ ((0 : Int) ≤ (↑g : Int) ∧ (↑g : Int) < (↑(List.length q1.2.2) : Int)) ∧ ((0 : Int) ≤ (↑g : Int) ∧ (↑g : Int) < (↑(List.length q19) : Int)) ∧ g < List.length q19 ∧ ((0 : Int) ≤ (↑g : Int) ∧ (↑g : Int) < (↑(List.length q20) : Int)) ∧ g < List.length q20 ∧ fits IntKind.i64 ((↑g : Int) + (1 : Int)) ∧ ∃ (g' : Nat), Nat.le g' q4 ∧ List.length (rwI L line) / (4 : Nat) - g' < List.length (rwI L line) / (4 : Nat) - g ∧ (↑g : Int) + (1 : Int) = (↑g' : Int) ∧ q3 / (4 : Int) = q3 / (4 : Int) ∧ copyL (Int.toNat q9) q2 q14 (List.take q2 (List.drop (Int.toNat q9) q1.1)) = putTo (0 : Int) q0.1 q17 ((4 : Nat) * g') ∧ List.set q19 g (List.getD q1.2.1 g (0 : Int)) = putTo (0 : Int) q0.2.1 q10 g' ∧ List.set q20 g (List.getD q1.2.2 g (0 : Int)) = putTo (0 : Int) q0.2.2 q11 g' ∧ List.set (fillTo false q4 q15 g) g true = fillTo false q4 q15 g' ∧ List.getD L q8 [] = List.getD L q8 [] ∧ q1.1 = q1.1 ∧ q1.2.1 = q1.2.1 ∧ q1.2.2 = q1.2.2 ∧ lim = lim ∧ line = line ∧ L = L ∧ True) (fits IntKind.i64 ((↑g : Int) + (1 : Int)) ∧ ∃ (g' : Nat), Nat.le g' q4 ∧ List.length (rwI L line) / (4 : Nat) - g' < List.length (rwI L line) / (4 : Nat) - g ∧ (↑g : Int) + (1 : Int) = (↑g' : Int) ∧ q3 / (4 : Int) = q3 / (4 : Int) ∧ putTo (0 : Int) q0.1 q17 ((4 : Nat) * g) = putTo (0 : Int) q0.1 q17 ((4 : Nat) * g') ∧ putTo (0 : Int) q0.2.1 q10 g = putTo (0 : Int) q0.2.1 q10 g' ∧ putTo (0 : Int) q0.2.2 q11 g = putTo (0 : Int) q0.2.2 q11 g' ∧ fillTo false q4 q15 g = fillTo false q4 q15 g' ∧ List.getD L q8 [] = List.getD L q8 [] ∧ q1.1 = q1.1 ∧ q1.2.1 = q1.2.1 ∧ q1.2.2 = q1.2.2 ∧ lim = lim ∧ line = line ∧ L = L ∧ True)) (putTo (0 : Int) q0.1 q17 ((4 : Nat) * g) = q16.1 ∧ putTo (0 : Int) q0.2.1 q10 g = q16.2.1 ∧ putTo (0 : Int) q0.2.2 q11 g = q16.2.2 ∧ fillTo false q4 q15 g = choU L line lim ∧ True))) := by
  kernel_rfl
end Go.Sx

/- Contracts. -/
namespace Go.Sx
open U
theorem fn172 (a b : List Int) (lim : Int) (ha : a.length = 4) (hb : b.length = 4) (h1 : Bd 16384 a) (h2 : Bd 16384 b) (hl : 0 ≤ lim ∧ lim ≤ 1048576) : Fn P1 gl1 172 [.agg [.arr 4 (.int .i64) a], .agg [.arr 4 (.int .i64) b], iV lim] (.val (bV (decide (dstTo a b 0 4 ≤ lim)))) true := by
  refine Fn.flat ?_ rfl
  refine fn_of false [] [] h49 0 Proofs.Tryz.f172 trivial trivial (by kernel_rfl) rfl (by kernel_rfl) rfl rfl rfl ?_
  rw [vc172]
  try simp only [splitB_iff, -eq_self]
  refine ⟨fun h => ?_, fun h => ⟨⟨0, ⟨by omega, hl.1⟩, rfl, rfl, rfl, rfl, rfl, rfl, trivial⟩, fun g hg => ⟨fun hlt => ?_, fun hge => ?_⟩⟩⟩
  · rw [eq4_self ha hb h]
    refine ⟨?_, trivial⟩
    rw [dstTo_self]
    simp [hl.1]
  · have hlt : (g : Int) < 4 := by simpa using hlt
    have hlt : g < 4 := by omega
    have k1 := bd_get h1 (i := g) (by omega)
    have k2 := bd_get h2 (i := g) (by omega)
    have k3 := dstTo_bd h1 h2 (by omega) 0 g
    have k4 := dstTo_nonneg a b 0 g
    have e : dstTo a b 0 (g + 1) = dstTo a b 0 g + max (List.getD a g 0 - List.getD b g 0) (List.getD b g 0 - List.getD a g 0) := by
      show dstTo a b 0 g + farI (List.getD a (4 * 0 + g) 0) (List.getD b (4 * 0 + g) 0) = _
      rw [Nat.mul_zero, Nat.zero_add]
      unfold farI
      omega
    rw [← e]
    have k5 := dstTo_bd h1 h2 (by omega) 0 (g + 1)
    have k6 := dstTo_nonneg a b 0 (g + 1)
    simp only [fits, -eq_self]
    refine ⟨by omega, by omega, by omega, by omega, by omega, by omega, by omega, by omega, by omega, by omega, by omega, fun k => ?_, fun k => ?_⟩
    · have k : lim < dstTo a b 0 (g + 1) := of_decide_eq_true k
      have := dstTo_mono a b 0 (i := g + 1) (j := 4) (by omega)
      refine ⟨?_, trivial⟩
      rw [decide_eq_false (by omega)]
      rfl
    · have k : ¬ lim < dstTo a b 0 (g + 1) := of_decide_eq_false k
      exact ⟨by omega, g + 1, ⟨by omega, by omega⟩, by omega, by omega, rfl, rfl, rfl, rfl, rfl, trivial⟩
  · have hge : ¬ (g : Int) < 4 := by simpa using hge
    have e : g = 4 := by omega
    subst e
    refine ⟨?_, trivial⟩
    rw [decide_eq_true hg.2]
    rfl
theorem so172_ : SpecOk P1 gl1 172 sp172 := by
  intro vs ps r h hp
  simp only [sp172] at h
  split at h
  · cases h; exact fn172 _ _ _ (hp _ (.head _)) (hp _ (.tail _ (.head _))) (hp _ (.tail _ (.tail _ (.head _)))) (hp _ (.tail _ (.tail _ (.tail _ (.head _))))) (hp _ (.tail _ (.tail _ (.tail _ (.tail _ (.head _))))))
  · cases h
theorem so172 : Sp1 172 sp172 := ⟨so172_, Proofs.Tryz.f172, _, by kernel_rfl, rfl, by kernel_rfl⟩
theorem fn111 (l : List Int) (line : Int) (hb : Bd 16384 l) (hl : l.length ≤ 256) (h4 : l.length % 4 = 0) (hn : 0 ≤ line) : Fn P1 gl1 111 [.one (.sl (.int .i64) l), iV line] (.val (itF (bandI l line))) true := by
  refine Fn.flat ?_ rfl
  refine fn_of false [(117, sp117), (118, sp118), (116, sp116), (163, sp163)] [fb168] h0 3 Proofs.Tryz.f111 ⟨so117, so118, so116, so163, trivial⟩ ⟨⟨by kernel_rfl, by kernel_rfl, _, rfl, by kernel_rfl⟩, trivial⟩ (by kernel_rfl) rfl (by kernel_rfl) rfl rfl rfl ?_
  rw [vc111]
  try simp only [splitB_iff, -eq_self]
  have b1 : Bd 1000000 (diffN 0 l line 2) := bd_le (bd_diff (B := 16384) (by omega) (by omega) hb) (by omega)
  have b2 : Bd 1000000 (diffN 1 l line 2) := bd_le (bd_diff (B := 16384) (by omega) (by omega) hb) (by omega)
  simp only [carI_len, diffN_len, -eq_self]
  exact ⟨by omega, bd_le hb (by omega), hn, by omega, by omega, rfl, b1, b2, hn, by omega, by omega, bd_le hb (by omega), bd_car (signI_cases _) (by omega) b1 b2, rfl, rfl, rfl, trivial⟩
theorem so111_ : SpecOk P1 gl1 111 sp111 := by
  intro vs ps r h hp
  simp only [sp111] at h
  split at h
  · cases h; exact fn111 _ _ (hp _ (.head _)) (hp _ (.tail _ (.head _))) (hp _ (.tail _ (.tail _ (.head _)))) (hp _ (.tail _ (.tail _ (.tail _ (.head _)))))
  · cases h
theorem so111 : Sp1 111 sp111 := ⟨so111_, Proofs.Tryz.f111, _, by kernel_rfl, rfl, by kernel_rfl⟩
theorem fn122 (L : List (List Int)) (line : Int) (hL : FldI L) (hn : 0 < line ∧ line < (L.length : Int) - 1) : Fn P1 gl1 122 [fiV L, iV line] (.val (itV (apartI (rwI L line) (thrL L line) line 8))) true := by
  refine fn_ofr false [(117, sp117), (164, sp164), (171, sp171), (116, sp116), (163, sp163), (118, sp118)] [fb168] h0 3 Proofs.Tryz.f122 ⟨so117, so164, so171, so116, so163, so118, trivial⟩ ⟨⟨by kernel_rfl, by kernel_rfl, _, rfl, by kernel_rfl⟩, trivial⟩ (by kernel_rfl) rfl (by kernel_rfl) rfl rfl rfl ?_
  rw [vc122]
  try simp only [splitB_iff, -eq_self]
  have h32 := hL.1
  obtain ⟨a1, a2, a3, a4⟩ := fldI_get hL (k := line) (by omega) (by omega)
  obtain ⟨b1, b2, b3, b4⟩ := fldI_get hL (k := line - 1) (by omega) (by omega)
  obtain ⟨d1, d2, d3, d4⟩ := fldI_get hL (k := line + 1) (by omega) (by omega)
  unfold thrL
  unfold rwI at *
  generalize List.getD L (line - 1).toNat [] = o at *
  generalize List.getD L (line + 1).toNat [] = p at *
  generalize List.getD L line.toNat [] = s at *
  have z0 : Bd 1000000 (combI plusI o p) := bd_comb (A := 16384) (B := 16384) b1 d1 (by omega) (by omega) fun x y hx hy => by unfold plusI; omega
  have z1 : Bd 65536 (thrD o s p) := bd_thrD b1 a1 d1
  have z2 : Bd 1000000 (diffN 0 (thrD o s p) line 8) := bd_le (bd_diff (by omega) (by omega) z1) (by omega)
  have z3 : Bd 1000000 (diffN 1 (thrD o s p) line 8) := bd_le (bd_diff (by omega) (by omega) z1) (by omega)
  have eD : combI lessI s (combI plusI o p) = thrD o s p := rfl
  rw [eD]
  have eL : (thrD o s p).length = s.length := thrD_len _ _ _
  generalize thrD o s p = T at *
  simp only [combI_len, diffN_len, carI_len, eL, fits, -eq_self]
  exact ⟨by omega, by omega, by omega, by omega, by omega, by omega, bd_le b1 (by omega), bd_le d1 (by omega), by omega, by omega, by omega, by omega, bd_le a1 (by omega), z0, by omega, bd_le z1 (by omega), by omega, by omega, by omega, rfl, z2, z3, by omega, by omega, by omega, bd_le a1 (by omega), bd_car (signI_cases _) (by omega) z2 z3, rfl, rfl, rfl, trivial⟩
theorem so122_ : SpecOk P1 gl1 122 sp122 := by
  intro vs ps r h hp
  simp only [sp122] at h
  split at h
  · cases h; exact fn122 _ _ (hp _ (.head _)) (hp _ (.tail _ (.head _)))
  · cases h
theorem so122 : Sp1 122 sp122 := ⟨so122_, Proofs.Tryz.f122, _, by kernel_rfl, rfl, by kernel_rfl⟩
theorem cho_off {L : List (List Int)} {line lim : Int} (h4 : (rwI L line).length % 4 = 0) (hu : ∀ c, useC L line lim c = false) : choI L line lim = bandI (rwI L line) line ∧ choU L line lim = List.replicate ((rwI L line).length / 4) false := by
  constructor
  · unfold bandI
    rw [apartI_eq rfl h4]
    unfold choI diffN
    refine Prod.ext (tab_ext fun n _ => ?_) (Prod.ext (tab_ext fun q _ => ?_) (tab_ext fun q _ => ?_))
    · rw [choY_f (hu _) rfl]
    · rw [choC_f 0 (hu _)]
    · rw [choC_f 1 (hu _)]
  · unfold choU
    refine (eq_tab false (by simp) fun i hi => ?_).symm
    rw [hu]
    simp [List.getD_eq_getElem?_getD, List.getElem?_replicate, hi]
theorem fn124 (L : List (List Int)) (line lim : Int) (hL : FldI L) (hn : 0 ≤ line ∧ line < (L.length : Int)) (hl : 0 ≤ lim ∧ lim ≤ 1048576) : Fn P1 gl1 124 [fiV L, iV line, iV lim] (.tup [itV (choI L line lim), .one (.sl .bool (choU L line lim))]) false := by
  refine fn_of false [(172, sp172), (121, sp121), (111, sp111), (122, sp122)] [fb107, fb167] h49 3 Proofs.Tryz.f124 ⟨so172, so121, so111, so122, trivial⟩ ⟨⟨by kernel_rfl, by kernel_rfl, _, rfl, by kernel_rfl⟩, ⟨by kernel_rfl, by kernel_rfl, _, rfl, by kernel_rfl⟩, trivial⟩ (by kernel_rfl) rfl (by kernel_rfl) rfl rfl rfl ?_
  rw [vc124]
  try simp only [splitB_iff, -eq_self]
  obtain ⟨a1, a2, a3, a4⟩ := fldI_get hL hn.1 hn.2
  have h32 := hL.1
  obtain ⟨S, hS⟩ : ∃ S, rwI L line = S := ⟨_, rfl⟩
  have hS' : List.getD L line.toNat [] = S := hS
  rw [hS] at a1 a2 a3 a4
  rw [hS', hS]
  have hlen := bandI_len S line
  have e4 : Int.toNat ((S.length : Int) / 4) = S.length / 4 := by omega
  rw [e4]
  simp only [room, fits, -eq_self]
  refine ⟨hn, a1, a2, a3, hn.1, hn, by omega, by omega, by omega, by omega, fun k => ?_, fun k => ?_⟩
  · have hu : ∀ c, useC L line lim c = false := fun c => by
      unfold useC
      rw [Bool.not_eq_true'] at k
      rw [k]; rfl
    obtain ⟨o1, o2⟩ := cho_off (L := L) (line := line) (lim := lim) (by rw [hS]; exact a3) hu
    rw [o1, o2, hS]
    exact ⟨rfl, rfl, rfl, rfl, trivial⟩
  · have k : (decide (0 < line) && decide (line < (L.length : Int) - 1)) = true := by simpa using k
    have k' : 0 < line ∧ line < (L.length : Int) - 1 := by simpa using k
    obtain ⟨b1, b2, b3, b4⟩ := fldI_get hL (k := line - 1) (by omega) (by omega)
    obtain ⟨d1, d2, d3, d4⟩ := fldI_get hL (k := line + 1) (by omega) (by omega)
    have hu : ∀ g, useC L line lim g = decide (dstTo (rwI L (line - 1)) (rwI L (line + 1)) g 4 ≤ lim) := fun g => by
      unfold useC
      rw [k]; rfl
    have hthr : (thrL L line).length = S.length := by
      unfold thrL
      rw [thrD_len, hS]
    have hq1 : apartI S (thrL L line) line 8 = (tab S.length (apAt S (thrL L line) line 8), diffN 0 (thrL L line) line 8, diffN 1 (thrL L line) line 8) := apartI_eq hthr a3
    have hbn : bandI S line = (tab S.length (apAt S S line 2), diffN 0 S line 2, diffN 1 S line 2) := by
      unfold bandI
      exact apartI_eq rfl a3
    obtain ⟨O, hO⟩ : ∃ O, rwI L (line - 1) = O := ⟨_, rfl⟩
    obtain ⟨P, hP⟩ : ∃ P, rwI L (line + 1) = P := ⟨_, rfl⟩
    have hO' : List.getD L (line - 1).toNat [] = O := hO
    have hP' : List.getD L (line + 1).toNat [] = P := hP
    rw [hO', hP']
    rw [hO] at b1 b2 b3 b4
    rw [hP] at d1 d2 d3 d4
    rw [hO, hP] at hu
    have hOl : O.length = S.length := by omega
    have hPl : P.length = S.length := by omega
    refine ⟨hL, k', by omega, by omega, by omega, ⟨0, Nat.zero_le _, rfl, rfl, (putTo_zero _ _ _).symm, (putTo_zero _ _ _).symm, (putTo_zero _ _ _).symm, (fillTo_zero _ _ _).symm, rfl, rfl, rfl, rfl, rfl, rfl, rfl, trivial⟩, fun g hg => ⟨fun hlt => ?_, fun hge => ?_⟩⟩
    · have hlt : (g : Int) < (O.length : Int) / 4 := of_decide_eq_true hlt
      have hg4 : g < S.length / 4 := by omega
      have l1 := cyc_len (l := O) (g := g) (by omega)
      have l2 := cyc_len (l := P) (g := g) (by omega)
      have l3 := cyc_len (l := tab S.length (apAt S (thrL L line) line 8)) (g := g) (by rw [tab_len]; omega)
      have c1 := cyc_eq O g
      have c2 := cyc_eq P g
      have n1 : (List.take 4 (List.drop (4 * g) O)).length = 4 := by rw [List.length_take, List.length_drop]; omega
      have n2 : (List.take 4 (List.drop (4 * g) P)).length = 4 := by rw [List.length_take, List.length_drop]; omega
      have z1 : Bd 16384 (List.take 4 (List.drop (4 * g) O)) := fun x hx => b1 x (List.mem_of_mem_drop (List.mem_of_mem_take hx))
      have z2 : Bd 16384 (List.take 4 (List.drop (4 * g) P)) := fun x hx => d1 x (List.mem_of_mem_drop (List.mem_of_mem_take hx))
      have t1 : Int.toNat (4 * (g : Int)) = 4 * g := by omega
      have t2 : Int.toNat (4 * (g : Int) + 4) - 4 * g = 4 := by omega
      rw [c1, c2, dst_cyc, hbn, hq1]
      simp only [putTo_len, fillTo_len, tab_len, diffN_len, hthr, n1, n2, l1, l2, -eq_self]
      refine ⟨by omega, by omega, by omega, by omega, by omega, by omega, by omega, by omega, by omega, by omega, by omega, by omega, by omega, by omega, z1, z2, hl, fun ku => ?_, fun ku => ?_⟩
      · have hu1 : useC L line lim g = true := by rw [hu]; exact ku
        refine ⟨by omega, by omega, by omega, by omega, by omega, by omega, by omega, by omega, by omega, by omega, by omega, by omega, g + 1, (show g + 1 ≤ S.length / 4 by omega), by omega, by simp, rfl, ?_, ?_, ?_, ?_, rfl, rfl, rfl, rfl, rfl, rfl, rfl, trivial⟩
        · rw [t1, t2]
          refine put_copy (d := 0) rfl (by rw [List.length_take, List.length_drop, tab_len]; omega) (by rw [tab_len]; omega) fun j hj => ?_
          rw [cyc_get _ _ _ hj, tab_get (by omega), choY_t hu1 (by omega), hS]
        · have := putTo_set 0 (diffN 0 S line 2) (choC 0 L line lim) g
          rw [← this, choC_t 0 hu1]
          unfold diffN
          rw [tab_get (by omega)]
        · have := putTo_set 0 (diffN 1 S line 2) (choC 1 L line lim) g
          rw [← this, choC_t 1 hu1]
          unfold diffN
          rw [tab_get (by omega)]
        · have := fillTo_set false (S.length / 4) (useC L line lim) g
          rw [← this, hu1]
      · have hu1 : useC L line lim g = false := by rw [hu]; exact ku
        refine ⟨by omega, g + 1, (show g + 1 ≤ S.length / 4 by omega), by omega, by simp, rfl, ?_, ?_, ?_, ?_, rfl, rfl, rfl, rfl, rfl, rfl, rfl, trivial⟩
        · refine put_skip (by omega) fun j j1 j2 j3 => ?_
          rw [tab_len] at j3
          rw [tab_get j3, choY_f hu1 (by omega), hS]
        · refine put_skip (by omega) fun j j1 j2 j3 => ?_
          have : j = g := by omega
          subst this
          rw [choC_f 0 hu1, hS]
          unfold diffN
          rw [tab_get (by omega)]
        · refine put_skip (by omega) fun j j1 j2 j3 => ?_
          have : j = g := by omega
          subst this
          rw [choC_f 1 hu1, hS]
          unfold diffN
          rw [tab_get (by omega)]
        · exact fill_next hu1
    · have hge : ¬ (g : Int) < (O.length : Int) / 4 := of_decide_eq_false hge
      have hg : g ≤ S.length / 4 := hg
      have e : g = S.length / 4 := by omega
      subst e
      rw [hbn, putTo_all _ _ _ _ (by rw [tab_len]; omega), putTo_all _ _ _ _ (by rw [diffN_len]; omega), putTo_all _ _ _ _ (by rw [diffN_len]; omega), fillTo_all _ _ _ _ (by omega)]
      unfold choI choU
      rw [hS, tab_len, diffN_len, diffN_len]
      exact ⟨rfl, rfl, rfl, rfl, trivial⟩
theorem so124_ : SpecOk P1 gl1 124 sp124 := by
  intro vs ps r h hp
  simp only [sp124] at h
  split at h
  · cases h; exact fn124 _ _ _ (hp _ (.head _)) (hp _ (.tail _ (.head _))) (hp _ (.tail _ (.tail _ (.head _))))
  · cases h
theorem so124 : Sp1 124 sp124 := ⟨so124_, Proofs.Tryz.f124, _, by kernel_rfl, rfl, by kernel_rfl⟩
end Go.Sx

/- Plain functions and hints. -/
namespace Go.Sx
open U
abbrev blT : Ty := .sl .bool
@[reducible] def blV (l : List (List Bool)) : V := .one (.sl (.sl .bool) l)
def keepM (l : List Nat) (tm : List (Nat × SV)) : List (Nat × SV) := l.filterMap fun t => (lookT tm t).map fun v => (t, v)
def h52 : Hints := ⟨fun f k s => match f, k with
  | 127, 6 => match listAs s 9 (.int .i64), listAs s 10 (.int .i64), intOfT s 2 with
    | some a, some b, some c => some ⟨Nat, fun i => s.at [2, 3, 9, 10] [tI 12 (4 * c + (i : Int)), tI 11 (dstTo a b c.toNat i)], fun i => i ≤ 4, fun i => 4 - i⟩
    | _, _, _ => none
  | 52, 4 => match listAs s 0 lnT, intOfT s 1 with
    | some l, some lim => some ⟨Nat, fun i => ⟨[tI 9 i, (7, .val (.one (.own s.nx))), (8, .val (.one (.own (s.nx + 1))))] ++ keepM [0, 1] s.tm,
        (s.nx, some (.row pT (tab i fun k => partsP (choI (List.map sixs l) k lim)))) :: (s.nx + 1, some (.row blT (tab i fun k => choU (List.map sixs l) k lim))) :: lessO s [7, 8], s.nx + 2, s.lr⟩,
        fun i => i ≤ List.length l ∧ upTo (fun k => partsE (choI (List.map sixs l) k lim)) i = 0, fun i => List.length l - i⟩
    | _, _ => none
  | 52, 10 => match listAs s 0 lnT, listAs s 10 (.int .i64), intOfT s 9, intOfT s 1 with
    | some l, some x, some line, some lim => some ⟨Nat, fun i => ⟨[tI 15 i, (11, .val (.one (.own s.nx))), (12, .val (.one (.own (s.nx + 1)))), (13, .val (.one (.own (s.nx + 2)))), (14, .val (.one (.own (s.nx + 3))))] ++ keepM [0, 1, 7, 8, 9, 10] s.tm,
        (s.nx, some (.row (.int .i64) (tab (4 * i) (choY (List.map sixs l) line lim)))) :: (s.nx + 1, some (.row (.int .i64) (tab i (choC 0 (List.map sixs l) line lim)))) :: (s.nx + 2, some (.row (.int .i64) (tab i (choC 1 (List.map sixs l) line lim)))) :: (s.nx + 3, some (.row .bool (tab i (useC (List.map sixs l) line lim)))) :: lessO s [11, 12, 13, 14], s.nx + 4, s.lr⟩,
        fun i => i ≤ List.length x / 4, fun i => List.length x / 4 - i⟩
    | _, _, _, _ => none
  | 54, 3 => hMapG pT pT (fun x => x) 6 8 3 [7] s
  | 53, 4 => match listAs s 0 pT, listAs s 1 pT with
    | some a, some b => some ⟨Nat, fun i => s.at [0, 1] [tI 5 i], fun i => i ≤ List.length a ∧ ∀ j, j < i → sameP (pAt a j) (pAt b j) = true, fun i => List.length a - i⟩
    | _, _ => none
  | 55, 4 => match listAs s 0 blT, listAs s 1 blT with
    | some a, some b => some ⟨Nat, fun i => s.at [0, 1] [tI 5 i], fun i => i ≤ List.length a ∧ ∀ j, j < i → sameB (List.getD a j []) (List.getD b j []) = true, fun i => List.length a - i⟩
    | _, _ => none
  | 55, 9 => match listAs s 0 blT, listAs s 1 blT, intOfT s 5 with
    | some a, some b, some k => some ⟨Nat, fun i => s.at [0, 1, 5] [tI 6 i], fun i => i ≤ List.length (List.getD a k.toNat []) ∧ ∀ j, j < i → List.getD (List.getD a k.toNat []) j false = List.getD (List.getD b k.toNat []) j false, fun i => List.length (List.getD a k.toNat []) - i⟩
    | _, _, _ => none
  | _, _ => none, 0⟩
end Go.Sx
namespace Go.Sx
open U
def sp112 : FSpec := ⟨fun vs => match vs with
  | [.agg [.one (.sl (.int .i64) y), .one (.sl (.int .i64) u), .one (.sl (.int .i64) v)]] => some ([List.length y ≤ 100000, List.length u ≤ 100000, List.length v ≤ 100000], .tup [pV (partsP (y, u, v)), iV (partsE (y, u, v))])
  | _ => none, true⟩
def sp54 : FSpec := ⟨fun vs => match vs with
  | [.one (.sl (.pair (.sl (.flt .f32)) (.pair (.sl (.flt .f32)) (.sl (.flt .f32)))) l)] => some ([List.length l ≤ 1000000, ∀ x ∈ (show List Pt from l), List.length x.1 ≤ 1000000 ∧ List.length x.2.1 ≤ 1000000 ∧ List.length x.2.2 ≤ 1000000], .val (plV l))
  | _ => none, false⟩
end Go.Sx

/- What the engine asks, written out (printed by a program). -/
namespace Go.Sx
open U
theorem vc112 (y u v : List Int) : exFr (env false [(138, sp138), (95, sp95)] []) h0 0 112 Proofs.Tryz.f112 [itV (y, u, v)] (.tup [pV (partsP (y, u, v)), iV (partsE (y, u, v))]) = (let q0 := (partsP (y, u, v)); List.length y ≤ (1000000 : Nat) ∧ List.length u ≤ (1000000 : Nat) ∧ List.length v ≤ (1000000 : Nat) ∧ (3 : Nat) ≤ (1000000000 : Nat) ∧ splitB (first [lgE y, lgE u, lgE v] != (0 : Int)) (q0.1 = [] ∧ q0.2.1 = [] ∧ q0.2.2 = [] ∧ first [lgE y, lgE u, lgE v] = partsE (y, u, v) ∧ True) (smpsN y = q0.1 ∧ smpsN u = q0.2.1 ∧ smpsN v = q0.2.2 ∧ (0 : Int) = partsE (y, u, v) ∧ True)) := by
  kernel_rfl
theorem vc54 (l : List Pt) : exF (env false [(46, sp46)] []) h52 0 54 Proofs.Tryz.f54 [plV l] (.val (plV l)) = (let q0 := (↑(List.length l) : Int); (∃ (g : Nat), Nat.le g (List.length l) ∧ (0 : Int) = (↑g : Int) ∧ q0 = q0 ∧ l = l ∧ List.map (fun (x : List Nat × List Nat × List Nat) => x) (List.take g l) = [] ∧ True) ∧ ∀ (g : Nat), let q1 := (List.getD l g ([], [], [])); Nat.le g (List.length l) → splitB (decide ((↑g : Int) < q0)) (((0 : Int) ≤ (↑g : Int) ∧ (↑g : Int) < q0) ∧ room (List.length (List.map (fun (x : List Nat × List Nat × List Nat) => x) (List.take g l)) + (1 : Nat)) (72 : Nat) ∧ fits IntKind.i64 ((↑g : Int) + (1 : Int)) ∧ ∃ (g' : Nat), Nat.le g' (List.length l) ∧ List.length l - g' < List.length l - g ∧ (↑g : Int) + (1 : Int) = (↑g' : Int) ∧ q0 = q0 ∧ l = l ∧ List.map (fun (x : List Nat × List Nat × List Nat) => x) (List.take g l) ++ [(q1.1, q1.2.1, q1.2.2)] = List.map (fun (x : List Nat × List Nat × List Nat) => x) (List.take g' l) ∧ True) (List.map (fun (x : List Nat × List Nat × List Nat) => x) (List.take g l) = l ∧ True)) := by
  kernel_rfl
end Go.Sx

/- Contracts. -/
namespace Go.Sx
open U
theorem fn112 (y u v : List Int) (h1 : y.length ≤ 100000) (h2 : u.length ≤ 100000) (h3 : v.length ≤ 100000) : Fn P1 gl1 112 [itV (y, u, v)] (.tup [pV (partsP (y, u, v)), iV (partsE (y, u, v))]) true := by
  refine fn_ofr false [(138, sp138), (95, sp95)] [] h0 0 Proofs.Tryz.f112 ⟨so138, so95, trivial⟩ trivial (by kernel_rfl) rfl (by kernel_rfl) rfl rfl rfl ?_
  rw [vc112]
  try simp only [splitB_iff, -eq_self]
  refine ⟨by omega, by omega, by omega, by decide, fun h => ?_, fun h => ?_⟩
  · have h : ¬ partsE (y, u, v) = 0 := bneZ.1 h
    unfold partsP
    rw [if_neg h]
    exact ⟨rfl, rfl, rfl, rfl, trivial⟩
  · have h : partsE (y, u, v) = 0 := bneF.1 h
    unfold partsP
    rw [if_pos h]
    exact ⟨rfl, rfl, rfl, h.symm, trivial⟩
theorem so112_ : SpecOk P1 gl1 112 sp112 := by
  intro vs ps r h hp
  simp only [sp112] at h
  split at h
  · cases h; exact fn112 _ _ _ (hp _ (.head _)) (hp _ (.tail _ (.head _))) (hp _ (.tail _ (.tail _ (.head _))))
  · cases h
theorem so112 : Sp1 112 sp112 := ⟨so112_, Proofs.Tryz.f112, _, by kernel_rfl, rfl, by kernel_rfl⟩
theorem fn54 (l : List Pt) (hl : l.length ≤ 1000000) (hy : ∀ x ∈ l, x.1.length ≤ 1000000 ∧ x.2.1.length ≤ 1000000 ∧ x.2.2.length ≤ 1000000) : Fn P1 gl1 54 [plV l] (.val (plV l)) false := by
  refine fn_of false [(46, sp46)] [] h52 0 Proofs.Tryz.f54 ⟨so46, trivial⟩ trivial (by kernel_rfl) rfl (by kernel_rfl) rfl rfl rfl ?_
  rw [vc54]
  try simp only [splitB_iff, -eq_self]
  refine ⟨⟨0, Nat.zero_le _, rfl, rfl, rfl, by simp⟩, fun g hg => ⟨fun hlt => ?_, fun hge => ?_⟩⟩
  · have hlt' : g < l.length := by simpa using hlt
    refine ⟨by omega, by simp only [room, List.length_map, List.length_take]; omega, by simp only [fits]; omega, g + 1, hlt', by omega, by simp, rfl, rfl, ?_, trivial⟩
    rw [getD_of hlt', List.take_succ_eq_append_getElem hlt', List.map_append]
    rfl
  · have hge' : ¬ g < l.length := by simpa using hge
    rw [List.take_of_length_le (by omega)]
    exact ⟨by simp, trivial⟩
theorem so54_ : SpecOk P1 gl1 54 sp54 := by
  intro vs ps r h hp
  simp only [sp54] at h
  split at h
  · cases h; exact fn54 _ (hp _ (.head _)) (hp _ (.tail _ (.head _)))
  · cases h
theorem so54 : Sp1 54 sp54 := ⟨so54_, Proofs.Tryz.f54, _, by kernel_rfl, rfl, by kernel_rfl⟩
end Go.Sx

/- Plain functions and hints. -/
namespace Go.Sx
open U
end Go.Sx
namespace Go.Sx
open U
end Go.Sx

/- What the engine asks, written out (printed by a program). -/
namespace Go.Sx
open U
end Go.Sx

/- Contracts. -/
namespace Go.Sx
open U
end Go.Sx

/- Plain functions and hints. -/
namespace Go.Sx
open U
def hd49 : Hints := ⟨fun f k s => match f, k with
  | 49, 8 => match listAs s 8 (.sl (.int .i64)), intOfT s 1 with
    | some L, some lim => some ⟨Nat, fun i => ⟨[tI 29 i, (9, .val (.one (.own s.nx))), (10, .val (.one (.own (s.nx + 1))))] ++ keepM [1, 8, 28] s.tm,
        (s.nx, some (.row pT (tab i fun k => partsP (choI L k lim)))) :: (s.nx + 1, some (.row blT (tab i fun k => choU L k lim))) :: lessO s [9, 10], s.nx + 2, s.lr⟩,
        fun i => i ≤ List.length L ∧ upTo (fun k => partsE (choI L k lim)) i = 0, fun i => List.length L - i⟩
    | _, _ => none
  | _, _ => none, 0⟩
end Go.Sx
namespace Go.Sx
open U
def sp49 : FSpec := ⟨fun vs => match vs with
  | [.one (.sl (.sl (.flt .f32)) l), .one (.int .i64 lim)] => some ([], .tup [plV (decP l lim), blV (decU l lim), iV (decE l lim)])
  | _ => none, false⟩
end Go.Sx

/- What the engine asks, written out (printed by a program). -/
namespace Go.Sx
open U
theorem vc49 (l : Fld) (lim : Int) : exF (env false [(38, sp38), (96, sp96), (95, sp95), (123, sp123), (124, sp124), (112, sp112)] []) hd49 0 49 Proofs.Tryz.f49 [fldV l, iV lim] (.tup [plV (decP l lim), blV (decU l lim), iV (decE l lim)]) = (let q1 := (List.map sixs l); let q2 := (↑(List.length q1) : Int); let q4 := (1048576 : Int); (2 : Nat) ≤ (1000000000 : Nat) ∧ splitB (first [chkFld l, within lim (0 : Int) q4] != (0 : Int)) (decP l lim = [] ∧ decU l lim = [] ∧ first [chkFld l, within lim (0 : Int) q4] = decE l lim ∧ True) (chkFld l = (0 : Int) ∧ (∃ (g : Nat), (g ≤ List.length q1 ∧ upTo (fun (k : Nat) => partsE (choI q1 (↑k : Int) lim)) g = (0 : Int)) ∧ (0 : Int) = (↑g : Int) ∧ lim = lim ∧ List.map sixs l = List.map sixs l ∧ q2 = q2 ∧ (tab g fun (k : Nat) => partsP (choI q1 (↑k : Int) lim)) = [] ∧ (tab g fun (k : Nat) => choU q1 (↑k : Int) lim) = [] ∧ [chkFld l, within lim (0 : Int) q4] = [chkFld l, within lim (0 : Int) q4] ∧ True) ∧ ∀ (g : Nat), let q0 := (choI q1 (↑g : Int) lim); let q3 := (q0.1, q0.2.1, q0.2.2); g ≤ List.length q1 ∧ upTo (fun (k : Nat) => partsE (choI q1 (↑k : Int) lim)) g = (0 : Int) → splitB (decide ((↑g : Int) < q2)) (FldI q1 ∧ ((0 : Int) ≤ (↑g : Int) ∧ (↑g : Int) < q2) ∧ ((0 : Int) ≤ lim ∧ lim ≤ q4) ∧ List.length q0.1 ≤ (100000 : Nat) ∧ List.length q0.2.1 ≤ (100000 : Nat) ∧ List.length q0.2.2 ≤ (100000 : Nat) ∧ splitB (partsE q3 != (0 : Int)) (decP l lim = [] ∧ decU l lim = [] ∧ partsE q3 = decE l lim ∧ True) (room (List.length (tab g fun (k : Nat) => partsP (choI q1 (↑k : Int) lim)) + (1 : Nat)) (72 : Nat) ∧ room (List.length (tab g fun (k : Nat) => choU q1 (↑k : Int) lim) + (1 : Nat)) (24 : Nat) ∧ fits IntKind.i64 ((↑g : Int) + (1 : Int)) ∧ ∃ (g' : Nat), (g' ≤ List.length q1 ∧ upTo (fun (k : Nat) => partsE (choI q1 (↑k : Int) lim)) g' = (0 : Int)) ∧ List.length q1 - g' < List.length q1 - g ∧ (↑g : Int) + (1 : Int) = (↑g' : Int) ∧ lim = lim ∧ List.map sixs l = List.map sixs l ∧ q2 = q2 ∧ ((tab g fun (k : Nat) => partsP (choI q1 (↑k : Int) lim)) ++ [((partsP q3).1, (partsP q3).2.1, (partsP q3).2.2)] = tab g' fun (k : Nat) => partsP (choI q1 (↑k : Int) lim)) ∧ ((tab g fun (k : Nat) => choU q1 (↑k : Int) lim) ++ [choU q1 (↑g : Int) lim] = tab g' fun (k : Nat) => choU q1 (↑k : Int) lim) ∧ [chkFld l, within lim (0 : Int) q4] = [chkFld l, within lim (0 : Int) q4] ∧ True)) ((tab g fun (k : Nat) => partsP (choI q1 (↑k : Int) lim)) = decP l lim ∧ (tab g fun (k : Nat) => choU q1 (↑k : Int) lim) = decU l lim ∧ (0 : Int) = decE l lim ∧ True))) := by
  kernel_rfl
end Go.Sx

/- Contracts. -/
namespace Go.Sx
open U
theorem fn49 (l : Fld) (lim : Int)  : Fn P1 gl1 49 [fldV l, iV lim] (.tup [plV (decP l lim), blV (decU l lim), iV (decE l lim)]) false := by
  refine fn_of false [(38, sp38), (96, sp96), (95, sp95), (123, sp123), (124, sp124), (112, sp112)] [] hd49 0 Proofs.Tryz.f49 ⟨so38, so96, so95, so123, so124, so112, trivial⟩ trivial (by kernel_rfl) rfl (by kernel_rfl) rfl rfl rfl ?_
  rw [vc49]
  try simp only [splitB_iff, -eq_self]
  refine ⟨by decide, fun h => ?_, fun h => ?_⟩
  · have h : ¬ decB l lim = 0 := bneZ.1 h
    have e : decE l lim = decB l lim := by unfold decE; rw [if_neg h]
    have e2 : decE l lim ≠ 0 := by rw [e]; exact h
    refine ⟨?_, ?_, e.symm, trivial⟩
    · unfold decP; rw [if_neg e2]
    · unfold decU; rw [if_neg e2]
  · have h : decB l lim = 0 := bneF.1 h
    have h2 := first_zero.1 h
    have c1 : chkFld l = 0 := h2 _ (.head _)
    have cl := within_zero.1 (h2 _ (.tail _ (.head _)))
    have hE := decE_of h
    have c0 := (chkFld_zero.1 c1).1
    have hm : (l.map sixs).length = l.length := List.length_map _
    refine ⟨c1, ⟨0, ⟨by omega, rfl⟩, rfl, rfl, rfl, rfl, rfl, rfl, rfl, trivial⟩, fun g hg => ⟨fun hlt => ?_, fun hge => ?_⟩⟩
    · have hlt : g < l.length := by have := of_decide_eq_true hlt; omega
      obtain ⟨a1, a2, a3, a4⟩ := fld_line c1 hlt
      have hn : (rwI (l.map sixs) (g : Int)).length = (List.getD l g []).length := by rw [rwI_nat, sixs_len]
      have k1 : (choI (l.map sixs) g lim).1.length ≤ 100000 := by unfold choI; show (tab _ _).length ≤ _; rw [tab_len]; omega
      have k2 : (choI (l.map sixs) g lim).2.1.length ≤ 100000 := by unfold choI; show (tab _ _).length ≤ _; rw [tab_len]; omega
      have k3 : (choI (l.map sixs) g lim).2.2.length ≤ 100000 := by unfold choI; show (tab _ _).length ≤ _; rw [tab_len]; omega
      refine ⟨fldI_of c1, ⟨by omega, by omega⟩, cl, k1, k2, k3, fun k => ?_, fun k => ?_⟩
      · have k : partsE (choI (l.map sixs) g lim) ≠ 0 := bneZ.1 k
        have hE2 : decE l lim = partsE (choI (l.map sixs) g lim) := by rw [hE, upTo_stop (f := fun k => partsE (choI (l.map sixs) k lim)) hg.2 k hlt]
        refine ⟨?_, ?_, hE2.symm, trivial⟩
        · unfold decP; rw [if_neg (by rw [hE2]; exact k)]
        · unfold decU; rw [if_neg (by rw [hE2]; exact k)]
      · have k : partsE (choI (l.map sixs) g lim) = 0 := bneF.1 k
        exact ⟨by simp only [room, tab_len]; omega, by simp only [room, tab_len]; omega, by simp only [fits]; omega, g + 1, ⟨by omega, upTo_next (f := fun k => partsE (choI (l.map sixs) k lim)) hg.2 k⟩, by omega, by simp, rfl, rfl, rfl, (tab_succ g fun k => partsP (choI (l.map sixs) k lim)).symm, (tab_succ g fun k => choU (l.map sixs) k lim).symm, rfl, trivial⟩
    · have hge : ¬ (g : Int) < ((l.map sixs).length : Int) := of_decide_eq_false hge
      have e : g = l.length := by omega
      subst e
      have hE0 : decE l lim = 0 := by rw [hE]; exact hg.2
      rw [hE0]
      unfold decP decU
      rw [if_pos hE0, if_pos hE0]
      exact ⟨rfl, rfl, rfl, trivial⟩
theorem so49_ : SpecOk P1 gl1 49 sp49 := by
  intro vs ps r h _
  simp only [sp49] at h
  split at h
  · cases h; exact fn49 _ _ 
  · cases h
theorem so49 : Sp1 49 sp49 := ⟨so49_, Proofs.Tryz.f49, _, by kernel_rfl, rfl, by kernel_rfl⟩
end Go.Sx

/- Plain functions of composite: what is encoded is decoded. -/
namespace Go.Sx.U
def lineI (y u v : List Int) (g : Int) : List Int := tab y.length fun n => List.getD y n 0 + carN (List.getD u (n / 4) 0) (List.getD v (n / 4) 0) (n % 4) g
theorem lineI_len (y u v : List Int) (g : Int) : (lineI y u v g).length = y.length := by unfold lineI; rw [tab_len]
theorem lineI_get {y u v : List Int} {g : Int} {n : Nat} (h : n < y.length) : List.getD (lineI y u v g) n 0 = List.getD y n 0 + carN (List.getD u (n / 4) 0) (List.getD v (n / 4) 0) (n % 4) g := by unfold lineI; rw [tab_get h]
theorem encI_line {y u v : List Nat} {line : Int} (h : u.length = y.length / 4) (h4 : y.length % 4 = 0) : encI y u v line = lineI (sixs y) (sixs u) (sixs v) (signI line) := by
  rw [encI_tab y u v line h h4]
  unfold lineI
  rw [sixs_len]
theorem carN_sub (u v u' v' : Int) (k : Nat) (g : Int) : carN u v k g - carN u' v' k g = carN (u - u') (v - v') k g := by
  unfold carN
  split <;> rw [Int.mul_sub]
theorem place4 (c j : Nat) (h : j < 4) : (4 * c + j) / 4 = c ∧ (4 * c + j) % 4 = j := by omega
theorem line_diff {y u v : List Int} {g : Int} (hg : g = 1 ∨ g = -1) {c : Nat} (h : 4 * c + 4 ≤ y.length) :
    g * (List.getD (lineI y u v g) (4 * c + 0) 0 - List.getD (lineI y u v g) (4 * c + 0 + 2) 0) = g * (List.getD y (4 * c + 0) 0 - List.getD y (4 * c + 0 + 2) 0) + 2 * List.getD u c 0 ∧
    g * (List.getD (lineI y u v g) (4 * c + 1) 0 - List.getD (lineI y u v g) (4 * c + 1 + 2) 0) = g * (List.getD y (4 * c + 1) 0 - List.getD y (4 * c + 1 + 2) 0) + 2 * List.getD v c 0 := by
  rw [lineI_get (n := 4 * c + 0) (by omega), lineI_get (n := 4 * c + 0 + 2) (by omega), lineI_get (n := 4 * c + 1) (by omega), lineI_get (n := 4 * c + 1 + 2) (by omega)]
  have e0 := place4 c 0 (by omega)
  have e1 := place4 c 1 (by omega)
  have e2 := place4 c 2 (by omega)
  have e3 := place4 c 3 (by omega)
  rw [Nat.add_assoc (4 * c) 0 2, Nat.add_assoc (4 * c) 1 2]
  show g * (_ + carN _ _ _ g - (List.getD y (4 * c + 2) 0 + carN (List.getD u ((4 * c + 2) / 4) 0) (List.getD v ((4 * c + 2) / 4) 0) ((4 * c + 2) % 4) g)) = _ ∧ g * (_ + carN _ _ _ g - (List.getD y (4 * c + 3) 0 + carN (List.getD u ((4 * c + 3) / 4) 0) (List.getD v ((4 * c + 3) / 4) 0) ((4 * c + 3) % 4) g)) = _
  rw [e0.1, e0.2, e1.1, e1.2, e2.1, e2.2, e3.1, e3.2]
  show g * (_ + g * _ - (_ + -g * _)) = g * (_ - List.getD y (4 * c + 2) 0) + _ ∧ g * (_ + g * _ - (_ + -g * _)) = g * (_ - List.getD y (4 * c + 3) 0) + _
  rcases hg with rfl | rfl <;> constructor <;> omega
theorem round_even (a n : Int) : roundI (a + 2 * n) 2 = n + roundI a 2 := by
  unfold roundI
  omega
theorem round_half {a m : Int} (h : -m ≤ a ∧ a ≤ m) : -((m + 1) / 2) ≤ roundI a 2 ∧ roundI a 2 ≤ (m + 1) / 2 := by
  unfold roundI
  omega
theorem unev_at {y : List Int} {c : Nat} (h : 4 * c + 4 ≤ y.length) :
    (-unevI y ≤ List.getD y (4 * c + 0) 0 - List.getD y (4 * c + 0 + 2) 0 ∧ List.getD y (4 * c + 0) 0 - List.getD y (4 * c + 0 + 2) 0 ≤ unevI y) ∧
    (-unevI y ≤ List.getD y (4 * c + 1) 0 - List.getD y (4 * c + 1 + 2) 0 ∧ List.getD y (4 * c + 1) 0 - List.getD y (4 * c + 1 + 2) 0 ≤ unevI y) := by
  have h0 : unAt y (4 * c + 0) ≤ unevI y := maxTo_ge (f := unAt y) (by omega)
  have h1 : unAt y (4 * c + 1) ≤ unevI y := maxTo_ge (f := unAt y) (by omega)
  unfold unAt at h0 h1
  rw [if_pos (by omega)] at h0 h1
  unfold farI at h0 h1
  omega
theorem band_near {y u v : List Int} {line : Int} {c : Nat} (h : 4 * c + 4 ≤ y.length) :
    (-((unevI y + 1) / 2) ≤ diffAt 0 (lineI y u v (signI line)) c line 2 - List.getD u c 0 ∧ diffAt 0 (lineI y u v (signI line)) c line 2 - List.getD u c 0 ≤ (unevI y + 1) / 2) ∧
    (-((unevI y + 1) / 2) ≤ diffAt 1 (lineI y u v (signI line)) c line 2 - List.getD v c 0 ∧ diffAt 1 (lineI y u v (signI line)) c line 2 - List.getD v c 0 ≤ (unevI y + 1) / 2) := by
  have hg := signI_cases line
  obtain ⟨d0, d1⟩ := line_diff (y := y) (u := u) (v := v) hg h
  obtain ⟨k0, k1⟩ := unev_at h
  unfold diffAt
  rw [d0, d1, round_even, round_even]
  have q0 : -unevI y ≤ signI line * (List.getD y (4 * c + 0) 0 - List.getD y (4 * c + 0 + 2) 0) ∧ signI line * (List.getD y (4 * c + 0) 0 - List.getD y (4 * c + 0 + 2) 0) ≤ unevI y := by
    rcases hg with e | e <;> rw [e] <;> omega
  have q1 : -unevI y ≤ signI line * (List.getD y (4 * c + 1) 0 - List.getD y (4 * c + 1 + 2) 0) ∧ signI line * (List.getD y (4 * c + 1) 0 - List.getD y (4 * c + 1 + 2) 0) ≤ unevI y := by
    rcases hg with e | e <;> rw [e] <;> omega
  have r0 := round_half q0
  have r1 := round_half q1
  omega
theorem band_eq {l : List Int} {line : Int} (h4 : l.length % 4 = 0) : bandI l line = (tab l.length (apAt l l line 2), diffN 0 l line 2, diffN 1 l line 2) := apartI_eq rfl h4
theorem unev_nonneg (y : List Int) : 0 ≤ unevI y := maxTo_nonneg _ _
def ItOk (y u v : List Int) : Prop := y.length % 4 = 0 ∧ u.length = y.length / 4 ∧ v.length = y.length / 4
def notBig (B : Int) (l : List Nat) : Bool := l.all fun b => decide (-B ≤ six b) && decide (six b ≤ B)
theorem notBig_bd {B : Int} {l : List Nat} : notBig B l = true ↔ Bd B (sixs l) := by
  unfold notBig Bd sixs
  simp only [List.all_eq_true, Bool.and_eq_true, decide_eq_true_eq, List.mem_map]
  constructor
  · rintro h n ⟨b, hb, rfl⟩; exact h b hb
  · intro h b hb; exact h _ ⟨b, hb, rfl⟩
def bigP (B : Int) (x : Pt) : Bool := notBig B x.1 && (notBig B x.2.1 && notBig B x.2.2)
def plainP (x : Pt) : Bool := (shortP x.1 x.2.1 x.2.2 && (decide (chkP x = 0) && decide (x.1.length ≤ 24))) && bigP 4800 x
theorem plain_of {x : Pt} (h : plainP x = true) : chkP x = 0 ∧ x.1.length ≤ 24 ∧ Bd 4800 (sixs x.1) ∧ Bd 4800 (sixs x.2.1) ∧ Bd 4800 (sixs x.2.2) := by
  unfold plainP bigP at h
  simp only [Bool.and_eq_true, decide_eq_true_eq, notBig_bd] at h
  exact ⟨h.1.2.1, h.1.2.2, h.2.1, h.2.2.1, h.2.2.2⟩
theorem chkP_it {x : Pt} (h : chkP x = 0) : ItOk (sixs x.1) (sixs x.2.1) (sixs x.2.2) ∧ OkS x.1 ∧ OkS x.2.1 ∧ OkS x.2.2 := by
  obtain ⟨h1, h2, h3, h4, h5⟩ := chkPt_zero.1 (show chkPt x.1 x.2.1 x.2.2 = 0 from h)
  obtain ⟨k1, k2, k3⟩ := chkSig_zero.1 h1
  exact ⟨⟨by rw [sixs_len]; exact k2, by rw [sixs_len, sixs_len]; exact h2, by rw [sixs_len, sixs_len]; exact h3⟩, k3, h4, h5⟩
theorem bd_line {y u v : List Int} {A B g : Int} (hA : 0 ≤ A) (hB : 0 ≤ B) (hg : g = 1 ∨ g = -1) (hy : Bd A y) (hu : Bd B u) (hv : Bd B v) : Bd (A + B) (lineI y u v g) := by
  unfold lineI
  refine bd_tab fun i _ => ?_
  have h1 := bd_get hy (i := i) hA
  have h2 := carN_bd (k := i % 4) hg (bd_get hu (i := i / 4) hB) (bd_get hv (i := i / 4) hB)
  omega
theorem parts_ok {x : It} (h1 : Bd 16384 x.1) (h2 : Bd 16384 x.2.1) (h3 : Bd 16384 x.2.2) : partsE x = 0 ∧ partsP x = (x.1.map smp, x.2.1.map smp, x.2.2.map smp) := by
  have e : partsE x = 0 := by
    unfold partsE
    rw [lgE_of h1, lgE_of h2, lgE_of h3]
    rfl
  refine ⟨e, ?_⟩
  unfold partsP
  rw [if_pos e, smpsN_of h1, smpsN_of h2, smpsN_of h3]
theorem chk_parts {y u v : List Int} (h1 : Bd 16384 y) (h2 : Bd 16384 u) (h3 : Bd 16384 v) (hl : y.length ≤ 256) (h : ItOk y u v) : chkPt (y.map smp) (u.map smp) (v.map smp) = 0 := by
  obtain ⟨h4, hu, hv⟩ := h
  refine chkPt_zero.2 ⟨chkSig_zero.2 ⟨by rw [List.length_map]; exact hl, by rw [List.length_map]; exact h4, smp_ok h1⟩, by rw [List.length_map, List.length_map]; exact hu, by rw [List.length_map, List.length_map]; exact hv, smp_ok h2, smp_ok h3⟩
end Go.Sx.U

/- Plain functions of composite: the law Back. -/
namespace Go.Sx.U
open Ieee
def sgI (x : Pt) (n : Int) : List Int := lineI (sixs x.1) (sixs x.2.1) (sixs x.2.2) (signI n)
theorem sgI_len (x : Pt) (n : Int) : (sgI x n).length = x.1.length := by unfold sgI; rw [lineI_len, sixs_len]
theorem encI_sg {x : Pt} (h : chkP x = 0) (n : Int) : encI x.1 x.2.1 x.2.2 n = sgI x n := by
  obtain ⟨⟨h4, hu, hv⟩, _⟩ := chkP_it h
  rw [sixs_len] at h4 hu hv
  rw [sixs_len] at hu hv
  exact encI_line hu h4
theorem map_smp_get {l : List Int} {i : Nat} (h : i < l.length) : List.getD (l.map smp) i 0 = smp (List.getD l i 0) := by
  rw [getD_of (by rw [List.length_map]; exact h), getD_of h, List.getElem_map]
theorem bd_un {l : List Int} {B : Int} (h : Bd B l) (hB : 0 ≤ B) : unevI l ≤ 2 * B := maxTo_bd (by omega) fun j _ => unAt_bd h hB j
end Go.Sx.U
