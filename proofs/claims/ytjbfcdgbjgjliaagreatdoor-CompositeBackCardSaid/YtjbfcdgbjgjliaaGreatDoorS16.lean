/- A verified symbolic run of functions, part 16: lemmas, no claim of their own. -/
import Derived.Test.YtjbfcdgbjgjliaaGreatDoorS15
import Derived.OpenShut
import Derived.ProofKit
import Derived.Carry
import Derived.OpenVars
import Derived.Lib.LaidTab
import Derived.ChangeSame
import Derived.WalkKit
import Derived.Deep.DeepHandedRow
/- What the engine asks, written out (printed by a program). -/
namespace Go.Sx
open U
theorem vc106 (l : List Pt) : exF (env false [(103, sp103)] []) h31 0 106 Proofs.Tryz.f106 [plV l, .one (.fn 103 [] [])] (.val (.one (.frs (.int .i64) (l.map fun x => ((List.length x.1 : Nat) : Int))))) = (let q0 := (↑(List.length l) : Int); (∃ (g : Nat), Nat.le g (List.length l) ∧ (0 : Int) = (↑g : Int) ∧ q0 = q0 ∧ l = l ∧ List.map (fun (x : List Nat × List Nat × List Nat) => (↑(List.length x.1) : Int)) (List.take g l) = [] ∧ True) ∧ ∀ (g : Nat), Nat.le g (List.length l) → splitB (decide ((↑g : Int) < q0)) (((0 : Int) ≤ (↑g : Int) ∧ (↑g : Int) < q0) ∧ room (List.length (List.map (fun (x : List Nat × List Nat × List Nat) => (↑(List.length x.1) : Int)) (List.take g l)) + (1 : Nat)) (8 : Nat) ∧ fits IntKind.i64 ((↑g : Int) + (1 : Int)) ∧ ∃ (g' : Nat), Nat.le g' (List.length l) ∧ List.length l - g' < List.length l - g ∧ (↑g : Int) + (1 : Int) = (↑g' : Int) ∧ q0 = q0 ∧ l = l ∧ List.map (fun (x : List Nat × List Nat × List Nat) => (↑(List.length x.1) : Int)) (List.take g l) ++ [(↑(List.length (List.getD l g ([], [], [])).1) : Int)] = List.map (fun (x : List Nat × List Nat × List Nat) => (↑(List.length x.1) : Int)) (List.take g' l) ∧ True) (List.map (fun (x : List Nat × List Nat × List Nat) => (↑(List.length x.1) : Int)) (List.take g l) = List.map (fun (x : Pt) => (↑(List.length x.1) : Int)) l ∧ True)) := by
  kernel_rfl
theorem vc31 (l : List Pt) : exF (env false [(106, sp106), (26, sp26), (104, sp104), (95, sp95), (97, sp97)] []) h31 0 31 Proofs.Tryz.f31 [plV l] (.tup [fldV (encFN l), iV (encFE l)]) = (let q1 := (↑(List.length l) : Int); splitB (decide ((32 : Int) < q1)) (encFN l = [] ∧ (5 : Int) = encFE l ∧ True) (List.length l ≤ (1000000 : Nat) ∧ (∃ (g : Nat), (g ≤ List.length l ∧ upTo (chkLi l) g = (0 : Int)) ∧ (0 : Int) = (↑g : Int) ∧ q1 = q1 ∧ l = l ∧ l = l ∧ List.map (fun (x : Pt) => (↑(List.length x.1) : Int)) l = List.map (fun (x : Pt) => (↑(List.length x.1) : Int)) l ∧ True) ∧ ∀ (g : Nat), let q2 := (List.getD l g ([], [], [])); g ≤ List.length l ∧ upTo (chkLi l) g = (0 : Int) → splitB (decide ((↑g : Int) < q1)) (((0 : Int) ≤ (↑g : Int) ∧ (↑g : Int) < q1) ∧ List.length q2.1 ≤ (1000000000 : Nat) ∧ ((0 : Int) ≤ (↑g : Int) ∧ (↑g : Int) < (↑(List.length (List.map (fun (x : Pt) => (↑(List.length x.1) : Int)) l)) : Int)) ∧ g < List.length (List.map (fun (x : Pt) => (↑(List.length x.1) : Int)) l) ∧ ((0 : Int) ≤ (0 : Int) ∧ (0 : Int) < (↑(List.length (List.map (fun (x : Pt) => (↑(List.length x.1) : Int)) l)) : Int)) ∧ (0 : Nat) < List.length (List.map (fun (x : Pt) => (↑(List.length x.1) : Int)) l) ∧ (2 : Nat) ≤ (1000000000 : Nat) ∧ splitB (first [chkPt q2.1 q2.2.1 q2.2.2, whenE (List.getD (List.map (fun (x : Pt) => (↑(List.length x.1) : Int)) l) g (0 : Int) != List.getD (List.map (fun (x : Pt) => (↑(List.length x.1) : Int)) l) (0 : Nat) (0 : Int)) (2 : Int)] != (0 : Int)) (encFN l = [] ∧ first [chkPt q2.1 q2.2.1 q2.2.2, whenE (List.getD (List.map (fun (x : Pt) => (↑(List.length x.1) : Int)) l) g (0 : Int) != List.getD (List.map (fun (x : Pt) => (↑(List.length x.1) : Int)) l) (0 : Nat) (0 : Int)) (2 : Int)] = encFE l ∧ True) (fits IntKind.i64 ((↑g : Int) + (1 : Int)) ∧ ∃ (g' : Nat), (g' ≤ List.length l ∧ upTo (chkLi l) g' = (0 : Int)) ∧ List.length l - g' < List.length l - g ∧ (↑g : Int) + (1 : Int) = (↑g' : Int) ∧ q1 = q1 ∧ l = l ∧ l = l ∧ List.map (fun (x : Pt) => (↑(List.length x.1) : Int)) l = List.map (fun (x : Pt) => (↑(List.length x.1) : Int)) l ∧ True)) ((∃ (g : Nat), (g ≤ List.length l ∧ upTo (fun (i : Nat) => lgE (encP l i)) g = (0 : Int)) ∧ (0 : Int) = (↑g : Int) ∧ q1 = q1 ∧ l = l ∧ l = l ∧ (tab g fun (i : Nat) => smpsN (encP l i)) = [] ∧ List.map (fun (x : Pt) => (↑(List.length x.1) : Int)) l = List.map (fun (x : Pt) => (↑(List.length x.1) : Int)) l ∧ True) ∧ ∀ (g : Nat), let q0 := (List.getD l g ([], [], [])); let q3 := (encI q0.1 q0.2.1 q0.2.2 (↑g : Int)); g ≤ List.length l ∧ upTo (fun (i : Nat) => lgE (encP l i)) g = (0 : Int) → splitB (decide ((↑g : Int) < q1)) (((0 : Int) ≤ (↑g : Int) ∧ (↑g : Int) < q1) ∧ chkPt q0.1 q0.2.1 q0.2.2 = (0 : Int) ∧ (0 : Int) ≤ (↑g : Int) ∧ splitB (lgE q3 != (0 : Int)) (encFN l = [] ∧ lgE q3 = encFE l ∧ True) (room (List.length (tab g fun (i : Nat) => smpsN (encP l i)) + (1 : Nat)) (24 : Nat) ∧ fits IntKind.i64 ((↑g : Int) + (1 : Int)) ∧ ∃ (g' : Nat), (g' ≤ List.length l ∧ upTo (fun (i : Nat) => lgE (encP l i)) g' = (0 : Int)) ∧ List.length l - g' < List.length l - g ∧ (↑g : Int) + (1 : Int) = (↑g' : Int) ∧ q1 = q1 ∧ l = l ∧ l = l ∧ ((tab g fun (i : Nat) => smpsN (encP l i)) ++ [smpsN q3] = tab g' fun (i : Nat) => smpsN (encP l i)) ∧ List.map (fun (x : Pt) => (↑(List.length x.1) : Int)) l = List.map (fun (x : Pt) => (↑(List.length x.1) : Int)) l ∧ True)) ((tab g fun (i : Nat) => smpsN (encP l i)) = encFN l ∧ (0 : Int) = encFE l ∧ True)))) := by
  kernel_rfl
theorem vc32 (l : List Pt) : exF (env false [(21, sp21)] []) h31 0 32 Proofs.Tryz.f32 [plV l] (.val (plV l)) = (let q1 := (↑(List.length l) : Int); (∃ (g : Nat), Nat.le g (List.length l) ∧ (0 : Int) = (↑g : Int) ∧ q1 = q1 ∧ l = l ∧ List.map (fun (x : List Nat × List Nat × List Nat) => x) (List.take g l) = [] ∧ True) ∧ ∀ (g : Nat), let q0 := (List.getD l g ([], [], [])); Nat.le g (List.length l) → splitB (decide ((↑g : Int) < q1)) (((0 : Int) ≤ (↑g : Int) ∧ (↑g : Int) < q1) ∧ List.length q0.1 ≤ (1000000 : Nat) ∧ List.length q0.2.1 ≤ (1000000 : Nat) ∧ List.length q0.2.2 ≤ (1000000 : Nat) ∧ room (List.length (List.map (fun (x : List Nat × List Nat × List Nat) => x) (List.take g l)) + (1 : Nat)) (72 : Nat) ∧ fits IntKind.i64 ((↑g : Int) + (1 : Int)) ∧ ∃ (g' : Nat), Nat.le g' (List.length l) ∧ List.length l - g' < List.length l - g ∧ (↑g : Int) + (1 : Int) = (↑g' : Int) ∧ q1 = q1 ∧ l = l ∧ List.map (fun (x : List Nat × List Nat × List Nat) => x) (List.take g l) ++ [(q0.1, q0.2.1, q0.2.2)] = List.map (fun (x : List Nat × List Nat × List Nat) => x) (List.take g' l) ∧ True) (List.map (fun (x : List Nat × List Nat × List Nat) => x) (List.take g l) = l ∧ True)) := by
  kernel_rfl
theorem vc39 (l : Fld) : exF (env false [(34, sp34)] []) h31 0 39 Proofs.Tryz.f39 [fldV l] (.val (fldV l)) = (let q0 := (↑(List.length l) : Int); (∃ (g : Nat), Nat.le g (List.length l) ∧ (0 : Int) = (↑g : Int) ∧ q0 = q0 ∧ l = l ∧ List.map (fun (x : List Nat) => x) (List.take g l) = [] ∧ True) ∧ ∀ (g : Nat), Nat.le g (List.length l) → splitB (decide ((↑g : Int) < q0)) (((0 : Int) ≤ (↑g : Int) ∧ (↑g : Int) < q0) ∧ List.length (List.getD l g []) ≤ (1000000 : Nat) ∧ room (List.length (List.map (fun (x : List Nat) => x) (List.take g l)) + (1 : Nat)) (24 : Nat) ∧ fits IntKind.i64 ((↑g : Int) + (1 : Int)) ∧ ∃ (g' : Nat), Nat.le g' (List.length l) ∧ List.length l - g' < List.length l - g ∧ (↑g : Int) + (1 : Int) = (↑g' : Int) ∧ q0 = q0 ∧ l = l ∧ List.map (fun (x : List Nat) => x) (List.take g l) ++ [List.getD l g []] = List.map (fun (x : List Nat) => x) (List.take g' l) ∧ True) (List.map (fun (x : List Nat) => x) (List.take g l) = l ∧ True)) := by
  kernel_rfl
end Go.Sx

/- Contracts. -/
namespace Go.Sx
open U
theorem fn106 (l : List Pt) (hl : l.length ≤ 1000000) : Fn P1 gl1 106 [plV l, .one (.fn 103 [] [])] (.val (.one (.frs (.int .i64) (l.map fun x => ((List.length x.1 : Nat) : Int))))) true := by
  refine Fn.flat ?_ rfl
  refine fn_of false [(103, sp103)] [] h31 0 Proofs.Tryz.f106 ⟨so103, trivial⟩ trivial (by kernel_rfl) rfl (by kernel_rfl) rfl rfl rfl ?_
  rw [vc106]
  try simp only [splitB_iff, -eq_self]
  refine ⟨⟨0, Nat.zero_le _, rfl, rfl, rfl, by simp⟩, fun g hg => ⟨fun hlt => ?_, fun hge => ?_⟩⟩
  · have hlt' : g < l.length := by simpa using hlt
    refine ⟨by omega, by simp only [room, List.length_map, List.length_take]; omega, by simp only [fits]; omega, g + 1, hlt', by omega, by simp, rfl, rfl, ?_, trivial⟩
    rw [getD_of hlt', List.take_succ_eq_append_getElem hlt', List.map_append]
    rfl
  · have hge' : ¬ g < l.length := by simpa using hge
    rw [List.take_of_length_le (by omega)]
    exact ⟨rfl, trivial⟩
theorem so106_ : SpecOk P1 gl1 106 sp106 := by
  intro vs ps r h hp
  simp only [sp106] at h
  split at h
  · cases h; exact fn106 _ (hp _ (.head _))
  · cases h
theorem so106 : Sp1 106 sp106 := ⟨so106_, Proofs.Tryz.f106, _, by kernel_rfl, rfl, by kernel_rfl⟩
theorem fn31 (l : List Pt) (hy : ∀ x ∈ l, x.1.length ≤ 1000000000) : Fn P1 gl1 31 [plV l] (.tup [fldV (encFN l), iV (encFE l)]) false := by
  refine fn_of false [(106, sp106), (26, sp26), (104, sp104), (95, sp95), (97, sp97)] [] h31 0 Proofs.Tryz.f31 ⟨so106, so26, so104, so95, so97, trivial⟩ trivial (by kernel_rfl) rfl (by kernel_rfl) rfl rfl rfl ?_
  rw [vc31]
  try simp only [splitB_iff, -eq_self]
  have hm : ∀ g, g < l.length → List.getD (l.map fun x : Pt => ((List.length x.1 : Nat) : Int)) g 0 = ((pAt l g).1.length : Int) := fun g hg => by
    rw [List.getD_eq_getElem?_getD, List.getElem?_map, List.getElem?_eq_getElem hg]
    show _ = (((List.getD l g ([], [], [])).1.length : Nat) : Int)
    rw [getD_of hg]
    rfl
  have hN : encFE l ≠ 0 → encFN l = [] := fun e => by unfold encFN; rw [if_neg e]
  refine ⟨fun h => ?_, fun h => ?_⟩
  · have h : (32 : Int) < (l.length : Int) := of_decide_eq_true h
    have e : encFE l = 5 := by
      have : chkLs l = 5 := by unfold chkLs; rw [if_pos (by omega)]
      unfold encFE
      rw [this]; rfl
    rw [hN (by rw [e]; decide), e]
    exact ⟨rfl, rfl, trivial⟩
  · have h : ¬ (32 : Int) < (l.length : Int) := of_decide_eq_false h
    refine ⟨by omega, ⟨0, ⟨by omega, rfl⟩, rfl, rfl, rfl, rfl, rfl, trivial⟩, fun g hg => ⟨fun hlt => ?_, fun hge => ?_⟩⟩
    · have hlt : g < l.length := by simpa using hlt
      rw [hm g hlt, hm 0 (by omega), List.length_map]
      have e : first [chkPt (List.getD l g ([], [], [])).1 (List.getD l g ([], [], [])).2.1 (List.getD l g ([], [], [])).2.2, whenE (((pAt l g).1.length : Int) != ((pAt l 0).1.length : Int)) 2] = chkLi l g := li_first l g
      rw [e]
      refine ⟨by omega, hy _ (getD_mem' hlt), by omega, by omega, by omega, by omega, by decide, fun k => ?_, fun k => ⟨by simp only [fits]; omega, g + 1, ⟨by omega, upTo_next hg.2 (bneF.1 k)⟩, by omega, by simp, rfl, rfl, rfl, rfl, trivial⟩⟩
      have k := bneZ.1 k
      have e2 : chkLs l = chkLi l g := by unfold chkLs; rw [if_neg (by omega), upTo_stop hg.2 k hlt]
      have e3 : encFE l = chkLi l g := by unfold encFE; rw [e2, if_neg k]
      rw [hN (by rw [e3]; exact k), e3]
      exact ⟨rfl, rfl, trivial⟩
    · have hge : ¬ g < l.length := by simpa using hge
      have e : g = l.length := by omega
      subst e
      have hc : chkLs l = 0 := by unfold chkLs; rw [if_neg (by omega)]; exact hg.2
      have hE : encFE l = upTo (fun i => lgE (encP l i)) l.length := by unfold encFE; rw [if_pos hc]
      refine ⟨⟨0, ⟨by omega, rfl⟩, rfl, rfl, rfl, rfl, rfl, rfl, trivial⟩, fun g hg2 => ⟨fun hlt => ?_, fun hge => ?_⟩⟩
      · have hlt : g < l.length := by simpa using hlt
        have hp : chkP (pAt l g) = 0 := ((chkLs_zero.1 hc).2 g hlt).1
        refine ⟨by omega, hp, by omega, fun k => ?_, fun k => ?_⟩
        · have k : lgE (encP l g) ≠ 0 := bneZ.1 k
          have e3 : encFE l = lgE (encP l g) := by rw [hE, upTo_stop (f := fun i => lgE (encP l i)) hg2.2 k hlt]
          rw [hN (by rw [e3]; exact k), e3]
          exact ⟨rfl, rfl, trivial⟩
        · have k : lgE (encP l g) = 0 := bneF.1 k
          exact ⟨by simp only [room, tab_len]; omega, by simp only [fits]; omega, g + 1, ⟨by omega, upTo_next (f := fun i => lgE (encP l i)) hg2.2 k⟩, by omega, by simp, rfl, rfl, rfl, (tab_succ g fun i => smpsN (encP l i)).symm, rfl, trivial⟩
      · have hge : ¬ g < l.length := by simpa using hge
        have e : g = l.length := by omega
        subst e
        have hE0 : encFE l = 0 := by rw [hE]; exact hg2.2
        rw [hE0]
        unfold encFN
        rw [if_pos hE0]
        exact ⟨rfl, rfl, trivial⟩
theorem so31_ : SpecOk P1 gl1 31 sp31 := by
  intro vs ps r h hp
  simp only [sp31] at h
  split at h
  · cases h; exact fn31 _ (hp _ (.head _))
  · cases h
theorem so31 : Sp1 31 sp31 := ⟨so31_, Proofs.Tryz.f31, _, by kernel_rfl, rfl, by kernel_rfl⟩
theorem fn32 (l : List Pt) (hl : l.length ≤ 1000000) (hy : ∀ x ∈ l, x.1.length ≤ 1000000 ∧ x.2.1.length ≤ 1000000 ∧ x.2.2.length ≤ 1000000) : Fn P1 gl1 32 [plV l] (.val (plV l)) false := by
  refine fn_of false [(21, sp21)] [] h31 0 Proofs.Tryz.f32 ⟨so21, trivial⟩ trivial (by kernel_rfl) rfl (by kernel_rfl) rfl rfl rfl ?_
  rw [vc32]
  try simp only [splitB_iff, -eq_self]
  refine ⟨⟨0, Nat.zero_le _, rfl, rfl, rfl, by simp⟩, fun g hg => ⟨fun hlt => ?_, fun hge => ?_⟩⟩
  · have hlt' : g < l.length := by simpa using hlt
    have hk := hy _ (getD_mem' (d := ([], [], [])) hlt')
    refine ⟨by omega, hk.1, hk.2.1, hk.2.2, by simp only [room, List.length_map, List.length_take]; omega, by simp only [fits]; omega, g + 1, hlt', by omega, by simp, rfl, rfl, ?_, trivial⟩
    rw [getD_of hlt', List.take_succ_eq_append_getElem hlt', List.map_append]
    rfl
  · have hge' : ¬ g < l.length := by simpa using hge
    rw [List.take_of_length_le (by omega)]
    exact ⟨by simp, trivial⟩
theorem so32_ : SpecOk P1 gl1 32 sp32 := by
  intro vs ps r h hp
  simp only [sp32] at h
  split at h
  · cases h; exact fn32 _ (hp _ (.head _)) (hp _ (.tail _ (.head _)))
  · cases h
theorem so32 : Sp1 32 sp32 := ⟨so32_, Proofs.Tryz.f32, _, by kernel_rfl, rfl, by kernel_rfl⟩
theorem fn39 (l : Fld) (hl : l.length ≤ 1000000) (hy : ∀ x ∈ l, x.length ≤ 1000000) : Fn P1 gl1 39 [fldV l] (.val (fldV l)) false := by
  refine fn_of false [(34, sp34)] [] h31 0 Proofs.Tryz.f39 ⟨so34, trivial⟩ trivial (by kernel_rfl) rfl (by kernel_rfl) rfl rfl rfl ?_
  rw [vc39]
  try simp only [splitB_iff, -eq_self]
  refine ⟨⟨0, Nat.zero_le _, rfl, rfl, rfl, by simp⟩, fun g hg => ⟨fun hlt => ?_, fun hge => ?_⟩⟩
  · have hlt' : g < l.length := by simpa using hlt
    refine ⟨by omega, hy _ (getD_mem' hlt'), by simp only [room, List.length_map, List.length_take]; omega, by simp only [fits]; omega, g + 1, hlt', by omega, by simp, rfl, rfl, ?_, trivial⟩
    rw [getD_of hlt', List.take_succ_eq_append_getElem hlt', List.map_append]
    rfl
  · have hge' : ¬ g < l.length := by simpa using hge
    rw [List.take_of_length_le (by omega)]
    exact ⟨by simp, trivial⟩
theorem so39_ : SpecOk P1 gl1 39 sp39 := by
  intro vs ps r h hp
  simp only [sp39] at h
  split at h
  · cases h; exact fn39 _ (hp _ (.head _)) (hp _ (.tail _ (.head _)))
  · cases h
theorem so39 : Sp1 39 sp39 := ⟨so39_, Proofs.Tryz.f39, _, by kernel_rfl, rfl, by kernel_rfl⟩
end Go.Sx

/- Plain functions of the law Fields. -/
namespace Go.Sx.U
end Go.Sx.U

/- Plain functions of composite: decoding by choice. -/
namespace Go.Sx.U
end Go.Sx.U

/- Plain functions of composite: what is encoded is decoded. -/
namespace Go.Sx.U
def lineI (y u v : List Int) (g : Int) : List Int := tab y.length fun n => List.getD y n 0 + carN (List.getD u (n / 4) 0) (List.getD v (n / 4) 0) (n % 4) g
theorem lineI_len (y u v : List Int) (g : Int) : (lineI y u v g).length = y.length := by unfold lineI; rw [tab_len]
theorem lineI_get {y u v : List Int} {g : Int} {n : Nat} (h : n < y.length) : List.getD (lineI y u v g) n 0 = List.getD y n 0 + carN (List.getD u (n / 4) 0) (List.getD v (n / 4) 0) (n % 4) g := by unfold lineI; rw [tab_get h]
theorem encI_line {y u v : List Nat} {line : Int} (h : u.length = y.length / 4) (h4 : y.length % 4 = 0) : encI y u v line = lineI (sixs y) (sixs u) (sixs v) (signI line) := by
  rw [encI_tab y u v line h h4]
  unfold lineI
  rw [sixs_len]
theorem signI_next {n : Int} (h : 0 ≤ n) : signI (n + 1) = -signI n := by
  unfold signI
  by_cases h1 : n % 2 = 1
  · rw [if_pos h1, if_neg (by omega)]; rfl
  · rw [if_neg h1, if_pos (by omega)]
theorem carN_neg (u v : Int) (k : Nat) (g : Int) : carN u v k (-g) = -carN u v k g := by
  unfold carN
  split <;> simp [Int.neg_mul]
theorem carN_sub (u v u' v' : Int) (k : Nat) (g : Int) : carN u v k g - carN u' v' k g = carN (u - u') (v - v') k g := by
  unfold carN
  split <;> rw [Int.mul_sub]
theorem line_twice {y u v : List Int} {g : Int} {n : Nat} (h : n < y.length) : List.getD (lineI y u v g) n 0 + List.getD (lineI y u v (-g)) n 0 = 2 * List.getD y n 0 := by
  rw [lineI_get h, lineI_get h, carN_neg]
  omega
theorem line_less {y u v : List Int} {g : Int} {n : Nat} (h : n < y.length) : List.getD (lineI y u v g) n 0 - List.getD (lineI y u v (-g)) n 0 = 2 * carN (List.getD u (n / 4) 0) (List.getD v (n / 4) 0) (n % 4) g := by
  rw [lineI_get h, lineI_get h, carN_neg]
  omega
theorem place4 (c j : Nat) (h : j < 4) : (4 * c + j) / 4 = c ∧ (4 * c + j) % 4 = j := by omega
theorem line_diff {y u v : List Int} {g : Int} (hg : g = 1 ∨ g = -1) {c : Nat} (h : 4 * c + 4 ≤ y.length) :
    g * (List.getD (lineI y u v g) (4 * c + 0) 0 - List.getD (lineI y u v g) (4 * c + 0 + 2) 0) = g * (List.getD y (4 * c + 0) 0 - List.getD y (4 * c + 0 + 2) 0) + 2 * List.getD u c 0 ∧
    g * (List.getD (lineI y u v g) (4 * c + 1) 0 - List.getD (lineI y u v g) (4 * c + 1 + 2) 0) = g * (List.getD y (4 * c + 1) 0 - List.getD y (4 * c + 1 + 2) 0) + 2 * List.getD v c 0 := by
  rw [lineI_get (n := 4 * c + 0) (by omega), lineI_get (n := 4 * c + 0 + 2) (by omega), lineI_get (n := 4 * c + 1) (by omega), lineI_get (n := 4 * c + 1 + 2) (by omega)]
  have e0 := place4 c 0 (by omega)
  have e1 := place4 c 1 (by omega)
  have e2 := place4 c 2 (by omega)
  have e3 := place4 c 3 (by omega)
  rw [Nat.add_assoc (4 * c) 0 2, Nat.add_assoc (4 * c) 1 2]
  show g * (_ + carN _ _ _ g - (List.getD y (4 * c + 2) 0 + carN (List.getD u ((4 * c + 2) / 4) 0) (List.getD v ((4 * c + 2) / 4) 0) ((4 * c + 2) % 4) g)) = _ ∧ g * (_ + carN _ _ _ g - (List.getD y (4 * c + 3) 0 + carN (List.getD u ((4 * c + 3) / 4) 0) (List.getD v ((4 * c + 3) / 4) 0) ((4 * c + 3) % 4) g)) = _
  rw [e0.1, e0.2, e1.1, e1.2, e2.1, e2.2, e3.1, e3.2]
  show g * (_ + g * _ - (_ + -g * _)) = g * (_ - List.getD y (4 * c + 2) 0) + _ ∧ g * (_ + g * _ - (_ + -g * _)) = g * (_ - List.getD y (4 * c + 3) 0) + _
  rcases hg with rfl | rfl <;> constructor <;> omega
theorem round_even (a n : Int) : roundI (a + 2 * n) 2 = n + roundI a 2 := by
  unfold roundI
  omega
theorem round_half {a m : Int} (h : -m ≤ a ∧ a ≤ m) : -((m + 1) / 2) ≤ roundI a 2 ∧ roundI a 2 ≤ (m + 1) / 2 := by
  unfold roundI
  omega
theorem unev_at {y : List Int} {c : Nat} (h : 4 * c + 4 ≤ y.length) :
    (-unevI y ≤ List.getD y (4 * c + 0) 0 - List.getD y (4 * c + 0 + 2) 0 ∧ List.getD y (4 * c + 0) 0 - List.getD y (4 * c + 0 + 2) 0 ≤ unevI y) ∧
    (-unevI y ≤ List.getD y (4 * c + 1) 0 - List.getD y (4 * c + 1 + 2) 0 ∧ List.getD y (4 * c + 1) 0 - List.getD y (4 * c + 1 + 2) 0 ≤ unevI y) := by
  have h0 : unAt y (4 * c + 0) ≤ unevI y := maxTo_ge (f := unAt y) (by omega)
  have h1 : unAt y (4 * c + 1) ≤ unevI y := maxTo_ge (f := unAt y) (by omega)
  unfold unAt at h0 h1
  rw [if_pos (by omega)] at h0 h1
  unfold farI at h0 h1
  omega
theorem band_near {y u v : List Int} {line : Int} {c : Nat} (h : 4 * c + 4 ≤ y.length) :
    (-((unevI y + 1) / 2) ≤ diffAt 0 (lineI y u v (signI line)) c line 2 - List.getD u c 0 ∧ diffAt 0 (lineI y u v (signI line)) c line 2 - List.getD u c 0 ≤ (unevI y + 1) / 2) ∧
    (-((unevI y + 1) / 2) ≤ diffAt 1 (lineI y u v (signI line)) c line 2 - List.getD v c 0 ∧ diffAt 1 (lineI y u v (signI line)) c line 2 - List.getD v c 0 ≤ (unevI y + 1) / 2) := by
  have hg := signI_cases line
  obtain ⟨d0, d1⟩ := line_diff (y := y) (u := u) (v := v) hg h
  obtain ⟨k0, k1⟩ := unev_at h
  unfold diffAt
  rw [d0, d1, round_even, round_even]
  have q0 : -unevI y ≤ signI line * (List.getD y (4 * c + 0) 0 - List.getD y (4 * c + 0 + 2) 0) ∧ signI line * (List.getD y (4 * c + 0) 0 - List.getD y (4 * c + 0 + 2) 0) ≤ unevI y := by
    rcases hg with e | e <;> rw [e] <;> omega
  have q1 : -unevI y ≤ signI line * (List.getD y (4 * c + 1) 0 - List.getD y (4 * c + 1 + 2) 0) ∧ signI line * (List.getD y (4 * c + 1) 0 - List.getD y (4 * c + 1 + 2) 0) ≤ unevI y := by
    rcases hg with e | e <;> rw [e] <;> omega
  have r0 := round_half q0
  have r1 := round_half q1
  omega
theorem band_eq {l : List Int} {line : Int} (h4 : l.length % 4 = 0) : bandI l line = (tab l.length (apAt l l line 2), diffN 0 l line 2, diffN 1 l line 2) := apartI_eq rfl h4
theorem apart_back {l c : List Int} {line den : Int} (hc : c.length = l.length) (h4 : l.length % 4 = 0) : lineI (apartI l c line den).1 (apartI l c line den).2.1 (apartI l c line den).2.2 (signI line) = l := by
  rw [apartI_eq hc h4]
  unfold lineI
  rw [tab_len]
  refine (eq_tab 0 rfl fun i hi => ?_).symm
  rw [tab_get hi]
  unfold diffN
  rw [tab_get (by omega), tab_get (by omega)]
  unfold apAt minusI
  omega
theorem far_le {a b : List Int} {B : Int} (hB : 0 ≤ B) (h : ∀ i, i < a.length → -B ≤ List.getD a i 0 - List.getD b i 0 ∧ List.getD a i 0 - List.getD b i 0 ≤ B) : farN a b ≤ B := by
  unfold farN
  refine maxTo_bd hB fun j hj => ?_
  have := h j hj
  unfold farI
  omega
theorem unev_nonneg (y : List Int) : 0 ≤ unevI y := maxTo_nonneg _ _
def ItOk (y u v : List Int) : Prop := y.length % 4 = 0 ∧ u.length = y.length / 4 ∧ v.length = y.length / 4
theorem band_far {y u v : List Int} {line : Int} (h : ItOk y u v) :
    farN y (bandI (lineI y u v (signI line)) line).1 ≤ (unevI y + 1) / 2 ∧ farN u (bandI (lineI y u v (signI line)) line).2.1 ≤ (unevI y + 1) / 2 ∧ farN v (bandI (lineI y u v (signI line)) line).2.2 ≤ (unevI y + 1) / 2 := by
  obtain ⟨h4, hu, hv⟩ := h
  have hl := lineI_len y u v (signI line)
  have hz := unev_nonneg y
  rw [band_eq (by rw [hl]; exact h4)]
  refine ⟨far_le (by omega) fun i hi => ?_, far_le (by omega) fun i hi => ?_, far_le (by omega) fun i hi => ?_⟩
  · show _ ≤ _ - List.getD (tab _ _) i 0 ∧ _ - List.getD (tab _ _) i 0 ≤ _
    rw [hl, tab_get hi]
    unfold apAt minusI
    rw [lineI_get hi]
    obtain ⟨b0, b1⟩ := band_near (y := y) (u := u) (v := v) (line := line) (c := i / 4) (by omega)
    have e := carN_sub (diffAt 0 (lineI y u v (signI line)) (i / 4) line 2) (diffAt 1 (lineI y u v (signI line)) (i / 4) line 2) (List.getD u (i / 4) 0) (List.getD v (i / 4) 0) (i % 4) (signI line)
    have k := carN_bd (k := i % 4) (signI_cases line) b0 b1
    omega
  · show _ ≤ _ - List.getD (diffN _ _ _ _) i 0 ∧ _ - List.getD (diffN _ _ _ _) i 0 ≤ _
    unfold diffN
    rw [hl, tab_get (by omega)]
    have := (band_near (y := y) (u := u) (v := v) (line := line) (c := i) (by omega)).1
    omega
  · show _ ≤ _ - List.getD (diffN _ _ _ _) i 0 ∧ _ - List.getD (diffN _ _ _ _) i 0 ≤ _
    unfold diffN
    rw [hl, tab_get (by omega)]
    have := (band_near (y := y) (u := u) (v := v) (line := line) (c := i) (by omega)).2
    omega
theorem getD_near {a b : List Int} {A B : Int} (hA : 0 ≤ A) (hB : 0 ≤ B) (ha : Bd A a) (hl : b.length = a.length) (h : farN a b ≤ B) : Bd (A + B) b := fun n hn => by
  obtain ⟨i, hi, e⟩ := List.mem_iff_getElem.1 hn
  have h1 := bd_get ha (i := i) hA
  have h2 : farI (List.getD a i 0) (List.getD b i 0) ≤ farN a b := maxTo_ge (f := fun i => farI (List.getD a i 0) (List.getD b i 0)) (by omega)
  have h3 : List.getD b i 0 = n := by rw [getD_of hi, e]
  unfold farI at h2
  omega
theorem two_back {y u v : List Int} {line : Int} (h : ItOk y u v) :
    combI midI (lineI y u v (signI line)) (lineI y u v (-signI line)) = y ∧
    diffN 0 (combI minusI (lineI y u v (signI line)) (lineI y u v (-signI line))) line 4 = u ∧
    diffN 1 (combI minusI (lineI y u v (signI line)) (lineI y u v (-signI line))) line 4 = v := by
  obtain ⟨h4, hu, hv⟩ := h
  have hl := lineI_len y u v (signI line)
  have hg := signI_cases line
  refine ⟨?_, ?_, ?_⟩
  · unfold combI
    rw [hl]
    refine (eq_tab 0 rfl fun i hi => ?_).symm
    unfold midI
    rw [line_twice hi]
    unfold roundI
    omega
  · unfold diffN
    rw [combI_len, hl]
    refine (eq_tab 0 hu fun i hi => ?_).symm
    unfold diffAt combI
    rw [hl, tab_get (by omega), tab_get (by omega)]
    unfold minusI
    rw [line_less (by omega), line_less (by omega)]
    have e0 := place4 i 0 (by omega)
    have e2 := place4 i 2 (by omega)
    rw [Nat.add_assoc (4 * i) 0 2, e0.1, e0.2]
    show _ = roundI (_ * (2 * carN _ _ 0 _ - 2 * carN (List.getD u ((4 * i + 2) / 4) 0) (List.getD v ((4 * i + 2) / 4) 0) ((4 * i + 2) % 4) _)) 4
    rw [e2.1, e2.2]
    show _ = roundI (_ * (2 * (_ * _) - 2 * (-_ * _))) 4
    unfold roundI
    rcases hg with e | e <;> rw [e] <;> omega
  · unfold diffN
    rw [combI_len, hl]
    refine (eq_tab 0 hv fun i hi => ?_).symm
    unfold diffAt combI
    rw [hl, tab_get (by omega), tab_get (by omega)]
    unfold minusI
    rw [line_less (by omega), line_less (by omega)]
    have e0 := place4 i 1 (by omega)
    have e2 := place4 i 3 (by omega)
    rw [Nat.add_assoc (4 * i) 1 2, e0.1, e0.2]
    show _ = roundI (_ * (2 * carN _ _ 1 _ - 2 * carN (List.getD u ((4 * i + 3) / 4) 0) (List.getD v ((4 * i + 3) / 4) 0) ((4 * i + 3) % 4) _)) 4
    rw [e2.1, e2.2]
    show _ = roundI (_ * (2 * (_ * _) - 2 * (-_ * _))) 4
    unfold roundI
    rcases hg with e | e <;> rw [e] <;> omega
def notBig (B : Int) (l : List Nat) : Bool := l.all fun b => decide (-B ≤ six b) && decide (six b ≤ B)
theorem notBig_bd {B : Int} {l : List Nat} : notBig B l = true ↔ Bd B (sixs l) := by
  unfold notBig Bd sixs
  simp only [List.all_eq_true, Bool.and_eq_true, decide_eq_true_eq, List.mem_map]
  constructor
  · rintro h n ⟨b, hb, rfl⟩; exact h b hb
  · intro h b hb; exact h _ ⟨b, hb, rfl⟩
def bigP (B : Int) (x : Pt) : Bool := notBig B x.1 && (notBig B x.2.1 && notBig B x.2.2)
def plainP (x : Pt) : Bool := (shortP x.1 x.2.1 x.2.2 && (decide (chkP x = 0) && decide (x.1.length ≤ 24))) && bigP 4800 x
theorem plain_of {x : Pt} (h : plainP x = true) : chkP x = 0 ∧ x.1.length ≤ 24 ∧ Bd 4800 (sixs x.1) ∧ Bd 4800 (sixs x.2.1) ∧ Bd 4800 (sixs x.2.2) := by
  unfold plainP bigP at h
  simp only [Bool.and_eq_true, decide_eq_true_eq, notBig_bd] at h
  exact ⟨h.1.2.1, h.1.2.2, h.2.1, h.2.2.1, h.2.2.2⟩
theorem chkP_it {x : Pt} (h : chkP x = 0) : ItOk (sixs x.1) (sixs x.2.1) (sixs x.2.2) ∧ OkS x.1 ∧ OkS x.2.1 ∧ OkS x.2.2 := by
  obtain ⟨h1, h2, h3, h4, h5⟩ := chkPt_zero.1 (show chkPt x.1 x.2.1 x.2.2 = 0 from h)
  obtain ⟨k1, k2, k3⟩ := chkSig_zero.1 h1
  exact ⟨⟨by rw [sixs_len]; exact k2, by rw [sixs_len, sixs_len]; exact h2, by rw [sixs_len, sixs_len]; exact h3⟩, k3, h4, h5⟩
theorem bd_line {y u v : List Int} {A B g : Int} (hA : 0 ≤ A) (hB : 0 ≤ B) (hg : g = 1 ∨ g = -1) (hy : Bd A y) (hu : Bd B u) (hv : Bd B v) : Bd (A + B) (lineI y u v g) := by
  unfold lineI
  refine bd_tab fun i _ => ?_
  have h1 := bd_get hy (i := i) hA
  have h2 := carN_bd (k := i % 4) hg (bd_get hu (i := i / 4) hB) (bd_get hv (i := i / 4) hB)
  omega
theorem parts_ok {x : It} (h1 : Bd 16384 x.1) (h2 : Bd 16384 x.2.1) (h3 : Bd 16384 x.2.2) : partsE x = 0 ∧ partsP x = (x.1.map smp, x.2.1.map smp, x.2.2.map smp) := by
  have e : partsE x = 0 := by
    unfold partsE
    rw [lgE_of h1, lgE_of h2, lgE_of h3]
    rfl
  refine ⟨e, ?_⟩
  unfold partsP
  rw [if_pos e, smpsN_of h1, smpsN_of h2, smpsN_of h3]
theorem chk_parts {y u v : List Int} (h1 : Bd 16384 y) (h2 : Bd 16384 u) (h3 : Bd 16384 v) (hl : y.length ≤ 256) (h : ItOk y u v) : chkPt (y.map smp) (u.map smp) (v.map smp) = 0 := by
  obtain ⟨h4, hu, hv⟩ := h
  refine chkPt_zero.2 ⟨chkSig_zero.2 ⟨by rw [List.length_map]; exact hl, by rw [List.length_map]; exact h4, smp_ok h1⟩, by rw [List.length_map, List.length_map]; exact hu, by rw [List.length_map, List.length_map]; exact hv, smp_ok h2, smp_ok h3⟩
end Go.Sx.U

/- Plain functions of composite: the law Back. -/
namespace Go.Sx.U
open Ieee
def sgI (x : Pt) (n : Int) : List Int := lineI (sixs x.1) (sixs x.2.1) (sixs x.2.2) (signI n)
theorem sgI_len (x : Pt) (n : Int) : (sgI x n).length = x.1.length := by unfold sgI; rw [lineI_len, sixs_len]
def encX (x : Pt) (n : Int) : List Nat := encL x.1 x.2.1 x.2.2 n
def encY (x : Pt) (n : Int) : Int := encE x.1 x.2.1 x.2.2 n
theorem encI_sg {x : Pt} (h : chkP x = 0) (n : Int) : encI x.1 x.2.1 x.2.2 n = sgI x n := by
  obtain ⟨⟨h4, hu, hv⟩, _⟩ := chkP_it h
  rw [sixs_len] at h4 hu hv
  rw [sixs_len] at hu hv
  exact encI_line hu h4
theorem enc_bits {x : Pt} {n : Int} (h : chkP x = 0) (hn : 0 ≤ n ∧ n ≤ 10000000) (hb : Bd 16384 (sgI x n)) : encY x n = 0 ∧ encX x n = (sgI x n).map smp := by
  have hf : first [chkPt x.1 x.2.1 x.2.2, within n 0 10000000] = 0 := by
    refine first_zero.2 fun e he => ?_
    rcases List.mem_cons.1 he with rfl | he
    · exact h
    · rcases List.mem_cons.1 he with rfl | he
      · exact within_zero.2 hn
      · cases he
  unfold encY encX encE encL
  rw [if_neg (fun k => k hf), if_neg (fun k => k hf), encI_sg h]
  exact ⟨lgE_of hb, smpsN_of hb⟩
theorem plain_sg {x : Pt} (h : plainP x = true) (n : Int) : Bd 9600 (sgI x n) := by
  obtain ⟨_, _, h1, h2, h3⟩ := plain_of h
  exact bd_line (A := 4800) (B := 4800) (by omega) (by omega) (signI_cases n) h1 h2 h3
theorem map_smp_get {l : List Int} {i : Nat} (h : i < l.length) : List.getD (l.map smp) i 0 = smp (List.getD l i 0) := by
  rw [getD_of (by rw [List.length_map]; exact h), getD_of h, List.getElem_map]
theorem sg_sig {x : Pt} {n : Int} (h : chkP x = 0) (hl : x.1.length ≤ 256) (hb : Bd 16384 (sgI x n)) : chkSig ((sgI x n).map smp) = 0 := by
  have h4 := (chkP_it h).1.1
  rw [sixs_len] at h4
  exact chkSig_zero.2 ⟨by rw [List.length_map, sgI_len]; exact hl, by rw [List.length_map, sgI_len]; exact h4, smp_ok hb⟩
theorem back_sum {x : Pt} {n : Int} (h : plainP x = true) (hn : 0 ≤ n) {i : Nat} (hi : i < x.1.length) :
    ∃ z w, single.add (List.getD ((sgI x n).map smp) i 0) (List.getD ((sgI x (n + 1)).map smp) i 0) = some z ∧ single.mul 1073741824 (List.getD x.1 i 0) = some w ∧ (single.order z w != some .eq) = false := by
  obtain ⟨hc, _, hy, _, _⟩ := plain_of h
  obtain ⟨_, hk, _, _⟩ := chkP_it hc
  have b0 := bd_get (plain_sg h n) (i := i) (by omega)
  have b1 := bd_get (plain_sg h (n + 1)) (i := i) (by omega)
  rw [map_smp_get (by rw [sgI_len]; exact hi), map_smp_get (by rw [sgI_len]; exact hi)]
  have hs : List.getD (sgI x n) i 0 + List.getD (sgI x (n + 1)) i 0 = 2 * six (List.getD x.1 i 0) := by
    unfold sgI
    rw [signI_next hn, line_twice (by rw [sixs_len]; exact hi), sixs_get]
  have hy := bd_get hy (i := i) (by omega)
  rw [sixs_get] at hy
  obtain ⟨z, z1, z2⟩ := add_s (isS_smp (n := List.getD (sgI x n) i 0) (by omega)) (isS_smp (n := List.getD (sgI x (n + 1)) i 0) (by omega)) (by omega)
  obtain ⟨w, w1, w2⟩ := mul_s isS_2 (isS_chk (hk _ (getD_mem' (d := 0) hi))) (by omega)
  refine ⟨z, w, z1, w1, ?_⟩
  rw [ne_s z2 w2, hs]
  simp
def bkP (x : Pt) (n : Int) : Pt := ((bandI (sgI x n) n).1.map smp, (bandI (sgI x n) n).2.1.map smp, (bandI (sgI x n) n).2.2.map smp)
theorem bd_un {l : List Int} {B : Int} (h : Bd B l) (hB : 0 ≤ B) : unevI l ≤ 2 * B := maxTo_bd (by omega) fun j _ => unAt_bd h hB j
theorem bk_it {x : Pt} (h : plainP x = true) (n : Int) : ItOk (bandI (sgI x n) n).1 (bandI (sgI x n) n).2.1 (bandI (sgI x n) n).2.2 ∧ (bandI (sgI x n) n).1.length = x.1.length ∧
    Bd 9600 (bandI (sgI x n) n).1 ∧ Bd 9600 (bandI (sgI x n) n).2.1 ∧ Bd 9600 (bandI (sgI x n) n).2.2 := by
  obtain ⟨hc, hl, hy, hu, hv⟩ := plain_of h
  have hit := (chkP_it hc).1
  have hlen := bandI_len (sgI x n) n
  rw [sgI_len] at hlen
  obtain ⟨f1, f2, f3⟩ := band_far (line := n) hit
  obtain ⟨i1, i2, i3⟩ := hit
  rw [sixs_len] at i1 i2 i3
  rw [sixs_len] at i2 i3
  have un := bd_un hy (by omega)
  refine ⟨⟨by omega, by omega, by omega⟩, hlen.1, ?_, ?_, ?_⟩
  · exact bd_le (getD_near (A := 4800) (B := 4800) (by omega) (by omega) hy (by rw [sixs_len]; exact hlen.1) (Int.le_trans f1 (by omega))) (by omega)
  · exact bd_le (getD_near (A := 4800) (B := 4800) (by omega) (by omega) hu (by rw [sixs_len]; show (bandI (sgI x n) n).2.1.length = _; omega) (Int.le_trans f2 (by omega))) (by omega)
  · exact bd_le (getD_near (A := 4800) (B := 4800) (by omega) (by omega) hv (by rw [sixs_len]; show (bandI (sgI x n) n).2.2.length = _; omega) (Int.le_trans f3 (by omega))) (by omega)
theorem bk_band {x : Pt} {n : Int} (h : plainP x = true) (hn : 0 ≤ n ∧ n ≤ 10000000) : bndE ((sgI x n).map smp) n = 0 ∧ bndP ((sgI x n).map smp) n = bkP x n := by
  obtain ⟨hc, hl, _⟩ := plain_of h
  have hb := bd_le (plain_sg h n) (show (9600 : Int) ≤ 16384 by omega)
  have hs := sg_sig hc (by omega) hb
  have hf : first [chkSig ((sgI x n).map smp), within n 0 10000000] = 0 := by
    refine first_zero.2 fun e he => ?_
    rcases List.mem_cons.1 he with rfl | he
    · exact hs
    · rcases List.mem_cons.1 he with rfl | he
      · exact within_zero.2 hn
      · cases he
  obtain ⟨_, _, b1, b2, b3⟩ := bk_it h n
  obtain ⟨p1, p2⟩ := parts_ok (x := bandI (sgI x n) n) (bd_le b1 (by omega)) (bd_le b2 (by omega)) (bd_le b3 (by omega))
  unfold bndE bndP
  rw [if_neg (fun k => k hf), if_neg (fun k => k hf), six_smps hb]
  exact ⟨p1, p2⟩
theorem bk_chk {x : Pt} (h : plainP x = true) (n : Int) : chkP (bkP x n) = 0 := by
  obtain ⟨_, hl, _⟩ := plain_of h
  obtain ⟨b0, b4, b1, b2, b3⟩ := bk_it h n
  exact chk_parts (bd_le b1 (by omega)) (bd_le b2 (by omega)) (bd_le b3 (by omega)) (by omega) b0
theorem bk_six {x : Pt} (h : plainP x = true) (n : Int) : sixs (bkP x n).1 = (bandI (sgI x n) n).1 ∧ sixs (bkP x n).2.1 = (bandI (sgI x n) n).2.1 ∧ sixs (bkP x n).2.2 = (bandI (sgI x n) n).2.2 := by
  obtain ⟨_, _, b1, b2, b3⟩ := bk_it h n
  exact ⟨six_smps (bd_le b1 (by omega)), six_smps (bd_le b2 (by omega)), six_smps (bd_le b3 (by omega))⟩
theorem bk_len {x : Pt} (h : plainP x = true) (n : Int) : (bkP x n).1.length = x.1.length := by
  obtain ⟨_, b4, _⟩ := bk_it h n
  unfold bkP
  rw [List.length_map]
  exact b4
theorem bk_again {x : Pt} (h : plainP x = true) (n : Int) : sgI (bkP x n) n = sgI x n := by
  obtain ⟨e1, e2, e3⟩ := bk_six h n
  have h4 := (chkP_it (plain_of h).1).1.1
  rw [sixs_len] at h4
  show lineI _ _ _ _ = _
  rw [e1, e2, e3]
  exact apart_back rfl (by rw [sgI_len]; exact h4)
def bkD (x : Pt) (n : Int) : Int × Int := (farN (sixs x.1) (sixs (bkP x n).1), max (farN (sixs x.2.1) (sixs (bkP x n).2.1)) (farN (sixs x.2.2) (sixs (bkP x n).2.2)))
theorem farN_nonneg (a b : List Int) : 0 ≤ farN a b := maxTo_nonneg _ _
theorem bk_near {x : Pt} (h : plainP x = true) (n : Int) : (0 ≤ (bkD x n).1 ∧ (bkD x n).1 ≤ (unevI (sixs x.1) + 1) / 2) ∧ (0 ≤ (bkD x n).2 ∧ (bkD x n).2 ≤ (unevI (sixs x.1) + 1) / 2) := by
  obtain ⟨e1, e2, e3⟩ := bk_six h n
  have hit := (chkP_it (plain_of h).1).1
  obtain ⟨f1, f2, f3⟩ := band_far (line := n) hit
  have g1 := farN_nonneg (sixs x.1) (sixs (bkP x n).1)
  have g2 := farN_nonneg (sixs x.2.1) (sixs (bkP x n).2.1)
  have f1 : farN (sixs x.1) (sixs (bkP x n).1) ≤ (unevI (sixs x.1) + 1) / 2 := by rw [e1]; exact f1
  have f2 : farN (sixs x.2.1) (sixs (bkP x n).2.1) ≤ (unevI (sixs x.1) + 1) / 2 := by rw [e2]; exact f2
  have f3 : farN (sixs x.2.2) (sixs (bkP x n).2.2) ≤ (unevI (sixs x.1) + 1) / 2 := by rw [e3]; exact f3
  unfold bkD
  simp only
  omega
theorem bk_unev {x : Pt} (h : plainP x = true) : 0 ≤ unevI (sixs x.1) ∧ unevI (sixs x.1) ≤ 9600 := ⟨unev_nonneg _, bd_un (plain_of h).2.2.1 (by omega)⟩
theorem bk_dif {x : Pt} (h : plainP x = true) (n : Int) : difE x.1 x.2.1 x.2.2 (bkP x n).1 (bkP x n).2.1 (bkP x n).2.2 = 0 ∧ difP x.1 x.2.1 x.2.2 (bkP x n).1 (bkP x n).2.1 (bkP x n).2.2 = [smp (bkD x n).1, smp (bkD x n).2] := by
  obtain ⟨⟨d1, d2⟩, d3, d4⟩ := bk_near h n
  obtain ⟨u1, u2⟩ := bk_unev h
  have hf : first [chkPt x.1 x.2.1 x.2.2, chkPt (bkP x n).1 (bkP x n).2.1 (bkP x n).2.2] = 0 := by
    refine first_zero.2 fun e he => ?_
    rcases List.mem_cons.1 he with rfl | he
    · exact (plain_of h).1
    · rcases List.mem_cons.1 he with rfl | he
      · exact bk_chk h n
      · cases he
  have e0 : difE x.1 x.2.1 x.2.2 (bkP x n).1 (bkP x n).2.1 (bkP x n).2.2 = 0 := by
    unfold difE
    simp only [hf, bk_len h n]
    unfold bkD at d1 d2 d3 d4
    simp only at d1 d2 d3 d4
    simp
    omega
  refine ⟨e0, ?_⟩
  unfold difP
  rw [if_pos e0]
  rfl
def pair2 (x : Pt) : Fld := [(sgI x 0).map smp, (sgI x 1).map smp]
theorem pair_enc {x : Pt} (h : plainP x = true) : encFE [x, x] = 0 ∧ encFN [x, x] = pair2 x := by
  obtain ⟨hc, _⟩ := plain_of h
  have c0 : chkLs [x, x] = 0 := by
    refine chkLs_zero.2 ⟨by simp, fun i hi => ?_⟩
    have hi : i < 2 := hi
    rcases Nat.lt_or_ge i 1 with k | k
    · have : i = 0 := by omega
      subst this; exact ⟨hc, rfl⟩
    · have : i = 1 := by omega
      subst this; exact ⟨hc, rfl⟩
  have b0 := bd_le (plain_sg h 0) (show (9600 : Int) ≤ 16384 by omega)
  have b1 := bd_le (plain_sg h 1) (show (9600 : Int) ≤ 16384 by omega)
  have e0 : encP [x, x] 0 = sgI x 0 := encI_sg hc 0
  have e1 : encP [x, x] 1 = sgI x 1 := encI_sg hc 1
  have hE : encFE [x, x] = 0 := by
    unfold encFE
    rw [if_pos c0]
    refine upTo_zero.2 fun i hi => ?_
    have hi : i < 2 := hi
    show lgE (encP [x, x] i) = 0
    rcases Nat.lt_or_ge i 1 with k | k
    · have : i = 0 := by omega
      subst this; rw [e0]; exact lgE_of b0
    · have : i = 1 := by omega
      subst this; rw [e1]; exact lgE_of b1
  refine ⟨hE, ?_⟩
  unfold encFN
  rw [if_pos hE]
  show [smpsN (encP [x, x] 0), smpsN (encP [x, x] 1)] = _
  rw [e0, e1, smpsN_of b0, smpsN_of b1]
  rfl
theorem pair_fld {x : Pt} (h : plainP x = true) : chkFld (pair2 x) = 0 := by
  obtain ⟨hc, hl, _⟩ := plain_of h
  have b0 := bd_le (plain_sg h 0) (show (9600 : Int) ≤ 16384 by omega)
  have b1 := bd_le (plain_sg h 1) (show (9600 : Int) ≤ 16384 by omega)
  refine chkFld_zero.2 ⟨by unfold pair2; simp, fun i hi => ?_⟩
  have hi : i < 2 := hi
  rcases Nat.lt_or_ge i 1 with k | k
  · have : i = 0 := by omega
    subst this
    exact ⟨sg_sig hc (by omega) b0, rfl⟩
  · have : i = 1 := by omega
    subst this
    refine ⟨sg_sig hc (by omega) b1, ?_⟩
    show ((sgI x 1).map smp).length = ((sgI x 0).map smp).length
    rw [List.length_map, List.length_map, sgI_len, sgI_len]
theorem pair_two {x : Pt} (h : plainP x = true) {k : Int} (hk : k = 0 ∨ k = 1) : errE (twoE (pair2 x) k) (twoI (pair2 x) k) = 0 ∧ sameP (errP (twoE (pair2 x) k) (twoI (pair2 x) k)) x = true := by
  obtain ⟨hc, hl, hy, hu, hv⟩ := plain_of h
  obtain ⟨hit, k1, k2, k3⟩ := chkP_it hc
  have b0 := bd_le (plain_sg h 0) (show (9600 : Int) ≤ 16384 by omega)
  have b1 := bd_le (plain_sg h 1) (show (9600 : Int) ≤ 16384 by omega)
  have hE : twoE (pair2 x) k = 0 := twoE_zero.2 ⟨pair_fld h, by omega, by show k < ((2 : Nat) : Int); omega, by show 2 ≠ 1; decide⟩
  have l0 : lnI (pair2 x) 0 = sgI x 0 := six_smps b0
  have l1 : lnI (pair2 x) 1 = sgI x 1 := six_smps b1
  have s0 : signI 0 = 1 := rfl
  have s1 : signI 1 = -1 := rfl
  have hT : twoI (pair2 x) k = (sixs x.1, sixs x.2.1, sixs x.2.2) := by
    rcases hk with rfl | rfl
    · have : nextL (pair2 x) 0 = 1 := rfl
      obtain ⟨t1, t2, t3⟩ := two_back (line := 0) hit
      unfold twoI
      rw [this, l0, l1]
      have e : sgI x 1 = lineI (sixs x.1) (sixs x.2.1) (sixs x.2.2) (-signI 0) := rfl
      rw [e]
      unfold sgI
      rw [t1, t2, t3]
    · have : nextL (pair2 x) 1 = 0 := rfl
      obtain ⟨t1, t2, t3⟩ := two_back (line := 1) hit
      unfold twoI
      rw [this, l0, l1]
      have e : sgI x 0 = lineI (sixs x.1) (sixs x.2.1) (sixs x.2.2) (-signI 1) := rfl
      rw [e]
      unfold sgI
      rw [t1, t2, t3]
  obtain ⟨p1, p2⟩ := parts_ok (x := (sixs x.1, sixs x.2.1, sixs x.2.2)) (bd_le hy (by omega)) (bd_le hu (by omega)) (bd_le hv (by omega))
  unfold errE errP
  rw [if_pos hE, if_pos hE, hT, p1, p2]
  refine ⟨rfl, ?_⟩
  have key : ∀ l : List Nat, OkS l → Bd 4800 (sixs l) → sameS ((sixs l).map smp) l = true := fun l hl hb => by
    have hb' := bd_le hb (show (4800 : Int) ≤ 16384 by omega)
    rw [sameS_six (smp_ok hb') hl, six_smps hb']
    simp
  unfold sameP
  simp only
  rw [key _ k1 hy, key _ k2 hu, key _ k3 hv]
  rfl
end Go.Sx.U

/- Plain functions and hints. -/
namespace Go.Sx
open U
def arr3 (s : St) (t : Nat) : Option (List (List Nat)) := match lookT s.tm t with
  | some (.val (.agg [.arr 3 (.sl (.flt .f32)) x])) => some x
  | _ => none
def h83 : Hints := ⟨fun f k s => match f, k with
  | 83, 4 => match arr3 s 27 with
    | some x => some ⟨Nat, fun i => s.at [27] [tI 28 i], fun i => i ≤ 3 ∧ ∀ j, j < i → notBig 4800 (List.getD x j []) = true, fun i => 3 - i⟩
    | _ => none
  | 83, 7 => match listAs s 31 (.flt .f32) with
    | some l => some ⟨Nat, fun i => s.at [27, 28, 31, 32] [tI 33 i], fun i => i ≤ List.length l ∧ ∀ j, j < i → (-4800 ≤ six (List.getD l j 0) ∧ six (List.getD l j 0) ≤ 4800), fun i => List.length l - i⟩
    | _ => none
  | _, _ => none, 0⟩
end Go.Sx
namespace Go.Sx
open U
def sp83 : FSpec := ⟨fun vs => match vs with
  | [.agg [.one (.sl (.flt .f32) y), .one (.sl (.flt .f32) u), .one (.sl (.flt .f32) v)]] => some ([], .val (bV (plainP (y, u, v))))
  | _ => none, true⟩
end Go.Sx

/- What the engine asks, written out (printed by a program). -/
namespace Go.Sx
open U
theorem vc83 (y u v : List Nat) : exF (env false [(18, sp18), (23, sp23)] []) h83 0 83 Proofs.Tryz.f83 [ptV y u v] (.val (bV (plainP (y, u, v)))) = (((!shortP y u v) = false → List.length y ≤ (1000000000 : Nat)) ∧ splitB (bif bif !shortP y u v then true else chkPt y u v != (0 : Int) then true else decide ((24 : Int) < (↑(List.length y) : Int))) (false = plainP (y, u, v) ∧ True) ((∃ (g : Nat), (g ≤ (3 : Nat) ∧ ∀ (j : Nat), j < g → notBig (4800 : Int) (List.getD [y, u, v] j []) = true) ∧ (0 : Int) = (↑g : Int) ∧ [y, u, v] = [y, u, v] ∧ y = y ∧ u = u ∧ v = v ∧ True) ∧ ∀ (g : Nat), let q0 := (List.getD [y, u, v] g []); let q1 := (↑(List.length q0) : Int); (g ≤ (3 : Nat) ∧ ∀ (j : Nat), j < g → notBig (4800 : Int) (List.getD [y, u, v] j []) = true) → splitB (decide ((↑g : Int) < (3 : Int))) (((0 : Int) ≤ (↑g : Int) ∧ (↑g : Int) < (3 : Int)) ∧ (∃ (g_1 : Nat), (g_1 ≤ List.length q0 ∧ ∀ (j : Nat), j < g_1 → (-4800 : Int) ≤ six (List.getD q0 j (0 : Nat)) ∧ six (List.getD q0 j (0 : Nat)) ≤ (4800 : Int)) ∧ (0 : Int) = (↑g_1 : Int) ∧ q1 = q1 ∧ List.getD [y, u, v] g [] = List.getD [y, u, v] g [] ∧ (↑g : Int) = (↑g : Int) ∧ [y, u, v] = [y, u, v] ∧ y = y ∧ u = u ∧ v = v ∧ True) ∧ ∀ (g_1 : Nat), (g_1 ≤ List.length q0 ∧ ∀ (j : Nat), j < g_1 → (-4800 : Int) ≤ six (List.getD q0 j (0 : Nat)) ∧ six (List.getD q0 j (0 : Nat)) ≤ (4800 : Int)) → splitB (decide ((↑g_1 : Int) < q1)) (((0 : Int) ≤ (↑g_1 : Int) ∧ (↑g_1 : Int) < q1) ∧ splitB (bif Ieee.Format.order (FloatKind.format FloatKind.f32) (List.getD q0 g_1 (0 : Nat)) (1133903872 : Nat) == some Ordering.gt then true else Ieee.Format.order (FloatKind.format FloatKind.f32) (List.getD q0 g_1 (0 : Nat)) (3281387520 : Nat) == some Ordering.lt) (false = plainP (y, u, v) ∧ True) (fits IntKind.i64 ((↑g_1 : Int) + (1 : Int)) ∧ ∃ (g' : Nat), (g' ≤ List.length q0 ∧ ∀ (j : Nat), j < g' → (-4800 : Int) ≤ six (List.getD q0 j (0 : Nat)) ∧ six (List.getD q0 j (0 : Nat)) ≤ (4800 : Int)) ∧ List.length q0 - g' < List.length q0 - g_1 ∧ (↑g_1 : Int) + (1 : Int) = (↑g' : Int) ∧ q1 = q1 ∧ List.getD [y, u, v] g [] = List.getD [y, u, v] g [] ∧ (↑g : Int) = (↑g : Int) ∧ [y, u, v] = [y, u, v] ∧ y = y ∧ u = u ∧ v = v ∧ True)) (fits IntKind.i64 ((↑g : Int) + (1 : Int)) ∧ ∃ (g' : Nat), (g' ≤ (3 : Nat) ∧ ∀ (j : Nat), j < g' → notBig (4800 : Int) (List.getD [y, u, v] j []) = true) ∧ (3 : Nat) - g' < (3 : Nat) - g ∧ (↑g : Int) + (1 : Int) = (↑g' : Int) ∧ [y, u, v] = [y, u, v] ∧ y = y ∧ u = u ∧ v = v ∧ True)) (true = plainP (y, u, v) ∧ True))) := by
  kernel_rfl
end Go.Sx

/- Contracts. -/
namespace Go.Sx
open U
theorem fn83 (y u v : List Nat)  : Fn P1 gl1 83 [ptV y u v] (.val (bV (plainP (y, u, v)))) true := by
  refine Fn.flat ?_ rfl
  refine fn_of false [(18, sp18), (23, sp23)] [] h83 0 Proofs.Tryz.f83 ⟨so18, so23, trivial⟩ trivial (by kernel_rfl) rfl (by kernel_rfl) rfl rfl rfl ?_
  rw [vc83]
  try simp only [splitB_iff, -eq_self]
  refine ⟨fun h => by have := shortP_len (y := y) (u := u) (v := v) (by simpa using h); omega, fun h => ?_, fun h => ?_⟩
  · have e : plainP (y, u, v) = false := by
      unfold plainP
      simp only [bcond_l, Bool.or_eq_true, Bool.not_eq_true', bne_iff_ne, decide_eq_true_eq] at h
      have : (shortP y u v && (decide (chkPt y u v = 0) && decide (y.length ≤ 24))) = false := by
        rcases h with (h | h) | h
        · rw [h]; rfl
        · rw [decide_eq_false h]; simp
        · rw [decide_eq_false (show ¬ y.length ≤ 24 by omega)]; simp
      show ((shortP y u v && (decide (chkPt y u v = 0) && decide (y.length ≤ 24))) && _) = false
      rw [this]; rfl
    rw [e]
    exact ⟨rfl, trivial⟩
  · simp only [bcond_l, Bool.or_eq_false_iff, Bool.not_eq_false', bne_eq_false_iff_eq, decide_eq_false_iff_not] at h
    obtain ⟨⟨h1, h2⟩, h3⟩ := h
    obtain ⟨c1, c2, c3, c4, c5⟩ := chkPt_zero.1 h2
    have cy := (chkSig_zero.1 c1).2.2
    have hl := shortP_len h1
    have e : plainP (y, u, v) = (notBig 4800 y && (notBig 4800 u && notBig 4800 v)) := by
      show ((shortP y u v && (decide (chkPt y u v = 0) && decide (y.length ≤ 24))) && (notBig 4800 y && (notBig 4800 u && notBig 4800 v))) = _
      rw [h1, decide_eq_true h2, decide_eq_true (show y.length ≤ 24 by omega)]
      rfl
    have hk : ∀ g, g < 3 → OkS (List.getD [y, u, v] g []) ∧ (List.getD [y, u, v] g []).length ≤ 260 := fun g hg => by
      rcases (show g = 0 ∨ g = 1 ∨ g = 2 by omega) with rfl | rfl | rfl
      · exact ⟨cy, hl.1⟩
      · exact ⟨c4, by show u.length ≤ 260; omega⟩
      · exact ⟨c5, by show v.length ≤ 260; omega⟩
    refine ⟨⟨0, ⟨by omega, fun j hj => absurd hj (by omega)⟩, rfl, rfl, rfl, rfl, rfl, trivial⟩, fun g hg => ⟨fun hlt => ?_, fun hge => ?_⟩⟩
    · have hlt : (g : Int) < 3 := of_decide_eq_true hlt
      obtain ⟨k1, k2⟩ := hk g (by omega)
      generalize hL : List.getD [y, u, v] g [] = L at *
      refine ⟨by omega, ⟨0, ⟨by omega, fun j hj => absurd hj (by omega)⟩, rfl, rfl, rfl, rfl, rfl, rfl, rfl, rfl, trivial⟩, fun q hq => ⟨fun hl2 => ?_, fun hg2 => ?_⟩⟩
      · have hl2 : (q : Int) < (L.length : Int) := of_decide_eq_true hl2
        have o := isS_chk (k1 _ (getD_mem' (d := 0) (show q < L.length by omega)))
        have r1 : (Ieee.Format.order (FloatKind.format FloatKind.f32) (List.getD L q 0) 1133903872 == some Ordering.gt) = decide (4800 < six (List.getD L q 0)) := gt_s o isS_300
        have r2 : (Ieee.Format.order (FloatKind.format FloatKind.f32) (List.getD L q 0) 3281387520 == some Ordering.lt) = decide (six (List.getD L q 0) < -4800) := lt_s o isS_n300
        rw [r1, r2]
        refine ⟨by omega, fun k => ?_, fun k => ?_⟩
        · simp only [bcond_l, Bool.or_eq_true, decide_eq_true_eq] at k
          have nb : notBig 4800 L = false := by
            unfold notBig
            refine List.all_eq_false.2 ⟨List.getD L q 0, getD_mem' (by omega), ?_⟩
            simp only [Bool.and_eq_true, decide_eq_true_eq]
            omega
          have : plainP (y, u, v) = false := by
            rw [e]
            rcases (show g = 0 ∨ g = 1 ∨ g = 2 by omega) with rfl | rfl | rfl
            · have : y = L := hL
              rw [this, nb]; rfl
            · have : u = L := hL
              rw [this, nb]; simp
            · have : v = L := hL
              rw [this, nb]; simp
          rw [this]
          exact ⟨rfl, trivial⟩
        · simp only [bcond_l, Bool.or_eq_false_iff, decide_eq_false_iff_not] at k
          refine ⟨by simp only [fits]; omega, q + 1, ⟨by omega, fun j hj => ?_⟩, by omega, by simp, rfl, rfl, rfl, rfl, rfl, rfl, rfl, trivial⟩
          by_cases ej : j = q
          · subst ej; omega
          · exact hq.2 j (by omega)
      · have hg2 : ¬ (q : Int) < (L.length : Int) := of_decide_eq_false hg2
        refine ⟨by simp only [fits]; omega, g + 1, ⟨by omega, fun j hj => ?_⟩, by omega, by simp, rfl, rfl, rfl, rfl, trivial⟩
        by_cases ej : j = g
        · subst ej
          rw [hL]
          unfold notBig
          refine (all_get (d := 0)).2 fun i hi => ?_
          have := hq.2 i (by omega)
          simp only [Bool.and_eq_true, decide_eq_true_eq]
          exact this
        · exact hg.2 j (by omega)
    · have hge : ¬ (g : Int) < 3 := of_decide_eq_false hge
      have n0 : notBig 4800 y = true := hg.2 0 (by omega)
      have n1 : notBig 4800 u = true := hg.2 1 (by omega)
      have n2 : notBig 4800 v = true := hg.2 2 (by omega)
      rw [e, n0, n1, n2]
      exact ⟨rfl, trivial⟩
theorem so83_ : SpecOk P1 gl1 83 sp83 := by
  intro vs ps r h _
  simp only [sp83] at h
  split at h
  · cases h; exact fn83 _ _ _ 
  · cases h
theorem so83 : Sp1 83 sp83 := ⟨so83_, Proofs.Tryz.f83, _, by kernel_rfl, rfl, by kernel_rfl⟩
end Go.Sx

/- Plain functions and hints. -/
namespace Go.Sx
open U
def h12 : Hints := ⟨fun f k s => match f, k with
  | 12, 9 => match listAs s 78 (.flt .f32) with
    | some l => some ⟨Nat, fun i => s.at [2, 5, 6, 7, 8, 9, 78, 79] [tI 80 i], fun i => i ≤ List.length l, fun i => List.length l - i⟩
    | _ => none
  | 12, 27 => some ⟨Nat, fun i => s.at [2, 22] [tI 195 i], fun i => i ≤ 2, fun i => 2 - i⟩
  | _, _ => none, 0⟩
end Go.Sx

/- What the engine asks, written out (printed by a program). -/
namespace Go.Sx
open U
theorem vc12 (y u v : List Nat) (n : Int) : exF (env false [(83, sp83), (19, sp19), (21, sp21), (20, sp20), (36, sp36), (34, sp34), (43, sp43), (56, sp56), (57, sp57), (46, sp46), (23, sp23), (58, sp58), (27, sp27), (32, sp32), (31, sp31), (39, sp39), (47, sp47), (45, sp45)] []) h12 0 12 Proofs.Tryz.f12 [ptV y u v, .one (.int .u16 n)] (.val (bV true)) = (let q10 := (encL y u v n); let q0 := (bndP q10 n); let q1 := (if chkPt y u v = (0 : Int) then smp ((unevI (sixs y) + (1 : Int)) / (2 : Int)) else (0 : Nat)); let q2 := (encFN [(y, u, v), (y, u, v)]); let q3 := (FloatKind.format FloatKind.f32); let q4 := (1000000 : Nat); let q5 := (difP y u v q0.1 q0.2.1 q0.2.2); let q6 := (n + (1 : Int)); let q8 := (1000000000 : Nat); let q17 := (List.getD q5 (0 : Nat) (0 : Nat)); let q9 := (bif difE y u v q0.1 q0.2.1 q0.2.2 + encE q0.1 q0.2.1 q0.2.2 n != (0 : Int) then true else Ieee.Format.order q3 q17 q1 == some Ordering.gt); let q11 := (↑(List.length y) : Int); let q13 := (false = true ∧ True); let q15 := (difE y u v q0.1 q0.2.1 q0.2.2 + encE q0.1 q0.2.1 q0.2.2 n != (0 : Int)); let q18 := (chkPt y u v = (0 : Int) ∧ unevI (sixs y) = (0 : Int)); let q19 := (encL y u v q6); let q20 := (↑(List.length q10) : Int); splitB (!plainP (y, u, v)) (true = true ∧ True) (fits IntKind.i64 n ∧ List.length y ≤ q4 ∧ List.length u ≤ q4 ∧ List.length v ≤ q4 ∧ List.length y ≤ q8 ∧ List.length y ≤ q4 ∧ List.length u ≤ q4 ∧ List.length v ≤ q4 ∧ fits IntKind.i64 q6 ∧ List.length y ≤ q8 ∧ fits IntKind.i64 (encE y u v n + encE y u v q6) ∧ splitB (bif bif bif bif encE y u v n + encE y u v q6 != (0 : Int) then true else chkSig q10 != (0 : Int) then true else chkSig q19 != (0 : Int) then true else q20 != q11 then true else (↑(List.length q19) : Int) != q20) q13 ((∃ (g : Nat), Nat.le g (List.length y) ∧ (0 : Int) = (↑g : Int) ∧ q11 = q11 ∧ y = y ∧ encE y u v q6 = encE y u v q6 ∧ encE y u v n = encE y u v n ∧ n = n ∧ encL y u v q6 = encL y u v q6 ∧ encL y u v n = encL y u v n ∧ y = y ∧ u = u ∧ v = v ∧ True) ∧ ∀ (g : Nat), let q14 := (Ieee.Format.add q3 (List.getD q10 g (0 : Nat)) (List.getD q19 g (0 : Nat))); let q16 := (Ieee.Format.mul q3 (1073741824 : Nat) (List.getD y g (0 : Nat))); Nat.le g (List.length y) → splitB (decide ((↑g : Int) < q11)) (((0 : Int) ≤ (↑g : Int) ∧ (↑g : Int) < q11) ∧ ((0 : Int) ≤ (↑g : Int) ∧ (↑g : Int) < q20) ∧ g < List.length q10 ∧ ((0 : Int) ≤ (↑g : Int) ∧ (↑g : Int) < (↑(List.length q19) : Int)) ∧ g < List.length q19 ∧ Option.isSome q14 = true ∧ Option.isSome q16 = true ∧ splitB (Ieee.Format.order q3 (Option.getD q14 (0 : Nat)) (Option.getD q16 (0 : Nat)) != some Ordering.eq) q13 (fits IntKind.i64 ((↑g : Int) + (1 : Int)) ∧ ∃ (g' : Nat), Nat.le g' (List.length y) ∧ List.length y - g' < List.length y - g ∧ (↑g : Int) + (1 : Int) = (↑g' : Int) ∧ q11 = q11 ∧ y = y ∧ encE y u v q6 = encE y u v q6 ∧ encE y u v n = encE y u v n ∧ n = n ∧ encL y u v q6 = encL y u v q6 ∧ encL y u v n = encL y u v n ∧ y = y ∧ u = u ∧ v = v ∧ True)) (List.length q10 ≤ q4 ∧ List.length y ≤ q4 ∧ List.length u ≤ q4 ∧ List.length v ≤ q4 ∧ List.length y ≤ q8 ∧ List.length y ≤ q4 ∧ List.length u ≤ q4 ∧ List.length v ≤ q4 ∧ List.length y ≤ q8 ∧ fits IntKind.i64 (bndE q10 n + chkPt y u v) ∧ fits IntKind.i64 (bndE q10 n + chkPt y u v + chkPt y u v) ∧ ((bndE q10 n + chkPt y u v + chkPt y u v != (0 : Int)) = false → List.length q0.1 ≤ q8) ∧ splitB (bif bndE q10 n + chkPt y u v + chkPt y u v != (0 : Int) then true else chkPt q0.1 q0.2.1 q0.2.2 != (0 : Int)) q13 (List.length y ≤ q4 ∧ List.length u ≤ q4 ∧ List.length v ≤ q4 ∧ List.length q0.1 ≤ q4 ∧ List.length q0.2.1 ≤ q4 ∧ List.length q0.2.2 ≤ q4 ∧ List.length y ≤ q8 ∧ List.length q0.1 ≤ q8 ∧ List.length q0.1 ≤ q4 ∧ List.length q0.2.1 ≤ q4 ∧ List.length q0.2.2 ≤ q4 ∧ List.length q0.1 ≤ q8 ∧ fits IntKind.i64 (difE y u v q0.1 q0.2.1 q0.2.2 + encE q0.1 q0.2.1 q0.2.2 n) ∧ (q15 = false → (0 : Int) ≤ (0 : Int) ∧ (0 : Int) < (2 : Int)) ∧ (q15 = false → (0 : Nat) < List.length q5) ∧ (q9 = false → (0 : Int) ≤ (1 : Int) ∧ (1 : Int) < (2 : Int)) ∧ (q9 = false → (1 : Nat) < List.length q5) ∧ ((bif bif bif difE y u v q0.1 q0.2.1 q0.2.2 + encE q0.1 q0.2.1 q0.2.2 n != (0 : Int) then true else Ieee.Format.order q3 q17 q1 == some Ordering.gt then true else Ieee.Format.order q3 (List.getD q5 (1 : Nat) (0 : Nat)) q1 == some Ordering.gt then true else bif decide q18 then bif !eqT (Ty.arr (2 : Nat) (Ty.flt FloatKind.f32)) q5 (List.replicate (2 : Nat) (0 : Nat)) then true else Ieee.Format.order q3 q1 (0 : Nat) != some Ordering.eq else false) = false → List.length (encL q0.1 q0.2.1 q0.2.2 n) ≤ q8) ∧ splitB (bif bif bif bif difE y u v q0.1 q0.2.1 q0.2.2 + encE q0.1 q0.2.1 q0.2.2 n != (0 : Int) then true else Ieee.Format.order q3 q17 q1 == some Ordering.gt then true else Ieee.Format.order q3 (List.getD q5 (1 : Nat) (0 : Nat)) q1 == some Ordering.gt then true else bif decide q18 then bif !eqT (Ty.arr (2 : Nat) (Ty.flt FloatKind.f32)) q5 (List.replicate (2 : Nat) (0 : Nat)) then true else Ieee.Format.order q3 q1 (0 : Nat) != some Ordering.eq else false then true else !sameS (encL q0.1 q0.2.1 q0.2.2 n) q10) q13 ((2 : Nat) ≤ q4 ∧ (∀ (x : Pt), x ∈ [(y, u, v), (y, u, v)] → List.length x.1 ≤ q4 ∧ List.length x.2.1 ≤ q4 ∧ List.length x.2.2 ≤ q4) ∧ (∀ (x : Pt), x ∈ [(y, u, v), (y, u, v)] → List.length x.1 ≤ q8) ∧ splitB (bif encFE [(y, u, v), (y, u, v)] != (0 : Int) then true else (↑(List.length q2) : Int) != (2 : Int)) q13 ((∃ (g : Nat), Nat.le g (2 : Nat) ∧ (0 : Int) = (↑g : Int) ∧ encFN [(y, u, v), (y, u, v)] = encFN [(y, u, v), (y, u, v)] ∧ encL q0.1 q0.2.1 q0.2.2 n = encL q0.1 q0.2.1 q0.2.2 n ∧ difP y u v q0.1 q0.2.1 q0.2.2 = difP y u v q0.1 q0.2.1 q0.2.2 ∧ q0.1 = q0.1 ∧ q0.2.1 = q0.2.1 ∧ q0.2.2 = q0.2.2 ∧ encL y u v n = encL y u v n ∧ encL y u v q6 = encL y u v q6 ∧ encL y u v n = encL y u v n ∧ y = y ∧ u = u ∧ v = v ∧ True) ∧ ∀ (g : Nat), let q7 := (errP (twoE q2 (↑g : Int)) (twoI q2 (↑g : Int))); let q12 := (errE (twoE q2 (↑g : Int)) (twoI q2 (↑g : Int)) != (0 : Int)); Nat.le g (2 : Nat) → splitB (decide ((↑g : Int) < (2 : Int))) (List.length q2 ≤ q4 ∧ (∀ (x : List Nat), x ∈ encFN [(y, u, v), (y, u, v)] → List.length x ≤ q4) ∧ (q12 = false → List.length q7.1 ≤ q8) ∧ (q12 = false → List.length q7.2.1 ≤ q8) ∧ (q12 = false → List.length q7.2.2 ≤ q8) ∧ splitB (bif errE (twoE q2 (↑g : Int)) (twoI q2 (↑g : Int)) != (0 : Int) then true else !sameP (q7.1, q7.2.1, q7.2.2) (y, u, v)) q13 (fits IntKind.i64 ((↑g : Int) + (1 : Int)) ∧ ∃ (g' : Nat), Nat.le g' (2 : Nat) ∧ (2 : Nat) - g' < (2 : Nat) - g ∧ (↑g : Int) + (1 : Int) = (↑g' : Int) ∧ encFN [(y, u, v), (y, u, v)] = encFN [(y, u, v), (y, u, v)] ∧ encL q0.1 q0.2.1 q0.2.2 n = encL q0.1 q0.2.1 q0.2.2 n ∧ difP y u v q0.1 q0.2.1 q0.2.2 = difP y u v q0.1 q0.2.1 q0.2.2 ∧ q0.1 = q0.1 ∧ q0.2.1 = q0.2.1 ∧ q0.2.2 = q0.2.2 ∧ encL y u v n = encL y u v n ∧ encL y u v q6 = encL y u v q6 ∧ encL y u v n = encL y u v n ∧ y = y ∧ u = u ∧ v = v ∧ True)) (true = true ∧ True)))))))) := by
  kernel_rfl
end Go.Sx

/- Contracts. -/
namespace Go.Sx
open U
theorem fn12 (y u v : List Nat) (n : Int) (hn : 0 ≤ n ∧ n ≤ 65535) : Fn P1 gl1 12 [ptV y u v, .one (.int .u16 n)] (.val (bV true)) true := by
  refine Fn.flat ?_ rfl
  refine fn_of false [(83, sp83), (19, sp19), (21, sp21), (20, sp20), (36, sp36), (34, sp34), (43, sp43), (56, sp56), (57, sp57), (46, sp46), (23, sp23), (58, sp58), (27, sp27), (32, sp32), (31, sp31), (39, sp39), (47, sp47), (45, sp45)] [] h12 0 Proofs.Tryz.f12 ⟨so83, so19, so21, so20, so36, so34, so43, so56, so57, so46, so23, so58, so27, so32, so31, so39, so47, so45, trivial⟩ trivial (by kernel_rfl) rfl (by kernel_rfl) rfl rfl rfl ?_
  rw [vc12]
  try simp only [splitB_iff, -eq_self]
  have c0 : chkS 0 = 0 := by decide +kernel
  have z0 : isS 0 0 := by
    have := isS_chk c0
    rwa [six_zero] at this
  refine ⟨fun _ => ⟨rfl, trivial⟩, fun h => ?_⟩
  have hp : plainP (y, u, v) = true := by simpa using h
  obtain ⟨hc, hl, hy, hu, hv⟩ := plain_of hp
  obtain ⟨⟨i1, i2, i3⟩, oy, ou, ov⟩ := chkP_it hc
  rw [sixs_len] at i1 i2 i3
  rw [sixs_len] at i2 i3
  have hc : chkPt y u v = 0 := hc
  have hl : y.length ≤ 24 := hl
  have i1 : y.length % 4 = 0 := i1
  have i2 : u.length = y.length / 4 := i2
  have i3 : v.length = y.length / 4 := i3
  have b0 := bd_le (plain_sg hp n) (show (9600 : Int) ≤ 16384 by omega)
  have b1 := bd_le (plain_sg hp (n + 1)) (show (9600 : Int) ≤ 16384 by omega)
  obtain ⟨E0, L0⟩ := enc_bits (x := (y, u, v)) hc (n := n) (by omega) b0
  obtain ⟨E1, L1⟩ := enc_bits (x := (y, u, v)) hc (n := n + 1) (by omega) b1
  have E0 : encE y u v n = 0 := E0
  have L0 : encL y u v n = (sgI (y, u, v) n).map smp := L0
  have E1 : encE y u v (n + 1) = 0 := E1
  have L1 : encL y u v (n + 1) = (sgI (y, u, v) (n + 1)).map smp := L1
  obtain ⟨K0, K1⟩ := bk_band (n := n) hp (by omega)
  have C1 : chkPt (bkP (y, u, v) n).1 (bkP (y, u, v) n).2.1 (bkP (y, u, v) n).2.2 = 0 := bk_chk hp n
  obtain ⟨D0, D1⟩ := bk_dif hp n
  have D0 : difE y u v (bkP (y, u, v) n).1 (bkP (y, u, v) n).2.1 (bkP (y, u, v) n).2.2 = 0 := D0
  have D1 : difP y u v (bkP (y, u, v) n).1 (bkP (y, u, v) n).2.1 (bkP (y, u, v) n).2.2 = [smp (bkD (y, u, v) n).1, smp (bkD (y, u, v) n).2] := D1
  obtain ⟨F0, F1⟩ := enc_bits (x := bkP (y, u, v) n) (bk_chk hp n) (n := n) (by omega) (by rw [bk_again hp]; exact b0)
  rw [bk_again hp] at F1
  have F0 : encE (bkP (y, u, v) n).1 (bkP (y, u, v) n).2.1 (bkP (y, u, v) n).2.2 n = 0 := F0
  have F1 : encL (bkP (y, u, v) n).1 (bkP (y, u, v) n).2.1 (bkP (y, u, v) n).2.2 n = (sgI (y, u, v) n).map smp := F1
  obtain ⟨G0, G1⟩ := pair_enc hp
  have s0 : chkSig ((sgI (y, u, v) n).map smp) = 0 := sg_sig hc (show y.length ≤ 256 by omega) b0
  have s1 : chkSig ((sgI (y, u, v) (n + 1)).map smp) = 0 := sg_sig hc (show y.length ≤ 256 by omega) b1
  have m0 : ((sgI (y, u, v) n).map smp).length = y.length := by rw [List.length_map, sgI_len]
  have m1 : ((sgI (y, u, v) (n + 1)).map smp).length = y.length := by rw [List.length_map, sgI_len]
  have hs0 : sameS ((sgI (y, u, v) n).map smp) ((sgI (y, u, v) n).map smp) = true := sameS_self (smp_ok b0)
  have kb1 : (bkP (y, u, v) n).1.length = y.length := bk_len hp n
  obtain ⟨⟨_, kb2, kb3⟩, _, _, _⟩ := bk_it hp n
  have kb2 : (bkP (y, u, v) n).2.1.length = y.length / 4 := by
    unfold bkP
    rw [List.length_map, kb2]
    have := (bk_it hp n).2.1
    rw [this]
  have kb3 : (bkP (y, u, v) n).2.2.length = y.length / 4 := by
    unfold bkP
    rw [List.length_map, kb3]
    have := (bk_it hp n).2.1
    rw [this]
  obtain ⟨⟨n1, n2⟩, n3, n4⟩ := bk_near hp n
  obtain ⟨u1, u2⟩ := bk_unev hp
  have n2 : (bkD (y, u, v) n).1 ≤ (unevI (sixs y) + 1) / 2 := n2
  have n4 : (bkD (y, u, v) n).2 ≤ (unevI (sixs y) + 1) / 2 := n4
  have u1 : 0 ≤ unevI (sixs y) := u1
  have u2 : unevI (sixs y) ≤ 9600 := u2
  rw [L0, L1, E0, E1, K0, K1, hc, C1, D0, D1, F0, F1, G0, G1, if_pos rfl, s0, s1, m0, m1, hs0, kb1, kb2, kb3]
  generalize (bkD (y, u, v) n).1 = d1 at *
  generalize (bkD (y, u, v) n).2 = d2 at *
  have g1 : (Ieee.Format.order (FloatKind.format FloatKind.f32) (smp d1) (smp ((unevI (sixs y) + 1) / 2)) == some Ordering.gt) = false := by
    have := gt_s (isS_smp (n := d1) (by omega)) (isS_smp (n := (unevI (sixs y) + 1) / 2) (by omega))
    exact this.trans (decide_eq_false (by omega))
  have g2 : (Ieee.Format.order (FloatKind.format FloatKind.f32) (smp d2) (smp ((unevI (sixs y) + 1) / 2)) == some Ordering.gt) = false := by
    have := gt_s (isS_smp (n := d2) (by omega)) (isS_smp (n := (unevI (sixs y) + 1) / 2) (by omega))
    exact this.trans (decide_eq_false (by omega))
  have g3 : (bif decide ((0 : Int) = 0 ∧ unevI (sixs y) = 0) then bif !eqT (Ty.arr 2 (Ty.flt FloatKind.f32)) [smp d1, smp d2] (List.replicate 2 0) then true else Ieee.Format.order (FloatKind.format FloatKind.f32) (smp ((unevI (sixs y) + 1) / 2)) 0 != some Ordering.eq else false) = false := by
    by_cases hz : unevI (sixs y) = 0
    · rw [hz] at n2 n4 ⊢
      have e1 : d1 = 0 := by omega
      have e2 : d2 = 0 := by omega
      subst e1 e2
      have q1 : Op.floatEq .f32 (smp 0) 0 = true := by
        rw [eq_six (chk_smp (by omega) (by omega)) c0, six_smp (by omega), six_zero]; rfl
      have q2 : eqT (Ty.arr 2 (Ty.flt FloatKind.f32)) [smp 0, smp 0] (List.replicate 2 0) = true := by
        show (Op.floatEq .f32 (smp 0) 0 && (Op.floatEq .f32 (smp 0) 0 && true)) = true
        rw [q1]; rfl
      have q3 : (Ieee.Format.order (FloatKind.format FloatKind.f32) (smp ((0 + 1) / 2)) 0 != some Ordering.eq) = false := (ne_s (isS_smp (n := (0 + 1) / 2) (by omega)) z0).trans (by decide)
      rw [q2, q3]
      rfl
    · have : decide ((0 : Int) = 0 ∧ unevI (sixs y) = 0) = false := decide_eq_false fun k => hz k.2
      rw [this]; rfl
  refine ⟨by simp only [fits]; omega, by omega, by omega, by omega, by omega, by omega, by omega, by omega, by simp only [fits]; omega, by omega, by simp only [fits]; omega, fun k => absurd k (by simp), fun _ => ⟨⟨0, Nat.zero_le _, rfl, rfl, rfl, rfl, rfl, rfl, rfl, rfl, rfl, rfl, rfl, trivial⟩, fun g hg => ⟨fun hlt => ?_, fun _ => ?_⟩⟩⟩
  · have hlt : (g : Int) < (y.length : Int) := of_decide_eq_true hlt
    obtain ⟨z, w, z1, w1, zw⟩ := back_sum (x := (y, u, v)) (n := n) hp hn.1 (i := g) (by show g < y.length; omega)
    have z1 : Ieee.Format.add (FloatKind.format FloatKind.f32) (List.getD ((sgI (y, u, v) n).map smp) g 0) (List.getD ((sgI (y, u, v) (n + 1)).map smp) g 0) = some z := z1
    have w1 : Ieee.Format.mul (FloatKind.format FloatKind.f32) 1073741824 (List.getD y g 0) = some w := w1
    rw [z1, w1]
    refine ⟨by omega, by omega, by omega, by omega, by omega, rfl, rfl, fun k => ?_, fun _ => ⟨by simp only [fits]; omega, g + 1, (show g + 1 ≤ y.length by omega), by omega, by simp, rfl, rfl, rfl, rfl, rfl, rfl, rfl, rfl, rfl, rfl, trivial⟩⟩
    have : (Ieee.Format.order (FloatKind.format FloatKind.f32) z w != some Ordering.eq) = true := k
    rw [show (Ieee.Format.order (FloatKind.format FloatKind.f32) z w != some Ordering.eq) = false from zw] at this
    cases this
  · refine ⟨by omega, by omega, by omega, by omega, by omega, by omega, by omega, by omega, by omega, by simp only [fits]; omega, by simp only [fits]; omega, fun _ => by omega, fun k => absurd k (by simp), fun _ => ⟨by omega, by omega, by omega, by omega, by omega, by omega, by omega, by omega, by omega, by omega, by omega, by omega, by simp only [fits]; omega, fun _ => by omega, fun _ => Nat.zero_lt_succ _, fun _ => by omega, fun _ => Nat.succ_lt_succ (Nat.zero_lt_succ _), fun _ => by omega, fun k => ?_, fun _ => ⟨by decide, fun x hx => ?_, fun x hx => ?_, fun k => absurd k (by simp [pair2]), fun _ => ⟨⟨0, Nat.zero_le _, rfl, rfl, rfl, rfl, rfl, rfl, rfl, rfl, rfl, rfl, rfl, rfl, rfl, trivial⟩, fun g hg => ⟨fun hlt => ?_, fun _ => ⟨rfl, trivial⟩⟩⟩⟩⟩⟩
    · exfalso
      have e1 : List.getD [smp d1, smp d2] 0 0 = smp d1 := rfl
      have e2 : List.getD [smp d1, smp d2] 1 0 = smp d2 := rfl
      rw [e1, e2, g1, g2, g3] at k
      simp at k
    · simp at hx
      subst hx
      exact ⟨by omega, by omega, by omega⟩
    · simp at hx
      subst hx
      show y.length ≤ _
      omega
    · have hlt : (g : Int) < 2 := of_decide_eq_true hlt
      obtain ⟨t1, t2⟩ := pair_two hp (k := (g : Int)) (by omega)
      have hx : ∀ x ∈ pair2 (y, u, v), x.length ≤ 1000000 := fun x hx => by
        unfold pair2 at hx
        simp at hx
        rcases hx with rfl | rfl <;> rw [List.length_map, sgI_len] <;> (show y.length ≤ _) <;> omega
      have tl : (errP (twoE (pair2 (y, u, v)) ↑g) (twoI (pair2 (y, u, v)) ↑g)).1.length ≤ 1000000000 ∧ (errP (twoE (pair2 (y, u, v)) ↑g) (twoI (pair2 (y, u, v)) ↑g)).2.1.length ≤ 1000000000 ∧ (errP (twoE (pair2 (y, u, v)) ↑g) (twoI (pair2 (y, u, v)) ↑g)).2.2.length ≤ 1000000000 := by
        unfold sameP at t2
        simp only [Bool.and_eq_true, sameS, decide_eq_true_eq] at t2
        omega
      rw [t1, show sameP ((errP (twoE (pair2 (y, u, v)) ↑g) (twoI (pair2 (y, u, v)) ↑g)).1, (errP (twoE (pair2 (y, u, v)) ↑g) (twoI (pair2 (y, u, v)) ↑g)).2.1, (errP (twoE (pair2 (y, u, v)) ↑g) (twoI (pair2 (y, u, v)) ↑g)).2.2) (y, u, v) = true from t2]
      exact ⟨by show 2 ≤ 1000000; decide, hx, fun _ => tl.1, fun _ => tl.2.1, fun _ => tl.2.2, fun k => absurd k (by simp), fun _ => ⟨by simp only [fits]; omega, g + 1, (show g + 1 ≤ 2 by omega), by omega, by simp, rfl, rfl, rfl, rfl, rfl, rfl, rfl, rfl, rfl, rfl, rfl, rfl, trivial⟩⟩
end Go.Sx

/- From readings of arguments to pure data. -/
namespace Go.Sx
open Go.RowKit
def WF : (t : Ty) → t.T → Prop
  | .int k, n => (Lit.int k n).wf = true
  | .bool, _ => True
  | .str, l => List.length l ≤ maxLen
  | .flt k, n => (Lit.float k n).wf = true
  | .cpx _, _ => True
  | .fnp, _ => True
  | .sl t, xs => List.length xs ≤ maxLen ∧ ∀ i (h : i < List.length xs), WF t (xs[i]'h)
  | .arr n t, xs => List.length xs = n ∧ ∀ i (h : i < List.length xs), WF t (xs[i]'h)
  | .pair a b, x => WF a x.1 ∧ WF b x.2
mutual
def rdChk (P : Program) : Nat → TypeId → Ty → Bool
  | 0, _, _ => false
  | n + 1, t, u => match P.underlying t with
      | some (.int k) => decide (u = .int k)
      | some .bool => decide (u = .bool)
      | some .string => decide (u = .str)
      | some (.float k) => decide (u = .flt k)
      | some (.slice e) => match u with
        | .sl v => decide (P.cellsOf e = v.sz) && decide (v.sz ≠ 0) && rdChk P n e v
        | _ => false
      | some (.array m e) => match u with
        | .arr m' v => decide (m = m') && decide (P.cellsOf e = v.sz) && decide (P.cellsOf t = m * v.sz) && rdChk P n e v
        | _ => false
      | some (.struct fs) => decide (P.cellsOf t = u.sz) && rdFs P n 0 fs.toList u
      | _ => false
def rdFs (P : Program) : Nat → Nat → List Field → Ty → Bool
  | 0, _, _, _ => false
  | n + 1, off, [f], u => decide (f.offset = off) && decide (P.cellsOf f.type = u.sz) && rdChk P n f.type u
  | n + 1, off, f :: r, .pair a b => decide (f.offset = off) && decide (P.cellsOf f.type = a.sz) && rdChk P n f.type a && rdFs P n (off + a.sz) r b
  | _, _, _, _ => false
end
def HW (w : World) : IH := fun b => w.heap[b]?
theorem addp (b off i : Nat) : (Addr.mk b off none).add i = ⟨b, off + i, none⟩ := by
  unfold Addr.add; split <;> simp_all
theorem cells_seg {w : World} {base : Nat} {a : Addr} {n : Nat} {cs : List Value} (h : w.cells? base a n = some cs) (hn : 0 < n) :
    ∃ b off c e fr, a = ⟨b, off, none⟩ ∧ w.heap[b]? = some (.cells c e fr) ∧ seg c off n = cs := by
  obtain ⟨_, hl, hc⟩ := World.cells?_some h
  obtain ⟨b, off, sp⟩ := a
  have h0 := hc 0 hn
  rw [List.getElem?_eq_getElem (by omega)] at h0
  have hs : sp = none := by
    have := World.cell?_spot h0
    simp only [Addr.add] at this
    cases sp with
    | none => rfl
    | some x => simp at this
  subst hs
  have hb : ∃ c e fr, w.heap[b]? = some (.cells c e fr) := by
    simp only [World.cell?, Addr.add] at h0
    split at h0
    · exact ⟨_, _, _, ‹_›⟩
    · cases h0
  obtain ⟨c, e, fr, hb⟩ := hb
  refine ⟨b, off, c, e, fr, rfl, hb, ?_⟩
  have hi : ∀ i, i < n → c[off + i]? = cs[i]? := by
    intro i hi
    have := hc i hi
    rw [addp] at this
    simpa [World.cell?, hb] using this
  apply List.ext_getElem?
  intro i
  simp only [seg, List.getElem?_take, List.getElem?_drop]
  split
  · rename_i h1
    rw [← hi i h1]; simp
  · rename_i h1
    rw [List.getElem?_eq_none (by omega)]
theorem choose_list {α : Type} (n : Nat) (p : Nat → α → Prop) (h : ∀ i, i < n → ∃ y, p i y) : ∃ ys : List α, ys.length = n ∧ ∀ i (hi : i < ys.length), p i (ys[i]'hi) := by
  induction n with
  | zero => exact ⟨[], rfl, fun i hi => by simp at hi⟩
  | succ n ih =>
    obtain ⟨ys, h1, h2⟩ := ih fun i hi => h i (by omega)
    obtain ⟨y, hy⟩ := h n (by omega)
    refine ⟨ys ++ [y], by simp [h1], fun i hi => ?_⟩
    by_cases hlt : i < ys.length
    · rw [List.getElem_append_left hlt]; exact h2 i hlt
    · simp at hi
      have : i = ys.length := by omega
      subst this
      simp
      rw [h1]; exact hy
theorem trod_rd_all {X : Type} {enc : TypeId × Value → X} {P : Program} {w : World} {base : Nat} {spare : Nat → Bool} {held : Bool} : ∀ (n : Nat),
    (∀ (t : TypeId) (u : Ty) (fuel : Nat) (cs : List Value) (x : DataW X × List MemPlace), rdChk P n t u = true → DataW.trod enc P w base spare held fuel t cs = some x → ∃ y : u.T, Rd (HW w) u y cs ∧ WF u y) ∧
    (∀ (off : Nat) (fs : List Field) (u : Ty) (fuel : Nat) (cs : List Value), rdFs P n off fs u = true → cs.length = off + u.sz →
      (∀ f ∈ fs, ∃ x, DataW.trod enc P w base spare held fuel f.type ((cs.drop f.offset).take (P.cellsOf f.type)) = some x) → ∃ y : u.T, Rd (HW w) u y (cs.drop off) ∧ WF u y) := by
  intro n
  induction n with
  | zero => exact ⟨fun _ _ _ _ _ h => by simp [rdChk] at h, fun _ _ _ _ _ h => by simp [rdFs] at h⟩
  | succ n ih =>
    refine ⟨?_, ?_⟩
    · intro t u fuel cs x h hx
      unfold rdChk at h
      split at h
      · rename_i k hu
        simp at h; subst h
        obtain ⟨m, rfl, _, hw⟩ := DataW.trod_int hu hx
        exact ⟨m, rfl, hw⟩
      · rename_i hu
        simp at h; subst h
        obtain ⟨m, rfl, _⟩ := DataW.trod_bool hu hx
        exact ⟨m, rfl, trivial⟩
      · rename_i hu
        simp at h; subst h
        obtain ⟨s, rfl, _, hw⟩ := DataW.trod_string hu hx
        refine ⟨s.data.toList, rfl, ?_⟩
        show s.data.toList.length ≤ maxLen
        rw [Array.length_toList]; exact hw
      · rename_i k hu
        simp at h; subst h
        cases fuel with
        | zero => simp [DataW.trod] at hx
        | succ m =>
          unfold DataW.trod at hx
          rw [hu] at hx
          have : ∃ b, cs = [.float k b] ∧ (Lit.float k b).wf = true := by split at hx <;> simp_all
          obtain ⟨b, rfl, hw⟩ := this
          exact ⟨b, rfl, hw⟩
      · rename_i e hu
        split at h
        · rename_i v
          simp only [Bool.and_eq_true, decide_eq_true_eq] at h
          obtain ⟨⟨h1, h2⟩, h3⟩ := h
          rcases DataW.trod_slice hu hx with ⟨rfl, _⟩ | ⟨a, len, cap, elems, rest, m, _, rfl, _, _, hlc, hm, hel, hei, _, _⟩
          · exact ⟨[], ⟨none, 0, rfl, Nat.le_refl _, .inl rfl⟩, by simp [WF]⟩
          · have hone : ∀ i, i < len → ∃ cs', w.cells? base (a.add (i * P.cellsOf e)) (P.cellsOf e) = some cs' ∧ ∃ y : v.T, Rd (HW w) v y cs' ∧ WF v y := by
              intro i hi
              have := hei i hi
              rw [List.getElem?_eq_getElem (by omega)] at this
              obtain ⟨cs', hc1, hc2⟩ := Option.bind_eq_some_iff.1 this
              exact ⟨cs', hc1, ih.1 _ _ _ _ _ h3 hc2⟩
            obtain ⟨ys, hy1, hy2⟩ := choose_list len (fun i (y : v.T) => ∃ cs', w.cells? base (a.add (i * P.cellsOf e)) (P.cellsOf e) = some cs' ∧ Rd (HW w) v y cs' ∧ WF v y)
              (fun i hi => by obtain ⟨cs', h1, y, h2⟩ := hone i hi; exact ⟨y, cs', h1, h2⟩)
            refine ⟨ys, ⟨some a, cap, by rw [hy1], by rw [hy1]; exact hlc, ?_⟩, by rw [hy1]; omega, fun i hi => ?_⟩
            · rcases Nat.eq_zero_or_pos ys.length with h0 | h0
              · exact .inl h0
              · right
                obtain ⟨cs0, hc0, _⟩ := hy2 0 h0
                obtain ⟨b, off, c, e', fr, ha, hb, _⟩ := cells_seg hc0 (by omega)
                have ha' : a = ⟨b, off, none⟩ := by rw [← ha]; simp [Addr.add]
                refine ⟨b, off, c, e', fr, by rw [ha'], hb, fun i hi => ?_⟩
                obtain ⟨cs', hc', hr, _⟩ := hy2 i hi
                obtain ⟨b', off', c', e'', fr', hab, hb', hsg⟩ := cells_seg hc' (by omega)
                rw [ha', addp] at hab
                simp only [Addr.mk.injEq] at hab
                obtain ⟨rfl, rfl, _⟩ := hab
                rw [hb] at hb'
                cases hb'
                rw [h1] at hsg
                rw [hsg]; exact hr
            · obtain ⟨_, _, _, hwf⟩ := hy2 i hi
              exact hwf
        · cases h
      · rename_i m e hu
        split at h
        · rename_i m' v
          simp only [Bool.and_eq_true, decide_eq_true_eq] at h
          obtain ⟨⟨⟨rfl, h1⟩, h2⟩, h3⟩ := h
          obtain ⟨xs, k, _, _, hl, hxl, hxi⟩ := DataW.trod_array hu hx
          obtain ⟨ys, hy1, hy2⟩ := choose_list m (fun i (y : v.T) => Rd (HW w) v y ((cs.drop (i * P.cellsOf e)).take (P.cellsOf e)) ∧ WF v y)
            (fun i hi => by
              have := hxi i hi
              rw [List.getElem?_eq_getElem (by omega)] at this
              exact ih.1 _ _ _ _ _ h3 this)
          refine ⟨ys, ⟨hy1, by rw [hl, h2], fun i hi => ?_⟩, hy1, fun i hi => (hy2 i hi).2⟩
          have := (hy2 i hi).1
          rw [h1] at this
          exact this
        · cases h
      · rename_i fs hu
        simp only [Bool.and_eq_true, decide_eq_true_eq] at h
        obtain ⟨xs, k, _, _, hl, hxl, hxi⟩ := DataW.trod_struct hu hx
        have := ih.2 0 fs.toList u k cs h.2 (by rw [hl, h.1]; omega) (fun f hf => by
          obtain ⟨i, hi, rfl⟩ := List.mem_iff_getElem.1 hf
          simp at hi
          have := hxi i fs[i] (by simp [hi])
          rw [List.getElem?_eq_getElem (by omega)] at this
          exact ⟨_, by simpa using this⟩)
        simpa using this
      · cases h
    · intro off fs u fuel cs h hl hf
      match fs, u, h, hl, hf with
      | [], u, h, _, _ => simp [rdFs] at h
      | [f], u, h, hl, hf =>
        simp only [rdFs, Bool.and_eq_true, decide_eq_true_eq] at h
        obtain ⟨⟨rfl, h1⟩, h2⟩ := h
        obtain ⟨x, hx⟩ := hf f (by simp)
        rw [h1, List.take_of_length_le (by simp; omega)] at hx
        exact ih.1 _ _ _ _ _ h2 hx
      | f :: g :: r, .pair a b, h, hl, hf =>
        simp only [rdFs, Bool.and_eq_true, decide_eq_true_eq] at h
        obtain ⟨⟨⟨rfl, h1⟩, h2⟩, h3⟩ := h
        simp only [Ty.sz] at hl
        obtain ⟨x, hx⟩ := hf f (by simp)
        rw [h1] at hx
        obtain ⟨y1, hy1, hw1⟩ := ih.1 _ _ _ _ _ h2 hx
        obtain ⟨y2, hy2, hw2⟩ := ih.2 _ _ _ fuel cs h3 (by omega) (fun g' hg => hf g' (List.mem_cons_of_mem _ hg))
        refine ⟨(y1, y2), ⟨hy1, ?_⟩, hw1, hw2⟩
        rw [List.drop_drop]; exact hy2
      | _ :: _ :: _, .int _, h, _, _ => simp [rdFs] at h
      | _ :: _ :: _, .bool, h, _, _ => simp [rdFs] at h
      | _ :: _ :: _, .str, h, _, _ => simp [rdFs] at h
      | _ :: _ :: _, .flt _, h, _, _ => simp [rdFs] at h
      | _ :: _ :: _, .cpx _, h, _, _ => simp [rdFs] at h
      | _ :: _ :: _, .sl _, h, _, _ => simp [rdFs] at h
      | _ :: _ :: _, .arr _ _, h, _, _ => simp [rdFs] at h
theorem trod_rd {X : Type} {enc : TypeId × Value → X} {P : Program} {w : World} {base : Nat} {spare : Nat → Bool} {held : Bool} (n : Nat)
    {t : TypeId} {u : Ty} (h : rdChk P n t u = true) {fuel : Nat} {cs : List Value} {x : DataW X × List MemPlace} (hx : DataW.trod enc P w base spare held fuel t cs = some x) : ∃ y : u.T, Rd (HW w) u y cs ∧ WF u y :=
  (trod_rd_all n).1 t u fuel cs x h hx
end Go.Sx

/- From readings of arguments to pure data: arguments, variables, what is left behind. -/
namespace Go.Sx
open Go.RowKit Go.ChangeShapes Go.WideShapes Go.ChangeAt
section
variable {X : Type} {enc : TypeId × Value → X} {P : Program} {w : World} {base base' : Nat} {spare : Nat → Bool} {held : Bool} {n : Nat} {t : TypeId} {u : Ty} {v : Value} {d : DataW X} {ps : List MemPlace}
theorem cells_one (hv : ∀ cs, v ≠ .agg cs) : v.cells.toList = [v] := by
  cases v <;> simp_all [Value.cells]
theorem okWide_one (ha : aggOf P t = false) (hok : Value.okWide P w .any base' t v) : ∀ cs, v ≠ .agg cs := by
  intro cs hv
  subst hv
  unfold aggOf at ha
  unfold Value.okWide at hok
  split at hok
  · rename_i h; rw [h] at ha; cases ha
  · rename_i h; rw [h] at ha; cases ha
  · unfold Cell.okWide at hok
    split at hok <;> try (rename_i h; cases h; done)
    all_goals first | (rename_i h _; cases h; done) | skip
    all_goals first | (unfold Cell.ok at hok; split at hok <;> first | (exact hok) | (rename_i h; cases h; done) | (rename_i h _; cases h; done) | simp_all; done) | simp_all
theorem arg_one (h : rdChk P n t u = true) (ha : aggOf P t = false) (hok : Value.okWide P w .any base' t v) (hT : DataW.Trod enc P w base spare held t v d ps) : ∃ y : u.T, Rd (HW w) u y [v] ∧ WF u y := by
  obtain ⟨fuel, hT⟩ := hT
  rw [cells_one (okWide_one ha hok)] at hT
  exact trod_rd n h hT
theorem arg_agg (h : rdChk P n t u = true) (ha : aggOf P t = true) (hok : Value.okWide P w .any base' t v) (hT : DataW.Trod enc P w base spare held t v d ps) : ∃ (vs : List Value) (y : u.T), v = .agg ⟨vs⟩ ∧ Rd (HW w) u y vs ∧ WF u y := by
  obtain ⟨fuel, hT⟩ := hT
  have hv : ∃ cs, v = .agg cs := by
    unfold aggOf at ha
    unfold Value.okWide at hok
    split at hok
    · exact ⟨_, hok.choose_spec.1⟩
    · exact ⟨_, hok.choose_spec.1⟩
    · rename_i h1 h2
      split at ha
      · exact absurd ‹_› (h1 _)
      · exact absurd ‹_› (h2 _ _)
      · cases ha
  obtain ⟨cs, rfl⟩ := hv
  obtain ⟨y, h1, h2⟩ := trod_rd n h hT
  exact ⟨cs.toList, y, rfl, h1, h2⟩
end
theorem trodAll_below {X : Type} {enc : TypeId × Value → X} {P : Program} (hl : laidOutB P = true) {W W' : World} (hb : Below W.heap.size W W') : ∀ {ts : List TypeId} {vs : List Value} {ds : List (DataW X)} {ps : List MemPlace},
    (ts.all fun t => P.readableRec t && decide (t < P.types.size)) = true → DataW.TrodAll enc P W 0 (fun _ => true) true ts vs ds ps → (∀ x ∈ ps, x.block < W.heap.size) → DataW.TrodAll enc P W' 0 (fun b => decide (b < W.heap.size)) true ts vs ds ps
  | [], vs, ds, ps, _, h, _ => by
    cases vs <;> cases ds <;> simp_all [DataW.TrodAll]
  | t :: ts, vs, ds, ps, ht, h, hlt => by
    obtain ⟨v, vs', d, ds', p, q, rfl, rfl, rfl, h1, h2⟩ := trodAll_cons h
    simp only [List.all_cons, Bool.and_eq_true, decide_eq_true_eq] at ht
    refine trodAll_cons_mk (Below.trod hl ht.1.1 ht.1.2 h1 hb fun x hx => hlt x (by simp [hx])) (trodAll_below hl hb ht.2 h2 fun x hx => hlt x (by simp [hx]))
theorem law_post {X : Type} {enc : TypeId × Value → X} {P : Program} (hl : laidOutB P = true) {s : ChangeSpec} {f : Func} {tb : TypeId} {W W' : World} {args : Array Value} {ds gs : List (DataW X)} {before : List MemPlace} {r : Value}
    (hvars : s.vars = []) (hts : (f.params.toList.all fun t => P.readableRec t && decide (t < P.types.size)) = true) (hres : f.resultTypes = #[tb]) (htb : P.underlying tb = some .bool)
    (hfn : s.fn X ds = { results := [.lit (.bool true)], args := ds })
    (hW : DataW.Whole enc P f.params.toList s.vars false W args.toList ds gs before) (hb : Below W.heap.size W W') (hr : r = .bool true) :
    s.post enc P f false true false false W args r W' := by
  subst hr
  have hW' := hW
  obtain ⟨p, q, hA, hV, rfl, hfz, hnd⟩ := hW
  rw [hvars] at hV
  obtain ⟨rfl, rfl⟩ := trodVars_none hV
  have hlt : ∀ x ∈ p, x.block < W.heap.size := fun x hx => hW'.lt x (by simp [hx])
  refine ⟨ds, [], p ++ [], [], p, [], hW', ?_, ?_, ?_, hb.frame _, fun h => by cases h⟩
  · rw [List.append_nil, hfn, hres]
    exact trodAll_cons_mk (shut_bool htb _) trodAll_mk0
  · rw [List.append_nil, hfn]
    exact trodAll_below hl hb hts hA hlt
  · rw [List.append_nil, hfn, hvars]
    rfl
theorem law_calls {X : Type} {enc : TypeId × Value → X} {P : Program} (hl : laidOutB P = true) {s : ChangeSpec} {f : Func} {tb : TypeId} {fid : FuncId} {W : World} {args : Array Value} {ds gs : List (DataW X)} {before : List MemPlace}
    (hvars : s.vars = []) (hts : (f.params.toList.all fun t => P.readableRec t && decide (t < P.types.size)) = true) (hres : f.resultTypes = #[tb]) (htb : P.underlying tb = some .bool)
    (hfn : s.fn X ds = { results := [.lit (.bool true)], args := ds })
    (hW : DataW.Whole enc P f.params.toList s.vars false W args.toList ds gs before)
    {gl : Nat → Option ((t : Ty) × t.T)} {avs : List V} (hF : Fn P gl fid avs (.val (.one (.bool true))) true) (hg : GlobOk gl (HW W)) (ha : DenVs ρ0 (HW W) avs args.toList) :
    Calls P fid args W fun e W' => ∃ v, e = .returned v ∧ s.post enc P f false true false false W args v W' := by
  refine (hF W (HW W) args.toList (fun b o h => h) hg ha).mono fun e W' h => ?_
  obtain ⟨v, H', rfl, hb, _, _, hd⟩ := h
  exact ⟨v, rfl, law_post hl hvars hts hres htb hfn hW hb hd.2⟩
theorem glob_tab {P : Program} {W : World} {name : String} {k : IntKind} {zs : List Int} {g : Nat} (h : Lib.TabIs P W name k zs) (hg : P.globalNamed name = some g) :
    ∃ c e fr, HW W g = some (.cells c e fr) ∧ Rd (HW W) (.arr zs.length (.int k)) zs (seg c 0 (zs.length * 1)) ∧ c.size = zs.length * 1 := by
  unfold Lib.TabIs at h
  simp only [World.var?, hg, Option.bind_some] at h
  split at h
  · rename_i cs e fr hh
    cases h
    refine ⟨_, _, _, hh, ?_, by simp⟩
    have e1 : seg (zs.map fun z => Value.int k z).toArray 0 (zs.length * 1) = zs.map fun z => Value.int k z := by
      simp [seg, List.take_of_length_le]
    rw [e1]
    refine ⟨rfl, by simp [Ty.sz], fun i hi => ?_⟩
    show List.take 1 (List.drop (i * 1) (List.map (fun z => Value.int k z) zs)) = [Value.int k zs[i]]
    simp only [Nat.mul_one]
    rw [List.drop_eq_getElem_cons (by simpa using hi)]
    simp
  · cases h
end Go.Sx

/- What a row's list of variables gives, wherever a variable stands on it. -/
namespace Go.Sx
open Go.RowKit
theorem laid_at {P : Program} {W : World} {name : String} {d : DataW Unit} {l : List (String × DataW Unit)} (h : laidMet P l W) (hm : (name, d) ∈ l) :
    ∃ g t cs fuel p, P.globalNamed name = some g ∧ (P.globals[g]?).map (·.type) = some t ∧ W.var? P name = some cs ∧ DataW.trod (fun _ => ()) P W 0 (fun _ => true) false fuel t cs.toList = some (d, p) := by
  obtain ⟨ps, h, hrest⟩ := h
  clear hrest
  induction l generalizing ps with
  | nil => cases hm
  | cons x r ih =>
    obtain ⟨n, e⟩ := x
    obtain ⟨g, t, cs, fuel, p, q, h1, h2, h3, h4, h5, h6⟩ := h
    rcases List.mem_cons.1 hm with e | hm
    · cases e; exact ⟨g, t, cs, fuel, p, h1, h2, h3, h4⟩
    · exact ih hm _ h5
theorem tab_at {P : Program} {W : World} {name : String} {k : IntKind} {zs : List Int} {l : List (String × DataW Unit)} {g : Nat} {t e : TypeId} {n : Nat} (hm : (name, Lib.tabData k zs) ∈ l)
    (hg : P.globalNamed name = some g) (hty : (P.globals[g]?).map (·.type) = some t) (ht : P.underlying t = some (.array n e)) (he : P.underlying e = some (.int k)) (hce : P.cellsOf e = 1) (hct : P.cellsOf t = n)
    (h : laidMet P l W) : Lib.TabIs P W name k zs := by
  obtain ⟨g', t', cs, fuel, p, h1, h2, h3, h4⟩ := laid_at h hm
  obtain rfl := Option.some.inj (hg.symm.trans h1)
  obtain rfl := Option.some.inj (hty.symm.trans h2)
  unfold Lib.TabIs
  rw [h3, ← Lib.cells_of_tab ht he hce hct h4]
theorem var_heap {P : Program} {W : World} {name : String} {g : Nat} {cs : Array Value} (hg : P.globalNamed name = some g) (h : W.var? P name = some cs) : ∃ e fr, W.heap[g]? = some (.cells cs e fr) := by
  simp only [World.var?, hg, Option.bind_some] at h
  split at h
  · rename_i cs' e fr hh
    cases h
    exact ⟨e, fr, hh⟩
  · cases h
def intB (P : Program) (t : TypeId) (k : IntKind) : Bool := match P.underlying t with
  | some (.int q) => decide (q = k)
  | _ => false
theorem intB_ok {P : Program} {t : TypeId} {k : IntKind} (h : intB P t k = true) : P.underlying t = some (.int k) := by
  unfold intB at h
  split at h
  · rename_i q hq
    rw [hq, of_decide_eq_true h]
  · cases h
def pairB (P : Program) (t : TypeId) (k k' : IntKind) : Bool := match P.underlying t with
  | some (.struct fs) => match fs.toList with
    | [f0, f1] => decide (f0.offset = 0) && decide (f1.offset = 1) && decide (P.cellsOf f0.type = 1) && decide (P.cellsOf f1.type = 1) && intB P f0.type k && intB P f1.type k' && decide (P.cellsOf t = 2)
    | _ => false
  | _ => false
theorem rd_pair {H : IH} {a b : Ty} {x : (Ty.pair a b).T} {cs : List Value} (h : Rd H (.pair a b) x cs) : ∃ c1 c2, cs = c1 ++ c2 ∧ Rd H a x.1 c1 ∧ Rd H b x.2 c2 :=
  ⟨_, _, (List.take_append_drop a.sz cs).symm, h.1, h.2⟩
theorem wf_u16 {n : Int} (h : (Lit.int .u16 n).wf = true) : fits .u16 n := by
  simp [Lit.wf, IntKind.min, IntKind.max, IntKind.signed, IntKind.bits] at h
  simp only [fits]
  omega
end Go.Sx
