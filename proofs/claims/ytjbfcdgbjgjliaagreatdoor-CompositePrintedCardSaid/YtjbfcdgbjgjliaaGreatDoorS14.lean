/- A verified symbolic run of functions, part 14: lemmas, no claim of their own. -/
import Derived.Test.YtjbfcdgbjgjliaaGreatDoorS13
namespace Go.Sx.U
def bndE (l : List Nat) (line : Int) : Int := if first [chkSig l, within line 0 10000000] ≠ 0 then first [chkSig l, within line 0 10000000] else partsE (bandI (sixs l) line)
def bndP (l : List Nat) (line : Int) : Pt := if first [chkSig l, within line 0 10000000] ≠ 0 then ([], [], []) else partsP (bandI (sixs l) line)
def sameP (a b : Pt) : Bool := sameS a.1 b.1 && sameS a.2.1 b.2.1 && sameS a.2.2 b.2.2
end Go.Sx.U
namespace Go.Sx
open U
@[reducible] def pV (x : Pt) : V := .agg [.one (.sl (.flt .f32) x.1), .one (.sl (.flt .f32) x.2.1), .one (.sl (.flt .f32) x.2.2)]
def insB (x : Nat × List Ch) : List (Nat × List Ch) → List (Nat × List Ch)
  | [] => [x]
  | y :: r => if x.1 ≤ y.1 then x :: y :: r else y :: insB x r
def boxesOf : List (Nat × Option AObj) → List (Nat × List Ch)
  | [] => []
  | (i, some (.box c)) :: r => insB (i, c) (boxesOf r)
  | _ :: r => boxesOf r
def boxS (s : St) : List (Nat × List Ch) := boxesOf (liveO [] s.ob)
def dropO (s : St) (ids : List Nat) : List (Nat × Option AObj) := (liveO [] s.ob).filter fun x => !ids.contains x.1
def ownC : List Ch → List Nat
  | [.one (.own j)] => [j]
  | _ => []
def h116 : Hints := ⟨fun f k s => match f, k with
  | 167, 1 => match boxS s with
    | [(_, [.one (.int .i64 line)]), (_, [.one (.int .i64 den)]), (bu, cu), (bv, cv), (_, [.one (.sl (.int .i64) l)])] =>
      some ⟨Nat, fun i => ⟨tI 7 i :: keepT [0, 1, 6] s.tm,
        (bu, some (.box [.one (.own s.nx)])) :: (s.nx, some (.row (.int .i64) (tab i fun c => diffAt 0 l c line den))) ::
        (bv, some (.box [.one (.own (s.nx + 1))])) :: (s.nx + 1, some (.row (.int .i64) (tab i fun c => diffAt 1 l c line den))) :: dropO s ([bu, bv] ++ ownC cu ++ ownC cv), s.nx + 2, s.lr⟩,
        fun i => i ≤ List.length l / 4, fun i => List.length l / 4 - i⟩
    | _ => none
  | _, _ => none, 0⟩
@[reducible] noncomputable def fb107 : Nat × Func := (107, Proofs.Tryz.f107)
@[reducible] noncomputable def fb167 : Nat × Func := (167, Proofs.Tryz.f167)
@[reducible] noncomputable def fb111 : Nat × Func := (111, Proofs.Tryz.f111)
@[reducible] noncomputable def fb168 : Nat × Func := (168, Proofs.Tryz.f168)
@[reducible] noncomputable def fb112 : Nat × Func := (112, Proofs.Tryz.f112)
end Go.Sx
namespace Go.Sx
open U
def sp116 : FSpec := ⟨fun vs => match vs with
  | [.one (.sl (.int .i64) l), .one (.int .i64 line), .one (.int .i64 den)] => some ([List.length l ≤ 100000, Bd 1000000 l, 0 ≤ line, 0 < den ∧ den ≤ 1000], .tup [.one (.frs (.int .i64) (diffN 0 l line den)), .one (.frs (.int .i64) (diffN 1 l line den))])
  | _ => none, true⟩
def sp45 : FSpec := ⟨fun vs => match vs with
  | [.agg [.one (.sl (.flt .f32) y), .one (.sl (.flt .f32) u), .one (.sl (.flt .f32) v)], .agg [.one (.sl (.flt .f32) y'), .one (.sl (.flt .f32) u'), .one (.sl (.flt .f32) v')]] => some ([List.length y ≤ 1000000000, List.length u ≤ 1000000000, List.length v ≤ 1000000000], .val (bV (sameP (y, u, v) (y', u', v'))))
  | _ => none, true⟩
def sp46 : FSpec := ⟨fun vs => match vs with
  | [.agg [.one (.sl (.flt .f32) y), .one (.sl (.flt .f32) u), .one (.sl (.flt .f32) v)]] => some ([], .val (ptV y u v))
  | _ => none, false⟩
end Go.Sx

namespace Go.Sx
open U
theorem vc116 (l : List Int) (line den : Int) : exF (env false [(170, sp170), (120, sp120)] [fb107, fb167]) h116 3 116 Proofs.Tryz.f116 [.one (.sl (.int .i64) l), iV line, iV den] (.tup [.one (.frs (.int .i64) (diffN 0 l line den)), .one (.frs (.int .i64) (diffN 1 l line den))]) = (let q4 := (↑(List.length l) : Int); let q6 := (List.length l / (4 : Nat)); let q7 := (1000000000 : Int); ((0 : Int) ≤ q4 ∧ (0 : Int) < (4 : Int) ∧ fits IntKind.i64 (q4 / (4 : Int))) ∧ (∃ (g : Nat), Nat.le g q6 ∧ (0 : Int) = (↑g : Int) ∧ q4 / (4 : Int) = q4 / (4 : Int) ∧ (tab g fun (c : Nat) => diffAt (0 : Nat) l c line den) = [] ∧ (tab g fun (c : Nat) => diffAt (1 : Nat) l c line den) = [] ∧ l = l ∧ den = den ∧ line = line ∧ True) ∧ ∀ (g : Nat), let q5 := ((4 : Int) * (↑g : Int)); let q3 := (List.take (Int.toNat ((4 : Int) * (↑g : Int) + (4 : Int)) - Int.toNat q5) (List.drop (Int.toNat q5) l)); let q0 := (List.take (4 : Nat) q3); let q1 := (List.getD q0 (0 : Nat) (0 : Int) - List.getD q0 (2 : Nat) (0 : Int)); let q2 := (List.getD q0 (1 : Nat) (0 : Int) - List.getD q0 (3 : Nat) (0 : Int)); Nat.le g q6 → splitB (decide ((↑g : Int) < q4 / (4 : Int))) (fits IntKind.i64 q5 ∧ fits IntKind.i64 q5 ∧ fits IntKind.i64 ((4 : Int) * (↑g : Int) + (4 : Int)) ∧ ((0 : Int) ≤ (4 : Int) * (↑g : Int) ∧ (4 : Int) * (↑g : Int) ≤ (4 : Int) * (↑g : Int) + (4 : Int) ∧ (4 : Int) * (↑g : Int) + (4 : Int) ≤ q4) ∧ (4 : Nat) ≤ List.length q3 ∧ (0 : Int) ≤ line ∧ ((0 : Int) ≤ (0 : Int) ∧ (0 : Int) < (4 : Int)) ∧ (0 : Nat) < List.length q0 ∧ ((0 : Int) ≤ (2 : Int) ∧ (2 : Int) < (4 : Int)) ∧ (2 : Nat) < List.length q0 ∧ fits IntKind.i64 q1 ∧ fits IntKind.i64 (signI line * q1) ∧ ((-1000000000 : Int) ≤ signI line * q1 ∧ signI line * q1 ≤ q7) ∧ ((0 : Int) < den ∧ den ≤ q7) ∧ room (List.length (tab g fun (c : Nat) => diffAt (0 : Nat) l c line den) + (1 : Nat)) (8 : Nat) ∧ (0 : Int) ≤ line ∧ ((0 : Int) ≤ (1 : Int) ∧ (1 : Int) < (4 : Int)) ∧ (1 : Nat) < List.length q0 ∧ ((0 : Int) ≤ (3 : Int) ∧ (3 : Int) < (4 : Int)) ∧ (3 : Nat) < List.length q0 ∧ fits IntKind.i64 q2 ∧ fits IntKind.i64 (signI line * q2) ∧ ((-1000000000 : Int) ≤ signI line * q2 ∧ signI line * q2 ≤ q7) ∧ ((0 : Int) < den ∧ den ≤ q7) ∧ room (List.length (tab g fun (c : Nat) => diffAt (1 : Nat) l c line den) + (1 : Nat)) (8 : Nat) ∧ fits IntKind.i64 ((↑g : Int) + (1 : Int)) ∧ ∃ (g' : Nat), Nat.le g' q6 ∧ List.length l / (4 : Nat) - g' < List.length l / (4 : Nat) - g ∧ (↑g : Int) + (1 : Int) = (↑g' : Int) ∧ q4 / (4 : Int) = q4 / (4 : Int) ∧ ((tab g fun (c : Nat) => diffAt (0 : Nat) l c line den) ++ [roundI (signI line * q1) den] = tab g' fun (c : Nat) => diffAt (0 : Nat) l c line den) ∧ ((tab g fun (c : Nat) => diffAt (1 : Nat) l c line den) ++ [roundI (signI line * q2) den] = tab g' fun (c : Nat) => diffAt (1 : Nat) l c line den) ∧ l = l ∧ den = den ∧ line = line ∧ True) ((tab g fun (c : Nat) => diffAt (0 : Nat) l c line den) = diffN (0 : Nat) l line den ∧ (tab g fun (c : Nat) => diffAt (1 : Nat) l c line den) = diffN (1 : Nat) l line den ∧ True)) := by
  kernel_rfl
theorem vc43 (l : List Nat) (line : Int) : exFr (env false [(41, sp41), (96, sp96), (95, sp95), (108, sp108), (116, sp116), (163, sp163), (117, sp117), (118, sp118), (138, sp138)] [fb111, fb168, fb112]) h0 3 43 Proofs.Tryz.f43 [.one (.sl (.flt .f32) l), iV line] (.tup [pV (bndP l line), iV (bndE l line)]) = (let q1 := (diffN (0 : Nat) (sixs l) line (2 : Int)); let q2 := (diffN (1 : Nat) (sixs l) line (2 : Int)); let q0 := (carI q1 q2 (signI line)); let q3 := (combI minusI (sixs l) q0); let q4 := (1000000 : Int); (2 : Nat) ≤ (1000000000 : Nat) ∧ splitB (first [chkSig l, within line (0 : Int) (10000000 : Int)] != (0 : Int)) ((bndP l line).1 = [] ∧ (bndP l line).2.1 = [] ∧ (bndP l line).2.2 = [] ∧ first [chkSig l, within line (0 : Int) (10000000 : Int)] = bndE l line ∧ True) (List.length l ≤ (1000000 : Nat) ∧ OkS l ∧ List.length (sixs l) ≤ (100000 : Nat) ∧ Bd q4 (sixs l) ∧ (0 : Int) ≤ line ∧ ((0 : Int) < (2 : Int) ∧ (2 : Int) ≤ (1000 : Int)) ∧ List.length q1 ≤ (100000 : Nat) ∧ List.length q2 = List.length q1 ∧ Bd q4 q1 ∧ Bd q4 q2 ∧ (0 : Int) ≤ line ∧ List.length (sixs l) ≤ (100000 : Nat) ∧ List.length q0 = List.length (sixs l) ∧ Bd q4 (sixs l) ∧ Bd q4 q0 ∧ List.length q3 ≤ (1000000 : Nat) ∧ List.length q1 ≤ (1000000 : Nat) ∧ List.length q2 ≤ (1000000 : Nat) ∧ (3 : Nat) ≤ (1000000000 : Nat) ∧ splitB (first [lgE q3, lgE q1, lgE q2] != (0 : Int)) ((bndP l line).1 = [] ∧ (bndP l line).2.1 = [] ∧ (bndP l line).2.2 = [] ∧ first [lgE q3, lgE q1, lgE q2] = bndE l line ∧ True) (smpsN q3 = (bndP l line).1 ∧ smpsN q1 = (bndP l line).2.1 ∧ smpsN q2 = (bndP l line).2.2 ∧ (0 : Int) = bndE l line ∧ True))) := by
  kernel_rfl
theorem vc45 (a b : Pt) : exF (env false [(27, sp27)] []) h0 0 45 Proofs.Tryz.f45 [pV a, pV b] (.val (bV (sameP a b))) = (List.length (Prod.fst a) ≤ (1000000000 : Nat) ∧ (sameS (Prod.fst a) (Prod.fst b) = true → List.length (Prod.fst (Prod.snd a)) ≤ (1000000000 : Nat)) ∧ ((bif sameS (Prod.fst a) (Prod.fst b) then sameS (Prod.fst (Prod.snd a)) (Prod.fst (Prod.snd b)) else false) = true → List.length (Prod.snd (Prod.snd a)) ≤ (1000000000 : Nat)) ∧ (bif bif sameS (Prod.fst a) (Prod.fst b) then sameS (Prod.fst (Prod.snd a)) (Prod.fst (Prod.snd b)) else false then sameS (Prod.snd (Prod.snd a)) (Prod.snd (Prod.snd b)) else false) = sameP a b ∧ True) := by
  kernel_rfl
theorem vc46 (y u v : List Nat) : exF (env false [] []) h0 0 46 Proofs.Tryz.f46 [ptV y u v] (.val (ptV y u v)) = (y = y ∧ u = u ∧ v = v ∧ True) := by
  kernel_rfl
end Go.Sx

namespace Go.Sx
open U
theorem fn116 (l : List Int) (line den : Int) (hl : l.length ≤ 100000) (h1 : Bd 1000000 l) (hn : 0 ≤ line) (hd : 0 < den ∧ den ≤ 1000) : Fn P1 gl1 116 [.one (.sl (.int .i64) l), iV line, iV den] (.tup [.one (.frs (.int .i64) (diffN 0 l line den)), .one (.frs (.int .i64) (diffN 1 l line den))]) true := by
  refine Fn.flat ?_ rfl
  refine fn_of false [(170, sp170), (120, sp120)] [fb107, fb167] h116 3 Proofs.Tryz.f116 ⟨so170, so120, trivial⟩ ⟨⟨by kernel_rfl, by kernel_rfl, _, rfl, by kernel_rfl⟩, ⟨by kernel_rfl, by kernel_rfl, _, rfl, by kernel_rfl⟩, trivial⟩ (by kernel_rfl) rfl (by kernel_rfl) rfl rfl rfl ?_
  rw [vc116]
  try simp only [splitB_iff, -eq_self]
  refine ⟨⟨by omega, by decide, by simp only [fits]; omega⟩, ⟨0, Nat.zero_le _, rfl, rfl, rfl, rfl, rfl, rfl, rfl, trivial⟩, fun g hg => ⟨fun hlt => ?_, fun hge => ?_⟩⟩
  · have hg : g ≤ l.length / 4 := hg
    have hlt : (g : Int) < (l.length : Int) / 4 := by simpa using hlt
    have hlt : g < l.length / 4 := by omega
    simp only [cyc_eq, cyc_len (l := l) (g := g) (by omega), cyc_get l g 0 (by omega), cyc_get l g 1 (by omega), cyc_get l g 2 (by omega), cyc_get l g 3 (by omega), tab_len, -eq_self]
    have k0 := bd_get h1 (i := 4 * g) (by omega)
    have k1 := bd_get h1 (i := 4 * g + 1) (by omega)
    have k2 := bd_get h1 (i := 4 * g + 2) (by omega)
    have k3 := bd_get h1 (i := 4 * g + 3) (by omega)
    have hm : ∀ x : Int, -1000000000 ≤ x ∧ x ≤ 1000000000 → -1000000000 ≤ signI line * x ∧ signI line * x ≤ 1000000000 := fun x hx => by
      rcases signI_cases line with e | e <;> rw [e] <;> omega
    have m0 := hm (List.getD l (4 * g) 0 - List.getD l (4 * g + 2) 0) (by omega)
    have m1 := hm (List.getD l (4 * g + 1) 0 - List.getD l (4 * g + 3) 0) (by omega)
    have lt4 : (List.take 4 (List.drop (4 * g) l)).length = 4 := by rw [List.length_take, List.length_drop]; omega
    rw [lt4]
    simp only [fits, Nat.add_zero, -eq_self]
    exact ⟨by omega, by omega, by omega, by omega, by omega, hn, by omega, by omega, by omega, by omega, by omega, by omega, m0, by omega, by simp only [room]; omega, hn, by omega, by omega, by omega, by omega, by omega, by omega, m1, by omega, by simp only [room]; omega, by omega, g + 1, hlt, by omega, by simp, rfl, (tab_succ _ _).symm, (tab_succ _ _).symm, rfl, rfl, rfl, trivial⟩
  · have hg : g ≤ l.length / 4 := hg
    have hge : ¬ (g : Int) < (l.length : Int) / 4 := by simpa using hge
    have e : g = l.length / 4 := by omega
    subst e
    exact ⟨rfl, rfl, trivial⟩
theorem so116_ : SpecOk P1 gl1 116 sp116 := by
  intro vs ps r h hp
  simp only [sp116] at h
  split at h
  · cases h; exact fn116 _ _ _ (hp _ (.head _)) (hp _ (.tail _ (.head _))) (hp _ (.tail _ (.tail _ (.head _)))) (hp _ (.tail _ (.tail _ (.tail _ (.head _)))))
  · cases h
theorem so116 : Sp1 116 sp116 := ⟨so116_, Proofs.Tryz.f116, _, by kernel_rfl, rfl, by kernel_rfl⟩
theorem fn43 (l : List Nat) (line : Int)  : Fn P1 gl1 43 [.one (.sl (.flt .f32) l), iV line] (.tup [pV (bndP l line), iV (bndE l line)]) true := by
  refine fn_ofr false [(41, sp41), (96, sp96), (95, sp95), (108, sp108), (116, sp116), (163, sp163), (117, sp117), (118, sp118), (138, sp138)] [fb111, fb168, fb112] h0 3 Proofs.Tryz.f43 ⟨so41, so96, so95, so108, so116, so163, so117, so118, so138, trivial⟩ ⟨⟨by kernel_rfl, by kernel_rfl, _, rfl, by kernel_rfl⟩, ⟨by kernel_rfl, by kernel_rfl, _, rfl, by kernel_rfl⟩, ⟨by kernel_rfl, by kernel_rfl, _, rfl, by kernel_rfl⟩, trivial⟩ (by kernel_rfl) rfl (by kernel_rfl) rfl rfl rfl ?_
  rw [vc43]
  try simp only [splitB_iff, -eq_self]
  refine ⟨by decide, fun h => ?_, fun h => ?_⟩
  · have h : ¬ first [chkSig l, within line 0 10000000] = 0 := bneZ.1 h
    unfold bndP bndE
    rw [if_pos h, if_pos h]
    exact ⟨rfl, rfl, rfl, rfl, trivial⟩
  · have h : first [chkSig l, within line 0 10000000] = 0 := bneF.1 h
    have h2 := first_zero.1 h
    obtain ⟨k1, k2, k3⟩ := chkSig_zero.1 (h2 _ (.head _))
    have hl : 0 ≤ line := within_lo (h2 _ (.tail _ (.head _)))
    unfold bndP bndE
    rw [if_neg (fun e => e h), if_neg (fun e => e h)]
    have b0 := bd_sixs k3
    have b1 : Bd 1000000 (diffN 0 (sixs l) line 2) := bd_le (bd_diff (B := 16384) (by omega) (by omega) b0) (by omega)
    have b2 : Bd 1000000 (diffN 1 (sixs l) line 2) := bd_le (bd_diff (B := 16384) (by omega) (by omega) b0) (by omega)
    simp only [sixs_len, carI_len, combI_len, diffN_len, -eq_self]
    refine ⟨by omega, k3, by omega, bd_le b0 (by omega), hl, by omega, by omega, rfl, b1, b2, hl, by omega, by omega, bd_le b0 (by omega), bd_car (signI_cases _) (by omega) b1 b2, by omega, by omega, by omega, by decide, fun h => ?_, fun h => ?_⟩
    · have h : ¬ partsE (bandI (sixs l) line) = 0 := bneZ.1 h
      unfold partsP
      rw [if_neg h]
      exact ⟨rfl, rfl, rfl, rfl, trivial⟩
    · have h : partsE (bandI (sixs l) line) = 0 := bneF.1 h
      unfold partsP
      rw [if_pos h]
      exact ⟨rfl, rfl, rfl, h.symm, trivial⟩
theorem fn45 (a b : Pt) (h1 : a.1.length ≤ 1000000000) (h2 : a.2.1.length ≤ 1000000000) (h3 : a.2.2.length ≤ 1000000000) : Fn P1 gl1 45 [pV a, pV b] (.val (bV (sameP a b))) true := by
  refine Fn.flat ?_ rfl
  refine fn_of false [(27, sp27)] [] h0 0 Proofs.Tryz.f45 ⟨so27, trivial⟩ trivial (by kernel_rfl) rfl (by kernel_rfl) rfl rfl rfl ?_
  rw [vc45]
  try simp only [splitB_iff, -eq_self]
  unfold sameP
  simp only [bcond_r, -eq_self]
  exact ⟨h1, fun _ => h2, fun _ => h3, rfl, trivial⟩
theorem so45_ : SpecOk P1 gl1 45 sp45 := by
  intro vs ps r h hp
  simp only [sp45] at h
  split at h
  · cases h; exact fn45 (_, _, _) (_, _, _) (hp _ (.head _)) (hp _ (.tail _ (.head _))) (hp _ (.tail _ (.tail _ (.head _))))
  · cases h
theorem so45 : Sp1 45 sp45 := ⟨so45_, Proofs.Tryz.f45, _, by kernel_rfl, rfl, by kernel_rfl⟩
theorem fn46 (y u v : List Nat)  : Fn P1 gl1 46 [ptV y u v] (.val (ptV y u v)) false := by
  refine fn_of false [] [] h0 0 Proofs.Tryz.f46 trivial trivial (by kernel_rfl) rfl (by kernel_rfl) rfl rfl rfl ?_
  rw [vc46]
  try simp only [splitB_iff, -eq_self]
  exact ⟨rfl, rfl, rfl, trivial⟩
theorem so46_ : SpecOk P1 gl1 46 sp46 := by
  intro vs ps r h _
  simp only [sp46] at h
  split at h
  · cases h; exact fn46 _ _ _ 
  · cases h
theorem so46 : Sp1 46 sp46 := ⟨so46_, Proofs.Tryz.f46, _, by kernel_rfl, rfl, by kernel_rfl⟩
end Go.Sx

namespace Go.Sx.U
abbrev Fld := List (List Nat)
def upTo (f : Nat → Int) : Nat → Int
  | 0 => 0
  | i + 1 => if upTo f i = 0 then f i else upTo f i
theorem upTo_zero {f : Nat → Int} : ∀ {n : Nat}, upTo f n = 0 ↔ ∀ i, i < n → f i = 0
  | 0 => by simp [upTo]
  | n + 1 => by
    unfold upTo
    constructor
    · intro h i hi
      split at h
      · rename_i h0
        by_cases e : i = n
        · rw [e]; exact h
        · exact upTo_zero.1 h0 i (by omega)
      · rename_i h0; exact absurd h h0
    · intro h
      rw [if_pos (upTo_zero.2 fun i hi => h i (by omega))]
      exact h n (by omega)
theorem upTo_stop {f : Nat → Int} {i : Nat} (h : upTo f i = 0) (h2 : f i ≠ 0) : ∀ {n : Nat}, i < n → upTo f n = f i
  | 0, hi => absurd hi (by omega)
  | n + 1, hi => by
    unfold upTo
    by_cases e : i = n
    · subst e; rw [if_pos h]
    · rw [upTo_stop h h2 (n := n) (by omega), if_neg h2]
theorem upTo_next {f : Nat → Int} {i : Nat} (h : upTo f i = 0) (h2 : f i = 0) : upTo f (i + 1) = 0 := by
  unfold upTo; rw [if_pos h, h2]
def chkLn (l : Fld) (i : Nat) : Int := if chkSig (List.getD l i []) = 0 then (if (List.getD l i []).length = (List.getD l 0 []).length then 0 else 2) else chkSig (List.getD l i [])
def chkFld (l : Fld) : Int := if 32 < l.length then 5 else upTo (chkLn l) l.length
def chkLine (l : Fld) (line : Int) : Int := if chkFld l = 0 then (if 0 ≤ line ∧ line < l.length then 0 else 10) else chkFld l
theorem chkLn_zero {l : Fld} {i : Nat} : chkLn l i = 0 ↔ chkSig (List.getD l i []) = 0 ∧ (List.getD l i []).length = (List.getD l 0 []).length := by
  unfold chkLn
  generalize chkSig (List.getD l i []) = e
  generalize (List.getD l i []).length = a
  generalize (List.getD l 0 []).length = b
  by_cases h : e = 0
  · by_cases h2 : a = b <;> simp [h, h2]
  · simp [h]
theorem chkFld_zero {l : Fld} : chkFld l = 0 ↔ l.length ≤ 32 ∧ ∀ i, i < l.length → chkSig (List.getD l i []) = 0 ∧ (List.getD l i []).length = (List.getD l 0 []).length := by
  unfold chkFld
  by_cases h : 32 < l.length
  · simp [h]; omega
  · rw [if_neg h, upTo_zero]
    simp only [chkLn_zero]
    exact ⟨fun k => ⟨by omega, k⟩, fun k => k.2⟩
theorem chkLine_zero {l : Fld} {line : Int} : chkLine l line = 0 ↔ chkFld l = 0 ∧ 0 ≤ line ∧ line < l.length := by
  unfold chkLine
  by_cases h : chkFld l = 0
  · by_cases h2 : 0 ≤ line ∧ line < l.length
    · simp [h, h2]
    · simp only [h, if_true, h2, if_false, true_and, iff_false]; decide
  · simp [h]
theorem ln_first (l : Fld) (g : Nat) : first [chkSig (List.getD l g []), whenE (((List.getD l g []).length : Int) != ((List.getD l 0 []).length : Int)) 2] = chkLn l g := by
  unfold chkLn
  generalize chkSig (List.getD l g []) = e
  generalize (List.getD l g []).length = a
  generalize (List.getD l 0 []).length = b
  by_cases h : e = 0
  · by_cases h2 : a = b
    · simp [first, whenE, h, h2]
    · have : ¬ (a : Int) = b := by omega
      simp [first, whenE, h, h2, this]
  · simp [first, h]
theorem line_first (l : Fld) (line : Int) : first [chkFld l, whenE (bif decide (line < 0) then true else decide ((l.length : Int) ≤ line)) 10] = chkLine l line := by
  unfold chkLine
  generalize chkFld l = e
  by_cases h : e = 0
  · by_cases h2 : line < 0
    · have : ¬ 0 ≤ line := by omega
      simp [first, whenE, h, h2, this]
    · by_cases h3 : (l.length : Int) ≤ line
      · have : ¬ line < (l.length : Int) := by omega
        simp [first, whenE, h, h2, h3, this]
      · have k1 : 0 ≤ line := by omega
        have k2 : line < (l.length : Int) := by omega
        simp [first, whenE, h, h2, h3, k1, k2]
  · simp [first, h]
def lnI (l : Fld) (line : Int) : List Int := sixs (List.getD l line.toNat [])
theorem map_get (l : Fld) (i : Nat) : List.getD (l.map sixs) i [] = sixs (List.getD l i []) := by
  by_cases h : i < l.length
  · rw [List.getD_eq_getElem?_getD, List.getD_eq_getElem?_getD, List.getElem?_map, List.getElem?_eq_getElem h]; rfl
  · rw [List.getD_eq_getElem?_getD, List.getD_eq_getElem?_getD, List.getElem?_map, List.getElem?_eq_none (by omega)]; rfl
theorem fld_line {l : Fld} {i : Nat} (h : chkFld l = 0) (hi : i < l.length) : OkS (List.getD l i []) ∧ (List.getD l i []).length ≤ 256 ∧ (List.getD l i []).length % 4 = 0 ∧ (List.getD l i []).length = (List.getD l 0 []).length := by
  obtain ⟨h1, h2⟩ := (chkFld_zero.1 h).2 i hi
  obtain ⟨k1, k2, k3⟩ := chkSig_zero.1 h1
  exact ⟨k3, k1, k2, h2⟩
def nextL (l : Fld) (line : Int) : Int := if line + 1 = l.length then line - 1 else line + 1
def twoI (l : Fld) (line : Int) : It := (combI midI (lnI l line) (lnI l (nextL l line)), diffN 0 (combI minusI (lnI l line) (lnI l (nextL l line))) line 4, diffN 1 (combI minusI (lnI l line) (lnI l (nextL l line))) line 4)
def twoE (l : Fld) (line : Int) : Int := if chkLine l line = 0 then (if l.length = 1 then 16 else 0) else chkLine l line
theorem two_first (l : Fld) (line : Int) : first [chkLine l line, whenE ((l.length : Int) == 1) 16] = twoE l line := by
  unfold twoE
  generalize chkLine l line = e
  by_cases h : e = 0
  · by_cases h2 : l.length = 1
    · simp [first, whenE, h, h2]
    · have : ¬ (l.length : Int) = 1 := by omega
      simp [first, whenE, h, h2, this]
  · simp [first, h]
theorem twoE_zero {l : Fld} {line : Int} : twoE l line = 0 ↔ chkFld l = 0 ∧ 0 ≤ line ∧ line < l.length ∧ l.length ≠ 1 := by
  unfold twoE
  by_cases h : chkLine l line = 0
  · rw [if_pos h]
    obtain ⟨h1, h2, h3⟩ := chkLine_zero.1 h
    by_cases k : l.length = 1 <;> simp [k, h1, h2, h3]
  · rw [if_neg h]
    constructor
    · exact fun k => absurd k h
    · exact fun k => absurd (chkLine_zero.2 ⟨k.1, k.2.1, k.2.2.1⟩) h
def thrD (b s a : List Int) : List Int := combI lessI s (combI plusI b a)
def threeI (b s a : List Int) (line : Int) : It := apartI s (thrD b s a) line 8
def threeL (l : Fld) (line : Int) : It := threeI (lnI l (line - 1)) (lnI l line) (lnI l (line + 1)) line
def threeE (l : Fld) (line : Int) : Int := if chkLine l line = 0 then (if 0 < line ∧ line < (l.length : Int) - 1 then 0 else 14) else chkLine l line
def errP (e : Int) (x : It) : Pt := if e = 0 then partsP x else ([], [], [])
def errE (e : Int) (x : It) : Int := if e = 0 then partsE x else e
theorem threeE_zero {l : Fld} {line : Int} : threeE l line = 0 ↔ chkFld l = 0 ∧ 0 < line ∧ line < (l.length : Int) - 1 := by
  unfold threeE
  by_cases h : chkLine l line = 0
  · rw [if_pos h]
    obtain ⟨h1, h2, h3⟩ := chkLine_zero.1 h
    by_cases k : 0 < line ∧ line < (l.length : Int) - 1
    · rw [if_pos k]; simp [h1, k]
    · rw [if_neg k]; simp only [h1, true_and, k, iff_false]; decide
  · rw [if_neg h]
    constructor
    · exact fun k => absurd k h
    · exact fun k => absurd (chkLine_zero.2 ⟨k.1, by omega, by omega⟩) h
theorem thrD_len (b s a : List Int) : (thrD b s a).length = s.length := by unfold thrD; rw [combI_len]
theorem bd_thrD {b s a : List Int} (hb : Bd 16384 b) (hs : Bd 16384 s) (ha : Bd 16384 a) : Bd 65536 (thrD b s a) := by
  unfold thrD
  refine bd_comb (A := 16384) (B := 32768) hs (bd_comb (A := 16384) (B := 16384) (C := 32768) hb ha (by omega) (by omega) fun x y hx hy => ?_) (by omega) (by omega) fun x y hx hy => ?_
  · unfold plusI; omega
  · unfold lessI; omega
end Go.Sx.U

namespace Go.Sx
open U
abbrev lnT : Ty := .sl (.flt .f32)
@[reducible] def fldV (l : Fld) : V := .one (.sl lnT l)
def h38 : Hints := ⟨fun f k s => match f, k with
  | 38, 4 => match listAs s 0 lnT with
    | some l => some ⟨Nat, fun i => s.at [0, 9, 10] [tI 11 i], fun i => i ≤ List.length l ∧ upTo (chkLn l) i = 0, fun i => List.length l - i⟩
    | _ => none
  | 40, 4 => match listAs s 0 lnT with
    | some l => some ⟨Nat, fun i => s.at [0] [tI 3 i], fun i => i ≤ List.length l ∧ upTo (chkLn l) i = 0, fun i => List.length l - i⟩
    | _ => none
  | 123, 3 => hMapG lnT (.sl (.int .i64)) sixs 8 10 5 [1, 9] s
  | _, _ => none, 0⟩
@[reducible] noncomputable def fb122 : Nat × Func := (122, Proofs.Tryz.f122)
end Go.Sx
namespace Go.Sx
open U
def sp38 : FSpec := ⟨fun vs => match vs with
  | [.one (.sl (.sl (.flt .f32)) l)] => some ([], .val (iV (chkFld l)))
  | _ => none, true⟩
def sp115 : FSpec := ⟨fun vs => match vs with
  | [.one (.sl (.sl (.flt .f32)) l), .one (.int .i64 line)] => some ([], .val (iV (chkLine l line)))
  | _ => none, true⟩
def sp123 : FSpec := ⟨fun vs => match vs with
  | [.one (.sl (.sl (.flt .f32)) l), .one (.fn 108 [] [])] => some ([chkFld l = 0], .val (.one (.sl (.sl (.int .i64)) (List.map sixs l))))
  | _ => none, false⟩
def sp121 : FSpec := ⟨fun vs => match vs with
  | [.one (.int .i64 n), .one (.int .i64 line)] => some ([0 ≤ n ∧ n ≤ 1000000000], .val (bV (decide (0 < line) && decide (line < n - 1))))
  | _ => none, true⟩
end Go.Sx

namespace Go.Sx
open U
theorem vc38 (l : Fld) : exF (env false [(41, sp41), (104, sp104), (95, sp95)] []) h38 0 38 Proofs.Tryz.f38 [fldV l] (.val (iV (chkFld l))) = (let q0 := (↑(List.length l) : Int); splitB (decide ((32 : Int) < q0)) ((5 : Int) = chkFld l ∧ True) ((∃ (g : Nat), (g ≤ List.length l ∧ upTo (chkLn l) g = (0 : Int)) ∧ (0 : Int) = (↑g : Int) ∧ q0 = q0 ∧ l = l ∧ l = l ∧ True) ∧ ∀ (g : Nat), let q1 := ((↑(List.length (List.getD l g [])) : Int) != (↑(List.length (List.getD l (0 : Nat) [])) : Int)); g ≤ List.length l ∧ upTo (chkLn l) g = (0 : Int) → splitB (decide ((↑g : Int) < q0)) (((0 : Int) ≤ (↑g : Int) ∧ (↑g : Int) < q0) ∧ ((0 : Int) ≤ (0 : Int) ∧ (0 : Int) < q0) ∧ (2 : Nat) ≤ (1000000000 : Nat) ∧ splitB (first [chkSig (List.getD l g []), whenE q1 (2 : Int)] != (0 : Int)) (first [chkSig (List.getD l g []), whenE q1 (2 : Int)] = chkFld l ∧ True) (fits IntKind.i64 ((↑g : Int) + (1 : Int)) ∧ ∃ (g' : Nat), (g' ≤ List.length l ∧ upTo (chkLn l) g' = (0 : Int)) ∧ List.length l - g' < List.length l - g ∧ (↑g : Int) + (1 : Int) = (↑g' : Int) ∧ q0 = q0 ∧ l = l ∧ l = l ∧ True)) ((0 : Int) = chkFld l ∧ True))) := by
  kernel_rfl
theorem vc115 (l : Fld) (line : Int) : exF (env false [(38, sp38), (104, sp104), (95, sp95)] []) h0 0 115 Proofs.Tryz.f115 [fldV l, iV line] (.val (iV (chkLine l line))) = ((2 : Nat) ≤ (1000000000 : Nat) ∧ first [chkFld l, whenE (bif decide (line < (0 : Int)) then true else decide ((↑(List.length l) : Int) ≤ line)) (10 : Int)] = chkLine l line ∧ True) := by
  kernel_rfl
theorem vc123 (l : Fld) : exF (env false [(108, sp108)] []) h38 0 123 Proofs.Tryz.f123 [fldV l, .one (.fn 108 [] [])] (.val (.one (.sl (.sl (.int .i64)) (l.map sixs)))) = (let q0 := (↑(List.length l) : Int); (∃ (g : Nat), Nat.le g (List.length l) ∧ (0 : Int) = (↑g : Int) ∧ q0 = q0 ∧ l = l ∧ List.map sixs (List.take g l) = [] ∧ True) ∧ ∀ (g : Nat), Nat.le g (List.length l) → splitB (decide ((↑g : Int) < q0)) (((0 : Int) ≤ (↑g : Int) ∧ (↑g : Int) < q0) ∧ List.length (List.getD l g []) ≤ (1000000 : Nat) ∧ OkS (List.getD l g []) ∧ room (List.length (List.map sixs (List.take g l)) + (1 : Nat)) (24 : Nat) ∧ fits IntKind.i64 ((↑g : Int) + (1 : Int)) ∧ ∃ (g' : Nat), Nat.le g' (List.length l) ∧ List.length l - g' < List.length l - g ∧ (↑g : Int) + (1 : Int) = (↑g' : Int) ∧ q0 = q0 ∧ l = l ∧ List.map sixs (List.take g l) ++ [sixs (List.getD l g [])] = List.map sixs (List.take g' l) ∧ True) (List.map sixs (List.take g l) = List.map sixs l ∧ True)) := by
  kernel_rfl
theorem vc121 (n line : Int) : exF (env false [] []) h0 0 121 Proofs.Tryz.f121 [iV n, iV line] (.val (bV (decide (0 < line) && decide (line < n - 1)))) = ((decide ((0 : Int) < line) = true → fits IntKind.i64 (n - (1 : Int))) ∧ (bif decide ((0 : Int) < line) then decide (line < n - (1 : Int)) else false) = (decide ((0 : Int) < line) && decide (line < n - (1 : Int))) ∧ True) := by
  kernel_rfl
theorem vc47 (l : Fld) (line : Int) : exFr (env false [(115, sp115), (104, sp104), (95, sp95), (108, sp108), (117, sp117), (118, sp118), (119, sp119), (116, sp116), (138, sp138)] [fb112]) h0 3 47 Proofs.Tryz.f47 [fldV l, iV line] (.tup [pV (errP (twoE l line) (twoI l line)), iV (errE (twoE l line) (twoI l line))]) = (let q9 := (List.getD l (Int.toNat line) []); let q0 := (sixs q9); let q12 := (List.getD l (Int.toNat (line - (1 : Int))) []); let q1 := (sixs q12); let q13 := (List.getD l (Int.toNat (line + (1 : Int))) []); let q2 := (sixs q13); let q3 := (errP (twoE l line) (twoI l line)); let q15 := (combI minusI q0 q1); let q4 := (diffN (0 : Nat) q15 line (4 : Int)); let q5 := (diffN (1 : Nat) q15 line (4 : Int)); let q16 := (combI minusI q0 q2); let q6 := (diffN (0 : Nat) q16 line (4 : Int)); let q7 := (diffN (1 : Nat) q16 line (4 : Int)); let q8 := (↑(List.length l) : Int); let q10 := (1000000 : Nat); let q11 := (1000000 : Int); let q14 := (100000 : Nat); let q17 := ((0 : Int) < (4 : Int) ∧ (4 : Int) ≤ (1000 : Int)); let q18 := (combI midI q0 q1); let q19 := (combI midI q0 q2); (2 : Nat) ≤ (1000000000 : Nat) ∧ splitB (first [chkLine l line, whenE (q8 == (1 : Int)) (16 : Int)] != (0 : Int)) (q3.1 = [] ∧ q3.2.1 = [] ∧ q3.2.2 = [] ∧ first [chkLine l line, whenE (q8 == (1 : Int)) (16 : Int)] = errE (twoE l line) (twoI l line) ∧ True) (fits IntKind.i64 (line + (1 : Int)) ∧ splitB (line + (1 : Int) == q8) (fits IntKind.i64 (line - (1 : Int)) ∧ ((0 : Int) ≤ line ∧ line < q8) ∧ List.length q9 ≤ q10 ∧ OkS q9 ∧ ((0 : Int) ≤ line - (1 : Int) ∧ line - (1 : Int) < q8) ∧ List.length q12 ≤ q10 ∧ OkS q12 ∧ List.length q0 ≤ q14 ∧ List.length q1 = List.length q0 ∧ Bd q11 q0 ∧ Bd q11 q1 ∧ List.length q15 ≤ q14 ∧ Bd q11 q15 ∧ (0 : Int) ≤ line ∧ q17 ∧ List.length q0 ≤ q14 ∧ List.length q1 = List.length q0 ∧ Bd q11 q0 ∧ Bd q11 q1 ∧ List.length q18 ≤ q10 ∧ List.length q4 ≤ q10 ∧ List.length q5 ≤ q10 ∧ (3 : Nat) ≤ (1000000000 : Nat) ∧ splitB (first [lgE q18, lgE q4, lgE q5] != (0 : Int)) (q3.1 = [] ∧ q3.2.1 = [] ∧ q3.2.2 = [] ∧ first [lgE q18, lgE q4, lgE q5] = errE (twoE l line) (twoI l line) ∧ True) (smpsN q18 = q3.1 ∧ smpsN q4 = q3.2.1 ∧ smpsN q5 = q3.2.2 ∧ (0 : Int) = errE (twoE l line) (twoI l line) ∧ True)) (((0 : Int) ≤ line ∧ line < q8) ∧ List.length q9 ≤ q10 ∧ OkS q9 ∧ ((0 : Int) ≤ line + (1 : Int) ∧ line + (1 : Int) < q8) ∧ List.length q13 ≤ q10 ∧ OkS q13 ∧ List.length q0 ≤ q14 ∧ List.length q2 = List.length q0 ∧ Bd q11 q0 ∧ Bd q11 q2 ∧ List.length q16 ≤ q14 ∧ Bd q11 q16 ∧ (0 : Int) ≤ line ∧ q17 ∧ List.length q0 ≤ q14 ∧ List.length q2 = List.length q0 ∧ Bd q11 q0 ∧ Bd q11 q2 ∧ List.length q19 ≤ q10 ∧ List.length q6 ≤ q10 ∧ List.length q7 ≤ q10 ∧ (3 : Nat) ≤ (1000000000 : Nat) ∧ splitB (first [lgE q19, lgE q6, lgE q7] != (0 : Int)) (q3.1 = [] ∧ q3.2.1 = [] ∧ q3.2.2 = [] ∧ first [lgE q19, lgE q6, lgE q7] = errE (twoE l line) (twoI l line) ∧ True) (smpsN q19 = q3.1 ∧ smpsN q6 = q3.2.1 ∧ smpsN q7 = q3.2.2 ∧ (0 : Int) = errE (twoE l line) (twoI l line) ∧ True)))) := by
  kernel_rfl
theorem vc48 (l : Fld) (line : Int) : exFr (env false [(115, sp115), (95, sp95), (121, sp121), (123, sp123), (108, sp108), (117, sp117), (118, sp118), (164, sp164), (171, sp171), (116, sp116), (163, sp163), (138, sp138)] [fb112, fb122, fb168]) h0 3 48 Proofs.Tryz.f48 [fldV l, iV line] (.tup [pV (errP (threeE l line) (threeL l line)), iV (errE (threeE l line) (threeL l line))]) = (let q7 := (List.getD (List.map sixs l) (Int.toNat (line + (1 : Int))) []); let q3 := (List.getD (List.map sixs l) (Int.toNat line) []); let q4 := (List.getD (List.map sixs l) (Int.toNat (line - (1 : Int))) []); let q0 := (combI lessI q3 (combI plusI q4 q7)); let q5 := (diffN (0 : Nat) q0 line (8 : Int)); let q6 := (diffN (1 : Nat) q0 line (8 : Int)); let q12 := (carI q5 q6 (signI line)); let q1 := (combI minusI q3 q12); let q10 := (threeE l line); let q11 := (threeL l line); let q2 := (errP q10 q11); let q8 := (↑(List.length (List.map sixs l)) : Int); let q9 := (1000000 : Int); splitB (chkLine l line != (0 : Int)) (q2.1 = [] ∧ q2.2.1 = [] ∧ q2.2.2 = [] ∧ chkLine l line = errE q10 q11 ∧ True) (((0 : Int) ≤ (↑(List.length l) : Int) ∧ (↑(List.length l) : Int) ≤ (1000000000 : Int)) ∧ splitB (!(decide ((0 : Int) < line) && decide (line < (↑(List.length l) : Int) - (1 : Int)))) (q2.1 = [] ∧ q2.2.1 = [] ∧ q2.2.2 = [] ∧ (14 : Int) = errE q10 q11 ∧ True) (chkFld l = (0 : Int) ∧ fits IntKind.i64 (line - (1 : Int)) ∧ ((0 : Int) ≤ line - (1 : Int) ∧ line - (1 : Int) < q8) ∧ fits IntKind.i64 (line + (1 : Int)) ∧ ((0 : Int) ≤ line + (1 : Int) ∧ line + (1 : Int) < q8) ∧ List.length q4 ≤ (100000 : Nat) ∧ List.length q7 = List.length q4 ∧ Bd q9 q4 ∧ Bd q9 q7 ∧ ((0 : Int) ≤ line ∧ line < q8) ∧ ((0 : Int) ≤ line ∧ line < q8) ∧ List.length q3 ≤ (100000 : Nat) ∧ List.length (combI plusI q4 q7) = List.length q3 ∧ Bd q9 q3 ∧ Bd q9 (combI plusI q4 q7) ∧ List.length q0 ≤ (100000 : Nat) ∧ Bd q9 q0 ∧ (0 : Int) ≤ line ∧ ((0 : Int) < (8 : Int) ∧ (8 : Int) ≤ (1000 : Int)) ∧ List.length q5 ≤ (100000 : Nat) ∧ List.length q6 = List.length q5 ∧ Bd q9 q5 ∧ Bd q9 q6 ∧ (0 : Int) ≤ line ∧ List.length q3 ≤ (100000 : Nat) ∧ List.length q12 = List.length q3 ∧ Bd q9 q3 ∧ Bd q9 q12 ∧ List.length q1 ≤ (1000000 : Nat) ∧ List.length q5 ≤ (1000000 : Nat) ∧ List.length q6 ≤ (1000000 : Nat) ∧ (3 : Nat) ≤ (1000000000 : Nat) ∧ splitB (first [lgE q1, lgE q5, lgE q6] != (0 : Int)) (q2.1 = [] ∧ q2.2.1 = [] ∧ q2.2.2 = [] ∧ first [lgE q1, lgE q5, lgE q6] = errE q10 q11 ∧ True) (smpsN q1 = q2.1 ∧ smpsN q5 = q2.2.1 ∧ smpsN q6 = q2.2.2 ∧ (0 : Int) = errE q10 q11 ∧ True)))) := by
  kernel_rfl
end Go.Sx

namespace Go.Sx
open U
theorem fn38 (l : Fld)  : Fn P1 gl1 38 [fldV l] (.val (iV (chkFld l))) true := by
  refine Fn.flat ?_ rfl
  refine fn_of false [(41, sp41), (104, sp104), (95, sp95)] [] h38 0 Proofs.Tryz.f38 ⟨so41, so104, so95, trivial⟩ trivial (by kernel_rfl) rfl (by kernel_rfl) rfl rfl rfl ?_
  rw [vc38]
  try simp only [splitB_iff, -eq_self]
  simp only [ln_first, -eq_self]
  refine ⟨fun h => ?_, fun h => ⟨⟨0, ⟨by omega, rfl⟩, rfl, rfl, rfl, rfl, trivial⟩, fun g hg => ⟨fun hlt => ?_, fun hge => ?_⟩⟩⟩
  · have h : (32 : Int) < (l.length : Int) := of_decide_eq_true h
    unfold chkFld
    rw [if_pos (by omega)]
    exact ⟨rfl, trivial⟩
  · have h : ¬ (32 : Int) < (l.length : Int) := of_decide_eq_false h
    have hlt : g < l.length := by simpa using hlt
    refine ⟨by omega, by omega, by decide, fun k => ?_, fun k => ⟨by simp only [fits]; omega, g + 1, ⟨by omega, upTo_next hg.2 (bneF.1 k)⟩, by omega, by simp, rfl, rfl, rfl, trivial⟩⟩
    unfold chkFld
    rw [if_neg (by omega), upTo_stop hg.2 (bneZ.1 k) hlt]
    exact ⟨rfl, trivial⟩
  · have h : ¬ (32 : Int) < (l.length : Int) := of_decide_eq_false h
    have hge : ¬ g < l.length := by simpa using hge
    have e : g = l.length := by omega
    subst e
    unfold chkFld
    rw [if_neg (by omega), hg.2]
    exact ⟨rfl, trivial⟩
theorem so38_ : SpecOk P1 gl1 38 sp38 := by
  intro vs ps r h _
  simp only [sp38] at h
  split at h
  · cases h; exact fn38 _ 
  · cases h
theorem so38 : Sp1 38 sp38 := ⟨so38_, Proofs.Tryz.f38, _, by kernel_rfl, rfl, by kernel_rfl⟩
theorem fn115 (l : Fld) (line : Int)  : Fn P1 gl1 115 [fldV l, iV line] (.val (iV (chkLine l line))) true := by
  refine Fn.flat ?_ rfl
  refine fn_of false [(38, sp38), (104, sp104), (95, sp95)] [] h0 0 Proofs.Tryz.f115 ⟨so38, so104, so95, trivial⟩ trivial (by kernel_rfl) rfl (by kernel_rfl) rfl rfl rfl ?_
  rw [vc115]
  try simp only [splitB_iff, -eq_self]
  exact ⟨by decide, line_first l line, trivial⟩
theorem so115_ : SpecOk P1 gl1 115 sp115 := by
  intro vs ps r h _
  simp only [sp115] at h
  split at h
  · cases h; exact fn115 _ _ 
  · cases h
theorem so115 : Sp1 115 sp115 := ⟨so115_, Proofs.Tryz.f115, _, by kernel_rfl, rfl, by kernel_rfl⟩
theorem fn123 (l : Fld) (hf : chkFld l = 0) : Fn P1 gl1 123 [fldV l, .one (.fn 108 [] [])] (.val (.one (.sl (.sl (.int .i64)) (l.map sixs)))) false := by
  refine fn_of false [(108, sp108)] [] h38 0 Proofs.Tryz.f123 ⟨so108, trivial⟩ trivial (by kernel_rfl) rfl (by kernel_rfl) rfl rfl rfl ?_
  rw [vc123]
  try simp only [splitB_iff, -eq_self]
  have hq := chkFld_zero.1 hf
  refine ⟨⟨0, Nat.zero_le _, rfl, rfl, rfl, by simp⟩, fun g hg => ⟨fun hlt => ?_, fun hge => ?_⟩⟩
  · have hlt' : g < l.length := by simpa using hlt
    obtain ⟨a1, a2, _⟩ := fld_line hf hlt'
    refine ⟨by omega, by omega, a1, by simp only [room, List.length_map, List.length_take]; omega, by simp only [fits]; omega, g + 1, hlt', by omega, by simp, rfl, rfl, ?_, trivial⟩
    rw [getD_of hlt', List.take_succ_eq_append_getElem hlt', List.map_append]
    rfl
  · have hge' : ¬ g < l.length := by simpa using hge
    rw [List.take_of_length_le (by omega)]
    exact ⟨rfl, trivial⟩
theorem so123_ : SpecOk P1 gl1 123 sp123 := by
  intro vs ps r h hp
  simp only [sp123] at h
  split at h
  · cases h; exact fn123 _ (hp _ (.head _))
  · cases h
theorem so123 : Sp1 123 sp123 := ⟨so123_, Proofs.Tryz.f123, _, by kernel_rfl, rfl, by kernel_rfl⟩
theorem fn121 (n line : Int) (hn : 0 ≤ n ∧ n ≤ 1000000000) : Fn P1 gl1 121 [iV n, iV line] (.val (bV (decide (0 < line) && decide (line < n - 1)))) true := by
  refine Fn.flat ?_ rfl
  refine fn_of false [] [] h0 0 Proofs.Tryz.f121 trivial trivial (by kernel_rfl) rfl (by kernel_rfl) rfl rfl rfl ?_
  rw [vc121]
  try simp only [splitB_iff, -eq_self]
  rw [bcond_r]
  exact ⟨fun _ => by simp only [fits]; omega, rfl, trivial⟩
theorem so121_ : SpecOk P1 gl1 121 sp121 := by
  intro vs ps r h hp
  simp only [sp121] at h
  split at h
  · cases h; exact fn121 _ _ (hp _ (.head _))
  · cases h
theorem so121 : Sp1 121 sp121 := ⟨so121_, Proofs.Tryz.f121, _, by kernel_rfl, rfl, by kernel_rfl⟩
theorem fn47 (l : Fld) (line : Int)  : Fn P1 gl1 47 [fldV l, iV line] (.tup [pV (errP (twoE l line) (twoI l line)), iV (errE (twoE l line) (twoI l line))]) true := by
  refine fn_ofr false [(115, sp115), (104, sp104), (95, sp95), (108, sp108), (117, sp117), (118, sp118), (119, sp119), (116, sp116), (138, sp138)] [fb112] h0 3 Proofs.Tryz.f47 ⟨so115, so104, so95, so108, so117, so118, so119, so116, so138, trivial⟩ ⟨⟨by kernel_rfl, by kernel_rfl, _, rfl, by kernel_rfl⟩, trivial⟩ (by kernel_rfl) rfl (by kernel_rfl) rfl rfl rfl ?_
  rw [vc47]
  try simp only [splitB_iff, -eq_self]
  rw [two_first]
  refine ⟨by decide, fun h => ?_, fun h => ?_⟩
  · have h := bneZ.1 h
    unfold errP errE
    rw [if_neg h, if_neg h]
    exact ⟨rfl, rfl, rfl, rfl, trivial⟩
  · have h := bneF.1 h
    obtain ⟨c1, c2, c3, c4⟩ := twoE_zero.1 h
    have c0 := (chkFld_zero.1 c1).1
    unfold errP errE
    rw [if_pos h, if_pos h]
    unfold twoI lnI nextL
    obtain ⟨a1, a2, a3, a4⟩ := fld_line c1 (i := line.toNat) (by omega)
    refine ⟨by simp only [fits]; omega, fun k => ?_, fun k => ?_⟩
    · have k : line + 1 = (l.length : Int) := by simpa using k
      obtain ⟨b1, b2, b3, b4⟩ := fld_line c1 (i := (line - 1).toNat) (by omega)
      have hb : 0 ≤ line - 1 ∧ line - 1 < (l.length : Int) := by omega
      rw [if_pos k]
      generalize List.getD l (line - 1).toNat [] = o at *
      generalize List.getD l line.toNat [] = s at *
      have z1 := bd_sixs a1
      have z2 := bd_sixs b1
      have z3 : Bd 32768 (combI minusI (sixs s) (sixs o)) := bd_comb (A := 16384) (B := 16384) z1 z2 (by omega) (by omega) fun x y hx hy => by unfold minusI; omega
      simp only [sixs_len, combI_len, diffN_len, -eq_self]
      refine ⟨by simp only [fits]; omega, by omega, by omega, a1, by omega, by omega, b1, by omega, by omega, bd_le z1 (by omega), bd_le z2 (by omega), by omega, bd_le z3 (by omega), c2, by omega, by omega, by omega, bd_le z1 (by omega), bd_le z2 (by omega), by omega, by omega, by omega, by decide, fun h => ?_, fun h => ?_⟩
      · have h : ¬ partsE (combI midI (sixs s) (sixs o), diffN 0 (combI minusI (sixs s) (sixs o)) line 4, diffN 1 (combI minusI (sixs s) (sixs o)) line 4) = 0 := bneZ.1 h
        unfold partsP
        rw [if_neg h]
        exact ⟨rfl, rfl, rfl, rfl, trivial⟩
      · have h : partsE (combI midI (sixs s) (sixs o), diffN 0 (combI minusI (sixs s) (sixs o)) line 4, diffN 1 (combI minusI (sixs s) (sixs o)) line 4) = 0 := bneF.1 h
        unfold partsP
        rw [if_pos h]
        exact ⟨rfl, rfl, rfl, h.symm, trivial⟩
    · have k : ¬ line + 1 = (l.length : Int) := by simpa using k
      obtain ⟨b1, b2, b3, b4⟩ := fld_line c1 (i := (line + 1).toNat) (by omega)
      have hb : 0 ≤ line + 1 ∧ line + 1 < (l.length : Int) := by omega
      rw [if_neg k]
      generalize List.getD l (line + 1).toNat [] = o at *
      generalize List.getD l line.toNat [] = s at *
      have z1 := bd_sixs a1
      have z2 := bd_sixs b1
      have z3 : Bd 32768 (combI minusI (sixs s) (sixs o)) := bd_comb (A := 16384) (B := 16384) z1 z2 (by omega) (by omega) fun x y hx hy => by unfold minusI; omega
      simp only [sixs_len, combI_len, diffN_len, -eq_self]
      refine ⟨by omega, by omega, a1, by omega, by omega, b1, by omega, by omega, bd_le z1 (by omega), bd_le z2 (by omega), by omega, bd_le z3 (by omega), c2, by omega, by omega, by omega, bd_le z1 (by omega), bd_le z2 (by omega), by omega, by omega, by omega, by decide, fun h => ?_, fun h => ?_⟩
      · have h : ¬ partsE (combI midI (sixs s) (sixs o), diffN 0 (combI minusI (sixs s) (sixs o)) line 4, diffN 1 (combI minusI (sixs s) (sixs o)) line 4) = 0 := bneZ.1 h
        unfold partsP
        rw [if_neg h]
        exact ⟨rfl, rfl, rfl, rfl, trivial⟩
      · have h : partsE (combI midI (sixs s) (sixs o), diffN 0 (combI minusI (sixs s) (sixs o)) line 4, diffN 1 (combI minusI (sixs s) (sixs o)) line 4) = 0 := bneF.1 h
        unfold partsP
        rw [if_pos h]
        exact ⟨rfl, rfl, rfl, h.symm, trivial⟩
theorem fn48 (l : Fld) (line : Int)  : Fn P1 gl1 48 [fldV l, iV line] (.tup [pV (errP (threeE l line) (threeL l line)), iV (errE (threeE l line) (threeL l line))]) true := by
  refine fn_ofr false [(115, sp115), (95, sp95), (121, sp121), (123, sp123), (108, sp108), (117, sp117), (118, sp118), (164, sp164), (171, sp171), (116, sp116), (163, sp163), (138, sp138)] [fb112, fb122, fb168] h0 3 Proofs.Tryz.f48 ⟨so115, so95, so121, so123, so108, so117, so118, so164, so171, so116, so163, so138, trivial⟩ ⟨⟨by kernel_rfl, by kernel_rfl, _, rfl, by kernel_rfl⟩, ⟨by kernel_rfl, by kernel_rfl, _, rfl, by kernel_rfl⟩, ⟨by kernel_rfl, by kernel_rfl, _, rfl, by kernel_rfl⟩, trivial⟩ (by kernel_rfl) rfl (by kernel_rfl) rfl rfl rfl ?_
  rw [vc48]
  try simp only [splitB_iff, -eq_self]
  simp only [map_get, List.length_map, -eq_self]
  refine ⟨fun h => ?_, fun h => ⟨⟨by omega, by have := (chkFld_zero.1 (chkLine_zero.1 (bneF.1 h)).1).1; omega⟩, fun h2 => ?_, fun h2 => ?_⟩⟩
  · have h := bneZ.1 h
    have e : threeE l line = chkLine l line := by unfold threeE; rw [if_neg h]
    unfold errP errE
    rw [e, if_neg h, if_neg h]
    exact ⟨rfl, rfl, rfl, rfl, trivial⟩
  · have h := bneF.1 h
    have e : threeE l line = 14 := by
      unfold threeE
      rw [if_pos h, if_neg (by simp at h2; omega)]
    rw [e]
    exact ⟨rfl, rfl, rfl, rfl, trivial⟩
  · have h := bneF.1 h
    have h2 : 0 < line ∧ line < (l.length : Int) - 1 := by simpa using h2
    obtain ⟨c1, c2, c3⟩ := chkLine_zero.1 h
    have c0 := (chkFld_zero.1 c1).1
    have e : threeE l line = 0 := threeE_zero.2 ⟨c1, h2⟩
    unfold errP errE threeL threeI apartI lnI
    rw [if_pos e, if_pos e]
    obtain ⟨a1, a2, a3, a4⟩ := fld_line c1 (i := line.toNat) (by omega)
    obtain ⟨b1, b2, b3, b4⟩ := fld_line c1 (i := (line - 1).toNat) (by omega)
    obtain ⟨d1, d2, d3, d4⟩ := fld_line c1 (i := (line + 1).toNat) (by omega)
    generalize List.getD l (line - 1).toNat [] = o at *
    generalize List.getD l (line + 1).toNat [] = p at *
    generalize List.getD l line.toNat [] = s at *
    have z0 : Bd 1000000 (combI plusI (sixs o) (sixs p)) := bd_comb (A := 16384) (B := 16384) (bd_sixs b1) (bd_sixs d1) (by omega) (by omega) fun x y hx hy => by unfold plusI; omega
    have z1 : Bd 65536 (thrD (sixs o) (sixs s) (sixs p)) := bd_thrD (bd_sixs b1) (bd_sixs a1) (bd_sixs d1)
    have z2 : Bd 1000000 (diffN 0 (thrD (sixs o) (sixs s) (sixs p)) line 8) := bd_le (bd_diff (by omega) (by omega) z1) (by omega)
    have z3 : Bd 1000000 (diffN 1 (thrD (sixs o) (sixs s) (sixs p)) line 8) := bd_le (bd_diff (by omega) (by omega) z1) (by omega)
    have eD : combI lessI (sixs s) (combI plusI (sixs o) (sixs p)) = thrD (sixs o) (sixs s) (sixs p) := rfl
    rw [eD]
    have eL : (thrD (sixs o) (sixs s) (sixs p)).length = s.length := by rw [thrD_len, sixs_len]
    generalize thrD (sixs o) (sixs s) (sixs p) = T at *
    simp only [sixs_len, combI_len, diffN_len, carI_len, eL, fits, -eq_self]
    refine ⟨c1, by omega, by omega, by omega, by omega, by omega, by omega, bd_le (bd_sixs b1) (by omega), bd_le (bd_sixs d1) (by omega), by omega, by omega, by omega, by omega, bd_le (bd_sixs a1) (by omega), z0, by omega, bd_le z1 (by omega), c2, by omega, by omega, by omega, z2, z3, c2, by omega, by omega, bd_le (bd_sixs a1) (by omega), bd_car (signI_cases _) (by omega) z2 z3, by omega, by omega, by omega, by decide, fun h => ?_, fun h => ?_⟩
    · have h : ¬ partsE (combI minusI (sixs s) (carI (diffN 0 T line 8) (diffN 1 T line 8) (signI line)), diffN 0 T line 8, diffN 1 T line 8) = 0 := bneZ.1 h
      unfold partsP
      rw [if_neg h]
      exact ⟨rfl, rfl, rfl, rfl, trivial⟩
    · have h : partsE (combI minusI (sixs s) (carI (diffN 0 T line 8) (diffN 1 T line 8) (signI line)), diffN 0 T line 8, diffN 1 T line 8) = 0 := bneF.1 h
      unfold partsP
      rw [if_pos h]
      exact ⟨rfl, rfl, rfl, h.symm, trivial⟩
end Go.Sx

namespace Go.Sx.U
def pw (n : Nat) : Int × Int := List.getD [(1, 0), (0, -1), (-1, 0), (0, 1)] (n % 4) (0, 0)
def quTo (l : List Int) (k : Nat) : Nat → Int × Int
  | 0 => (0, 0)
  | i + 1 => ((quTo l k i).1 + List.getD l i 0 * (pw (k * i)).1, (quTo l k i).2 + List.getD l i 0 * (pw (k * i)).2)
def qu (l : List Int) (k : Nat) : Int × Int := quTo l k l.length
def quSt (l : List Int) (k j : Nat) : List (Int × Int) := tab 4 fun q => if q < k then qu l q else if q = k then quTo l k j else (0, 0)
theorem pw_cases (n : Nat) : pw n = (1, 0) ∨ pw n = (0, -1) ∨ pw n = (-1, 0) ∨ pw n = (0, 1) := by
  unfold pw
  have h : n % 4 < 4 := Nat.mod_lt _ (by decide)
  generalize n % 4 = m at h
  match m, h with
  | 0, _ => exact .inl rfl
  | 1, _ => exact .inr (.inl rfl)
  | 2, _ => exact .inr (.inr (.inl rfl))
  | 3, _ => exact .inr (.inr (.inr rfl))
theorem pw_bd (n : Nat) {x B : Int} (h : -B ≤ x ∧ x ≤ B) : (-B ≤ x * (pw n).1 ∧ x * (pw n).1 ≤ B) ∧ (-B ≤ x * (pw n).2 ∧ x * (pw n).2 ≤ B) := by
  rcases pw_cases n with e | e | e | e <;> rw [e] <;> simp <;> omega
theorem quTo_bd {l : List Int} {B : Int} (h : Bd B l) (hB : 0 ≤ B) (k : Nat) : ∀ i : Nat, (-((i : Int) * B) ≤ (quTo l k i).1 ∧ (quTo l k i).1 ≤ (i : Int) * B) ∧ (-((i : Int) * B) ≤ (quTo l k i).2 ∧ (quTo l k i).2 ≤ (i : Int) * B)
  | 0 => by simp [quTo]
  | i + 1 => by
    have ih := quTo_bd h hB k i
    have hb := pw_bd (k * i) (bd_get h (i := i) hB)
    have e : ((i + 1 : Nat) : Int) * B = (i : Int) * B + B := by
      rw [Int.natCast_add, Int.add_mul]; simp
    rw [e]
    unfold quTo
    generalize (i : Int) * B = m at *
    simp only
    omega
theorem quSt_zero (l : List Int) (k : Nat) : quSt l k 0 = fillTo (0, 0) 4 (qu l) k := by
  unfold quSt fillTo
  refine tab_ext fun q _ => ?_
  by_cases h : q < k
  · rw [if_pos h, if_pos h]
  · rw [if_neg h, if_neg h]
    by_cases h2 : q = k
    · rw [if_pos h2]; rfl
    · rw [if_neg h2]
theorem quSt_get {l : List Int} {k j : Nat} (hk : k < 4) : List.getD (quSt l k j) k (0, 0) = quTo l k j := by
  unfold quSt
  rw [tab_get hk, if_neg (by omega), if_pos rfl]
theorem quSt_set (l : List Int) (k j : Nat) : (quSt l k j).set k (quTo l k (j + 1)) = quSt l k (j + 1) := by
  unfold quSt
  rw [tab_set]
  refine tab_ext fun q _ => ?_
  by_cases h : q = k
  · subst h; rw [if_pos rfl, if_neg (by omega), if_pos rfl]
  · rw [if_neg h]
    by_cases h2 : q < k
    · rw [if_pos h2, if_pos h2]
    · rw [if_neg h2, if_neg h2, if_neg h, if_neg h]
theorem quSt_all (l : List Int) (k : Nat) : quSt l k l.length = fillTo (0, 0) 4 (qu l) (k + 1) := by
  unfold quSt fillTo
  refine tab_ext fun q _ => ?_
  by_cases h : q < k
  · rw [if_pos h, if_pos (by omega)]
  · rw [if_neg h]
    by_cases h2 : q = k
    · subst h2; rw [if_pos rfl, if_pos (by omega)]; rfl
    · rw [if_neg h2, if_neg (by omega)]
theorem quSt_len (l : List Int) (k j : Nat) : (quSt l k j).length = 4 := by unfold quSt; rw [tab_len]
def panI (l : List Int) (c : Nat) : List (Nat × Nat) := tab 4 fun k => (smp (qu (List.take 4 (List.drop (4 * c) l)) k).1, smp (qu (List.take 4 (List.drop (4 * c) l)) k).2)
def panN (l : List Nat) : List (List (Nat × Nat)) := if chkSig l = 0 then tab (l.length / 4) (panI (sixs l)) else []
def maxTo (f : Nat → Int) : Nat → Int
  | 0 => 0
  | i + 1 => max (maxTo f i) (f i)
theorem maxTo_nonneg (f : Nat → Int) : ∀ i, 0 ≤ maxTo f i
  | 0 => Int.le_refl 0
  | i + 1 => by
    have := maxTo_nonneg f i
    unfold maxTo
    omega
theorem maxTo_bd {f : Nat → Int} {B : Int} (hB : 0 ≤ B) : ∀ {i : Nat}, (∀ j, j < i → f j ≤ B) → maxTo f i ≤ B
  | 0, _ => hB
  | i + 1, h => by
    have h1 := maxTo_bd hB (i := i) fun j hj => h j (by omega)
    have h2 := h i (by omega)
    unfold maxTo
    omega
theorem farI_nonneg (x y : Int) : 0 ≤ farI x y := by unfold farI; omega
def unAt (l : List Int) (n : Nat) : Int := if n % 4 < 2 then farI (List.getD l n 0) (List.getD l (n + 2) 0) else 0
def unevI (l : List Int) : Int := maxTo (unAt l) l.length
theorem unAt_bd {l : List Int} {B : Int} (h : Bd B l) (hB : 0 ≤ B) (n : Nat) : unAt l n ≤ 2 * B := by
  have h1 := bd_get h (i := n) hB
  have h2 := bd_get h (i := n + 2) hB
  unfold unAt farI
  split <;> omega
theorem unAt_step (l : List Int) (g : Nat) (m : Int) (hm : m = maxTo (unAt l) (4 * g)) :
    max (max (max (max m (List.getD l (4 * g) 0 - List.getD l (4 * g + 2) 0)) (List.getD l (4 * g + 2) 0 - List.getD l (4 * g) 0)) (List.getD l (4 * g + 1) 0 - List.getD l (4 * g + 3) 0)) (List.getD l (4 * g + 3) 0 - List.getD l (4 * g + 1) 0) = maxTo (unAt l) (4 * (g + 1)) := by
  have h0 := maxTo_nonneg (unAt l) (4 * g)
  rw [show 4 * (g + 1) = 4 * g + 1 + 1 + 1 + 1 by omega]
  simp only [maxTo]
  rw [← hm] at *
  have e0 : unAt l (4 * g) = farI (List.getD l (4 * g) 0) (List.getD l (4 * g + 2) 0) := by unfold unAt; rw [if_pos (by omega)]
  have e1 : unAt l (4 * g + 1) = farI (List.getD l (4 * g + 1) 0) (List.getD l (4 * g + 3) 0) := by unfold unAt; rw [if_pos (by omega)]
  have e2 : unAt l (4 * g + 1 + 1) = 0 := by unfold unAt; rw [if_neg (by omega)]
  have e3 : unAt l (4 * g + 1 + 1 + 1) = 0 := by unfold unAt; rw [if_neg (by omega)]
  rw [e0, e1, e2, e3]
  unfold farI
  omega
theorem unevI_bd {l : List Int} (h : Bd 16384 l) : 0 ≤ unevI l ∧ unevI l ≤ 32768 := ⟨maxTo_nonneg _ _, maxTo_bd (by omega) fun j _ => by have := unAt_bd h (by omega) j; omega⟩
def farN (a b : List Int) : Int := maxTo (fun i => farI (List.getD a i 0) (List.getD b i 0)) a.length
theorem farN_bd {a b : List Int} (ha : Bd 16384 a) (hb : Bd 16384 b) : 0 ≤ farN a b ∧ farN a b ≤ 32768 := ⟨maxTo_nonneg _ _, maxTo_bd (by omega) fun j _ => by
  have h1 := bd_get ha (i := j) (by omega)
  have h2 := bd_get hb (i := j) (by omega)
  unfold farI; omega⟩
def mxTo (l : List Int) : Nat → Int
  | 0 => List.getD l 0 0
  | i + 1 => max (mxTo l i) (List.getD l i 0)
theorem mxTo_far (f : Nat → Int) (hf : ∀ j, 0 ≤ f j) (n : Nat) : ∀ i, i ≤ n → 0 < i → mxTo (tab n f ++ [0]) i = maxTo f i
  | 0, _, h => absurd h (by omega)
  | i + 1, hi, _ => by
    have hg : List.getD (tab n f ++ [0]) i 0 = f i := by
      rw [List.getD_eq_getElem?_getD, List.getElem?_append_left (by rw [tab_len]; omega), ← List.getD_eq_getElem?_getD, tab_get (by omega)]
    unfold mxTo maxTo
    rw [hg]
    by_cases h0 : i = 0
    · subst h0
      have hg0 : mxTo (tab n f ++ [0]) 0 = f 0 := hg
      rw [hg0]
      have := hf 0
      unfold maxTo
      omega
    · rw [mxTo_far f hf n i (by omega) (by omega)]
theorem mxTo_comb (a b : List Int) : mxTo (combI farI a b ++ [0]) (combI farI a b ++ [0]).length = farN a b := by
  unfold combI farN
  rw [List.length_append, tab_len]
  show mxTo _ (a.length + 1) = _
  have hl : List.getD (tab a.length (fun i => farI (List.getD a i 0) (List.getD b i 0)) ++ [0]) a.length 0 = 0 := by
    rw [List.getD_eq_getElem?_getD, List.getElem?_append_right (by rw [tab_len]; omega), tab_len]
    simp
  unfold mxTo
  rw [hl]
  by_cases h : a.length = 0
  · rw [h]; simp [mxTo, maxTo, tab]
  · rw [mxTo_far _ (fun j => farI_nonneg _ _) _ _ (Nat.le_refl _) (by omega)]
    have := maxTo_nonneg (fun i => farI (List.getD a i 0) (List.getD b i 0)) a.length
    omega
def difE (y u v y' u' v' : List Nat) : Int :=
  if first [chkPt y u v, chkPt y' u' v'] = 0 then (if y.length = y'.length then (if farN (sixs y) (sixs y') ≤ 16384 ∧ max (farN (sixs u) (sixs u')) (farN (sixs v) (sixs v')) ≤ 16384 then 0 else 4) else 2)
  else first [chkPt y u v, chkPt y' u' v']
def difP (y u v y' u' v' : List Nat) : List Nat := if difE y u v y' u' v' = 0 then [smp (farN (sixs y) (sixs y')), smp (max (farN (sixs u) (sixs u')) (farN (sixs v) (sixs v')))] else [0, 0]
end Go.Sx.U

namespace Go.Sx
open U
abbrev panT : Ty := .arr 4 (.cpx .f32)
@[reducible] def gsV (z : Int × Int) : V := .agg [.one (.int .i64 z.1), .one (.int .i64 z.2)]
def ptrId (s : St) (t : Nat) : Option Nat := match lookT s.tm t with
  | some (.val (.one (.ptr id 0))) => some id
  | _ => none
def rowC (s : St) : List Ch → Option (List Int)
  | [.one c] => rowAs (lookO s.ob) (.int .i64) c
  | _ => none
def h33 : Hints := ⟨fun f k s => match f, k with
  | 109, 3 => match listAs s 0 (.int .i64), ptrId s 3 with
    | some l, some b => some ⟨Nat, fun i => ⟨tI 8 i :: keepT [0, 2, 3] s.tm, (b, some (.box [.arr 4 gsT (fillTo (0, 0) 4 (qu l) i)])) :: dropO s [b], s.nx, s.lr⟩, fun i => i ≤ 4, fun i => 4 - i⟩
    | _, _ => none
  | 109, 6 => match listAs s 0 (.int .i64), ptrId s 3, intOfT s 4 with
    | some l, some b, some k => some ⟨Nat, fun j => ⟨tI 13 j :: keepT [0, 2, 3, 4, 8, 11, 12] s.tm, (b, some (.box [.arr 4 gsT (quSt l k.toNat j)])) :: dropO s [b], s.nx, s.lr⟩, fun j => j ≤ List.length l, fun j => List.length l - j⟩
    | _, _, _ => none
  | 167, 1 => match boxS s with
    | [(bo, co), (_, cl)] => match rowC s cl with
      | some l => some ⟨Nat, fun i => ⟨tI 7 i :: keepT [0, 1, 6] s.tm, (bo, some (.box [.one (.own s.nx)])) :: (s.nx, some (.row panT (tab i (panI l)))) :: dropO s ([bo] ++ ownC co), s.nx + 1, s.lr⟩, fun i => i ≤ List.length l / 4, fun i => List.length l / 4 - i⟩
      | none => none
    | _ => none
  | 77, 3 => match listAs s 0 (.int .i64), ptrId s 5, intOfT s 1 with
    | some l, some b, some k => some ⟨Nat, fun j => ⟨tI 6 j :: keepT [0, 1, 4, 5] s.tm, (b, some (.box [.one (.int .i64 (quTo l k.toNat j).1), .one (.int .i64 (quTo l k.toNat j).2)])) :: dropO s [b], s.nx, s.lr⟩, fun j => j ≤ List.length l, fun j => List.length l - j⟩
    | _, _, _ => none
  | _, _ => none, 6⟩
def h128 : Hints := ⟨fun f k s => match f, k with
  | 167, 1 => match boxS s with
    | [_, (bo, _), (_, cl)] => match rowC s cl with
      | some l => some ⟨Nat, fun i => ⟨tI 7 i :: keepT [0, 1, 6] s.tm, (bo, some (.box [.one (.int .i64 (maxTo (unAt l) (4 * i)))])) :: dropO s [bo], s.nx, s.lr⟩, fun i => i ≤ List.length l / 4, fun i => List.length l / 4 - i⟩
      | none => none
    | _ => none
  | 134, 5 => match listAs s 0 (.int .i64) with
    | some l => some ⟨Nat, fun i => s.at [0] [tI 4 i, tI 3 (mxTo l i)], fun i => 1 ≤ i ∧ i ≤ List.length l, fun i => List.length l - i⟩
    | none => none
  | 59, 2 => match boxS s with
    | (_, .one (.sl (.flt .f32) y) :: _) :: _ => some ⟨Nat, fun i => s.at [1] [tI 3 i], fun i => i ≤ List.length y ∧ ∀ j, j < i → unAt (sixs y) j = 0, fun i => List.length y - i⟩
    | _ => none
  | 60, 3 => match listAs s 3 (.int .i64) with
    | some l => some ⟨Nat, fun i => s.at [1, 3] [tI 5 i, tI 4 (maxTo (unAt l) i)], fun i => i ≤ List.length l, fun i => List.length l - i⟩
    | _ => none
  | 132, 3 => match listAs s 5 (.int .i64), listAs s 6 (.int .i64) with
    | some a, some b => some ⟨Nat, fun i => s.at [5, 6] [tI 8 i, tI 7 (maxTo (fun i => farI (List.getD a i 0) (List.getD b i 0)) i)], fun i => i ≤ List.length a, fun i => List.length a - i⟩
    | _, _ => none
  | _, _ => none, 0⟩
end Go.Sx
namespace Go.Sx
open U
def sp109 : FSpec := ⟨fun vs => match vs with
  | [.one (.sl (.int .i64) l)] => some ([List.length l ≤ 1000, Bd 1000000 l], .val (.agg [.arr 4 gsT (tab 4 (qu l))]))
  | _ => none, true⟩
def sp128 : FSpec := ⟨fun vs => match vs with
  | [.agg [.one (.sl (.flt .f32) y), .one (.sl (.flt .f32) _u), .one (.sl (.flt .f32) _v)]] => some ([chkSig y = 0], .val (iV (unevI (sixs y))))
  | _ => none, true⟩
def sp134 : FSpec := ⟨fun vs => match vs with
  | [.one (.sl (.int .i64) l)] => some ([0 < List.length l ∧ List.length l ≤ 1000000000], .val (iV (mxTo l (List.length l))))
  | _ => none, true⟩
def sp129 : FSpec := ⟨fun vs => match vs with
  | [.one (.sl (.flt .f32) a), .one (.sl (.flt .f32) b)] => some ([OkS a, OkS b, List.length a ≤ 1000, List.length b = List.length a], .val (iV (farN (sixs a) (sixs b))))
  | _ => none, true⟩
end Go.Sx

namespace Go.Sx
open U
theorem vc109 (l : List Int) : exF (env false [] []) h33 0 109 Proofs.Tryz.f109 [.one (.sl (.int .i64) l)] (.val (.agg [.arr 4 gsT (tab 4 (qu l))])) = (let q1 := ((0 : Int), (0 : Int)); let q2 := (↑(List.length l) : Int); (∃ (g : Nat), Nat.le g (4 : Nat) ∧ (0 : Int) = (↑g : Int) ∧ l = l ∧ List.replicate (4 : Nat) q1 = fillTo q1 (4 : Nat) (qu l) g ∧ List.replicate (4 : Nat) q1 = List.replicate (4 : Nat) q1 ∧ True) ∧ ∀ (g : Nat), let q3 := ((0 : Int) ≤ (↑g : Int) ∧ (↑g : Int) < (4 : Int)); Nat.le g (4 : Nat) → splitB (decide ((↑g : Int) < (4 : Int))) ((∃ (g_1 : Nat), Nat.le g_1 (List.length l) ∧ (0 : Int) = (↑g_1 : Int) ∧ q2 = q2 ∧ l = l ∧ (↑g : Int) = (↑g : Int) ∧ (↑g : Int) = (↑g : Int) ∧ l = l ∧ fillTo q1 (4 : Nat) (qu l) g = quSt l g g_1 ∧ List.replicate (4 : Nat) q1 = List.replicate (4 : Nat) q1 ∧ True) ∧ ∀ (g_1 : Nat), let q0 := (List.getD [((1 : Int), (0 : Int)), ((0 : Int), (-1 : Int)), ((-1 : Int), (0 : Int)), ((0 : Int), (1 : Int))] (Int.toNat ((↑g : Int) * (↑g_1 : Int) % (4 : Int))) q1); let q4 := (List.getD (quSt l g g_1) g q1); Nat.le g_1 (List.length l) → splitB (decide ((↑g_1 : Int) < q2)) (((0 : Int) ≤ (↑g_1 : Int) ∧ (↑g_1 : Int) < q2) ∧ fits IntKind.i64 ((↑g : Int) * (↑g_1 : Int)) ∧ ((0 : Int) ≤ (↑g : Int) * (↑g_1 : Int) ∧ (0 : Int) < (4 : Int)) ∧ ((0 : Int) ≤ (↑g : Int) * (↑g_1 : Int) % (4 : Int) ∧ (↑g : Int) * (↑g_1 : Int) % (4 : Int) < (4 : Int)) ∧ q3 ∧ g < List.length (quSt l g g_1) ∧ fits IntKind.i64 (List.getD l g_1 (0 : Int) * q0.1) ∧ fits IntKind.i64 (q4.1 + List.getD l g_1 (0 : Int) * q0.1) ∧ q3 ∧ g < List.length (quSt l g g_1) ∧ fits IntKind.i64 (List.getD l g_1 (0 : Int) * q0.2) ∧ fits IntKind.i64 (q4.2 + List.getD l g_1 (0 : Int) * q0.2) ∧ q3 ∧ g < List.length (quSt l g g_1) ∧ fits IntKind.i64 ((↑g_1 : Int) + (1 : Int)) ∧ ∃ (g' : Nat), Nat.le g' (List.length l) ∧ List.length l - g' < List.length l - g_1 ∧ (↑g_1 : Int) + (1 : Int) = (↑g' : Int) ∧ q2 = q2 ∧ l = l ∧ (↑g : Int) = (↑g : Int) ∧ (↑g : Int) = (↑g : Int) ∧ l = l ∧ List.set (quSt l g g_1) g (q4.1 + List.getD l g_1 (0 : Int) * q0.1, q4.2 + List.getD l g_1 (0 : Int) * q0.2) = quSt l g g' ∧ List.replicate (4 : Nat) q1 = List.replicate (4 : Nat) q1 ∧ True) (fits IntKind.i64 ((↑g : Int) + (1 : Int)) ∧ ∃ (g' : Nat), Nat.le g' (4 : Nat) ∧ (4 : Nat) - g' < (4 : Nat) - g ∧ (↑g : Int) + (1 : Int) = (↑g' : Int) ∧ l = l ∧ quSt l g g_1 = fillTo q1 (4 : Nat) (qu l) g' ∧ List.replicate (4 : Nat) q1 = List.replicate (4 : Nat) q1 ∧ True)) (fillTo q1 (4 : Nat) (qu l) g = tab (4 : Nat) (qu l) ∧ True)) := by
  kernel_rfl
theorem vc33 (l : List Nat) : exF (env false [(41, sp41), (108, sp108), (109, sp109), (110, sp110)] [fb107, fb167]) h33 3 33 Proofs.Tryz.f33 [.one (.sl (.flt .f32) l)] (.tup [.one (.frs panT (panN l)), iV (chkSig l)]) = (let q1 := ((0 : Int), (0 : Int)); let q3 := (↑(List.length (sixs l)) : Int); let q8 := (-8388608 : Int); let q9 := (8388608 : Int); let q10 := (List.length (sixs l) / (4 : Nat)); let q13 := (panI (sixs l)); let q14 := ((0 : Int) ≤ (0 : Int) ∧ (0 : Int) < (4 : Int)); let q15 := ((0 : Int) ≤ (1 : Int) ∧ (1 : Int) < (4 : Int)); let q16 := ((0 : Int) ≤ (2 : Int) ∧ (2 : Int) < (4 : Int)); let q17 := ((0 : Int) ≤ (3 : Int) ∧ (3 : Int) < (4 : Int)); splitB (chkSig l != (0 : Int)) (panN l = [] ∧ chkSig l = chkSig l ∧ True) (List.length l ≤ (1000000 : Nat) ∧ OkS l ∧ ((0 : Int) ≤ q3 ∧ (0 : Int) < (4 : Int) ∧ fits IntKind.i64 (q3 / (4 : Int))) ∧ (∃ (g : Nat), Nat.le g q10 ∧ (0 : Int) = (↑g : Int) ∧ q3 / (4 : Int) = q3 / (4 : Int) ∧ tab g q13 = [] ∧ sixs l = sixs l ∧ True) ∧ ∀ (g : Nat), let q11 := ((4 : Int) * (↑g : Int)); let q2 := (List.take (4 : Nat) (List.drop (Int.toNat q11) (sixs l))); let q12 := (List.take (4 : Nat) q2); let q0 := (tab (4 : Nat) (qu q12)); let q4 := (List.getD q0 (0 : Nat) q1); let q5 := (List.getD q0 (1 : Nat) q1); let q6 := (List.getD q0 (2 : Nat) q1); let q7 := (List.getD q0 (3 : Nat) q1); Nat.le g q10 → splitB (decide ((↑g : Int) < q3 / (4 : Int))) (fits IntKind.i64 q11 ∧ fits IntKind.i64 q11 ∧ fits IntKind.i64 ((4 : Int) * (↑g : Int) + (4 : Int)) ∧ ((0 : Int) ≤ (4 : Int) * (↑g : Int) ∧ (4 : Int) * (↑g : Int) ≤ (4 : Int) * (↑g : Int) + (4 : Int) ∧ (4 : Int) * (↑g : Int) + (4 : Int) ≤ q3) ∧ (4 : Nat) ≤ Int.toNat ((4 : Int) * (↑g : Int) + (4 : Int)) - Int.toNat q11 ∧ List.length q2 = (4 : Nat) ∧ ((0 : Int) ≤ (0 : Int) ∧ (0 : Int) ≤ (4 : Int) ∧ (4 : Int) ≤ (4 : Int)) ∧ List.length q12 = (4 : Nat) ∧ List.length q12 ≤ (1000 : Nat) ∧ Bd (1000000 : Int) q12 ∧ q14 ∧ (q8 ≤ q4.1 ∧ q4.1 ≤ q9) ∧ (q8 ≤ q4.2 ∧ q4.2 ≤ q9) ∧ q14 ∧ (0 : Nat) < (4 : Nat) ∧ fits IntKind.i64 (1 : Int) ∧ q15 ∧ (q8 ≤ q5.1 ∧ q5.1 ≤ q9) ∧ (q8 ≤ q5.2 ∧ q5.2 ≤ q9) ∧ q15 ∧ (1 : Nat) < (4 : Nat) ∧ fits IntKind.i64 (2 : Int) ∧ q16 ∧ (q8 ≤ q6.1 ∧ q6.1 ≤ q9) ∧ (q8 ≤ q6.2 ∧ q6.2 ≤ q9) ∧ q16 ∧ (2 : Nat) < (4 : Nat) ∧ fits IntKind.i64 (3 : Int) ∧ q17 ∧ (q8 ≤ q7.1 ∧ q7.1 ≤ q9) ∧ (q8 ≤ q7.2 ∧ q7.2 ≤ q9) ∧ q17 ∧ (3 : Nat) < (4 : Nat) ∧ fits IntKind.i64 (4 : Int) ∧ room (List.length (tab g q13) + (1 : Nat)) (32 : Nat) ∧ fits IntKind.i64 ((↑g : Int) + (1 : Int)) ∧ ∃ (g' : Nat), Nat.le g' q10 ∧ List.length (sixs l) / (4 : Nat) - g' < List.length (sixs l) / (4 : Nat) - g ∧ (↑g : Int) + (1 : Int) = (↑g' : Int) ∧ q3 / (4 : Int) = q3 / (4 : Int) ∧ tab g q13 ++ [[(smp q4.1, smp q4.2), (smp q5.1, smp q5.2), (smp q6.1, smp q6.2), (smp q7.1, smp q7.2)]] = tab g' q13 ∧ sixs l = sixs l ∧ True) (tab g q13 = panN l ∧ (0 : Int) = chkSig l ∧ True))) := by
  kernel_rfl
theorem vc128 (y u v : List Nat) : exF (env false [(108, sp108)] [fb107, fb167]) h128 3 128 Proofs.Tryz.f128 [ptV y u v] (.val (iV (unevI (sixs y)))) = (let q1 := (↑(List.length (sixs y)) : Int); let q2 := (List.length (sixs y) / (4 : Nat)); let q4 := ((0 : Int) ≤ (0 : Int) ∧ (0 : Int) < (4 : Int)); let q5 := ((0 : Int) ≤ (2 : Int) ∧ (2 : Int) < (4 : Int)); let q6 := ((0 : Int) ≤ (1 : Int) ∧ (1 : Int) < (4 : Int)); let q7 := ((0 : Int) ≤ (3 : Int) ∧ (3 : Int) < (4 : Int)); List.length y ≤ (1000000 : Nat) ∧ OkS y ∧ ((0 : Int) ≤ q1 ∧ (0 : Int) < (4 : Int) ∧ fits IntKind.i64 (q1 / (4 : Int))) ∧ (∃ (g : Nat), Nat.le g q2 ∧ (0 : Int) = (↑g : Int) ∧ q1 / (4 : Int) = q1 / (4 : Int) ∧ (0 : Int) = maxTo (unAt (sixs y)) ((4 : Nat) * g) ∧ sixs y = sixs y ∧ y = y ∧ u = u ∧ v = v ∧ True) ∧ ∀ (g : Nat), let q3 := ((4 : Int) * (↑g : Int)); let q0 := (List.take (4 : Nat) (List.drop (Int.toNat q3) (sixs y))); Nat.le g q2 → splitB (decide ((↑g : Int) < q1 / (4 : Int))) (fits IntKind.i64 q3 ∧ fits IntKind.i64 q3 ∧ fits IntKind.i64 ((4 : Int) * (↑g : Int) + (4 : Int)) ∧ ((0 : Int) ≤ (4 : Int) * (↑g : Int) ∧ (4 : Int) * (↑g : Int) ≤ (4 : Int) * (↑g : Int) + (4 : Int) ∧ (4 : Int) * (↑g : Int) + (4 : Int) ≤ q1) ∧ (4 : Nat) ≤ Int.toNat ((4 : Int) * (↑g : Int) + (4 : Int)) - Int.toNat q3 ∧ List.length q0 = (4 : Nat) ∧ q4 ∧ (0 : Nat) < List.length q0 ∧ q5 ∧ (2 : Nat) < List.length q0 ∧ fits IntKind.i64 (List.getD q0 (0 : Nat) (0 : Int) - List.getD q0 (2 : Nat) (0 : Int)) ∧ q5 ∧ (2 : Nat) < List.length q0 ∧ q4 ∧ (0 : Nat) < List.length q0 ∧ fits IntKind.i64 (List.getD q0 (2 : Nat) (0 : Int) - List.getD q0 (0 : Nat) (0 : Int)) ∧ q6 ∧ (1 : Nat) < List.length q0 ∧ q7 ∧ (3 : Nat) < List.length q0 ∧ fits IntKind.i64 (List.getD q0 (1 : Nat) (0 : Int) - List.getD q0 (3 : Nat) (0 : Int)) ∧ q7 ∧ (3 : Nat) < List.length q0 ∧ q6 ∧ (1 : Nat) < List.length q0 ∧ fits IntKind.i64 (List.getD q0 (3 : Nat) (0 : Int) - List.getD q0 (1 : Nat) (0 : Int)) ∧ fits IntKind.i64 ((↑g : Int) + (1 : Int)) ∧ ∃ (g' : Nat), Nat.le g' q2 ∧ List.length (sixs y) / (4 : Nat) - g' < List.length (sixs y) / (4 : Nat) - g ∧ (↑g : Int) + (1 : Int) = (↑g' : Int) ∧ q1 / (4 : Int) = q1 / (4 : Int) ∧ List.foldl max (maxTo (unAt (sixs y)) ((4 : Nat) * g)) [List.getD q0 (0 : Nat) (0 : Int) - List.getD q0 (2 : Nat) (0 : Int), List.getD q0 (2 : Nat) (0 : Int) - List.getD q0 (0 : Nat) (0 : Int), List.getD q0 (1 : Nat) (0 : Int) - List.getD q0 (3 : Nat) (0 : Int), List.getD q0 (3 : Nat) (0 : Int) - List.getD q0 (1 : Nat) (0 : Int)] = maxTo (unAt (sixs y)) ((4 : Nat) * g') ∧ sixs y = sixs y ∧ y = y ∧ u = u ∧ v = v ∧ True) (maxTo (unAt (sixs y)) ((4 : Nat) * g) = unevI (sixs y) ∧ True)) := by
  kernel_rfl
theorem vc57 (y u v : List Nat) : exF (env false [(26, sp26), (128, sp128), (110, sp110)] []) h0 0 57 Proofs.Tryz.f57 [ptV y u v] (.tup [fV (if chkPt y u v = 0 then smp ((unevI (sixs y) + 1) / 2) else 0), iV (chkPt y u v)]) = (let q0 := (unevI (sixs y) + (1 : Int)); List.length y ≤ (1000000000 : Nat) ∧ splitB (chkPt y u v != (0 : Int)) (((0 : Nat) = if chkPt y u v = (0 : Int) then smp (q0 / (2 : Int)) else (0 : Nat)) ∧ chkPt y u v = chkPt y u v ∧ True) (chkSig y = (0 : Int) ∧ fits IntKind.i64 q0 ∧ ((0 : Int) ≤ unevI (sixs y) + (1 : Int) ∧ (0 : Int) < (2 : Int) ∧ fits IntKind.i64 (q0 / (2 : Int))) ∧ ((-8388608 : Int) ≤ q0 / (2 : Int) ∧ q0 / (2 : Int) ≤ (8388608 : Int)) ∧ (smp (q0 / (2 : Int)) = if chkPt y u v = (0 : Int) then smp (q0 / (2 : Int)) else (0 : Nat)) ∧ (0 : Int) = chkPt y u v ∧ True)) := by
  kernel_rfl
theorem vc134 (l : List Int) : exF (env false [] []) h128 0 134 Proofs.Tryz.f134 [.one (.sl (.int .i64) l)] (.val (iV (mxTo l l.length))) = (let q0 := (↑(List.length l) : Int); splitB (decide (q0 < (1 : Int))) False (((0 : Int) ≤ (0 : Int) ∧ (0 : Int) < q0) ∧ (∃ (g : Nat), ((1 : Nat) ≤ g ∧ g ≤ List.length l) ∧ (1 : Int) = (↑g : Int) ∧ List.getD l (0 : Nat) (0 : Int) = mxTo l g ∧ l = l ∧ True) ∧ ∀ (g : Nat), (1 : Nat) ≤ g ∧ g ≤ List.length l → splitB (decide ((↑g : Int) < q0)) (((0 : Int) ≤ (↑g : Int) ∧ (↑g : Int) < q0) ∧ fits IntKind.i64 ((↑g : Int) + (1 : Int)) ∧ ∃ (g' : Nat), ((1 : Nat) ≤ g' ∧ g' ≤ List.length l) ∧ List.length l - g' < List.length l - g ∧ (↑g : Int) + (1 : Int) = (↑g' : Int) ∧ max (mxTo l g) (List.getD l g (0 : Int)) = mxTo l g' ∧ l = l ∧ True) (mxTo l g = mxTo l (List.length l) ∧ True))) := by
  kernel_rfl
theorem vc129 (a b : List Nat) : exF (env false [(108, sp108), (117, sp117), (173, sp173), (134, sp134)] []) h0 0 129 Proofs.Tryz.f129 [.one (.sl (.flt .f32) a), .one (.sl (.flt .f32) b)] (.val (iV (farN (sixs a) (sixs b)))) = (List.length a ≤ (1000000 : Nat) ∧ OkS a ∧ List.length b ≤ (1000000 : Nat) ∧ OkS b ∧ List.length (sixs a) ≤ (100000 : Nat) ∧ List.length (sixs b) = List.length (sixs a) ∧ Bd (1000000 : Int) (sixs a) ∧ Bd (1000000 : Int) (sixs b) ∧ room (List.length (combI farI (sixs a) (sixs b)) + (1 : Nat)) (8 : Nat) ∧ ((0 : Nat) < List.length (combI farI (sixs a) (sixs b) ++ [(0 : Int)]) ∧ List.length (combI farI (sixs a) (sixs b) ++ [(0 : Int)]) ≤ (1000000000 : Nat)) ∧ mxTo (combI farI (sixs a) (sixs b) ++ [(0 : Int)]) (List.length (combI farI (sixs a) (sixs b) ++ [(0 : Int)])) = farN (sixs a) (sixs b) ∧ True) := by
  kernel_rfl
theorem vc58 (y u v y' u' v' : List Nat) : exF (env false [(26, sp26), (95, sp95), (103, sp103), (129, sp129), (130, sp130), (110, sp110)] []) h0 0 58 Proofs.Tryz.f58 [ptV y u v, ptV y' u' v'] (.tup [.agg [.arr 2 (.flt .f32) (difP y u v y' u' v')], iV (difE y u v y' u' v')]) = (let q0 := (farN (sixs u) (sixs u')); let q1 := (farN (sixs v) (sixs v')); List.length y ≤ (1000000000 : Nat) ∧ List.length y' ≤ (1000000000 : Nat) ∧ (2 : Nat) ≤ (1000000000 : Nat) ∧ splitB (first [chkPt y u v, chkPt y' u' v'] != (0 : Int)) (List.replicate (2 : Nat) (0 : Nat) = difP y u v y' u' v' ∧ first [chkPt y u v, chkPt y' u' v'] = difE y u v y' u' v' ∧ True) (splitB ((↑(List.length y) : Int) != (↑(List.length y') : Int)) (List.replicate (2 : Nat) (0 : Nat) = difP y u v y' u' v' ∧ (2 : Int) = difE y u v y' u' v' ∧ True) (OkS y ∧ OkS y' ∧ List.length y ≤ (1000 : Nat) ∧ List.length y' = List.length y ∧ OkS u ∧ OkS u' ∧ List.length u ≤ (1000 : Nat) ∧ List.length u' = List.length u ∧ OkS v ∧ OkS v' ∧ List.length v ≤ (1000 : Nat) ∧ List.length v' = List.length v ∧ splitB (bif lgI (farN (sixs y) (sixs y')) then true else lgI (max q0 q1)) (List.replicate (2 : Nat) (0 : Nat) = difP y u v y' u' v' ∧ (4 : Int) = difE y u v y' u' v' ∧ True) (((-8388608 : Int) ≤ farN (sixs y) (sixs y') ∧ farN (sixs y) (sixs y') ≤ (8388608 : Int)) ∧ ((-8388608 : Int) ≤ max q0 q1 ∧ max q0 q1 ≤ (8388608 : Int)) ∧ [smp (farN (sixs y) (sixs y')), smp (max q0 q1)] = difP y u v y' u' v' ∧ (0 : Int) = difE y u v y' u' v' ∧ True)))) := by
  kernel_rfl
end Go.Sx

namespace Go.Sx
open U
theorem fn109 (l : List Int) (hl : l.length ≤ 1000) (hb : Bd 1000000 l) : Fn P1 gl1 109 [.one (.sl (.int .i64) l)] (.val (.agg [.arr 4 gsT (tab 4 (qu l))])) true := by
  refine Fn.flat ?_ rfl
  refine fn_of false [] [] h33 0 Proofs.Tryz.f109 trivial trivial (by kernel_rfl) rfl (by kernel_rfl) rfl rfl rfl ?_
  rw [vc109]
  try simp only [splitB_iff, -eq_self]
  refine ⟨⟨0, Nat.zero_le _, rfl, rfl, (fillTo_zero _ _ _).symm, rfl, trivial⟩, fun g hg => ⟨fun hlt => ⟨⟨0, Nat.zero_le _, rfl, rfl, rfl, rfl, rfl, rfl, (quSt_zero _ _).symm, rfl, trivial⟩, fun j hj => ⟨fun hlt2 => ?_, fun hge2 => ?_⟩⟩, fun hge => ?_⟩⟩
  · have hlt : (g : Int) < 4 := by simpa using hlt
    have hlt2 : j < l.length := by simpa using hlt2
    have hgj : (g : Int) * (j : Int) = ((g * j : Nat) : Int) := (Int.natCast_mul g j).symm
    have hle : g * j ≤ 3 * 1000 := Nat.mul_le_mul (by omega) (by omega)
    have hp : List.getD [((1 : Int), (0 : Int)), (0, -1), (-1, 0), (0, 1)] (Int.toNat ((g : Int) * (j : Int) % 4)) (0, 0) = pw (g * j) := by
      rw [hgj, show Int.toNat (((g * j : Nat) : Int) % 4) = g * j % 4 by omega]; rfl
    rw [hp, quSt_get (by omega), hgj]
    obtain ⟨p1, p2⟩ := pw_bd (g * j) (bd_get hb (i := j) (by omega))
    obtain ⟨q1, q2⟩ := quTo_bd hb (by omega) g j
    simp only [fits, quSt_len, -eq_self]
    exact ⟨by omega, by omega, by omega, by omega, by omega, by omega, by omega, by omega, by omega, by omega, by omega, by omega, by omega, by omega, by omega, j + 1, hlt2, by omega, by simp, rfl, rfl, rfl, rfl, rfl, quSt_set l g j, rfl, trivial⟩
  · have hlt : (g : Int) < 4 := by simpa using hlt
    have hj : j ≤ l.length := hj
    have hge2 : ¬ j < l.length := by simpa using hge2
    have e : j = l.length := by omega
    subst e
    exact ⟨by simp only [fits]; omega, g + 1, show g + 1 ≤ 4 by omega, by omega, by simp, rfl, quSt_all l g, rfl, trivial⟩
  · have hge : ¬ (g : Int) < 4 := by simpa using hge
    exact ⟨fillTo_all _ _ _ _ (by omega), trivial⟩
theorem so109_ : SpecOk P1 gl1 109 sp109 := by
  intro vs ps r h hp
  simp only [sp109] at h
  split at h
  · cases h; exact fn109 _ (hp _ (.head _)) (hp _ (.tail _ (.head _)))
  · cases h
theorem so109 : Sp1 109 sp109 := ⟨so109_, Proofs.Tryz.f109, _, by kernel_rfl, rfl, by kernel_rfl⟩
theorem fn33 (l : List Nat)  : Fn P1 gl1 33 [.one (.sl (.flt .f32) l)] (.tup [.one (.frs panT (panN l)), iV (chkSig l)]) true := by
  refine Fn.flat ?_ rfl
  refine fn_of false [(41, sp41), (108, sp108), (109, sp109), (110, sp110)] [fb107, fb167] h33 3 Proofs.Tryz.f33 ⟨so41, so108, so109, so110, trivial⟩ ⟨⟨by kernel_rfl, by kernel_rfl, _, rfl, by kernel_rfl⟩, ⟨by kernel_rfl, by kernel_rfl, _, rfl, by kernel_rfl⟩, trivial⟩ (by kernel_rfl) rfl (by kernel_rfl) rfl rfl rfl ?_
  rw [vc33]
  try simp only [splitB_iff, -eq_self]
  refine ⟨fun h => ?_, fun h => ?_⟩
  · have h := bneZ.1 h
    unfold panN
    rw [if_neg h]
    exact ⟨rfl, rfl, trivial⟩
  · have h := bneF.1 h
    obtain ⟨k1, k2, k3⟩ := chkSig_zero.1 h
    simp only [sixs_len, -eq_self]
    refine ⟨by omega, k3, ⟨by omega, by omega, by simp only [fits]; omega⟩, ⟨0, Nat.zero_le _, rfl, rfl, rfl, rfl, trivial⟩, fun g hg => ⟨fun hlt => ?_, fun hge => ?_⟩⟩
    · have hlt : (g : Int) < (l.length : Int) / 4 := by simpa using hlt
      have e1 : Int.toNat (4 * (g : Int)) = 4 * g := by omega
      rw [e1]
      have ht : List.take 4 (List.take 4 (List.drop (4 * g) (sixs l))) = List.take 4 (List.drop (4 * g) (sixs l)) := by rw [List.take_take]; rfl
      rw [ht]
      have hc : (List.take 4 (List.drop (4 * g) (sixs l))).length = 4 := by rw [List.length_take, List.length_drop, sixs_len]; omega
      have hb : Bd 16384 (List.take 4 (List.drop (4 * g) (sixs l))) := fun n hn => bd_sixs k3 n (List.mem_of_mem_drop (List.mem_of_mem_take hn))
      have hq : ∀ k, (-8388608 ≤ (qu (List.take 4 (List.drop (4 * g) (sixs l))) k).1 ∧ (qu (List.take 4 (List.drop (4 * g) (sixs l))) k).1 ≤ 8388608) ∧ (-8388608 ≤ (qu (List.take 4 (List.drop (4 * g) (sixs l))) k).2 ∧ (qu (List.take 4 (List.drop (4 * g) (sixs l))) k).2 ≤ 8388608) := fun k => by
        have := quTo_bd hb (by omega) k 4
        unfold qu
        rw [hc]
        omega
      simp only [tab_get (show 0 < 4 by decide), tab_get (show 1 < 4 by decide), tab_get (show 2 < 4 by decide), tab_get (show 3 < 4 by decide), hc, tab_len, fits, room, -eq_self]
      exact ⟨by omega, by omega, by omega, by omega, by omega, rfl, by omega, rfl, by omega, bd_le hb (by omega), by omega, (hq 0).1, (hq 0).2, by omega, by omega, by omega, by omega, (hq 1).1, (hq 1).2, by omega, by omega, by omega, by omega, (hq 2).1, (hq 2).2, by omega, by omega, by omega, by omega, (hq 3).1, (hq 3).2, by omega, by omega, by omega, by omega, by omega, g + 1, show g + 1 ≤ _ by omega, by omega, by simp, rfl, (tab_succ g (panI (sixs l))).symm, rfl, trivial⟩
    · have hg : g ≤ l.length / 4 := hg
      have hge : ¬ (g : Int) < (l.length : Int) / 4 := by simpa using hge
      have e : g = l.length / 4 := by omega
      subst e
      unfold panN
      rw [if_pos h]
      exact ⟨rfl, h.symm, trivial⟩
theorem fn128 (y u v : List Nat) (h : chkSig y = 0) : Fn P1 gl1 128 [ptV y u v] (.val (iV (unevI (sixs y)))) true := by
  refine Fn.flat ?_ rfl
  refine fn_of false [(108, sp108)] [fb107, fb167] h128 3 Proofs.Tryz.f128 ⟨so108, trivial⟩ ⟨⟨by kernel_rfl, by kernel_rfl, _, rfl, by kernel_rfl⟩, ⟨by kernel_rfl, by kernel_rfl, _, rfl, by kernel_rfl⟩, trivial⟩ (by kernel_rfl) rfl (by kernel_rfl) rfl rfl rfl ?_
  rw [vc128]
  try simp only [splitB_iff, -eq_self]
  obtain ⟨k1, k2, k3⟩ := chkSig_zero.1 h
  simp only [sixs_len, -eq_self]
  refine ⟨by omega, k3, ⟨by omega, by omega, by simp only [fits]; omega⟩, ⟨0, Nat.zero_le _, rfl, rfl, rfl, rfl, rfl, rfl, rfl, trivial⟩, fun g hg => ⟨fun hlt => ?_, fun hge => ?_⟩⟩
  · have hlt : (g : Int) < (y.length : Int) / 4 := by simpa using hlt
    have e1 : Int.toNat (4 * (g : Int)) = 4 * g := by omega
    rw [e1]
    have hc : (List.take 4 (List.drop (4 * g) (sixs y))).length = 4 := by rw [List.length_take, List.length_drop, sixs_len]; omega
    have hb := bd_sixs k3
    have a0 := bd_get hb (i := 4 * g) (by omega)
    have a1 := bd_get hb (i := 4 * g + 1) (by omega)
    have a2 := bd_get hb (i := 4 * g + 2) (by omega)
    have a3 := bd_get hb (i := 4 * g + 3) (by omega)
    simp only [cyc_get _ g 0 (by omega), cyc_get _ g 1 (by omega), cyc_get _ g 2 (by omega), cyc_get _ g 3 (by omega), hc, fits, Nat.add_zero, -eq_self]
    exact ⟨by omega, by omega, by omega, by omega, by omega, rfl, by omega, by omega, by omega, by omega, by omega, by omega, by omega, by omega, by omega, by omega, by omega, by omega, by omega, by omega, by omega, by omega, by omega, by omega, by omega, by omega, by omega, g + 1, show g + 1 ≤ _ by omega, by omega, by simp, rfl, unAt_step _ _ _ rfl, rfl, rfl, rfl, rfl, trivial⟩
  · have hg : g ≤ y.length / 4 := hg
    have hge : ¬ (g : Int) < (y.length : Int) / 4 := by simpa using hge
    unfold unevI
    rw [sixs_len, show 4 * g = y.length by omega]
    exact ⟨rfl, trivial⟩
theorem so128_ : SpecOk P1 gl1 128 sp128 := by
  intro vs ps r h hp
  simp only [sp128] at h
  split at h
  · cases h; exact fn128 _ _ _ (hp _ (.head _))
  · cases h
theorem so128 : Sp1 128 sp128 := ⟨so128_, Proofs.Tryz.f128, _, by kernel_rfl, rfl, by kernel_rfl⟩
theorem fn57 (y u v : List Nat) (hl : y.length ≤ 1000000000) : Fn P1 gl1 57 [ptV y u v] (.tup [fV (if chkPt y u v = 0 then smp ((unevI (sixs y) + 1) / 2) else 0), iV (chkPt y u v)]) true := by
  refine Fn.flat ?_ rfl
  refine fn_of false [(26, sp26), (128, sp128), (110, sp110)] [] h0 0 Proofs.Tryz.f57 ⟨so26, so128, so110, trivial⟩ trivial (by kernel_rfl) rfl (by kernel_rfl) rfl rfl rfl ?_
  rw [vc57]
  try simp only [splitB_iff, -eq_self]
  refine ⟨hl, fun h => ?_, fun h => ?_⟩
  · have h := bneZ.1 h
    rw [if_neg h]
    exact ⟨rfl, rfl, trivial⟩
  · have h := bneF.1 h
    rw [if_pos h]
    have hs := (chkPt_zero.1 h).1
    have hb := unevI_bd (bd_sixs (chkSig_zero.1 hs).2.2)
    simp only [fits, -eq_self]
    exact ⟨hs, by omega, by omega, by omega, rfl, h.symm, trivial⟩
theorem fn134 (l : List Int) (hl : 0 < l.length ∧ l.length ≤ 1000000000) : Fn P1 gl1 134 [.one (.sl (.int .i64) l)] (.val (iV (mxTo l l.length))) true := by
  refine Fn.flat ?_ rfl
  refine fn_of false [] [] h128 0 Proofs.Tryz.f134 trivial trivial (by kernel_rfl) rfl (by kernel_rfl) rfl rfl rfl ?_
  rw [vc134]
  try simp only [splitB_iff, -eq_self]
  refine ⟨fun h => ?_, fun h => ⟨by omega, ⟨1, by omega, rfl, ?_, rfl, trivial⟩, fun g hg => ⟨fun hlt => ?_, fun hge => ?_⟩⟩⟩
  · have h : (l.length : Int) < 1 := of_decide_eq_true h
    omega
  · show _ = max (List.getD l 0 0) (List.getD l 0 0)
    omega
  · have hlt : g < l.length := by simpa using hlt
    exact ⟨by omega, by simp only [fits]; omega, g + 1, ⟨by omega, by omega⟩, by omega, by simp, rfl, rfl, trivial⟩
  · have hge : ¬ g < l.length := by simpa using hge
    have e : g = l.length := by omega
    subst e
    exact ⟨rfl, trivial⟩
theorem so134_ : SpecOk P1 gl1 134 sp134 := by
  intro vs ps r h hp
  simp only [sp134] at h
  split at h
  · cases h; exact fn134 _ (hp _ (.head _))
  · cases h
theorem so134 : Sp1 134 sp134 := ⟨so134_, Proofs.Tryz.f134, _, by kernel_rfl, rfl, by kernel_rfl⟩
theorem fn129 (a b : List Nat) (ha : OkS a) (hb : OkS b) (hl : a.length ≤ 1000) (hm : b.length = a.length) : Fn P1 gl1 129 [.one (.sl (.flt .f32) a), .one (.sl (.flt .f32) b)] (.val (iV (farN (sixs a) (sixs b)))) true := by
  refine Fn.flat ?_ rfl
  refine fn_of false [(108, sp108), (117, sp117), (173, sp173), (134, sp134)] [] h0 0 Proofs.Tryz.f129 ⟨so108, so117, so173, so134, trivial⟩ trivial (by kernel_rfl) rfl (by kernel_rfl) rfl rfl rfl ?_
  rw [vc129]
  try simp only [splitB_iff, -eq_self]
  have b1 := bd_sixs ha
  have b2 := bd_sixs hb
  rw [mxTo_comb]
  simp only [sixs_len, combI_len, List.length_append, List.length_cons, List.length_nil, room, -eq_self]
  exact ⟨by omega, ha, by omega, hb, by omega, by omega, bd_le b1 (by omega), bd_le b2 (by omega), by omega, by omega, rfl, trivial⟩
theorem so129_ : SpecOk P1 gl1 129 sp129 := by
  intro vs ps r h hp
  simp only [sp129] at h
  split at h
  · cases h; exact fn129 _ _ (hp _ (.head _)) (hp _ (.tail _ (.head _))) (hp _ (.tail _ (.tail _ (.head _)))) (hp _ (.tail _ (.tail _ (.tail _ (.head _)))))
  · cases h
theorem so129 : Sp1 129 sp129 := ⟨so129_, Proofs.Tryz.f129, _, by kernel_rfl, rfl, by kernel_rfl⟩
theorem fn58 (y u v y' u' v' : List Nat) (hl : y.length ≤ 1000000000) (hl' : y'.length ≤ 1000000000) : Fn P1 gl1 58 [ptV y u v, ptV y' u' v'] (.tup [.agg [.arr 2 (.flt .f32) (difP y u v y' u' v')], iV (difE y u v y' u' v')]) true := by
  refine Fn.flat ?_ rfl
  refine fn_of false [(26, sp26), (95, sp95), (103, sp103), (129, sp129), (130, sp130), (110, sp110)] [] h0 0 Proofs.Tryz.f58 ⟨so26, so95, so103, so129, so130, so110, trivial⟩ trivial (by kernel_rfl) rfl (by kernel_rfl) rfl rfl rfl ?_
  rw [vc58]
  try simp only [splitB_iff, -eq_self]
  refine ⟨hl, hl', by decide, fun h => ?_, fun h => ?_⟩
  · have h := bneZ.1 h
    have e : difE y u v y' u' v' = first [chkPt y u v, chkPt y' u' v'] := by unfold difE; rw [if_neg h]
    unfold difP
    rw [e, if_neg h]
    exact ⟨rfl, rfl, trivial⟩
  · have h := bneF.1 h
    have hz := first_zero.1 h
    obtain ⟨p1, p2, p3, p4, p5⟩ := chkPt_zero.1 (hz _ (.head _))
    obtain ⟨q1, q2, q3, q4, q5⟩ := chkPt_zero.1 (hz _ (.tail _ (.head _)))
    obtain ⟨a1, a2, a3⟩ := chkSig_zero.1 p1
    obtain ⟨b1, b2, b3⟩ := chkSig_zero.1 q1
    refine ⟨fun k => ?_, fun k => ?_⟩
    · have k : ¬ (y.length : Int) = (y'.length : Int) := bne_iff_ne.1 k
      have e : difE y u v y' u' v' = 2 := by unfold difE; rw [if_pos h, if_neg (by omega)]
      unfold difP
      rw [e]
      exact ⟨rfl, rfl, trivial⟩
    · have k : (y.length : Int) = (y'.length : Int) := bne_eq_false_iff_eq.1 k
      have f1 := farN_bd (bd_sixs a3) (bd_sixs b3)
      have f2 := farN_bd (bd_sixs p4) (bd_sixs q4)
      have f3 := farN_bd (bd_sixs p5) (bd_sixs q5)
      have ed : difE y u v y' u' v' = if farN (sixs y) (sixs y') ≤ 16384 ∧ max (farN (sixs u) (sixs u')) (farN (sixs v) (sixs v')) ≤ 16384 then 0 else 4 := by unfold difE; rw [if_pos h, if_pos (by omega)]
      refine ⟨a3, b3, by omega, by omega, p4, q4, by omega, by omega, p5, q5, by omega, by omega, fun g => ?_, fun g => ?_⟩
      · have e : difE y u v y' u' v' = 4 := by
          rw [ed, if_neg]
          intro hh
          have g1 := lgI_false (n := farN (sixs y) (sixs y')).2 (by omega)
          have g2 := lgI_false (n := max (farN (sixs u) (sixs u')) (farN (sixs v) (sixs v'))).2 (by omega)
          rw [g1, g2] at g
          cases g
        unfold difP
        rw [e]
        exact ⟨rfl, rfl, trivial⟩
      · rw [bcond_l, Bool.or_eq_false_iff] at g
        have g1 := lgI_false.1 g.1
        have g2 := lgI_false.1 g.2
        have e : difE y u v y' u' v' = 0 := by rw [ed, if_pos (by omega)]
        unfold difP
        rw [e, if_pos rfl]
        exact ⟨by omega, by omega, rfl, rfl, trivial⟩
end Go.Sx
