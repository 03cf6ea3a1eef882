/- A verified symbolic run of functions, part 19: lemmas, no claim of their own. -/
import Derived.Test.YtjbfcdgbjgjliaaGreatDoorS18
import Derived.Lib.ItoaLen
import Derived.OpenShut
import Derived.ProofKit
import Derived.Carry
import Derived.OpenVars
import Derived.Lib.LaidTab
import Derived.ChangeSame
import Derived.WalkKit
import Derived.Deep.DeepHandedRow
import Derived.JoinedCond
import Derived.KernelRfl
import Derived.Test.YtjbfcdgbjgjliaaGreatDoorProg
import Derived.Test.YtjbfcdgbjgjliaaGreatDoorCards
import Derived.LaidLaws
import Derived.Shelf.Vars
import Derived.Deep.DeepWitnessRowRef
namespace Go.Sx
open U
theorem set_last {α : Type} (L : List α) (h : L ≠ []) (a : α) : L.set (L.length - 1) a = L.dropLast ++ [a] := by
  obtain ⟨p, x, rfl⟩ : ∃ p x, L = p ++ [x] := ⟨L.dropLast, L.getLast h, (List.dropLast_concat_getLast h).symm⟩
  simp
theorem getD_last {α : Type} (L : List α) (h : L ≠ []) (d : α) : List.getD L (L.length - 1) d = L.getLastD d := by
  obtain ⟨p, x, rfl⟩ : ∃ p x, L = p ++ [x] := ⟨L.dropLast, L.getLast h, (List.dropLast_concat_getLast h).symm⟩
  simp
theorem getD_inS {L : List Str} {n : Nat} (h : n < L.length) : List.getD L n [] ∈ L := by rw [getD_of h]; exact List.getElem_mem h
theorem byte_eq {x : UInt8} {c : Int} (hc : 0 ≤ c ∧ c ≤ 255) : ((x.toNat : Int) == c) = decide (x = c.toNat.toUInt8) := by
  have e : (c.toNat.toUInt8).toNat = c.toNat := by
    rw [Nat.toUInt8_eq, UInt8.toNat_ofNat']; omega
  have k : ((x.toNat : Int) = c) ↔ (x = c.toNat.toUInt8) := by
    constructor
    · intro h; apply UInt8.toNat_inj.1; rw [e]; omega
    · intro h; rw [h, e]; omega
  by_cases h : x = c.toNat.toUInt8
  · rw [decide_eq_true h]; simp [k.2 h]
  · rw [decide_eq_false h]; simp; exact fun h2 => h (k.1 h2)
theorem str_snoc {s : Str} {g : Nat} (h : g < s.length) : List.take (g + 1) s = List.take g s ++ [List.getD s g 0] := by
  rw [List.take_add_one]
  have : s[g]? = some (List.getD s g 0) := by rw [List.getD_eq_getElem?_getD, List.getElem?_eq_getElem h]; rfl
  rw [this]; rfl
theorem str_one {s : Str} {g : Nat} (h : g < s.length) : List.take 1 (List.drop g s) = [List.getD s g 0] := by
  rw [List.drop_eq_getElem_cons h, getD_of h]; rfl
theorem fn92 (s : Str) (c : Int) (hs : s.length ≤ 1000000) (hc : 0 ≤ c ∧ c ≤ 255) : Fn P1 gl1 92 [sV s, .one (.int .u8 c)] (.val (.one (.frs .str (spB c s)))) true := by
  refine Fn.flat ?_ rfl
  refine fn_of false [] [] h91 0 Proofs.Tryz.f92 trivial trivial (by kernel_rfl) rfl (by kernel_rfl) rfl rfl rfl ?_
  rw [vc92]
  try simp only [splitB_iff, -eq_self]
  simp only [spB, hd_eq, byte_eq hc, -eq_self]
  refine ⟨⟨0, Nat.zero_le _, rfl, rfl, rfl, rfl, trivial⟩, fun g hg => ⟨fun hlt => ?_, fun hge => ?_⟩⟩
  · have hlt := of_decide_eq_true hlt
    have hlt : g < s.length := by omega
    have hL := sB_len c.toNat.toUInt8 (List.take g s)
    have hm := sB_mem_len c.toNat.toUInt8 (List.take g s)
    have hn := sB_ne c.toNat.toUInt8 (List.take g s)
    have hsn := sB_snoc c.toNat.toUInt8 (List.getD s g 0) (List.take g s)
    rw [← str_snoc hlt] at hsn
    rw [List.length_take] at hL
    rw [List.length_take] at hm
    generalize sB c.toNat.toUInt8 (List.take g s) = L at *
    have e1 : ((L.length : Int) - 1).toNat = L.length - 1 := by omega
    have e2 : ((g : Int) + 1).toNat - g = 1 := by omega
    rw [e1, e2, str_one hlt]
    refine ⟨⟨by omega, by omega⟩, fun hx => ?_, fun hx => ?_⟩
    · have hx := of_decide_eq_true hx
      rw [if_pos hx] at hsn
      exact ⟨by unfold room; omega, by simp only [fits]; omega, g + 1, Nat.succ_le_of_lt hlt, by omega, by simp, rfl, rfl, hsn.symm, trivial⟩
    · have hx := of_decide_eq_false hx
      rw [if_neg hx] at hsn
      have hb := hm _ (getD_inS (L := L) (n := L.length - 1) (by omega))
      refine ⟨by simp only [fits]; omega, by simp only [fits]; omega, ⟨by omega, by omega⟩, by omega, by simp only [fits]; omega, ⟨by omega, by omega, by omega⟩, ?_, ⟨by omega, by omega⟩, by omega, by simp only [fits]; omega, g + 1, Nat.succ_le_of_lt hlt, by omega, by simp, rfl, rfl, ?_, trivial⟩
      · simp only [List.length_cons, List.length_nil]; omega
      · rw [hsn, set_last L hn, getD_last L hn]
  · have hge := of_decide_eq_false hge
    have hg : g ≤ s.length := hg
    rw [List.take_of_length_le (by omega)]
    exact ⟨rfl, trivial⟩
theorem so92_ : SpecOk P1 gl1 92 sp92 := by
  intro vs ps r h hp
  simp only [sp92] at h
  split at h
  · cases h; exact fn92 _ _ (hp _ (.head _)) (hp _ (.tail _ (.head _)))
  · cases h
theorem so92 : Sp1 92 sp92 := ⟨so92_, Proofs.Tryz.f92, _, by kernel_rfl, rfl, by kernel_rfl⟩
theorem dgV_lt (l : Str) : dgS l = true → dgV l < 10 ^ l.length := by
  refine snoc_ind (P := fun l => dgS l = true → dgV l < 10 ^ l.length) (fun _ => by simp [dgV]) (fun l b ih h => ?_) l
  rw [dgS_snoc, Bool.and_eq_true] at h
  have h1 := ih h.1
  have hb := h.2
  unfold dgB at hb
  simp only [Bool.and_eq_true, decide_eq_true_eq] at hb
  rw [dgV_snoc, List.length_append, List.length_singleton, Nat.pow_succ]
  omega
theorem dg_cond (b : UInt8) : (bif decide ((48 : Int) ≤ (b.toNat : Int)) then decide ((b.toNat : Int) ≤ 57) else false) = dgB b := by
  unfold dgB
  rw [bcond_r]
  congr 1
  · exact decide_eq_decide.2 ⟨fun h => by omega, fun h => by omega⟩
  · exact decide_eq_decide.2 ⟨fun h => by omega, fun h => by omega⟩
theorem dg_head_cond (s : Str) : (bif bif ((s.length : Int) == 0) then true else decide ((9 : Int) < (s.length : Int)) then true else bif decide ((1 : Int) < (s.length : Int)) then ((List.getD s 0 0).toNat : Int) == 48 else false) = !(!s.isEmpty && decide (s.length ≤ 9) && !(decide (1 < s.length) && decide (s.headD 0 = 48))) := by
  rw [bcond_l, bcond_l, bcond_r]
  have e0 : ((s.length : Int) == 0) = s.isEmpty := by cases s <;> simp; omega
  have e1 : decide ((9 : Int) < (s.length : Int)) = !decide (s.length ≤ 9) := by
    rw [← decide_not]; exact decide_eq_decide.2 ⟨fun h => by omega, fun h => by omega⟩
  have e2 : decide ((1 : Int) < (s.length : Int)) = decide (1 < s.length) := decide_eq_decide.2 ⟨fun h => by omega, fun h => by omega⟩
  have e3 : (((List.getD s 0 0).toNat : Int) == 48) = decide (s.headD 0 = 48) := by
    rw [byte_eq (by omega)]
    have : List.getD s 0 0 = s.headD 0 := by cases s <;> rfl
    rw [this]; rfl
  rw [e0, e1, e2, e3]
  cases s.isEmpty <;> cases decide (s.length ≤ 9) <;> cases decide (1 < s.length) <;> cases decide (s.headD 0 = 48) <;> rfl
theorem fn213 (s : Str) (hs : s.length ≤ 1000000) : Fn P1 gl1 213 [sV s] (.tup [iV (dgX s), bV (dgB1 s)]) true := by
  refine Fn.flat ?_ rfl
  refine fn_of false [] [fb234] h91 3 Proofs.Tryz.f213 trivial ⟨⟨by kernel_rfl, by kernel_rfl, _, rfl, by kernel_rfl⟩, trivial⟩ (by kernel_rfl) rfl (by kernel_rfl) rfl rfl rfl ?_
  rw [vc213]
  try simp only [splitB_iff, -eq_self]
  simp only [dgX, dgB1, dgH, hd_eq, dg_head_cond, dg_cond, -eq_self]
  have hd0 : dgOk s = ((!s.isEmpty && decide (s.length ≤ 9) && !(decide (1 < s.length) && decide (s.headD 0 = 48))) && dgS s) := rfl
  rw [hd0]
  refine ⟨fun h1 h2 => ?_, fun hc => ?_, fun hc => ⟨⟨0, ⟨Nat.zero_le _, rfl⟩, rfl, rfl, rfl, trivial⟩, fun g hg => ⟨fun hlt => ?_, fun hge => ?_⟩⟩⟩
  · have h2 := of_decide_eq_true h2
    exact ⟨by omega, by omega⟩
  · have hc : (!s.isEmpty && decide (s.length ≤ 9) && !(decide (1 < s.length) && decide (s.headD 0 = 48))) = false := by rwa [Bool.not_eq_true'] at hc
    rw [hc]
    exact ⟨rfl, rfl, trivial⟩
  · have hlt := of_decide_eq_true hlt
    have hlt : g < s.length := by omega
    have hc : (!s.isEmpty && decide (s.length ≤ 9) && !(decide (1 < s.length) && decide (s.headD 0 = 48))) = true := by rwa [Bool.not_eq_false'] at hc
    have h9 : s.length ≤ 9 := by
      simp only [Bool.and_eq_true, decide_eq_true_eq] at hc; exact hc.1.2
    rw [hc]
    have hsn := str_snoc hlt
    refine ⟨⟨by omega, by omega⟩, fun hx => ?_, fun hx => ?_⟩
    · have hx : dgB (List.getD s g 0) = false := by simpa using hx
      have : dgS s = false := by
        cases e : dgS s with
        | false => rfl
        | true =>
          have := List.all_eq_true.1 e (List.getD s g 0) (by rw [getD_of hlt]; exact List.getElem_mem hlt)
          rw [this] at hx; cases hx
      rw [this]
      exact ⟨rfl, rfl, trivial⟩
    · have hx : dgB (List.getD s g 0) = true := by simpa using hx
      have hb := hx
      unfold dgB at hb
      simp only [Bool.and_eq_true, decide_eq_true_eq] at hb
      have hv := dgV_lt _ hg.2
      have hp : 10 ^ (List.take g s).length ≤ 10 ^ 9 := Nat.pow_le_pow_right (by omega) (by rw [List.length_take]; omega)
      have hS : dgS (List.take (g + 1) s) = true := by rw [hsn, dgS_snoc, hg.2, hx]; rfl
      have hV : dgV (List.take (g + 1) s) = 10 * dgV (List.take g s) + ((List.getD s g 0).toNat - 48) := by rw [hsn, dgV_snoc]
      refine ⟨by simp only [fits]; omega, ⟨by omega, by omega⟩, by simp only [fits]; omega, by simp only [fits]; omega, by simp only [fits]; omega, by simp only [fits]; omega, g + 1, ⟨by omega, hS⟩, by omega, by simp, ?_, rfl, trivial⟩
      rw [hV]; omega
  · have hge := of_decide_eq_false hge
    have hc : (!s.isEmpty && decide (s.length ≤ 9) && !(decide (1 < s.length) && decide (s.headD 0 = 48))) = true := by rwa [Bool.not_eq_false'] at hc
    have e : List.take g s = s := List.take_of_length_le (by have := hg.1; omega)
    have hS := hg.2
    rw [e] at hS
    rw [hc, e, hS]
    exact ⟨rfl, rfl, trivial⟩
theorem so213_ : SpecOk P1 gl1 213 sp213 := by
  intro vs ps r h hp
  simp only [sp213] at h
  split at h
  · cases h; exact fn213 _ (hp _ (.head _))
  · cases h
theorem so213 : Sp1 213 sp213 := ⟨so213_, Proofs.Tryz.f213, _, by kernel_rfl, rfl, by kernel_rfl⟩
theorem fn197 (s : Str) (hs : s.length ≤ 1000000) : Fn P1 gl1 197 [sV s] (.tup [iV (sgX s), bV (sgB1 s)]) true := by
  refine Fn.flat ?_ rfl
  refine fn_of false [(213, sp213)] [] h0 0 Proofs.Tryz.f197 ⟨so213, trivial⟩ trivial (by kernel_rfl) rfl (by kernel_rfl) rfl rfl rfl ?_
  rw [vc197]
  try simp only [splitB_iff, -eq_self]
  simp only [dgX, dgB1, sgX, sgB1, hd_eq, -eq_self]
  have bound : ∀ l : Str, fits .i64 (0 - (if dgOk l = true then (dgV l : Int) else 0)) := fun l => by
    split
    · rename_i h
      obtain ⟨hc, hl⟩ := ok_cnD h
      have := dgV_lt l hc.2.1
      have hp : 10 ^ l.length ≤ 10 ^ 9 := Nat.pow_le_pow_right (by omega) hl
      simp only [fits]; omega
    · simp only [fits]; omega
  cases s with
  | nil => exact ⟨fun h => by simp at h, fun h => by simp at h, fun _ => ⟨by simp, rfl, rfl, trivial⟩⟩
  | cons b r =>
    have e0 : List.take (List.length (b :: r) - 1) (List.drop 1 (b :: r)) = r := by simp
    have e1 : (((List.getD (b :: r) 0 0).toNat : Int) == 45) = decide (b = 45) := by rw [byte_eq (by omega)]; rfl
    have e2 : decide ((0 : Int) < (List.length (b :: r) : Int)) = true := decide_eq_true (by simp only [List.length_cons]; omega)
    rw [e0, e1, e2, cond_true]
    have hr : r.length ≤ 1000000 := by simp only [List.length_cons] at hs; omega
    refine ⟨fun _ => ⟨by omega, by simp only [List.length_cons]; omega⟩, fun h => ?_, fun h => ?_⟩
    · have h := of_decide_eq_true h
      subst h
      have q1 : sgV (45 :: r) = (if dgOk r = true then -(dgV r : Int) else 0) := by simp [sgV]
      have q2 : sgOk (45 :: r) = (dgOk r && decide (0 < dgV r)) := by simp [sgOk]
      rw [q1, q2]
      refine ⟨⟨by omega, by simp only [List.length_cons]; omega, by omega⟩, hr, bound r, ?_, ?_, trivial⟩
      · split <;> omega
      · rw [bcond_r]
        cases e : dgOk r with
        | false => rfl
        | true => simp only [Bool.true_and, if_true]; exact decide_eq_decide.2 ⟨fun h => by omega, fun h => by omega⟩
    · have h := of_decide_eq_false h
      have q1 : sgV (b :: r) = (if dgOk (b :: r) = true then (dgV (b :: r) : Int) else 0) := by simp [sgV, h]
      have q2 : sgOk (b :: r) = dgOk (b :: r) := by simp [sgOk, h]
      rw [q1, q2]
      exact ⟨hs, rfl, rfl, trivial⟩
theorem so197_ : SpecOk P1 gl1 197 sp197 := by
  intro vs ps r h hp
  simp only [sp197] at h
  split at h
  · cases h; exact fn197 _ (hp _ (.head _))
  · cases h
theorem so197 : Sp1 197 sp197 := ⟨so197_, Proofs.Tryz.f197, _, by kernel_rfl, rfl, by kernel_rfl⟩
theorem fn162   : Fn P1 gl1 162 [] (.val (.one (.frs .str [[108, 117, 109, 97], [117], [118]]))) true := by
  refine Fn.flat ?_ rfl
  refine fn_of false [] [] h0 0 Proofs.Tryz.f162 trivial trivial (by kernel_rfl) rfl (by kernel_rfl) rfl rfl rfl ?_
  rw [vc162 ()]
  try simp only [splitB_iff, -eq_self]
  exact ⟨rfl, trivial⟩
theorem so162_ : SpecOk P1 gl1 162 sp162 := by
  intro vs ps r h _
  simp only [sp162] at h
  split at h
  · cases h; exact fn162  
  · cases h
theorem so162 : Sp1 162 sp162 := ⟨so162_, Proofs.Tryz.f162, _, by kernel_rfl, rfl, by kernel_rfl⟩
theorem fn161 (s w : Str) (hs : s.length ≤ 1000000) : Fn P1 gl1 161 [sV s, sV w] (.tup [.one (.frs (.int .i64) (rdL s w)), bV (rdX s w)]) true := by
  refine Fn.flat ?_ rfl
  refine fn_of false [(92, sp92), (197, sp197)] [] h91 0 Proofs.Tryz.f161 ⟨so92, so197, trivial⟩ trivial (by kernel_rfl) rfl (by kernel_rfl) rfl rfl rfl ?_
  rw [vc161]
  try simp only [splitB_iff, -eq_self]
  have e32 : ((32 : Int).toNat.toUInt8) = 32 := rfl
  have eS : sgX = sgV := funext fun w => by unfold sgX; rw [hd_eq]
  simp only [spB, rdL, rdX, sgB1, hd_eq, e32, eS, -eq_self]
  have hL := sB_len 32 s
  have hm := sB_mem_len 32 s
  unfold rdOk rdV
  rw [← getD_headD]
  generalize sB 32 s = W at *
  have hT : (List.drop 1 W).length = W.length - 1 := by rw [List.length_drop]
  have hat : ∀ g : Nat, List.getD W ((g : Int) + 1).toNat [] = List.getD (List.drop 1 W) g [] := fun g => by
    have e : ((g : Int) + 1).toNat = 1 + g := by omega
    rw [e, List.getD_eq_getElem?_getD, List.getD_eq_getElem?_getD, List.getElem?_drop]
  refine ⟨hs, ⟨by omega, by omega⟩, ⟨by omega, by omega⟩, by omega, fun hc => ?_, fun hc => ⟨⟨0, ⟨by omega, fun j hj => absurd hj (Nat.not_lt_zero _)⟩, rfl, rfl, rfl, trivial⟩, fun g hg => ⟨fun hlt => ?_, fun hge => ?_⟩⟩⟩
  · have hc : ¬ List.getD W 0 [] = w := by simpa using hc
    rw [decide_eq_false hc]
    exact ⟨rfl, rfl, trivial⟩
  · have hc : List.getD W 0 [] = w := by simpa using hc
    have hlt := of_decide_eq_true hlt
    have hlt' : g < (List.drop 1 W).length := by omega
    rw [hat g, decide_eq_true hc]
    have hin := getD_inS hlt'
    have hb := hm _ (List.mem_of_mem_drop hin)
    refine ⟨⟨by omega, hlt⟩, by omega, by omega, fun hx => ?_, fun hx => ?_⟩
    · have hx : sgOk (List.getD (List.drop 1 W) g []) = false := by simpa using hx
      have : List.all (List.drop 1 W) sgOk = false := by
        cases e : List.all (List.drop 1 W) sgOk with
        | false => rfl
        | true => rw [List.all_eq_true.1 e _ hin] at hx; cases hx
      rw [this]
      exact ⟨rfl, rfl, trivial⟩
    · have hx : sgOk (List.getD (List.drop 1 W) g []) = true := by simpa using hx
      refine ⟨by unfold room; rw [List.length_map, List.length_take]; omega, by simp only [fits]; omega, g + 1, ⟨by omega, fun j hj => ?_⟩, by omega, by omega, ?_, rfl, trivial⟩
      · by_cases e : j = g
        · subst e; exact hx
        · exact hg.2 j (by omega)
      · rw [take_snoc hlt', List.map_append]; rfl
  · have hc : List.getD W 0 [] = w := by simpa using hc
    have hge := of_decide_eq_false hge
    have e : List.take g (List.drop 1 W) = List.drop 1 W := List.take_of_length_le (by omega)
    have ha : List.all (List.drop 1 W) sgOk = true := List.all_eq_true.2 fun x hx => by
      obtain ⟨j, hj, rfl⟩ := List.getElem_of_mem hx
      have := hg.2 j (by omega)
      rwa [getD_of hj] at this
    rw [e, ha, decide_eq_true hc]
    exact ⟨rfl, rfl, trivial⟩
theorem so161_ : SpecOk P1 gl1 161 sp161 := by
  intro vs ps r h hp
  simp only [sp161] at h
  split at h
  · cases h; exact fn161 _ _ (hp _ (.head _))
  · cases h
theorem so161 : Sp1 161 sp161 := ⟨so161_, Proofs.Tryz.f161, _, by kernel_rfl, rfl, by kernel_rfl⟩
theorem fin_parts (s : Str) : finP s 3 = if partsE (numsAt s 0, numsAt s 1, numsAt s 2) ≠ 0 then (([], [], []), 3, 3)
    else if chkPt (partsP (numsAt s 0, numsAt s 1, numsAt s 2)).1 (partsP (numsAt s 0, numsAt s 1, numsAt s 2)).2.1 (partsP (numsAt s 0, numsAt s 1, numsAt s 2)).2.2 ≠ 0 then (([], [], []), 3, chkPt (partsP (numsAt s 0, numsAt s 1, numsAt s 2)).1 (partsP (numsAt s 0, numsAt s 1, numsAt s 2)).2.1 (partsP (numsAt s 0, numsAt s 1, numsAt s 2)).2.2)
    else (partsP (numsAt s 0, numsAt s 1, numsAt s 2), 0, 0) := by
  rw [fin_three]
  have hE : (((numsAt s 0).any lgI || ((numsAt s 1).any lgI || (numsAt s 2).any lgI)) = true) ↔ partsE (numsAt s 0, numsAt s 1, numsAt s 2) ≠ 0 := by
    unfold partsE lgE
    cases (numsAt s 0).any lgI <;> cases (numsAt s 1).any lgI <;> cases (numsAt s 2).any lgI <;> decide
  by_cases h : ((numsAt s 0).any lgI || ((numsAt s 1).any lgI || (numsAt s 2).any lgI)) = true
  · rw [if_pos h, if_pos (hE.1 h)]
  · rw [if_neg h, if_neg (fun e => h (hE.2 e))]
    have h0 : partsE (numsAt s 0, numsAt s 1, numsAt s 2) = 0 := Decidable.not_not.1 fun e => h (hE.2 e)
    simp only [Bool.or_eq_true, not_or, Bool.not_eq_true] at h
    have e : partsP (numsAt s 0, numsAt s 1, numsAt s 2) = (sixL s 0, sixL s 1, sixL s 2) := by
      unfold partsP
      rw [if_pos h0]
      unfold smpsN sixL
      simp only [h.1, h.2.1, h.2.2]
      rfl
    rw [e]
theorem hdW_of (g : Nat) : List.getD [[108, 117, 109, 97], [117], [118]] g [] = hdW g := rfl
theorem fn91 (s : Str) (hs : s.length ≤ 1000000) : Fn P1 gl1 91 [sV s] (.tup [pV (prsH s).1, iV (prsH s).2.1, iV (prsH s).2.2]) false := by
  refine fn_of false [(92, sp92), (162, sp162), (161, sp161), (114, sp114), (23, sp23)] [] h91 0 Proofs.Tryz.f91 ⟨so92, so162, so161, so114, so23, trivial⟩ trivial (by kernel_rfl) rfl (by kernel_rfl) rfl rfl rfl ?_
  rw [vc91]
  try simp only [splitB_iff, -eq_self]
  have e10 : ((10 : Int).toNat.toUInt8) = 10 := rfl
  have eL : ∀ (l w : Str), rdL l w = if rdOk l w = true then rdV l else [] := fun l w => by unfold rdL; rw [hd_eq]
  simp only [spB, rdX, prsH, hd_eq, e10, -eq_self]
  have hlen := sB_len 10 s
  have hlast : lnsN s = (sB 10 s).length - 1 := rfl
  have hat : ∀ j, List.getD (sB 10 s) j [] = lnAt s j := fun j => rfl
  have hml : ∀ j, j < (sB 10 s).length → (lnAt s j).length ≤ 1000000 := fun j hj => by
    have := sB_mem_len 10 s _ (getD_inS hj)
    rw [hat j] at this; omega
  simp only [hat, -eq_self]
  refine ⟨fun h => ?_, fun h => ?_⟩
  · have h := of_decide_eq_true h
    rw [prs_long (by omega)]
    exact ⟨rfl, rfl, rfl, rfl, rfl, trivial⟩
  have h := of_decide_eq_false h
  have hs4 : s.length ≤ 4096 := by omega
  refine ⟨hs, ⟨by omega, by omega⟩, by simp only [fits]; omega, ⟨0, ⟨by omega, fun j hj => absurd hj (Nat.not_lt_zero _)⟩, rfl, rfl, rfl, rfl, rfl, rfl, trivial⟩, fun g hg => ⟨fun hlt => ?_, fun hge => ?_⟩⟩
  · have hlt := of_decide_eq_true hlt
    have hgl : g < lnsN s := by omega
    have hR : preR s g := hg.2
    refine ⟨fun h2 => ?_, fun h2 => ?_⟩
    · have h2 := of_decide_eq_true h2
      rw [ref_bad hs4 hR hgl (fun e => by have := e.1; omega)]
      exact ⟨rfl, rfl, rfl, rfl, rfl, trivial⟩
    · have h2 := of_decide_eq_false h2
      have hm := hml g (by omega)
      simp only [hdW_of, -eq_self]
      refine ⟨⟨by omega, by omega⟩, by omega, ⟨by omega, by omega⟩, by omega, hm, fun hx => ?_, fun hx => ?_⟩
      · have hx : rdOk (lnAt s g) (hdW g) = false := by simpa using hx
        rw [ref_bad hs4 hR hgl (fun e => by rw [hx] at e; cases e.2)]
        exact ⟨rfl, rfl, rfl, rfl, rfl, trivial⟩
      · have hx : rdOk (lnAt s g) (hdW g) = true := by simpa using hx
        refine ⟨by unfold room tab; rw [List.length_map, List.length_range]; omega, by simp only [fits]; omega, g + 1, ⟨by omega, fun j hj => ?_⟩, by omega, by simp, rfl, rfl, rfl, ?_, rfl, trivial⟩
        · by_cases e : j = g
          · subst e; exact ⟨by omega, hx⟩
          · exact hR j (by omega)
        · unfold tab
          rw [List.range_succ, List.map_append]; rfl
  · have hge := of_decide_eq_false hge
    have hgl : g = lnsN s := by have := hg.1; omega
    have hR : preR s (lnsN s) := hgl ▸ hg.2
    have eq4 : ((List.length (sB 10 s) : Int) - 1) = (lnsN s : Int) := by omega
    have eq5 : ((lnsN s : Int)).toNat = lnsN s := by omega
    rw [eq4, eq5]
    refine ⟨⟨by omega, by omega⟩, by omega, fun hx => ?_, fun hx => ?_⟩
    · have hx : lnAt s (lnsN s) ≠ [] := by simpa using hx
      rw [ref_open hs4 hR hx]
      exact ⟨rfl, rfl, rfl, rfl, rfl, trivial⟩
    have hx : lnAt s (lnsN s) = [] := by simpa using hx
    rw [ref_end hs4 hR hx]
    refine ⟨fun h3 => ?_, fun h3 => ?_⟩
    · have h3 := of_decide_eq_true h3
      rw [fin_few (by omega)]
      exact ⟨rfl, rfl, rfl, rfl, rfl, trivial⟩
    have h3 := of_decide_eq_false h3
    have hn3 : lnsN s = 3 := by
      have := preA_le s _ (preR_A hR (Nat.le_refl _))
      omega
    rw [hn3] at hgl hR ⊢
    subst hgl
    have hrow : ∀ i, i < 3 → List.getD (tab 3 fun j => rdL (lnAt s j) (hdW j)) i [] = numsAt s i := fun i hi => by
      rw [ref_nums hR (by omega) hi, tab_get hi, eL, if_pos (hR i hi).2]
    have hlen3 : (tab 3 fun j => rdL (lnAt s j) (hdW j)).length = 3 := by unfold tab; simp
    rw [hrow 0 (by omega), hrow 1 (by omega), hrow 2 (by omega), hlen3, fin_parts]
    have hN := nums_len s
    have n0 := hN 0
    have n1 := hN 1
    have n2 := hN 2
    refine ⟨⟨by omega, by omega⟩, by omega, ⟨by omega, by omega⟩, by omega, ⟨by omega, by omega⟩, by omega, by omega, by omega, by omega, fun hy => ?_, fun hy => ?_⟩
    · have hy := bneZ.1 hy
      rw [if_pos hy]
      exact ⟨rfl, rfl, rfl, rfl, rfl, trivial⟩
    · have hy := bneF.1 hy
      rw [if_neg (fun e => e hy)]
      refine ⟨?_, fun hz => ?_, fun hz => ?_⟩
      · have := (partsP_len (numsAt s 0, numsAt s 1, numsAt s 2)).1
        exact Nat.le_trans this (by show (numsAt s 0).length ≤ _; omega)
      · have hz := bneZ.1 hz
        rw [if_pos hz]
        exact ⟨rfl, rfl, rfl, rfl, rfl, trivial⟩
      · have hz := bneF.1 hz
        rw [if_neg (fun e => e hz)]
        exact ⟨rfl, rfl, rfl, rfl, rfl, trivial⟩
theorem so91_ : SpecOk P1 gl1 91 sp91 := by
  intro vs ps r h hp
  simp only [sp91] at h
  split at h
  · cases h; exact fn91 _ (hp _ (.head _))
  · cases h
theorem so91 : Sp1 91 sp91 := ⟨so91_, Proofs.Tryz.f91, _, by kernel_rfl, rfl, by kernel_rfl⟩
theorem itoa_small {n : Int} (h0 : 0 ≤ n) (h : n < 10) : Lib.itoa n = [UInt8.ofNat (48 + n.toNat)] := by
  unfold Lib.itoa
  rw [if_neg (by omega), Lib.decDigits_one (by omega)]
theorem itoa_big {n : Int} (h : 10 ≤ n) : Lib.itoa n = Lib.itoa (n / 10) ++ [UInt8.ofNat (48 + (n % 10).toNat)] := by
  unfold Lib.itoa
  rw [if_neg (by omega), if_neg (by omega), Lib.decDigits, dif_neg (by omega)]
  have e1 : n.toNat / 10 = (n / 10).toNat := by omega
  have e2 : n.toNat % 10 = (n % 10).toNat := by omega
  rw [e1, e2]
theorem itoa_neg {n : Int} (h : n < 0) : Lib.itoa n = 45 :: Lib.itoa (-n) := by
  unfold Lib.itoa
  rw [if_pos h, if_neg (by omega)]
  have e : n.natAbs = (-n).toNat := by omega
  rw [e]
theorem itoa_len21 (n : Int) (h : fits .i64 n) : (Lib.itoa n).length ≤ 21 := Lib.itoa_length_le n h.1 h.2
theorem pow_le' {k : Nat} (hk : k ≤ 10) : (10 : Int) ^ k ≤ 10000000000 := by
  match k, hk with
  | 0, _ => decide
  | 1, _ => decide
  | 2, _ => decide
  | 3, _ => decide
  | 4, _ => decide
  | 5, _ => decide
  | 6, _ => decide
  | 7, _ => decide
  | 8, _ => decide
  | 9, _ => decide
  | 10, _ => decide
theorem pow_pos' : ∀ k : Nat, (1 : Int) ≤ 10 ^ k
  | 0 => by decide
  | k + 1 => by
    have := pow_pos' k
    have e : (10 : Int) ^ (k + 1) = 10 ^ k * 10 := Int.pow_succ ..
    omega
theorem tdq {n : Int} (h : n < 0) : Int.tdiv n 10 = -(-n / 10) ∧ Int.tmod n 10 = -(-n % 10) := by
  obtain ⟨m, rfl⟩ : ∃ m, n = -m := ⟨-n, by omega⟩
  rw [Int.neg_tdiv, Int.neg_tmod, Int.neg_neg, Int.tdiv_eq_ediv_of_nonneg (by omega), Int.tmod_eq_emod_of_nonneg (by omega)]
  exact ⟨rfl, rfl⟩
theorem bytes_dg {n : Int} (h : 0 ≤ n) (h2 : n < 10) : bytesOf [(48 + n) % 256] = [UInt8.ofNat (48 + n.toNat)] := by
  have e : ((48 + n) % 256).toNat = 48 + n.toNat := by omega
  show [UInt8.ofNat ((48 + n) % 256).toNat] = _
  rw [e]
theorem fn196s (k : Nat) (n : Int) (hT : Sp1 196 (spT k)) (hk : k ≤ 9) (hn : okT (k + 1) n) : Fn P1 gl1 196 [iV n] (.val (sV (itH n))) true := by
  refine Fn.flat ?_ rfl
  refine fn_of true [(196, spT k)] [] h0 0 Proofs.Tryz.f196 ⟨hT, trivial⟩ trivial (by kernel_rfl) rfl (by kernel_rfl) rfl rfl rfl ?_
  rw [vc196s]
  try simp only [splitB_iff, -eq_self]
  simp only [itH, hd_eq, -eq_self]
  have hb := pow_le' (k := k) (by omega)
  have hb1 := pow_le' (k := k + 1) (by omega)
  obtain ⟨_, hn1, hn2⟩ := hn
  have hn2 : -(10 ^ k) < n := hn2
  have hp : (1 : Int) ≤ 10 ^ k := pow_pos' k
  have hs1 : (10 : Int) ^ (k + 1) = 10 ^ k * 10 := Int.pow_succ ..
  have hk1 : k = 0 ∨ (1 ≤ k ∧ (10 : Int) ^ k = 10 ^ (k - 1) * 10 ∧ (1 : Int) ≤ 10 ^ (k - 1)) := by
    cases k with
    | zero => exact .inl rfl
    | succ j => exact .inr ⟨by omega, Int.pow_succ .., pow_pos' j⟩
  have hz : k = 0 → (10 : Int) ^ k = 1 := fun e => by rw [e]; rfl
  refine ⟨fun h => ⟨fun h2 => ?_, fun h2 => ?_⟩, fun h => ⟨fun h2 => ?_, fun h2 => ?_⟩⟩
  · have h := of_decide_eq_true h
    have h2 := of_decide_eq_true h2
    have e : IntKind.wrap .i64 (0 - n) = -n := by rw [fitw (by omega)]; omega
    rw [e]
    have hl := itoa_len21 (-n) (by simp only [fits]; omega)
    refine ⟨⟨?_, ?_, ?_⟩, ?_, (itoa_neg h).symm, trivial⟩
    · omega
    · rcases hk1 with h0 | ⟨_, h3, h4⟩
      · have := hz h0; omega
      · omega
    · rcases hk1 with h0 | ⟨_, h3, h4⟩
      · have := hz h0; omega
      · omega
    · show 1 + (Lib.itoa (-n)).length ≤ _; omega
  · have h := of_decide_eq_true h
    have h2 := of_decide_eq_false h2
    obtain ⟨t1, t2⟩ := tdq h
    rw [t1, t2]
    have e : IntKind.wrap .i64 (0 - -(-n % 10)) = -n % 10 := by rw [fitw (by omega)]; omega
    rw [e]
    obtain ⟨h3, h4, h5⟩ : 1 ≤ k ∧ (10 : Int) ^ k = 10 ^ (k - 1) * 10 ∧ (1 : Int) ≤ 10 ^ (k - 1) := by
      rcases hk1 with h0 | h3
      · have := hz h0; omega
      · exact h3
    have hl := itoa_len21 (-(-n / 10)) (by simp only [fits]; omega)
    have hl2 := itoa_len21 (-n % 10) (by simp only [fits]; omega)
    refine ⟨⟨by decide, by simp only [fits]; omega⟩, ⟨h3, by omega, by omega⟩, by decide, ⟨h3, by omega, by omega⟩, by omega, ?_, trivial⟩
    rw [itoa_neg h, itoa_big (n := -n) (by omega), itoa_neg (n := -(-n / 10)) (by omega), itoa_small (n := -n % 10) (by omega) (by omega), Int.neg_neg]
    rfl
  · have h := of_decide_eq_false h
    have h2 := of_decide_eq_true h2
    have e : IntKind.wrap .i64 (48 + n) = 48 + n := fitw (by omega)
    rw [e, itoa_small (by omega) h2]
    exact ⟨bytes_dg (by omega) h2, trivial⟩
  · have h := of_decide_eq_false h
    have h2 := of_decide_eq_false h2
    have t1 : Int.tdiv n 10 = n / 10 := Int.tdiv_eq_ediv_of_nonneg (by omega)
    have t2 : Int.tmod n 10 = n % 10 := Int.tmod_eq_emod_of_nonneg (by omega)
    rw [t1, t2]
    have e : IntKind.wrap .i64 (48 + n % 10) = 48 + n % 10 := fitw (by omega)
    rw [e, bytes_dg (n := n % 10) (by omega) (by omega)]
    obtain ⟨h3, h4, h5⟩ : 1 ≤ k ∧ (10 : Int) ^ k = 10 ^ (k - 1) * 10 ∧ (1 : Int) ≤ 10 ^ (k - 1) := by
      rcases hk1 with h0 | h3
      · have := hz h0; omega
      · exact h3
    have hl := itoa_len21 (n / 10) (by simp only [fits]; omega)
    exact ⟨⟨by decide, by simp only [fits]; omega⟩, ⟨h3, by omega, by omega⟩, by decide, by simp only [List.length_cons, List.length_nil]; omega, (itoa_big (by omega)).symm, trivial⟩
theorem text_ok : ∀ k, k ≤ 10 → Sp1 196 (spT k)
  | 0, _ => by
    refine ⟨fun vs ps r h hp => ?_, Proofs.Tryz.f196, _, by kernel_rfl, rfl, by kernel_rfl⟩
    simp only [spT] at h
    split at h
    · cases h
      have := (hp _ (.head _)).1
      omega
    · cases h
  | k + 1, hk => by
    refine ⟨fun vs ps r h hp => ?_, Proofs.Tryz.f196, _, by kernel_rfl, rfl, by kernel_rfl⟩
    simp only [spT] at h
    split at h
    · cases h
      exact fn196s k _ (text_ok k (by omega)) (by omega) (hp _ (.head _))
    · cases h
noncomputable def sp196 : FSpec := ⟨fun vs => match vs with
  | [.one (.int .i64 n)] => some ([-999999 ≤ n ∧ n ≤ 999999], .val (.one (.str (itH n))))
  | _ => none, true⟩
theorem so196 : Sp1 196 sp196 := by
  refine ⟨fun vs ps r h hp => ?_, Proofs.Tryz.f196, _, by kernel_rfl, rfl, by kernel_rfl⟩
  simp only [sp196] at h
  split at h
  · cases h
    have h1 := hp _ (.head _)
    exact (text_ok 10 (Nat.le_refl _)).1 [_] [okT 10 _] _ rfl (fun p h => by
      rcases List.mem_cons.1 h with rfl | h
      · exact ⟨by omega, by omega, by omega⟩
      · cases h)
  · cases h
end Go.Sx

namespace Go.Sx
open U
end Go.Sx
namespace Go.Sx
open U
noncomputable def sp160 : FSpec := ⟨fun vs => match vs with
  | [.one (.str w), .one (.sl (.flt .f32) l)] => some ([List.length l ≤ 1000, OkS l, List.length w ≤ 100], .val (sV (lnH w l)))
  | _ => none, true⟩
noncomputable def sp90 : FSpec := ⟨fun vs => match vs with
  | [.agg [.one (.sl (.flt .f32) y), .one (.sl (.flt .f32) u), .one (.sl (.flt .f32) v)]] => some ([chkPt y u v = 0], .val (sV (prtH y u v)))
  | _ => none, true⟩
end Go.Sx

namespace Go.Sx
open U
theorem vc160 (w : Str) (l : List Nat) : exF (env false [(100, sp100), (196, sp196)] []) h91 0 160 Proofs.Tryz.f160 [sV w, .one (.sl (.flt .f32) l)] (.val (sV (lnH w l))) = (let q0 := (ByteArray.data { data := #[(32 : UInt8)] }); let q1 := (List.length (sixs l)); let q3 := (9223372036854775807 : Nat); List.length l ≤ (1000000 : Nat) ∧ OkS l ∧ (∃ (g : Nat), Nat.le g q1 ∧ (0 : Int) = (↑g : Int) ∧ w = jnH w (List.take g (sixs l)) ∧ sixs l = sixs l ∧ True) ∧ ∀ (g : Nat), let q2 := (List.take g (sixs l)); Nat.le g q1 → splitB (decide ((↑g : Int) < (↑q1 : Int))) (List.length (jnH w q2) + List.length (Array.toList q0) ≤ q3 ∧ ((0 : Int) ≤ (↑g : Int) ∧ (↑g : Int) < (↑q1 : Int)) ∧ g < List.length (sixs l) ∧ ((-999999 : Int) ≤ List.getD (sixs l) g (0 : Int) ∧ List.getD (sixs l) g (0 : Int) ≤ (999999 : Int)) ∧ List.length (jnH w q2 ++ Array.toList q0) + List.length (itH (List.getD (sixs l) g (0 : Int))) ≤ q3 ∧ fits IntKind.i64 ((↑g : Int) + (1 : Int)) ∧ ∃ (g' : Nat), Nat.le g' q1 ∧ List.length (sixs l) - g' < List.length (sixs l) - g ∧ (↑g : Int) + (1 : Int) = (↑g' : Int) ∧ jnH w q2 ++ Array.toList q0 ++ itH (List.getD (sixs l) g (0 : Int)) = jnH w (List.take g' (sixs l)) ∧ sixs l = sixs l ∧ True) (List.length (jnH w q2) + List.length (Array.toList (ByteArray.data { data := #[(10 : UInt8)] })) ≤ q3 ∧ jnH w q2 ++ Array.toList (ByteArray.data { data := #[(10 : UInt8)] }) = lnH w l ∧ True)) := by
  kernel_rfl
theorem vc90 (y u v : List Nat) : exF (env false [(160, sp160)] []) h0 0 90 Proofs.Tryz.f90 [ptV y u v] (.val (sV (prtH y u v))) = (List.length y ≤ (1000 : Nat) ∧ OkS y ∧ List.length (Array.toList (ByteArray.data { data := #[(108 : UInt8), (117 : UInt8), (109 : UInt8), (97 : UInt8)] })) ≤ (100 : Nat) ∧ List.length u ≤ (1000 : Nat) ∧ OkS u ∧ List.length (Array.toList (ByteArray.data { data := #[(117 : UInt8)] })) ≤ (100 : Nat) ∧ List.length (lnH (Array.toList (ByteArray.data { data := #[(108 : UInt8), (117 : UInt8), (109 : UInt8), (97 : UInt8)] })) y) + List.length (lnH (Array.toList (ByteArray.data { data := #[(117 : UInt8)] })) u) ≤ (9223372036854775807 : Nat) ∧ List.length v ≤ (1000 : Nat) ∧ OkS v ∧ List.length (Array.toList (ByteArray.data { data := #[(118 : UInt8)] })) ≤ (100 : Nat) ∧ List.length (lnH (Array.toList (ByteArray.data { data := #[(108 : UInt8), (117 : UInt8), (109 : UInt8), (97 : UInt8)] })) y ++ lnH (Array.toList (ByteArray.data { data := #[(117 : UInt8)] })) u) + List.length (lnH (Array.toList (ByteArray.data { data := #[(118 : UInt8)] })) v) ≤ (9223372036854775807 : Nat) ∧ lnH (Array.toList (ByteArray.data { data := #[(108 : UInt8), (117 : UInt8), (109 : UInt8), (97 : UInt8)] })) y ++ lnH (Array.toList (ByteArray.data { data := #[(117 : UInt8)] })) u ++ lnH (Array.toList (ByteArray.data { data := #[(118 : UInt8)] })) v = prtH y u v ∧ True) := by
  kernel_rfl
end Go.Sx

namespace Go.Sx
open U
theorem join_snoc (w x : Str) (r : List Str) : Lib.join (w :: (r ++ [x])) [32] = Lib.join (w :: r) [32] ++ [32] ++ x := by
  rw [Lib.join_cons, Lib.join_cons]
  simp [Lib.joinTail]
theorem lineW_len (w : Str) {l : List Nat} (hs : OkS l) : (lineW w l).length ≤ w.length + 9 * l.length + 1 := by
  have h := line_len w (bd_le (bd_sixs hs) (show (16384 : Int) ≤ 1000000 by decide))
  rw [sixs_len] at h
  have e : lineW w l = Lib.join ([w] ++ (sixs l).map Lib.itoa) [32] ++ [10] := rfl
  rw [e, List.length_append, List.length_singleton]; omega
theorem prtN_len {y u v : List Nat} (h : chkPt y u v = 0) : (prtN y u v).length ≤ 4096 ∧ y.length ≤ 256 ∧ u.length ≤ 64 ∧ v.length ≤ 64 ∧ OkS y ∧ OkS u ∧ OkS v := by
  obtain ⟨h1, h2, h3, h4, h5⟩ := chkPt_zero.1 h
  obtain ⟨k1, k2, k3⟩ := chkSig_zero.1 h1
  refine ⟨?_, k1, by omega, by omega, k3, h4, h5⟩
  have q1 := lineW_len [108, 117, 109, 97] k3
  have q2 := lineW_len [117] h4
  have q3 := lineW_len [118] h5
  unfold prtN
  simp only [List.length_append, List.length_cons, List.length_nil] at q1 q2 q3 ⊢
  omega
theorem fn160 (w : Str) (l : List Nat) (hl : l.length ≤ 1000) (hs : OkS l) (hw : w.length ≤ 100) : Fn P1 gl1 160 [sV w, .one (.sl (.flt .f32) l)] (.val (sV (lnH w l))) true := by
  refine Fn.flat ?_ rfl
  refine fn_of false [(100, sp100), (196, sp196)] [] h91 0 Proofs.Tryz.f160 ⟨so100, so196, trivial⟩ trivial (by kernel_rfl) rfl (by kernel_rfl) rfl rfl rfl ?_
  rw [vc160]
  try simp only [splitB_iff, -eq_self]
  simp only [jnH, lnH, itH, hd_eq, -eq_self]
  have hB := bd_sixs hs
  have hlen := sixs_len l
  have hjl : ∀ g, (Lib.join (w :: (List.take g (sixs l)).map Lib.itoa) [32]).length ≤ 100 + 9 * 1000 := fun g => by
    have h := line_len w (l := List.take g (sixs l)) (fun n hn => by have := hB n (List.mem_of_mem_take hn); omega)
    have : (List.take g (sixs l)).length ≤ 1000 := by rw [List.length_take]; omega
    exact Nat.le_trans h (by omega)
  refine ⟨by omega, hs, ⟨0, Nat.zero_le _, rfl, (Lib.join_one w [32]).symm, rfl, trivial⟩, fun g hg => ⟨fun hlt => ?_, fun hge => ?_⟩⟩
  · have hlt := of_decide_eq_true hlt
    have hlt : g < (sixs l).length := by omega
    have hj := hjl g
    have hx := hB _ (getD_mem' (d := 0) hlt)
    have hi := Lib.itoa_length_le (List.getD (sixs l) g 0) (by omega) (by omega)
    refine ⟨by simp only [List.length_cons, List.length_nil]; omega, ⟨by omega, by omega⟩, hlt, ⟨by omega, by omega⟩, by simp only [List.length_append, List.length_cons, List.length_nil]; omega, by simp only [fits]; omega, g + 1, Nat.succ_le_of_lt hlt, by omega, by simp, ?_, rfl, trivial⟩
    have e : List.take (g + 1) (sixs l) = List.take g (sixs l) ++ [List.getD (sixs l) g 0] := by
      rw [List.take_add_one]
      have : (sixs l)[g]? = some (List.getD (sixs l) g 0) := by rw [List.getD_eq_getElem?_getD, List.getElem?_eq_getElem hlt]; rfl
      rw [this]; rfl
    rw [e, List.map_append, List.map_cons, List.map_nil, join_snoc]
  · have hge := of_decide_eq_false hge
    have e : List.take g (sixs l) = sixs l := List.take_of_length_le (by omega)
    have hj := hjl g
    rw [e] at hj ⊢
    exact ⟨by simp only [List.length_cons, List.length_nil]; omega, rfl, trivial⟩
theorem so160_ : SpecOk P1 gl1 160 sp160 := by
  intro vs ps r h hp
  simp only [sp160] at h
  split at h
  · cases h; exact fn160 _ _ (hp _ (.head _)) (hp _ (.tail _ (.head _))) (hp _ (.tail _ (.tail _ (.head _))))
  · cases h
theorem so160 : Sp1 160 sp160 := ⟨so160_, Proofs.Tryz.f160, _, by kernel_rfl, rfl, by kernel_rfl⟩
theorem fn90 (y u v : List Nat) (h : chkPt y u v = 0) : Fn P1 gl1 90 [ptV y u v] (.val (sV (prtH y u v))) true := by
  refine Fn.flat ?_ rfl
  refine fn_of false [(160, sp160)] [] h0 0 Proofs.Tryz.f90 ⟨so160, trivial⟩ trivial (by kernel_rfl) rfl (by kernel_rfl) rfl rfl rfl ?_
  rw [vc90]
  try simp only [splitB_iff, -eq_self]
  simp only [lnH, prtH, hd_eq, -eq_self]
  obtain ⟨_, h1, h2, h3, h4, h5, h6⟩ := prtN_len h
  have q1 := lineW_len [108, 117, 109, 97] h4
  have q2 := lineW_len [117] h5
  have q3 := lineW_len [118] h6
  simp only [List.length_append, List.length_cons, List.length_nil] at q1 q2 q3 ⊢
  exact ⟨by omega, h4, by decide, by omega, h5, by decide, by omega, by omega, h6, by decide, by omega, rfl, trivial⟩
theorem so90_ : SpecOk P1 gl1 90 sp90 := by
  intro vs ps r h hp
  simp only [sp90] at h
  split at h
  · cases h; exact fn90 _ _ _ (hp _ (.head _))
  · cases h
theorem so90 : Sp1 90 sp90 := ⟨so90_, Proofs.Tryz.f90, _, by kernel_rfl, rfl, by kernel_rfl⟩
end Go.Sx

namespace Go.Sx.U
noncomputable def prH (y u v : List Nat) : Str := hd (prN y u v)
end Go.Sx.U
namespace Go.Sx
open U
noncomputable def sp88n : FSpec := ⟨fun vs => match vs with
  | [.agg [.one (.sl (.flt .f32) y), .one (.sl (.flt .f32) u), .one (.sl (.flt .f32) v)]] => some ([List.length y ≤ 1000000000], .tup [sV (prH y u v), iV (chkPt y u v)])
  | _ => none, true⟩
noncomputable def sp89n : FSpec := ⟨fun vs => match vs with
  | [.one (.str s)] => some ([List.length s ≤ 1000000], .tup [pV (prsH s).1, iV (prsH s).2.1, iV (prsH s).2.2])
  | _ => none, false⟩
end Go.Sx

namespace Go.Sx
open U
theorem vc16 (y u v : List Nat) (s : Str) : exF (env false [(18, sp18), (19, sp19), (21, sp21), (88, sp88n), (89, sp89n), (23, sp23), (90, sp90), (91, sp91), (46, sp46), (45, sp45)] []) h0 0 16 Proofs.Tryz.f16 [ptV y u v, sV s] (.val (bV true)) = (let q0 := (bif prH y u v == Array.toList (ByteArray.data { data := #[] }) then chkPt y u v == chkPt y u v else false); let q1 := (bif prH y u v == prtH y u v then chkPt y u v == chkPt y u v else false); let q2 := ((prsH s).1.1, (prsH s).1.2.1, (prsH s).1.2.2); let q3 := (1000000000 : Nat); let q4 := (1000000 : Nat); splitB (bif !shortP y u v then true else bif decide ((300 : Int) < (↑(List.length s) : Int)) then (↑(List.length s) : Int) != (4097 : Int) else false) (true = true ∧ True) (List.length y ≤ q4 ∧ List.length u ≤ q4 ∧ List.length v ≤ q4 ∧ List.length y ≤ q3 ∧ List.length s ≤ q4 ∧ List.length y ≤ q3 ∧ splitB (chkPt y u v == (0 : Int)) (chkPt y u v = (0 : Int) ∧ List.length s ≤ q4 ∧ (q1 = true → List.length (prsH s).1.1 ≤ q3) ∧ (q1 = true → List.length (prsH s).1.2.1 ≤ q3) ∧ (q1 = true → List.length (prsH s).1.2.2 ≤ q3) ∧ (bif bif bif bif bif prH y u v == prtH y u v then chkPt y u v == chkPt y u v else false then sameP q2 q2 else false then (prsH s).2.1 == (prsH s).2.1 else false then (prsH s).2.2 == (prsH s).2.2 else false then true else false) = true ∧ True) (List.length s ≤ q4 ∧ (q0 = true → List.length (prsH s).1.1 ≤ q3) ∧ (q0 = true → List.length (prsH s).1.2.1 ≤ q3) ∧ (q0 = true → List.length (prsH s).1.2.2 ≤ q3) ∧ (bif bif bif bif bif prH y u v == Array.toList (ByteArray.data { data := #[] }) then chkPt y u v == chkPt y u v else false then sameP q2 q2 else false then (prsH s).2.1 == (prsH s).2.1 else false then (prsH s).2.2 == (prsH s).2.2 else false then true else false) = true ∧ True))) := by
  kernel_rfl
end Go.Sx

namespace Go.Sx
open U
theorem so88n : Sp1 88 sp88n := by
  refine ⟨fun vs ps r h hp => ?_, Proofs.Tryz.f88, _, by kernel_rfl, rfl, by kernel_rfl⟩
  simp only [sp88n] at h
  split at h
  · cases h
    unfold prH; rw [hd_eq]
    exact fn88 _ _ _ (hp _ (.head _))
  · cases h
theorem so89n : Sp1 89 sp89n := by
  refine ⟨fun vs ps r h hp => ?_, Proofs.Tryz.f89, _, by kernel_rfl, rfl, by kernel_rfl⟩
  simp only [sp89n] at h
  split at h
  · cases h
    unfold prsH; rw [hd_eq]
    exact fn89 _ (hp _ (.head _))
  · cases h
theorem fn16 (y u v : List Nat) (s : Str) (hs : s.length ≤ 9223372036854775807) : Fn P1 gl1 16 [ptV y u v, sV s] (.val (bV true)) true := by
  refine Fn.flat ?_ rfl
  refine fn_of false [(18, sp18), (19, sp19), (21, sp21), (88, sp88n), (89, sp89n), (23, sp23), (90, sp90), (91, sp91), (46, sp46), (45, sp45)] [] h0 0 Proofs.Tryz.f16 ⟨so18, so19, so21, so88n, so89n, so23, so90, so91, so46, so45, trivial⟩ trivial (by kernel_rfl) rfl (by kernel_rfl) rfl rfl rfl ?_
  rw [vc16]
  try simp only [splitB_iff, -eq_self]
  simp only [prH, prtH, prsH, hd_eq, -eq_self]
  have hsame : sameP ((prsN s).1.1, (prsN s).1.2.1, (prsN s).1.2.2) ((prsN s).1.1, (prsN s).1.2.1, (prsN s).1.2.2) = true := prs_same s
  have hl := prs_lens s
  rw [hsame]
  refine ⟨fun _ => ⟨rfl, trivial⟩, fun h => ?_⟩
  rw [bcond_l, bcond_r, Bool.or_eq_false_iff, Bool.not_eq_false', Bool.and_eq_false_iff] at h
  have hs1 : s.length ≤ 1000000 := by
    rcases h.2 with h2 | h2
    · have := of_decide_eq_false h2; omega
    · have : (s.length : Int) = 4097 := by simpa using h2
      omega
  have hp := shortP_len h.1
  refine ⟨by omega, by omega, by omega, by omega, hs1, by omega, fun hc => ?_, fun hc => ?_⟩
  · have hc : chkPt y u v = 0 := by simpa using hc
    have e : prN y u v = prtN y u v := by unfold prN; rw [if_pos hc]
    rw [e]
    exact ⟨hc, hs1, fun _ => by omega, fun _ => by omega, fun _ => by omega, by simp, trivial⟩
  · have hc : ¬ chkPt y u v = 0 := by simpa using hc
    have e : prN y u v = [] := by unfold prN; rw [if_neg hc]
    rw [e]
    exact ⟨hs1, fun _ => by omega, fun _ => by omega, fun _ => by omega, by simp, trivial⟩
end Go.Sx

namespace Go.Sx
open Go.RowKit
def WF : (t : Ty) → t.T → Prop
  | .int k, n => (Lit.int k n).wf = true
  | .bool, _ => True
  | .str, l => List.length l ≤ maxLen
  | .flt k, n => (Lit.float k n).wf = true
  | .cpx _, _ => True
  | .fnp, _ => True
  | .opq _, _ => True
  | .sl t, xs => List.length xs ≤ maxLen ∧ ∀ i (h : i < List.length xs), WF t (xs[i]'h)
  | .arr n t, xs => List.length xs = n ∧ ∀ i (h : i < List.length xs), WF t (xs[i]'h)
  | .pair a b, x => WF a x.1 ∧ WF b x.2
mutual
def rdChk (P : Program) : Nat → TypeId → Ty → Bool
  | 0, _, _ => false
  | n + 1, t, u => match P.underlying t with
      | some (.int k) => decide (u = .int k)
      | some .bool => decide (u = .bool)
      | some .string => decide (u = .str)
      | some (.float k) => decide (u = .flt k)
      | some (.slice e) => match u with
        | .sl v => decide (P.cellsOf e = v.sz) && decide (v.sz ≠ 0) && rdChk P n e v
        | _ => false
      | some (.array m e) => match u with
        | .arr m' v => decide (m = m') && decide (P.cellsOf e = v.sz) && decide (P.cellsOf t = m * v.sz) && rdChk P n e v
        | _ => false
      | some (.struct fs) => decide (P.cellsOf t = u.sz) && rdFs P n 0 fs.toList u
      | _ => false
def rdFs (P : Program) : Nat → Nat → List Field → Ty → Bool
  | 0, _, _, _ => false
  | n + 1, off, [f], u => decide (f.offset = off) && decide (P.cellsOf f.type = u.sz) && rdChk P n f.type u
  | n + 1, off, f :: r, .pair a b => decide (f.offset = off) && decide (P.cellsOf f.type = a.sz) && rdChk P n f.type a && rdFs P n (off + a.sz) r b
  | _, _, _, _ => false
end
def HW (w : World) : IH := fun b => w.heap[b]?
theorem addp (b off i : Nat) : (Addr.mk b off none).add i = ⟨b, off + i, none⟩ := by
  unfold Addr.add; split <;> simp_all
theorem cells_seg {w : World} {base : Nat} {a : Addr} {n : Nat} {cs : List Value} (h : w.cells? base a n = some cs) (hn : 0 < n) :
    ∃ b off c e fr, a = ⟨b, off, none⟩ ∧ w.heap[b]? = some (.cells c e fr) ∧ seg c off n = cs := by
  obtain ⟨_, hl, hc⟩ := World.cells?_some h
  obtain ⟨b, off, sp⟩ := a
  have h0 := hc 0 hn
  rw [List.getElem?_eq_getElem (by omega)] at h0
  have hs : sp = none := by
    have := World.cell?_spot h0
    simp only [Addr.add] at this
    cases sp with
    | none => rfl
    | some x => simp at this
  subst hs
  have hb : ∃ c e fr, w.heap[b]? = some (.cells c e fr) := by
    simp only [World.cell?, Addr.add] at h0
    split at h0
    · exact ⟨_, _, _, ‹_›⟩
    · cases h0
  obtain ⟨c, e, fr, hb⟩ := hb
  refine ⟨b, off, c, e, fr, rfl, hb, ?_⟩
  have hi : ∀ i, i < n → c[off + i]? = cs[i]? := by
    intro i hi
    have := hc i hi
    rw [addp] at this
    simpa [World.cell?, hb] using this
  apply List.ext_getElem?
  intro i
  simp only [seg, List.getElem?_take, List.getElem?_drop]
  split
  · rename_i h1
    rw [← hi i h1]; simp
  · rename_i h1
    rw [List.getElem?_eq_none (by omega)]
theorem choose_list {α : Type} (n : Nat) (p : Nat → α → Prop) (h : ∀ i, i < n → ∃ y, p i y) : ∃ ys : List α, ys.length = n ∧ ∀ i (hi : i < ys.length), p i (ys[i]'hi) := by
  induction n with
  | zero => exact ⟨[], rfl, fun i hi => by simp at hi⟩
  | succ n ih =>
    obtain ⟨ys, h1, h2⟩ := ih fun i hi => h i (by omega)
    obtain ⟨y, hy⟩ := h n (by omega)
    refine ⟨ys ++ [y], by simp [h1], fun i hi => ?_⟩
    by_cases hlt : i < ys.length
    · rw [List.getElem_append_left hlt]; exact h2 i hlt
    · simp at hi
      have : i = ys.length := by omega
      subst this
      simp
      rw [h1]; exact hy
theorem trod_rd_all {X : Type} {enc : TypeId × Value → X} {P : Program} {w : World} {base : Nat} {spare : Nat → Bool} {held : Bool} : ∀ (n : Nat),
    (∀ (t : TypeId) (u : Ty) (fuel : Nat) (cs : List Value) (x : DataW X × List MemPlace), rdChk P n t u = true → DataW.trod enc P w base spare held fuel t cs = some x → ∃ y : u.T, Rd (HW w) u y cs ∧ WF u y) ∧
    (∀ (off : Nat) (fs : List Field) (u : Ty) (fuel : Nat) (cs : List Value), rdFs P n off fs u = true → cs.length = off + u.sz →
      (∀ f ∈ fs, ∃ x, DataW.trod enc P w base spare held fuel f.type ((cs.drop f.offset).take (P.cellsOf f.type)) = some x) → ∃ y : u.T, Rd (HW w) u y (cs.drop off) ∧ WF u y) := by
  intro n
  induction n with
  | zero => exact ⟨fun _ _ _ _ _ h => by simp [rdChk] at h, fun _ _ _ _ _ h => by simp [rdFs] at h⟩
  | succ n ih =>
    refine ⟨?_, ?_⟩
    · intro t u fuel cs x h hx
      unfold rdChk at h
      split at h
      · rename_i k hu
        simp at h; subst h
        obtain ⟨m, rfl, _, hw⟩ := DataW.trod_int hu hx
        exact ⟨m, rfl, hw⟩
      · rename_i hu
        simp at h; subst h
        obtain ⟨m, rfl, _⟩ := DataW.trod_bool hu hx
        exact ⟨m, rfl, trivial⟩
      · rename_i hu
        simp at h; subst h
        obtain ⟨s, rfl, _, hw⟩ := DataW.trod_string hu hx
        refine ⟨s.data.toList, rfl, ?_⟩
        show s.data.toList.length ≤ maxLen
        rw [Array.length_toList]; exact hw
      · rename_i k hu
        simp at h; subst h
        cases fuel with
        | zero => simp [DataW.trod] at hx
        | succ m =>
          unfold DataW.trod at hx
          rw [hu] at hx
          have : ∃ b, cs = [.float k b] ∧ (Lit.float k b).wf = true := by split at hx <;> simp_all
          obtain ⟨b, rfl, hw⟩ := this
          exact ⟨b, rfl, hw⟩
      · rename_i e hu
        split at h
        · rename_i v
          simp only [Bool.and_eq_true, decide_eq_true_eq] at h
          obtain ⟨⟨h1, h2⟩, h3⟩ := h
          rcases DataW.trod_slice hu hx with ⟨rfl, _⟩ | ⟨a, len, cap, elems, rest, m, _, rfl, _, _, hlc, hm, hel, hei, _, _⟩
          · exact ⟨[], ⟨none, 0, rfl, Nat.le_refl _, .inl rfl⟩, by simp [WF]⟩
          · have hone : ∀ i, i < len → ∃ cs', w.cells? base (a.add (i * P.cellsOf e)) (P.cellsOf e) = some cs' ∧ ∃ y : v.T, Rd (HW w) v y cs' ∧ WF v y := by
              intro i hi
              have := hei i hi
              rw [List.getElem?_eq_getElem (by omega)] at this
              obtain ⟨cs', hc1, hc2⟩ := Option.bind_eq_some_iff.1 this
              exact ⟨cs', hc1, ih.1 _ _ _ _ _ h3 hc2⟩
            obtain ⟨ys, hy1, hy2⟩ := choose_list len (fun i (y : v.T) => ∃ cs', w.cells? base (a.add (i * P.cellsOf e)) (P.cellsOf e) = some cs' ∧ Rd (HW w) v y cs' ∧ WF v y)
              (fun i hi => by obtain ⟨cs', h1, y, h2⟩ := hone i hi; exact ⟨y, cs', h1, h2⟩)
            refine ⟨ys, ⟨some a, cap, by rw [hy1], by rw [hy1]; exact hlc, ?_⟩, by rw [hy1]; omega, fun i hi => ?_⟩
            · rcases Nat.eq_zero_or_pos ys.length with h0 | h0
              · exact .inl h0
              · right
                obtain ⟨cs0, hc0, _⟩ := hy2 0 h0
                obtain ⟨b, off, c, e', fr, ha, hb, _⟩ := cells_seg hc0 (by omega)
                have ha' : a = ⟨b, off, none⟩ := by rw [← ha]; simp [Addr.add]
                refine ⟨b, off, c, e', fr, by rw [ha'], hb, fun i hi => ?_⟩
                obtain ⟨cs', hc', hr, _⟩ := hy2 i hi
                obtain ⟨b', off', c', e'', fr', hab, hb', hsg⟩ := cells_seg hc' (by omega)
                rw [ha', addp] at hab
                simp only [Addr.mk.injEq] at hab
                obtain ⟨rfl, rfl, _⟩ := hab
                rw [hb] at hb'
                cases hb'
                rw [h1] at hsg
                rw [hsg]; exact hr
            · obtain ⟨_, _, _, hwf⟩ := hy2 i hi
              exact hwf
        · cases h
      · rename_i m e hu
        split at h
        · rename_i m' v
          simp only [Bool.and_eq_true, decide_eq_true_eq] at h
          obtain ⟨⟨⟨rfl, h1⟩, h2⟩, h3⟩ := h
          obtain ⟨xs, k, _, _, hl, hxl, hxi⟩ := DataW.trod_array hu hx
          obtain ⟨ys, hy1, hy2⟩ := choose_list m (fun i (y : v.T) => Rd (HW w) v y ((cs.drop (i * P.cellsOf e)).take (P.cellsOf e)) ∧ WF v y)
            (fun i hi => by
              have := hxi i hi
              rw [List.getElem?_eq_getElem (by omega)] at this
              exact ih.1 _ _ _ _ _ h3 this)
          refine ⟨ys, ⟨hy1, by rw [hl, h2], fun i hi => ?_⟩, hy1, fun i hi => (hy2 i hi).2⟩
          have := (hy2 i hi).1
          rw [h1] at this
          exact this
        · cases h
      · rename_i fs hu
        simp only [Bool.and_eq_true, decide_eq_true_eq] at h
        obtain ⟨xs, k, _, _, hl, hxl, hxi⟩ := DataW.trod_struct hu hx
        have := ih.2 0 fs.toList u k cs h.2 (by rw [hl, h.1]; omega) (fun f hf => by
          obtain ⟨i, hi, rfl⟩ := List.mem_iff_getElem.1 hf
          simp at hi
          have := hxi i fs[i] (by simp [hi])
          rw [List.getElem?_eq_getElem (by omega)] at this
          exact ⟨_, by simpa using this⟩)
        simpa using this
      · cases h
    · intro off fs u fuel cs h hl hf
      match fs, u, h, hl, hf with
      | [], u, h, _, _ => simp [rdFs] at h
      | [f], u, h, hl, hf =>
        simp only [rdFs, Bool.and_eq_true, decide_eq_true_eq] at h
        obtain ⟨⟨rfl, h1⟩, h2⟩ := h
        obtain ⟨x, hx⟩ := hf f (by simp)
        rw [h1, List.take_of_length_le (by simp; omega)] at hx
        exact ih.1 _ _ _ _ _ h2 hx
      | f :: g :: r, .pair a b, h, hl, hf =>
        simp only [rdFs, Bool.and_eq_true, decide_eq_true_eq] at h
        obtain ⟨⟨⟨rfl, h1⟩, h2⟩, h3⟩ := h
        simp only [Ty.sz] at hl
        obtain ⟨x, hx⟩ := hf f (by simp)
        rw [h1] at hx
        obtain ⟨y1, hy1, hw1⟩ := ih.1 _ _ _ _ _ h2 hx
        obtain ⟨y2, hy2, hw2⟩ := ih.2 _ _ _ fuel cs h3 (by omega) (fun g' hg => hf g' (List.mem_cons_of_mem _ hg))
        refine ⟨(y1, y2), ⟨hy1, ?_⟩, hw1, hw2⟩
        rw [List.drop_drop]; exact hy2
      | _ :: _ :: _, .int _, h, _, _ => simp [rdFs] at h
      | _ :: _ :: _, .bool, h, _, _ => simp [rdFs] at h
      | _ :: _ :: _, .str, h, _, _ => simp [rdFs] at h
      | _ :: _ :: _, .flt _, h, _, _ => simp [rdFs] at h
      | _ :: _ :: _, .cpx _, h, _, _ => simp [rdFs] at h
      | _ :: _ :: _, .sl _, h, _, _ => simp [rdFs] at h
      | _ :: _ :: _, .arr _ _, h, _, _ => simp [rdFs] at h
theorem trod_rd {X : Type} {enc : TypeId × Value → X} {P : Program} {w : World} {base : Nat} {spare : Nat → Bool} {held : Bool} (n : Nat)
    {t : TypeId} {u : Ty} (h : rdChk P n t u = true) {fuel : Nat} {cs : List Value} {x : DataW X × List MemPlace} (hx : DataW.trod enc P w base spare held fuel t cs = some x) : ∃ y : u.T, Rd (HW w) u y cs ∧ WF u y :=
  (trod_rd_all n).1 t u fuel cs x h hx
end Go.Sx

namespace Go.Sx
open Go.RowKit Go.ChangeShapes Go.WideShapes Go.ChangeAt
section
variable {X : Type} {enc : TypeId × Value → X} {P : Program} {w : World} {base base' : Nat} {spare : Nat → Bool} {held : Bool} {n : Nat} {t : TypeId} {u : Ty} {v : Value} {d : DataW X} {ps : List MemPlace}
theorem cells_one (hv : ∀ cs, v ≠ .agg cs) : v.cells.toList = [v] := by
  cases v <;> simp_all [Value.cells]
theorem okWide_one (ha : aggOf P t = false) (hok : Value.okWide P w .any base' t v) : ∀ cs, v ≠ .agg cs := by
  intro cs hv
  subst hv
  unfold aggOf at ha
  unfold Value.okWide at hok
  split at hok
  · rename_i h; rw [h] at ha; cases ha
  · rename_i h; rw [h] at ha; cases ha
  · unfold Cell.okWide at hok
    split at hok <;> try (rename_i h; cases h; done)
    all_goals first | (rename_i h _; cases h; done) | skip
    all_goals first | (unfold Cell.ok at hok; split at hok <;> first | (exact hok) | (rename_i h; cases h; done) | (rename_i h _; cases h; done) | simp_all; done) | simp_all
theorem arg_one (h : rdChk P n t u = true) (ha : aggOf P t = false) (hok : Value.okWide P w .any base' t v) (hT : DataW.Trod enc P w base spare held t v d ps) : ∃ y : u.T, Rd (HW w) u y [v] ∧ WF u y := by
  obtain ⟨fuel, hT⟩ := hT
  rw [cells_one (okWide_one ha hok)] at hT
  exact trod_rd n h hT
theorem arg_agg (h : rdChk P n t u = true) (ha : aggOf P t = true) (hok : Value.okWide P w .any base' t v) (hT : DataW.Trod enc P w base spare held t v d ps) : ∃ (vs : List Value) (y : u.T), v = .agg ⟨vs⟩ ∧ Rd (HW w) u y vs ∧ WF u y := by
  obtain ⟨fuel, hT⟩ := hT
  have hv : ∃ cs, v = .agg cs := by
    unfold aggOf at ha
    unfold Value.okWide at hok
    split at hok
    · exact ⟨_, hok.choose_spec.1⟩
    · exact ⟨_, hok.choose_spec.1⟩
    · rename_i h1 h2
      split at ha
      · exact absurd ‹_› (h1 _)
      · exact absurd ‹_› (h2 _ _)
      · cases ha
  obtain ⟨cs, rfl⟩ := hv
  obtain ⟨y, h1, h2⟩ := trod_rd n h hT
  exact ⟨cs.toList, y, rfl, h1, h2⟩
end
theorem trodAll_below {X : Type} {enc : TypeId × Value → X} {P : Program} (hl : laidOutB P = true) {W W' : World} (hb : Below W.heap.size W W') : ∀ {ts : List TypeId} {vs : List Value} {ds : List (DataW X)} {ps : List MemPlace},
    (ts.all fun t => P.readableRec t && decide (t < P.types.size)) = true → DataW.TrodAll enc P W 0 (fun _ => true) true ts vs ds ps → (∀ x ∈ ps, x.block < W.heap.size) → DataW.TrodAll enc P W' 0 (fun b => decide (b < W.heap.size)) true ts vs ds ps
  | [], vs, ds, ps, _, h, _ => by
    cases vs <;> cases ds <;> simp_all [DataW.TrodAll]
  | t :: ts, vs, ds, ps, ht, h, hlt => by
    obtain ⟨v, vs', d, ds', p, q, rfl, rfl, rfl, h1, h2⟩ := trodAll_cons h
    simp only [List.all_cons, Bool.and_eq_true, decide_eq_true_eq] at ht
    refine trodAll_cons_mk (Below.trod hl ht.1.1 ht.1.2 h1 hb fun x hx => hlt x (by simp [hx])) (trodAll_below hl hb ht.2 h2 fun x hx => hlt x (by simp [hx]))
theorem law_post {X : Type} {enc : TypeId × Value → X} {P : Program} (hl : laidOutB P = true) {s : ChangeSpec} {f : Func} {tb : TypeId} {W W' : World} {args : Array Value} {ds gs : List (DataW X)} {before : List MemPlace} {r : Value}
    (hvars : s.vars = []) (hts : (f.params.toList.all fun t => P.readableRec t && decide (t < P.types.size)) = true) (hres : f.resultTypes = #[tb]) (htb : P.underlying tb = some .bool)
    (hfn : s.fn X ds = { results := [.lit (.bool true)], args := ds })
    (hW : DataW.Whole enc P f.params.toList s.vars false W args.toList ds gs before) (hb : Below W.heap.size W W') (hr : r = .bool true) :
    s.post enc P f false true false false W args r W' := by
  subst hr
  have hW' := hW
  obtain ⟨p, q, hA, hV, rfl, hfz, hnd⟩ := hW
  rw [hvars] at hV
  obtain ⟨rfl, rfl⟩ := trodVars_none hV
  have hlt : ∀ x ∈ p, x.block < W.heap.size := fun x hx => hW'.lt x (by simp [hx])
  refine ⟨ds, [], p ++ [], [], p, [], hW', ?_, ?_, ?_, hb.frame _, fun h => by cases h⟩
  · rw [List.append_nil, hfn, hres]
    exact trodAll_cons_mk (shut_bool htb _) trodAll_mk0
  · rw [List.append_nil, hfn]
    exact trodAll_below hl hb hts hA hlt
  · rw [List.append_nil, hfn, hvars]
    rfl
theorem law_calls {X : Type} {enc : TypeId × Value → X} {P : Program} (hl : laidOutB P = true) {s : ChangeSpec} {f : Func} {tb : TypeId} {fid : FuncId} {W : World} {args : Array Value} {ds gs : List (DataW X)} {before : List MemPlace}
    (hvars : s.vars = []) (hts : (f.params.toList.all fun t => P.readableRec t && decide (t < P.types.size)) = true) (hres : f.resultTypes = #[tb]) (htb : P.underlying tb = some .bool)
    (hfn : s.fn X ds = { results := [.lit (.bool true)], args := ds })
    (hW : DataW.Whole enc P f.params.toList s.vars false W args.toList ds gs before)
    {gl : Nat → Option ((t : Ty) × t.T)} {avs : List V} (hF : Fn P gl fid avs (.val (.one (.bool true))) true) (hg : GlobOk gl (HW W)) (ha : DenVs ρ0 (HW W) avs args.toList) :
    Calls P fid args W fun e W' => ∃ v, e = .returned v ∧ s.post enc P f false true false false W args v W' := by
  refine (hF W (HW W) args.toList (fun b o h => h) hg ha).mono fun e W' h => ?_
  obtain ⟨v, H', rfl, hb, _, _, hd⟩ := h
  exact ⟨v, rfl, law_post hl hvars hts hres htb hfn hW hb hd.2⟩
theorem glob_tab {P : Program} {W : World} {name : String} {k : IntKind} {zs : List Int} {g : Nat} (h : Lib.TabIs P W name k zs) (hg : P.globalNamed name = some g) :
    ∃ c e fr, HW W g = some (.cells c e fr) ∧ Rd (HW W) (.arr zs.length (.int k)) zs (seg c 0 (zs.length * 1)) ∧ c.size = zs.length * 1 := by
  unfold Lib.TabIs at h
  simp only [World.var?, hg, Option.bind_some] at h
  split at h
  · rename_i cs e fr hh
    cases h
    refine ⟨_, _, _, hh, ?_, by simp⟩
    have e1 : seg (zs.map fun z => Value.int k z).toArray 0 (zs.length * 1) = zs.map fun z => Value.int k z := by
      simp [seg, List.take_of_length_le]
    rw [e1]
    refine ⟨rfl, by simp [Ty.sz], fun i hi => ?_⟩
    show List.take 1 (List.drop (i * 1) (List.map (fun z => Value.int k z) zs)) = [Value.int k zs[i]]
    simp only [Nat.mul_one]
    rw [List.drop_eq_getElem_cons (by simpa using hi)]
    simp
  · cases h
end Go.Sx

namespace Go.Sx
open Go.RowKit
theorem laid_at {P : Program} {W : World} {name : String} {d : DataW Unit} {l : List (String × DataW Unit)} (h : laidMet P l W) (hm : (name, d) ∈ l) :
    ∃ g t cs fuel p, P.globalNamed name = some g ∧ (P.globals[g]?).map (·.type) = some t ∧ W.var? P name = some cs ∧ DataW.trod (fun _ => ()) P W 0 (fun _ => true) false fuel t cs.toList = some (d, p) := by
  obtain ⟨ps, h, hrest⟩ := h
  clear hrest
  induction l generalizing ps with
  | nil => cases hm
  | cons x r ih =>
    obtain ⟨n, e⟩ := x
    obtain ⟨g, t, cs, fuel, p, q, h1, h2, h3, h4, h5, h6⟩ := h
    rcases List.mem_cons.1 hm with e | hm
    · cases e; exact ⟨g, t, cs, fuel, p, h1, h2, h3, h4⟩
    · exact ih hm _ h5
theorem tab_at {P : Program} {W : World} {name : String} {k : IntKind} {zs : List Int} {l : List (String × DataW Unit)} {g : Nat} {t e : TypeId} {n : Nat} (hm : (name, Lib.tabData k zs) ∈ l)
    (hg : P.globalNamed name = some g) (hty : (P.globals[g]?).map (·.type) = some t) (ht : P.underlying t = some (.array n e)) (he : P.underlying e = some (.int k)) (hce : P.cellsOf e = 1) (hct : P.cellsOf t = n)
    (h : laidMet P l W) : Lib.TabIs P W name k zs := by
  obtain ⟨g', t', cs, fuel, p, h1, h2, h3, h4⟩ := laid_at h hm
  obtain rfl := Option.some.inj (hg.symm.trans h1)
  obtain rfl := Option.some.inj (hty.symm.trans h2)
  unfold Lib.TabIs
  rw [h3, ← Lib.cells_of_tab ht he hce hct h4]
theorem var_heap {P : Program} {W : World} {name : String} {g : Nat} {cs : Array Value} (hg : P.globalNamed name = some g) (h : W.var? P name = some cs) : ∃ e fr, W.heap[g]? = some (.cells cs e fr) := by
  simp only [World.var?, hg, Option.bind_some] at h
  split at h
  · rename_i cs' e fr hh
    cases h
    exact ⟨e, fr, hh⟩
  · cases h
def intB (P : Program) (t : TypeId) (k : IntKind) : Bool := match P.underlying t with
  | some (.int q) => decide (q = k)
  | _ => false
theorem intB_ok {P : Program} {t : TypeId} {k : IntKind} (h : intB P t k = true) : P.underlying t = some (.int k) := by
  unfold intB at h
  split at h
  · rename_i q hq
    rw [hq, of_decide_eq_true h]
  · cases h
def pairB (P : Program) (t : TypeId) (k k' : IntKind) : Bool := match P.underlying t with
  | some (.struct fs) => match fs.toList with
    | [f0, f1] => decide (f0.offset = 0) && decide (f1.offset = 1) && decide (P.cellsOf f0.type = 1) && decide (P.cellsOf f1.type = 1) && intB P f0.type k && intB P f1.type k' && decide (P.cellsOf t = 2)
    | _ => false
  | _ => false
theorem rd_pair {H : IH} {a b : Ty} {x : (Ty.pair a b).T} {cs : List Value} (h : Rd H (.pair a b) x cs) : ∃ c1 c2, cs = c1 ++ c2 ∧ Rd H a x.1 c1 ∧ Rd H b x.2 c2 :=
  ⟨_, _, (List.take_append_drop a.sz cs).symm, h.1, h.2⟩
end Go.Sx

namespace Go.Sx
open Go.RowKit
theorem pair_cells {P : Program} {W : World} {k k' : IntKind} {a b : Int} {t : TypeId} {fuel : Nat} {cs : List Value} {p : List MemPlace} (hc : pairB P t k k' = true)
    (h : DataW.trod (fun _ => ()) P W 0 (fun _ => true) false fuel t cs = some (.agg [.lit (.int k a), .lit (.int k' b)], p)) : cs = [.int k a, .int k' b] := by
  unfold pairB at hc
  split at hc
  · rename_i fs ht
    split at hc
    · rename_i f0 f1 hfs
      simp only [Bool.and_eq_true, decide_eq_true_eq] at hc
      obtain ⟨⟨⟨⟨⟨⟨ho0, ho1⟩, hc0⟩, hc1⟩, hu0⟩, hu1⟩, hct⟩ := hc
      cases fuel with
      | zero => simp [DataW.trod] at h
      | succ fuel =>
        simp only [DataW.trod, ht, hct, hfs, hc0, hc1, ho0, ho1, List.mapM_cons, List.mapM_nil] at h
        split at h
        · rename_i hl
          obtain ⟨xs, hx1, hx2⟩ := Option.map_eq_some_iff.1 h
          simp only [Option.bind_eq_bind, Option.bind_eq_some_iff, Option.pure_def, Option.some.injEq] at hx1
          obtain ⟨y0, hy0, r, ⟨y1, hy1, r2, rfl, rfl⟩, rfl⟩ := hx1
          obtain ⟨m0, e0, hz0, _⟩ := DataW.trod_int (intB_ok hu0) hy0
          obtain ⟨m1, e1, hz1, _⟩ := DataW.trod_int (intB_ok hu1) hy1
          subst hz0 hz1
          simp only [List.map_cons, List.map_nil, Prod.mk.injEq, DataW.agg.injEq, List.cons.injEq, DataW.lit.injEq, Lit.int.injEq, true_and, and_true] at hx2
          obtain ⟨⟨rfl, rfl⟩, _⟩ := hx2
          match cs, hl with
          | [u, v], _ =>
            simp at e0 e1
            rw [e0, e1]
        · cases h
    · cases hc
  · cases hc
theorem pairs_at {P : Program} {W : World} {name : String} {k : IntKind} {zs : List (Int × Int)} {l : List (String × DataW Unit)} {g : Nat} {t e : TypeId} {n : Nat}
    (hm : (name, .agg (zs.map fun z => .agg [.lit (.int k z.1), .lit (.int k z.2)])) ∈ l) (hg : P.globalNamed name = some g) (hty : (P.globals[g]?).map (·.type) = some t) (ht : P.underlying t = some (.array n e))
    (hn : zs.length = n) (hce : P.cellsOf e = 2) (hct : P.cellsOf t = n * 2) (hc : pairB P e k k = true) (h : laidMet P l W) :
    ∃ c e fr, HW W g = some (.cells c e fr) ∧ Rd (HW W) (.arr n (.pair (.int k) (.int k))) zs (seg c 0 (n * 2)) ∧ c.size = n * 2 := by
  obtain ⟨g', t', cs, fuel, p, h1, h2, h3, h4⟩ := laid_at h hm
  obtain rfl := Option.some.inj (hg.symm.trans h1)
  obtain rfl := Option.some.inj (hty.symm.trans h2)
  obtain ⟨ee, fr, hh⟩ := var_heap hg h3
  obtain ⟨xs, m, _, hx, hl, hxl, hi⟩ := DataW.trod_array ht h4
  have hx1 : (zs.map fun z => (.agg [.lit (.int k z.1), .lit (.int k z.2)] : DataW Unit)) = xs.map (·.1) := by
    have := congrArg Prod.fst hx
    simpa using this
  have hs : cs.size = n * 2 := by rw [← Array.length_toList, hl, hct]
  have hseg : seg cs 0 (n * 2) = cs.toList := by
    unfold seg
    rw [List.drop_zero, List.take_of_length_le (by rw [Array.length_toList]; omega)]
  refine ⟨cs, ee, fr, hh, ?_, hs⟩
  rw [hseg]
  refine ⟨hn, by rw [Array.length_toList, hs]; rfl, fun i hiz => ?_⟩
  have hin : i < n := by rw [← hn]; exact hiz
  have hix : i < xs.length := by rw [hxl]; exact hin
  have q := hi i hin
  rw [List.getElem?_eq_getElem hix, hce] at q
  have e1 : xs[i].1 = .agg [.lit (.int k zs[i].1), .lit (.int k zs[i].2)] := by
    have := congrArg (fun l => l[i]?) hx1
    simp only [List.getElem?_map, List.getElem?_eq_getElem hix, List.getElem?_eq_getElem hiz, Option.map_some, Option.some.injEq] at this
    exact this.symm
  have q' : DataW.trod (fun _ => ()) P W 0 (fun _ => true) false m e ((cs.toList.drop (i * 2)).take 2) = some (.agg [.lit (.int k zs[i].1), .lit (.int k zs[i].2)], xs[i].2) := by
    rw [q, ← e1]
  have hcell := pair_cells hc q'
  show Rd (HW W) (.pair (.int k) (.int k)) zs[i] ((cs.toList.drop (i * 2)).take 2)
  rw [hcell]
  exact ⟨rfl, rfl⟩
theorem j4a : laidOutB Proofs.Tryz.prog = true := by kernel_rfl
theorem j4b : mapsRowed Proofs.Tryz.prog = true := by kernel_rfl
theorem j4c : Proofs.Tryz.prog.stopsHeard = true := by kernel_rfl
theorem j4d : Proofs.Tryz.prog.mayEnter = true := by kernel_rfl
end Go.Sx

namespace Go.Sx
open Go.RowKit
theorem opqE_at {P : Program} {W : World} {name nm : String} {d : DataW Unit} {l : List (String × DataW Unit)} {g : Nat} {ti : TypeId} {ms : Array (String × TypeId)} (hm : (name, .iface nm d) ∈ l)
    (hg : P.globalNamed name = some g) (hty : (P.globals[g]?).map (·.type) = some ti) (hi : P.underlying ti = some (.interface ms)) (h : laidMet P l W) :
    ∃ c e fr, HW W g = some (.cells c e fr) ∧ Rd (HW W) (.opq true) () (seg c 0 (Ty.opq true).sz) ∧ c.size = (Ty.opq true).sz := by
  obtain ⟨g', t', cs, fuel, p, h1, h2, h3, h4⟩ := laid_at h hm
  obtain rfl := Option.some.inj (hg.symm.trans h1)
  obtain rfl := Option.some.inj (hty.symm.trans h2)
  obtain ⟨ee, fr, hh⟩ := var_heap hg h3
  obtain ⟨_, u, v, hc, _⟩ := iface_of_trod hi h4
  obtain ⟨cl⟩ := cs
  have hc : cl = [.iface u v] := hc
  subst hc
  exact ⟨_, ee, fr, hh, ⟨_, rfl, .inr ⟨rfl, u, v, rfl⟩⟩, rfl⟩
theorem opqI_at {P : Program} {W : World} {g : Nat} {t : TypeId} {zero : Array Value} (h : W.ShapedOpen P) (hg : g < P.globals.size)
    (h0 : ((begin P (fun _ _ => 0) default).world.heap[g]?).bind Obj.row? = some (zero, t)) (hz : zero.size = 1)
    (hb : P.buildable t = true) (hc : P.cellTypes P.depth t = some [t]) (hu : P.underlying t = some (.int .i64)) :
    ∃ c e fr, HW W g = some (.cells c e fr) ∧ Rd (HW W) (.opq false) () (seg c 0 (Ty.opq false).sz) ∧ c.size = (Ty.opq false).sz := by
  obtain ⟨m, hm⟩ := Proofs.cell_of_shapedOpen_int h hg h0 hz hb hc hu
  obtain ⟨cs, hh, hs, _⟩ := h.1 g zero t hg h0
  obtain ⟨cl⟩ := cs
  have hl : cl.length = 1 := by have : cl.length = zero.size := hs; omega
  match cl, hl with
  | [v], _ =>
    have hv : v = .int .i64 m := by simpa [World.cell?, hh] using hm
    exact ⟨_, _, _, hh, ⟨_, rfl, .inl ⟨rfl, m, hv⟩⟩, rfl⟩
end Go.Sx
