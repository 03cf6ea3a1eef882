/- A verified symbolic run of functions, part 18: lemmas, no claim of their own. -/
import Derived.Test.YtpbipfdpoijgoaaGreatDoorS17
import Derived.Lib.ItoaLen
import Derived.OpenShut
import Derived.ProofKit
import Derived.Carry
import Derived.OpenVars
import Derived.Lib.LaidTab
import Derived.ChangeSame
import Derived.WalkKit
import Derived.Deep.DeepHandedRow
import Derived.JoinedCond
import Derived.KernelRfl
import Derived.Test.YtpbipfdpoijgoaaGreatDoorProg
import Derived.Test.YtpbipfdpoijgoaaGreatDoorCards
import Derived.LaidLaws
import Derived.Shelf.Vars
import Derived.Deep.DeepWitnessRowRef
namespace Go.Sx
open U
theorem set_last {α : Type} (L : List α) (h : L ≠ []) (a : α) : L.set (L.length - 1) a = L.dropLast ++ [a] := by
  obtain ⟨p, x, rfl⟩ : ∃ p x, L = p ++ [x] := ⟨L.dropLast, L.getLast h, (List.dropLast_concat_getLast h).symm⟩
  simp
theorem getD_last {α : Type} (L : List α) (h : L ≠ []) (d : α) : List.getD L (L.length - 1) d = L.getLastD d := by
  obtain ⟨p, x, rfl⟩ : ∃ p x, L = p ++ [x] := ⟨L.dropLast, L.getLast h, (List.dropLast_concat_getLast h).symm⟩
  simp
theorem getD_inS {L : List Str} {n : Nat} (h : n < L.length) : List.getD L n [] ∈ L := by rw [getD_of h]; exact List.getElem_mem h
theorem byte_eq {x : UInt8} {c : Int} (hc : 0 ≤ c ∧ c ≤ 255) : ((x.toNat : Int) == c) = decide (x = c.toNat.toUInt8) := by
  have e : (c.toNat.toUInt8).toNat = c.toNat := by
    rw [Nat.toUInt8_eq, UInt8.toNat_ofNat']; omega
  have k : ((x.toNat : Int) = c) ↔ (x = c.toNat.toUInt8) := by
    constructor
    · intro h; apply UInt8.toNat_inj.1; rw [e]; omega
    · intro h; rw [h, e]; omega
  by_cases h : x = c.toNat.toUInt8
  · rw [decide_eq_true h]; simp [k.2 h]
  · rw [decide_eq_false h]; simp; exact fun h2 => h (k.1 h2)
theorem str_snoc {s : Str} {g : Nat} (h : g < s.length) : List.take (g + 1) s = List.take g s ++ [List.getD s g 0] := by
  rw [List.take_add_one]
  have : s[g]? = some (List.getD s g 0) := by rw [List.getD_eq_getElem?_getD, List.getElem?_eq_getElem h]; rfl
  rw [this]; rfl
theorem str_one {s : Str} {g : Nat} (h : g < s.length) : List.take 1 (List.drop g s) = [List.getD s g 0] := by
  rw [List.drop_eq_getElem_cons h, getD_of h]; rfl
theorem fn95 (s : Str) (c : Int) (hs : s.length ≤ 1000000) (hc : 0 ≤ c ∧ c ≤ 255) : Fn P1 gl1 95 [sV s, .one (.int .u8 c)] (.val (.one (.frs .str (spB c s)))) true := by
  refine Fn.flat ?_ rfl
  refine fn_of false [] [] h94 0 Proofs.Tryz.f95 trivial trivial (by kernel_rfl) rfl (by kernel_rfl) rfl rfl rfl ?_
  rw [vc95]
  try simp only [splitB_iff, -eq_self]
  simp only [spB, hd_eq, byte_eq hc, -eq_self]
  refine ⟨⟨0, Nat.zero_le _, rfl, rfl, rfl, rfl, trivial⟩, fun g hg => ⟨fun hlt => ?_, fun hge => ?_⟩⟩
  · have hlt := of_decide_eq_true hlt
    have hlt : g < s.length := by omega
    have hL := sB_len c.toNat.toUInt8 (List.take g s)
    have hm := sB_mem_len c.toNat.toUInt8 (List.take g s)
    have hn := sB_ne c.toNat.toUInt8 (List.take g s)
    have hsn := sB_snoc c.toNat.toUInt8 (List.getD s g 0) (List.take g s)
    rw [← str_snoc hlt] at hsn
    rw [List.length_take] at hL
    rw [List.length_take] at hm
    generalize sB c.toNat.toUInt8 (List.take g s) = L at *
    have e1 : ((L.length : Int) - 1).toNat = L.length - 1 := by omega
    have e2 : ((g : Int) + 1).toNat - g = 1 := by omega
    rw [e1, e2, str_one hlt]
    refine ⟨⟨by omega, by omega⟩, fun hx => ?_, fun hx => ?_⟩
    · have hx := of_decide_eq_true hx
      rw [if_pos hx] at hsn
      exact ⟨by unfold room; omega, by simp only [fits]; omega, g + 1, Nat.succ_le_of_lt hlt, by omega, by simp, rfl, rfl, hsn.symm, trivial⟩
    · have hx := of_decide_eq_false hx
      rw [if_neg hx] at hsn
      have hb := hm _ (getD_inS (L := L) (n := L.length - 1) (by omega))
      refine ⟨by simp only [fits]; omega, by simp only [fits]; omega, ⟨by omega, by omega⟩, by omega, by simp only [fits]; omega, ⟨by omega, by omega, by omega⟩, ?_, ⟨by omega, by omega⟩, by omega, by simp only [fits]; omega, g + 1, Nat.succ_le_of_lt hlt, by omega, by simp, rfl, rfl, ?_, trivial⟩
      · simp only [List.length_cons, List.length_nil]; omega
      · rw [hsn, set_last L hn, getD_last L hn]
  · have hge := of_decide_eq_false hge
    have hg : g ≤ s.length := hg
    rw [List.take_of_length_le (by omega)]
    exact ⟨rfl, trivial⟩
theorem so95_ : SpecOk P1 gl1 95 sp95 := by
  intro vs ps r h hp
  simp only [sp95] at h
  split at h
  · cases h; exact fn95 _ _ (hp _ (.head _)) (hp _ (.tail _ (.head _)))
  · cases h
theorem so95 : Sp1 95 sp95 := ⟨so95_, Proofs.Tryz.f95, _, by kernel_rfl, rfl, by kernel_rfl⟩
theorem dgV_lt (l : Str) : dgS l = true → dgV l < 10 ^ l.length := by
  refine snoc_ind (P := fun l => dgS l = true → dgV l < 10 ^ l.length) (fun _ => by simp [dgV]) (fun l b ih h => ?_) l
  rw [dgS_snoc, Bool.and_eq_true] at h
  have h1 := ih h.1
  have hb := h.2
  unfold dgB at hb
  simp only [Bool.and_eq_true, decide_eq_true_eq] at hb
  rw [dgV_snoc, List.length_append, List.length_singleton, Nat.pow_succ]
  omega
theorem dg_cond (b : UInt8) : (bif decide ((48 : Int) ≤ (b.toNat : Int)) then decide ((b.toNat : Int) ≤ 57) else false) = dgB b := by
  unfold dgB
  rw [bcond_r]
  congr 1
  · exact decide_eq_decide.2 ⟨fun h => by omega, fun h => by omega⟩
  · exact decide_eq_decide.2 ⟨fun h => by omega, fun h => by omega⟩
theorem dg_head_cond (s : Str) : (bif bif ((s.length : Int) == 0) then true else decide ((9 : Int) < (s.length : Int)) then true else bif decide ((1 : Int) < (s.length : Int)) then ((List.getD s 0 0).toNat : Int) == 48 else false) = !(!s.isEmpty && decide (s.length ≤ 9) && !(decide (1 < s.length) && decide (s.headD 0 = 48))) := by
  rw [bcond_l, bcond_l, bcond_r]
  have e0 : ((s.length : Int) == 0) = s.isEmpty := by cases s <;> simp; omega
  have e1 : decide ((9 : Int) < (s.length : Int)) = !decide (s.length ≤ 9) := by
    rw [← decide_not]; exact decide_eq_decide.2 ⟨fun h => by omega, fun h => by omega⟩
  have e2 : decide ((1 : Int) < (s.length : Int)) = decide (1 < s.length) := decide_eq_decide.2 ⟨fun h => by omega, fun h => by omega⟩
  have e3 : (((List.getD s 0 0).toNat : Int) == 48) = decide (s.headD 0 = 48) := by
    rw [byte_eq (by omega)]
    have : List.getD s 0 0 = s.headD 0 := by cases s <;> rfl
    rw [this]; rfl
  rw [e0, e1, e2, e3]
  cases s.isEmpty <;> cases decide (s.length ≤ 9) <;> cases decide (1 < s.length) <;> cases decide (s.headD 0 = 48) <;> rfl
theorem fn209 (s : Str) (hs : s.length ≤ 1000000) : Fn P1 gl1 209 [sV s] (.tup [iV (dgX s), bV (dgB1 s)]) true := by
  refine Fn.flat ?_ rfl
  refine fn_of false [] [fb211] h94 3 Proofs.Tryz.f209 trivial ⟨⟨by kernel_rfl, by kernel_rfl, _, rfl, by kernel_rfl⟩, trivial⟩ (by kernel_rfl) rfl (by kernel_rfl) rfl rfl rfl ?_
  rw [vc209]
  try simp only [splitB_iff, -eq_self]
  simp only [dgX, dgB1, dgH, hd_eq, dg_head_cond, dg_cond, -eq_self]
  have hd0 : dgOk s = ((!s.isEmpty && decide (s.length ≤ 9) && !(decide (1 < s.length) && decide (s.headD 0 = 48))) && dgS s) := rfl
  rw [hd0]
  refine ⟨fun h1 h2 => ?_, fun hc => ?_, fun hc => ⟨⟨0, ⟨Nat.zero_le _, rfl⟩, rfl, rfl, rfl, trivial⟩, fun g hg => ⟨fun hlt => ?_, fun hge => ?_⟩⟩⟩
  · have h2 := of_decide_eq_true h2
    exact ⟨by omega, by omega⟩
  · have hc : (!s.isEmpty && decide (s.length ≤ 9) && !(decide (1 < s.length) && decide (s.headD 0 = 48))) = false := by rwa [Bool.not_eq_true'] at hc
    rw [hc]
    exact ⟨rfl, rfl, trivial⟩
  · have hlt := of_decide_eq_true hlt
    have hlt : g < s.length := by omega
    have hc : (!s.isEmpty && decide (s.length ≤ 9) && !(decide (1 < s.length) && decide (s.headD 0 = 48))) = true := by rwa [Bool.not_eq_false'] at hc
    have h9 : s.length ≤ 9 := by
      simp only [Bool.and_eq_true, decide_eq_true_eq] at hc; exact hc.1.2
    rw [hc]
    have hsn := str_snoc hlt
    refine ⟨⟨by omega, by omega⟩, fun hx => ?_, fun hx => ?_⟩
    · have hx : dgB (List.getD s g 0) = false := by simpa using hx
      have : dgS s = false := by
        cases e : dgS s with
        | false => rfl
        | true =>
          have := List.all_eq_true.1 e (List.getD s g 0) (by rw [getD_of hlt]; exact List.getElem_mem hlt)
          rw [this] at hx; cases hx
      rw [this]
      exact ⟨rfl, rfl, trivial⟩
    · have hx : dgB (List.getD s g 0) = true := by simpa using hx
      have hb := hx
      unfold dgB at hb
      simp only [Bool.and_eq_true, decide_eq_true_eq] at hb
      have hv := dgV_lt _ hg.2
      have hp : 10 ^ (List.take g s).length ≤ 10 ^ 9 := Nat.pow_le_pow_right (by omega) (by rw [List.length_take]; omega)
      have hS : dgS (List.take (g + 1) s) = true := by rw [hsn, dgS_snoc, hg.2, hx]; rfl
      have hV : dgV (List.take (g + 1) s) = 10 * dgV (List.take g s) + ((List.getD s g 0).toNat - 48) := by rw [hsn, dgV_snoc]
      refine ⟨by simp only [fits]; omega, ⟨by omega, by omega⟩, by simp only [fits]; omega, by simp only [fits]; omega, by simp only [fits]; omega, by simp only [fits]; omega, g + 1, ⟨by omega, hS⟩, by omega, by simp, ?_, rfl, trivial⟩
      rw [hV]; omega
  · have hge := of_decide_eq_false hge
    have hc : (!s.isEmpty && decide (s.length ≤ 9) && !(decide (1 < s.length) && decide (s.headD 0 = 48))) = true := by rwa [Bool.not_eq_false'] at hc
    have e : List.take g s = s := List.take_of_length_le (by have := hg.1; omega)
    have hS := hg.2
    rw [e] at hS
    rw [hc, e, hS]
    exact ⟨rfl, rfl, trivial⟩
theorem so209_ : SpecOk P1 gl1 209 sp209 := by
  intro vs ps r h hp
  simp only [sp209] at h
  split at h
  · cases h; exact fn209 _ (hp _ (.head _))
  · cases h
theorem so209 : Sp1 209 sp209 := ⟨so209_, Proofs.Tryz.f209, _, by kernel_rfl, rfl, by kernel_rfl⟩
theorem fn167 (s : Str) (hs : s.length ≤ 1000000) : Fn P1 gl1 167 [sV s] (.tup [iV (sgX s), bV (sgB1 s)]) true := by
  refine Fn.flat ?_ rfl
  refine fn_of false [(209, sp209)] [] h0 0 Proofs.Tryz.f167 ⟨so209, trivial⟩ trivial (by kernel_rfl) rfl (by kernel_rfl) rfl rfl rfl ?_
  rw [vc167]
  try simp only [splitB_iff, -eq_self]
  simp only [dgX, dgB1, sgX, sgB1, hd_eq, -eq_self]
  have bound : ∀ l : Str, fits .i64 (0 - (if dgOk l = true then (dgV l : Int) else 0)) := fun l => by
    split
    · rename_i h
      obtain ⟨hc, hl⟩ := ok_cnD h
      have := dgV_lt l hc.2.1
      have hp : 10 ^ l.length ≤ 10 ^ 9 := Nat.pow_le_pow_right (by omega) hl
      simp only [fits]; omega
    · simp only [fits]; omega
  cases s with
  | nil => exact ⟨fun h => by simp at h, fun h => by simp at h, fun _ => ⟨by simp, rfl, rfl, trivial⟩⟩
  | cons b r =>
    have e0 : List.take (List.length (b :: r) - 1) (List.drop 1 (b :: r)) = r := by simp
    have e1 : (((List.getD (b :: r) 0 0).toNat : Int) == 45) = decide (b = 45) := by rw [byte_eq (by omega)]; rfl
    have e2 : decide ((0 : Int) < (List.length (b :: r) : Int)) = true := decide_eq_true (by simp only [List.length_cons]; omega)
    rw [e0, e1, e2, cond_true]
    have hr : r.length ≤ 1000000 := by simp only [List.length_cons] at hs; omega
    refine ⟨fun _ => ⟨by omega, by simp only [List.length_cons]; omega⟩, fun h => ?_, fun h => ?_⟩
    · have h := of_decide_eq_true h
      subst h
      have q1 : sgV (45 :: r) = (if dgOk r = true then -(dgV r : Int) else 0) := by simp [sgV]
      have q2 : sgOk (45 :: r) = (dgOk r && decide (0 < dgV r)) := by simp [sgOk]
      rw [q1, q2]
      refine ⟨⟨by omega, by simp only [List.length_cons]; omega, by omega⟩, hr, bound r, ?_, ?_, trivial⟩
      · split <;> omega
      · rw [bcond_r]
        cases e : dgOk r with
        | false => rfl
        | true => simp only [Bool.true_and, if_true]; exact decide_eq_decide.2 ⟨fun h => by omega, fun h => by omega⟩
    · have h := of_decide_eq_false h
      have q1 : sgV (b :: r) = (if dgOk (b :: r) = true then (dgV (b :: r) : Int) else 0) := by simp [sgV, h]
      have q2 : sgOk (b :: r) = dgOk (b :: r) := by simp [sgOk, h]
      rw [q1, q2]
      exact ⟨hs, rfl, rfl, trivial⟩
theorem so167_ : SpecOk P1 gl1 167 sp167 := by
  intro vs ps r h hp
  simp only [sp167] at h
  split at h
  · cases h; exact fn167 _ (hp _ (.head _))
  · cases h
theorem so167 : Sp1 167 sp167 := ⟨so167_, Proofs.Tryz.f167, _, by kernel_rfl, rfl, by kernel_rfl⟩
theorem fitw {n : Int} (h : -9223372036854775808 ≤ n ∧ n ≤ 9223372036854775807) : IntKind.wrap .i64 n = n := fits_wrap h
theorem first_nest (a b : Int) (r : List Int) : first [first (a :: r), b] = first (a :: (r ++ [b])) := by
  induction r generalizing a with
  | nil => by_cases h : a = 0 <;> simp [first, h]
  | cons x r ih =>
    by_cases h : a = 0
    · have e1 : first (a :: x :: r) = first (x :: r) := by rw [first, if_pos h]
      have e2 : first (a :: (x :: r ++ [b])) = first (x :: (r ++ [b])) := by rw [first, if_pos h]; rfl
      rw [e1, e2, ih]
    · have e1 : first (a :: x :: r) = a := by rw [first, if_neg h]
      have e2 : first (a :: (x :: r ++ [b])) = a := by rw [first, if_neg h]
      rw [e1, e2, first, if_neg h]
theorem chkTx_ref (x : Ed) : first [first [first [first [whenE (!isName x.1) 8, within x.2.1 (-999999999) 999999999], within x.2.2.1 (-999999999) 999999999], within x.2.2.2.1 (-999999999) 999999999], within x.2.2.2.2 (-999999999) 999999999] = chkTx x := by
  have key : ∀ a w0 w1 w2 w3 : Int, first [first [first [first [a, w0], w1], w2], w3] = first [a, w0, w1, w2, w3] := fun a w0 w1 w2 w3 => by
    rw [show first [first [a, w0], w1] = first [a, w0, w1] from first_nest a w1 [w0], show first [first [a, w0, w1], w2] = first [a, w0, w1, w2] from first_nest a w2 [w0, w1], show first [first [a, w0, w1, w2], w3] = first [a, w0, w1, w2, w3] from first_nest a w3 [w0, w1, w2]]
  rw [key]
  unfold chkTx
  cases isName x.1
  · rfl
  · rfl
theorem fn92 (L : List Ed) (hl : L.length ≤ 1000000000) (hn : ∀ x ∈ L, x.1.length ≤ 1000000000) : Fn P1 gl1 92 [.one (.sl edT L)] (.val (iV (chkText L))) true := by
  refine Fn.flat ?_ rfl
  refine fn_of false [(102, sp102), (87, sp87), (61, sp61)] [] h94 0 Proofs.Tryz.f92 ⟨so102, so87, so61, trivial⟩ trivial (by kernel_rfl) rfl (by kernel_rfl) rfl rfl rfl ?_
  rw [vc92]
  try simp only [splitB_iff, -eq_self]
  refine ⟨fun h => ?_, fun h => ⟨⟨0, ⟨Nat.zero_le _, rfl⟩, rfl, rfl, trivial⟩, fun g hg => ⟨fun hlt => ?_, fun hge => ?_⟩⟩⟩
  · exact ⟨(if_pos (by have := of_decide_eq_true h; omega)).symm, trivial⟩
  · have h16 : ¬ 16 < L.length := by have := of_decide_eq_false h; omega
    have hC : chkText L = upTo (fun i => chkTx (L.getD i e0)) L.length := if_neg h16
    have hlt' : g < L.length := by have := of_decide_eq_true hlt; omega
    have hm := hn _ (getD_mem (d := e0) hlt')
    rw [chkTx_ref]
    refine ⟨⟨by omega, by omega⟩, hm, ⟨by omega, by omega⟩, by omega, by omega, by simp only [fits]; omega, ⟨by omega, by omega⟩, by omega, by omega, by simp only [fits]; omega, ⟨by omega, by omega⟩, by omega, by omega, by simp only [fits]; omega, ⟨by omega, by omega⟩, by omega, by omega, by simp only [fits]; omega, fun h2 => ?_, fun h2 => ?_⟩
    · have h2 := bneZ.1 h2
      rw [hC, upTo_eq (f := fun i => chkTx (L.getD i e0)) hg.2 h2 hlt']
      exact ⟨rfl, trivial⟩
    · have h2 := bneF.1 h2
      exact ⟨by simp only [fits]; omega, g + 1, ⟨hlt', upTo_succ (f := fun i => chkTx (L.getD i e0)) hg.2 h2⟩, by omega, by simp, rfl, trivial⟩
  · have h16 : ¬ 16 < L.length := by have := of_decide_eq_false h; omega
    have hge' : ¬ g < L.length := by have := of_decide_eq_false hge; omega
    have hgl : g = L.length := by have := hg.1; omega
    subst hgl
    exact ⟨((if_neg h16).trans hg.2).symm, trivial⟩
theorem so92_ : SpecOk P1 gl1 92 sp92 := by
  intro vs ps r h hp
  simp only [sp92] at h
  split at h
  · cases h; exact fn92 _ (hp _ (.head _)) (hp _ (.tail _ (.head _)))
  · cases h
theorem so92 : Sp1 92 sp92 := ⟨so92_, Proofs.Tryz.f92, _, by kernel_rfl, rfl, by kernel_rfl⟩
theorem six_list {W : List Str} (h : W.length = 6) : ∃ a b c d e f, W = [a, b, c, d, e, f] := by
  match W, h with
  | [a, b, c, d, e, f], _ => exact ⟨a, b, c, d, e, f, rfl⟩
theorem lk_six {l a b c d e f : Str} (h : sB 32 l = [a, b, c, d, e, f]) : lkOk l = (lkS l && (sgOk c && (sgOk d && (sgOk e && (sgOk f && true))))) ∧ lkE l = (b, sgV c, sgV d, sgV e, sgV f) := by
  unfold lkOk lkE
  rw [h]
  exact ⟨rfl, rfl⟩
theorem fn94 (s : Str) (hs : s.length ≤ 1000000) : Fn P1 gl1 94 [sV s] (.tup [.one (.frs edT (prsX s).1), iV (prsX s).2.1, iV (prsX s).2.2]) false := by
  refine fn_of false [(95, sp95), (167, sp167), (92, sp92)] [] h94 0 Proofs.Tryz.f94 ⟨so95, so167, so92, trivial⟩ trivial (by kernel_rfl) rfl (by kernel_rfl) rfl rfl rfl ?_
  rw [vc94]
  try simp only [splitB_iff, -eq_self]
  have e10 : ((10 : Int).toNat.toUInt8) = 10 := rfl
  have e32 : ((32 : Int).toNat.toUInt8) = 32 := rfl
  have e2 : Array.toList (ByteArray.data { data := #[(101 : UInt8), (100 : UInt8), (105 : UInt8), (116 : UInt8)] }) = [101, 100, 105, 116] := rfl
  have e3 : Array.toList (ByteArray.data { data := #[] }) = ([] : Str) := rfl
  simp only [spB, lkX, lkR, prsX, sgX, sgB1, hd_eq, e10, e32, e2, e3, six_cond, -eq_self]
  have hlen := sB_len 10 s
  have hlast : lnsN s = (sB 10 s).length - 1 := rfl
  have hat : ∀ j, List.getD (sB 10 s) j [] = lnAt s j := fun j => rfl
  have hml : ∀ j, (lnAt s j).length ≤ s.length := fun j => by
    by_cases hj : j < (sB 10 s).length
    · have := sB_mem_len 10 s _ (getD_inS hj)
      rw [hat j] at this; exact this
    · have : lnAt s j = [] := by unfold lnAt; rw [List.getD_eq_getElem?_getD, List.getElem?_eq_none (by omega)]; rfl
      rw [this]; exact Nat.zero_le _
  simp only [hat, -eq_self]
  refine ⟨fun h => ?_, fun h => ?_⟩
  · have h := of_decide_eq_true h
    rw [tp_long (by omega)]
    exact ⟨rfl, rfl, rfl, trivial⟩
  have h := of_decide_eq_false h
  have hs4 : s.length ≤ 4096 := by omega
  refine ⟨hs, ⟨by omega, by omega⟩, by simp only [fits]; omega, ⟨0, ⟨by omega, fun j hj => absurd hj (Nat.not_lt_zero _)⟩, rfl, rfl, rfl, rfl, rfl, rfl, trivial⟩, fun g hg => ⟨fun hlt => ?_, fun hge => ?_⟩⟩
  · have hlt := of_decide_eq_true hlt
    have hgl : g < lnsN s := by omega
    have hm := hml g
    have hw := sB_mem_len 32 (lnAt s g)
    have hwl := sB_len 32 (lnAt s g)
    have hbad : lkOk (lnAt s g) = false → prsT s = ([], (g : Int), 25) := fun e => tp_bad hs4 hgl hg.2 e
    have hk : lkS (lnAt s g) = (decide ((sB 32 (lnAt s g)).length = 6) && decide (List.getD (sB 32 (lnAt s g)) 0 [] = [101, 100, 105, 116]) && decide (List.getD (sB 32 (lnAt s g)) 1 [] ≠ [])) := rfl
    rw [← hk]
    have q6 : (bif ((List.length (sB 32 (lnAt s g)) : Int) != 6) then true else List.getD (sB 32 (lnAt s g)) 0 [] != [101, 100, 105, 116]) = false → (sB 32 (lnAt s g)).length = 6 := fun e => by
      rw [bcond_l, Bool.or_eq_false_iff] at e
      have : (List.length (sB 32 (lnAt s g)) : Int) = 6 := by simpa using e.1
      omega
    refine ⟨⟨by omega, by omega⟩, by omega, by omega, ⟨by omega, by omega⟩, fun _ => ⟨by omega, by omega⟩, fun _ => by omega, fun e => ⟨by omega, by have := q6 e; omega⟩, fun e => by have := q6 e; omega, fun hc => ?_, fun hc => ?_⟩
    · have hc : lkS (lnAt s g) = false := by rwa [Bool.not_eq_true'] at hc
      rw [hbad (by unfold lkOk; rw [hc]; rfl)]
      exact ⟨rfl, rfl, rfl, trivial⟩
    have hc : lkS (lnAt s g) = true := by rwa [Bool.not_eq_false'] at hc
    have h6 : (sB 32 (lnAt s g)).length = 6 := by
      rw [hk] at hc
      simp only [Bool.and_eq_true, decide_eq_true_eq] at hc
      exact hc.1.1
    obtain ⟨a, b, c, d, e, f, hW⟩ := six_list h6
    obtain ⟨k1, k2⟩ := lk_six hW
    rw [hc] at k1
    rw [hW] at hw ⊢
    have wc := hw c (by simp)
    have wd := hw d (by simp)
    have we := hw e (by simp)
    have wf := hw f (by simp)
    simp only [List.length_cons, List.length_nil, List.getD_cons_zero, List.getD_cons_succ, -eq_self]
    refine ⟨by simp only [fits]; omega, ⟨by omega, by omega⟩, by omega, by omega, fun hx => ?_, fun hx => ?_⟩
    · rw [Bool.not_eq_true'] at hx
      rw [hbad (by rw [k1, hx]; rfl)]
      exact ⟨rfl, rfl, rfl, trivial⟩
    rw [Bool.not_eq_false'] at hx
    refine ⟨⟨by omega, by omega⟩, by omega, by simp only [fits]; omega, by simp only [fits]; omega, ⟨by omega, by omega⟩, by omega, by omega, fun hy => ?_, fun hy => ?_⟩
    · rw [Bool.not_eq_true'] at hy
      rw [hbad (by rw [k1, hx, hy]; rfl)]
      exact ⟨rfl, rfl, rfl, trivial⟩
    rw [Bool.not_eq_false'] at hy
    refine ⟨⟨by omega, by omega⟩, by omega, by simp only [fits]; omega, by simp only [fits]; omega, ⟨by omega, by omega⟩, by omega, by omega, fun hz => ?_, fun hz => ?_⟩
    · rw [Bool.not_eq_true'] at hz
      rw [hbad (by rw [k1, hx, hy, hz]; rfl)]
      exact ⟨rfl, rfl, rfl, trivial⟩
    rw [Bool.not_eq_false'] at hz
    refine ⟨⟨by omega, by omega⟩, by omega, by simp only [fits]; omega, by simp only [fits]; omega, ⟨by omega, by omega⟩, by omega, by omega, fun hv => ?_, fun hv => ?_⟩
    · rw [Bool.not_eq_true'] at hv
      rw [hbad (by rw [k1, hx, hy, hz, hv]; rfl)]
      exact ⟨rfl, rfl, rfl, trivial⟩
    rw [Bool.not_eq_false'] at hv
    have hok : lkOk (lnAt s g) = true := by rw [k1, hx, hy, hz, hv]; rfl
    refine ⟨⟨by omega, by omega⟩, by omega, by simp only [fits]; omega, ⟨by omega, by omega⟩, by omega, ⟨by omega, by omega⟩, by omega, ⟨by omega, by omega⟩, by omega, ⟨by omega, by omega⟩, by omega, ⟨by omega, by omega⟩, by omega, by unfold room; rw [tab_len]; omega, by simp only [fits]; omega, g + 1, ⟨by omega, fun j hj => ?_⟩, by omega, by simp, rfl, rfl, rfl, ?_, rfl, trivial⟩
    · by_cases e : j = g
      · subst e; exact hok
      · exact hg.2 j (by omega)
    · rw [tab_succ, k2]
  · have hge := of_decide_eq_false hge
    have hgl : g = lnsN s := by have := hg.1; omega
    subst hgl
    have eq4 : ((List.length (sB 10 s) : Int) - 1) = (lnsN s : Int) := by omega
    have eq5 : ((lnsN s : Int)).toNat = lnsN s := by omega
    rw [eq4, eq5]
    refine ⟨⟨by omega, by omega⟩, by omega, fun hx => ?_, fun hx => ?_⟩
    · have hx : lnAt s (lnsN s) ≠ [] := by simpa using hx
      rw [tp_open hs4 hg.2 hx]
      exact ⟨rfl, rfl, rfl, trivial⟩
    have hx : lnAt s (lnsN s) = [] := by simpa using hx
    rw [tp_end hs4 hg.2 hx]
    have hnl := lnsN_len s
    refine ⟨by rw [tab_len]; omega, fun x hx => ?_, fun hc => ?_, fun hc => ?_⟩
    · unfold tab at hx
      obtain ⟨j, _, rfl⟩ := List.mem_map.1 hx
      show (List.getD (sB 32 (lnAt s j)) 1 []).length ≤ _
      have h1 := hml j
      by_cases hj : 1 < (sB 32 (lnAt s j)).length
      · have := sB_mem_len 32 (lnAt s j) _ (getD_inS hj)
        omega
      · have : List.getD (sB 32 (lnAt s j)) 1 [] = [] := by rw [List.getD_eq_getElem?_getD, List.getElem?_eq_none (by omega)]; rfl
        rw [this]; exact Nat.zero_le _
    · have hc := bneZ.1 hc
      rw [if_pos hc]
      exact ⟨rfl, rfl, rfl, trivial⟩
    · have hc := bneF.1 hc
      rw [if_neg (fun e => e hc)]
      exact ⟨rfl, rfl, rfl, trivial⟩
theorem so94_ : SpecOk P1 gl1 94 sp94 := by
  intro vs ps r h hp
  simp only [sp94] at h
  split at h
  · cases h; exact fn94 _ (hp _ (.head _))
  · cases h
theorem so94 : Sp1 94 sp94 := ⟨so94_, Proofs.Tryz.f94, _, by kernel_rfl, rfl, by kernel_rfl⟩
theorem itoa_small {n : Int} (h0 : 0 ≤ n) (h : n < 10) : Lib.itoa n = [UInt8.ofNat (48 + n.toNat)] := by
  unfold Lib.itoa
  rw [if_neg (by omega), Lib.decDigits_one (by omega)]
theorem itoa_big {n : Int} (h : 10 ≤ n) : Lib.itoa n = Lib.itoa (n / 10) ++ [UInt8.ofNat (48 + (n % 10).toNat)] := by
  unfold Lib.itoa
  rw [if_neg (by omega), if_neg (by omega), Lib.decDigits, dif_neg (by omega)]
  have e1 : n.toNat / 10 = (n / 10).toNat := by omega
  have e2 : n.toNat % 10 = (n % 10).toNat := by omega
  rw [e1, e2]
theorem itoa_neg {n : Int} (h : n < 0) : Lib.itoa n = 45 :: Lib.itoa (-n) := by
  unfold Lib.itoa
  rw [if_pos h, if_neg (by omega)]
  have e : n.natAbs = (-n).toNat := by omega
  rw [e]
theorem itoa_len21 (n : Int) (h : fits .i64 n) : (Lib.itoa n).length ≤ 21 := Lib.itoa_length_le n h.1 h.2
theorem pow_le' {k : Nat} (hk : k ≤ 10) : (10 : Int) ^ k ≤ 10000000000 := by
  match k, hk with
  | 0, _ => decide
  | 1, _ => decide
  | 2, _ => decide
  | 3, _ => decide
  | 4, _ => decide
  | 5, _ => decide
  | 6, _ => decide
  | 7, _ => decide
  | 8, _ => decide
  | 9, _ => decide
  | 10, _ => decide
theorem pow_pos' : ∀ k : Nat, (1 : Int) ≤ 10 ^ k
  | 0 => by decide
  | k + 1 => by
    have := pow_pos' k
    have e : (10 : Int) ^ (k + 1) = 10 ^ k * 10 := Int.pow_succ ..
    omega
theorem tdq {n : Int} (h : n < 0) : Int.tdiv n 10 = -(-n / 10) ∧ Int.tmod n 10 = -(-n % 10) := by
  obtain ⟨m, rfl⟩ : ∃ m, n = -m := ⟨-n, by omega⟩
  rw [Int.neg_tdiv, Int.neg_tmod, Int.neg_neg, Int.tdiv_eq_ediv_of_nonneg (by omega), Int.tmod_eq_emod_of_nonneg (by omega)]
  exact ⟨rfl, rfl⟩
theorem bytes_dg {n : Int} (h : 0 ≤ n) (h2 : n < 10) : bytesOf [(48 + n) % 256] = [UInt8.ofNat (48 + n.toNat)] := by
  have e : ((48 + n) % 256).toNat = 48 + n.toNat := by omega
  show [UInt8.ofNat ((48 + n) % 256).toNat] = _
  rw [e]
theorem fn166s (k : Nat) (n : Int) (hT : Sp1 166 (spT k)) (hk : k ≤ 9) (hn : okT (k + 1) n) : Fn P1 gl1 166 [iV n] (.val (sV (itH n))) true := by
  refine Fn.flat ?_ rfl
  refine fn_of true [(166, spT k)] [] h0 0 Proofs.Tryz.f166 ⟨hT, trivial⟩ trivial (by kernel_rfl) rfl (by kernel_rfl) rfl rfl rfl ?_
  rw [vc166s]
  try simp only [splitB_iff, -eq_self]
  simp only [itH, hd_eq, -eq_self]
  have hb := pow_le' (k := k) (by omega)
  have hb1 := pow_le' (k := k + 1) (by omega)
  obtain ⟨_, hn1, hn2⟩ := hn
  have hn2 : -(10 ^ k) < n := hn2
  have hp : (1 : Int) ≤ 10 ^ k := pow_pos' k
  have hs1 : (10 : Int) ^ (k + 1) = 10 ^ k * 10 := Int.pow_succ ..
  have hk1 : k = 0 ∨ (1 ≤ k ∧ (10 : Int) ^ k = 10 ^ (k - 1) * 10 ∧ (1 : Int) ≤ 10 ^ (k - 1)) := by
    cases k with
    | zero => exact .inl rfl
    | succ j => exact .inr ⟨by omega, Int.pow_succ .., pow_pos' j⟩
  have hz : k = 0 → (10 : Int) ^ k = 1 := fun e => by rw [e]; rfl
  refine ⟨fun h => ⟨fun h2 => ?_, fun h2 => ?_⟩, fun h => ⟨fun h2 => ?_, fun h2 => ?_⟩⟩
  · have h := of_decide_eq_true h
    have h2 := of_decide_eq_true h2
    have e : IntKind.wrap .i64 (0 - n) = -n := by rw [fitw (by omega)]; omega
    rw [e]
    have hl := itoa_len21 (-n) (by simp only [fits]; omega)
    refine ⟨⟨?_, ?_, ?_⟩, ?_, (itoa_neg h).symm, trivial⟩
    · omega
    · rcases hk1 with h0 | ⟨_, h3, h4⟩
      · have := hz h0; omega
      · omega
    · rcases hk1 with h0 | ⟨_, h3, h4⟩
      · have := hz h0; omega
      · omega
    · show 1 + (Lib.itoa (-n)).length ≤ _; omega
  · have h := of_decide_eq_true h
    have h2 := of_decide_eq_false h2
    obtain ⟨t1, t2⟩ := tdq h
    rw [t1, t2]
    have e : IntKind.wrap .i64 (0 - -(-n % 10)) = -n % 10 := by rw [fitw (by omega)]; omega
    rw [e]
    obtain ⟨h3, h4, h5⟩ : 1 ≤ k ∧ (10 : Int) ^ k = 10 ^ (k - 1) * 10 ∧ (1 : Int) ≤ 10 ^ (k - 1) := by
      rcases hk1 with h0 | h3
      · have := hz h0; omega
      · exact h3
    have hl := itoa_len21 (-(-n / 10)) (by simp only [fits]; omega)
    have hl2 := itoa_len21 (-n % 10) (by simp only [fits]; omega)
    refine ⟨⟨by decide, by simp only [fits]; omega⟩, ⟨h3, by omega, by omega⟩, by decide, ⟨h3, by omega, by omega⟩, by omega, ?_, trivial⟩
    rw [itoa_neg h, itoa_big (n := -n) (by omega), itoa_neg (n := -(-n / 10)) (by omega), itoa_small (n := -n % 10) (by omega) (by omega), Int.neg_neg]
    rfl
  · have h := of_decide_eq_false h
    have h2 := of_decide_eq_true h2
    have e : IntKind.wrap .i64 (48 + n) = 48 + n := fitw (by omega)
    rw [e, itoa_small (by omega) h2]
    exact ⟨bytes_dg (by omega) h2, trivial⟩
  · have h := of_decide_eq_false h
    have h2 := of_decide_eq_false h2
    have t1 : Int.tdiv n 10 = n / 10 := Int.tdiv_eq_ediv_of_nonneg (by omega)
    have t2 : Int.tmod n 10 = n % 10 := Int.tmod_eq_emod_of_nonneg (by omega)
    rw [t1, t2]
    have e : IntKind.wrap .i64 (48 + n % 10) = 48 + n % 10 := fitw (by omega)
    rw [e, bytes_dg (n := n % 10) (by omega) (by omega)]
    obtain ⟨h3, h4, h5⟩ : 1 ≤ k ∧ (10 : Int) ^ k = 10 ^ (k - 1) * 10 ∧ (1 : Int) ≤ 10 ^ (k - 1) := by
      rcases hk1 with h0 | h3
      · have := hz h0; omega
      · exact h3
    have hl := itoa_len21 (n / 10) (by simp only [fits]; omega)
    exact ⟨⟨by decide, by simp only [fits]; omega⟩, ⟨h3, by omega, by omega⟩, by decide, by simp only [List.length_cons, List.length_nil]; omega, (itoa_big (by omega)).symm, trivial⟩
theorem text_ok : ∀ k, k ≤ 10 → Sp1 166 (spT k)
  | 0, _ => by
    refine ⟨fun vs ps r h hp => ?_, Proofs.Tryz.f166, _, by kernel_rfl, rfl, by kernel_rfl⟩
    simp only [spT] at h
    split at h
    · cases h
      have := (hp _ (.head _)).1
      omega
    · cases h
  | k + 1, hk => by
    refine ⟨fun vs ps r h hp => ?_, Proofs.Tryz.f166, _, by kernel_rfl, rfl, by kernel_rfl⟩
    simp only [spT] at h
    split at h
    · cases h
      exact fn166s k _ (text_ok k (by omega)) (by omega) (hp _ (.head _))
    · cases h
noncomputable def sp166 : FSpec := ⟨fun vs => match vs with
  | [.one (.int .i64 n)] => some ([-999999999 ≤ n ∧ n ≤ 999999999], .val (.one (.str (itH n))))
  | _ => none, true⟩
theorem so166 : Sp1 166 sp166 := by
  refine ⟨fun vs ps r h hp => ?_, Proofs.Tryz.f166, _, by kernel_rfl, rfl, by kernel_rfl⟩
  simp only [sp166] at h
  split at h
  · cases h
    have h1 := hp _ (.head _)
    exact (text_ok 10 (Nat.le_refl _)).1 [_] [okT 10 _] _ rfl (fun p h => by
      rcases List.mem_cons.1 h with rfl | h
      · exact ⟨by omega, by omega, by omega⟩
      · cases h)
  · cases h
end Go.Sx

namespace Go.Sx.U
open Go.Sx
theorem join_two (a b : Str) (r : List Str) (sep : Str) : Lib.join (a :: b :: r) sep = a ++ sep ++ Lib.join (b :: r) sep := by
  rw [Lib.join_cons, Lib.join_cons]
  simp [Lib.joinTail]
theorem join_flat : ∀ xs : List Str, Lib.join xs [] = xs.flatten
  | [] => rfl
  | [a] => by rw [Lib.join_one]; simp
  | a :: b :: r => by rw [join_two, join_flat (b :: r)]; simp
def EdOk (x : Ed) : Prop := isName x.1 = true ∧ ∀ n ∈ numsE x, -999999999 ≤ n ∧ n ≤ 999999999
theorem ok_of_chk {L : List Ed} (h : chkText L = 0) : L.length ≤ 16 ∧ ∀ x ∈ L, EdOk x := by
  have h16 : ¬ 16 < L.length := fun e => by
    have : chkText L = 5 := if_pos e
    omega
  have hC : chkText L = upTo (fun i => chkTx (L.getD i e0)) L.length := if_neg h16
  rw [hC] at h
  have key : ∀ n, upTo (fun i => chkTx (L.getD i e0)) n = 0 → ∀ j, j < n → chkTx (L.getD j e0) = 0 := by
    intro n
    induction n with
    | zero => intro _ j hj; omega
    | succ n ih =>
      intro h j hj
      rw [upTo] at h
      split at h
      · rename_i h0
        rcases Nat.lt_succ_iff_lt_or_eq.1 hj with h3 | h3
        · exact ih h0 j h3
        · subst h3; exact h
      · rename_i h0; exact absurd h h0
  refine ⟨by omega, fun x hx => ?_⟩
  obtain ⟨j, hj, rfl⟩ := List.getElem_of_mem hx
  have h0 := key _ h j hj
  have e : List.getD L j e0 = L[j] := by rw [List.getD_eq_getElem?_getD, List.getElem?_eq_getElem hj]; rfl
  rw [e] at h0
  unfold chkTx at h0
  split at h0
  · rename_i hn
    refine ⟨hn, fun n hnm => ?_⟩
    have hz : ∀ (xs : List Int), first xs = 0 → ∀ y ∈ xs, y = 0 := by
      intro xs
      induction xs with
      | nil => intro _ y hy; cases hy
      | cons a r ih =>
        intro h y hy
        rw [first] at h
        split at h
        · rename_i ha
          rcases List.mem_cons.1 hy with rfl | hy
          · exact ha
          · exact ih h y hy
        · rename_i ha; exact absurd h ha
    have := hz _ h0 _ (List.mem_map_of_mem (f := fun n => within n (-999999999) 999999999) hnm)
    unfold within at this
    split at this
    · cases this
    · rename_i h1; omega
  · cases h0
theorem printN_eq {L : List Ed} (h : chkText L = 0) : printN L = (L.map lineE).flatten := by
  unfold printN
  rw [if_pos h, join_flat]
end Go.Sx.U

namespace Go.Sx
open U
end Go.Sx
namespace Go.Sx
open U
noncomputable def sp93 : FSpec := ⟨fun vs => match vs with
  | [.one (.sl (.pair .str (.pair (.int .i64) (.pair (.int .i64) (.pair (.int .i64) (.int .i64))))) L)] => some ([List.length L ≤ 1000, ∀ x ∈ (show List Ed from L), (∀ n ∈ numsE x, -999999999 ≤ n ∧ n ≤ 999999999) ∧ x.1.length ≤ 1000], .val (sV (ptH L)))
  | _ => none, true⟩
end Go.Sx

namespace Go.Sx
open U
theorem vc93 (L : List Ed) : exF (env false [(166, sp166)] []) h94 0 93 Proofs.Tryz.f93 [.one (.sl edT L)] (.val (sV (ptH L))) = (let q0 := (ByteArray.data { data := #[(101 : UInt8), (100 : UInt8), (105 : UInt8), (116 : UInt8), (32 : UInt8)] }); let q1 := (ByteArray.data { data := #[(32 : UInt8)] }); let q3 := (9223372036854775807 : Nat); let q5 := (List.length L); let q6 := (-999999999 : Int); (∃ (g : Nat), Nat.le g q5 ∧ (0 : Int) = (↑g : Int) ∧ Array.toList (ByteArray.data { data := #[] }) = ptH (List.take g L) ∧ L = L ∧ True) ∧ ∀ (g : Nat), let q2 := (List.getD L g e0); let q4 := (List.take g L); Nat.le g q5 → splitB (decide ((↑g : Int) < (↑q5 : Int))) (((0 : Int) ≤ (↑g : Int) ∧ (↑g : Int) < (↑q5 : Int)) ∧ List.length (ptH q4) + List.length (Array.toList q0) ≤ q3 ∧ List.length (ptH q4 ++ Array.toList q0) + List.length q2.1 ≤ q3 ∧ List.length (ptH q4 ++ Array.toList q0 ++ q2.1) + List.length (Array.toList q1) ≤ q3 ∧ (q6 ≤ q2.2.1 ∧ q2.2.1 ≤ (999999999 : Int)) ∧ List.length (ptH q4 ++ Array.toList q0 ++ q2.1 ++ Array.toList q1) + List.length (itH q2.2.1) ≤ q3 ∧ List.length (ptH q4 ++ Array.toList q0 ++ q2.1 ++ Array.toList q1 ++ itH q2.2.1) + List.length (Array.toList q1) ≤ q3 ∧ (q6 ≤ q2.2.2.1 ∧ q2.2.2.1 ≤ (999999999 : Int)) ∧ List.length (ptH q4 ++ Array.toList q0 ++ q2.1 ++ Array.toList q1 ++ itH q2.2.1 ++ Array.toList q1) + List.length (itH q2.2.2.1) ≤ q3 ∧ List.length (ptH q4 ++ Array.toList q0 ++ q2.1 ++ Array.toList q1 ++ itH q2.2.1 ++ Array.toList q1 ++ itH q2.2.2.1) + List.length (Array.toList q1) ≤ q3 ∧ (q6 ≤ q2.2.2.2.1 ∧ q2.2.2.2.1 ≤ (999999999 : Int)) ∧ List.length (ptH q4 ++ Array.toList q0 ++ q2.1 ++ Array.toList q1 ++ itH q2.2.1 ++ Array.toList q1 ++ itH q2.2.2.1 ++ Array.toList q1) + List.length (itH q2.2.2.2.1) ≤ q3 ∧ List.length (ptH q4 ++ Array.toList q0 ++ q2.1 ++ Array.toList q1 ++ itH q2.2.1 ++ Array.toList q1 ++ itH q2.2.2.1 ++ Array.toList q1 ++ itH q2.2.2.2.1) + List.length (Array.toList q1) ≤ q3 ∧ (q6 ≤ q2.2.2.2.2 ∧ q2.2.2.2.2 ≤ (999999999 : Int)) ∧ List.length (ptH q4 ++ Array.toList q0 ++ q2.1 ++ Array.toList q1 ++ itH q2.2.1 ++ Array.toList q1 ++ itH q2.2.2.1 ++ Array.toList q1 ++ itH q2.2.2.2.1 ++ Array.toList q1) + List.length (itH q2.2.2.2.2) ≤ q3 ∧ List.length (ptH q4 ++ Array.toList q0 ++ q2.1 ++ Array.toList q1 ++ itH q2.2.1 ++ Array.toList q1 ++ itH q2.2.2.1 ++ Array.toList q1 ++ itH q2.2.2.2.1 ++ Array.toList q1 ++ itH q2.2.2.2.2) + List.length (Array.toList (ByteArray.data { data := #[(10 : UInt8)] })) ≤ q3 ∧ fits IntKind.i64 ((↑g : Int) + (1 : Int)) ∧ ∃ (g' : Nat), Nat.le g' q5 ∧ List.length L - g' < List.length L - g ∧ (↑g : Int) + (1 : Int) = (↑g' : Int) ∧ ptH q4 ++ Array.toList q0 ++ q2.1 ++ Array.toList q1 ++ itH q2.2.1 ++ Array.toList q1 ++ itH q2.2.2.1 ++ Array.toList q1 ++ itH q2.2.2.2.1 ++ Array.toList q1 ++ itH q2.2.2.2.2 ++ Array.toList (ByteArray.data { data := #[(10 : UInt8)] }) = ptH (List.take g' L) ∧ L = L ∧ True) (ptH q4 = ptH L ∧ True)) := by
  kernel_rfl
end Go.Sx

namespace Go.Sx
open U
theorem line_form (x : Ed) : lineE x = [101, 100, 105, 116, 32] ++ x.1 ++ [32] ++ Lib.itoa x.2.1 ++ [32] ++ Lib.itoa x.2.2.1 ++ [32] ++ Lib.itoa x.2.2.2.1 ++ [32] ++ Lib.itoa x.2.2.2.2 ++ [10] := by
  have e : lineE x = Lib.join [[101, 100, 105, 116], x.1, Lib.itoa x.2.1, Lib.itoa x.2.2.1, Lib.itoa x.2.2.2.1, Lib.itoa x.2.2.2.2] [32] ++ [10] := rfl
  rw [e, join_two, join_two, join_two, join_two, join_two, Lib.join_one]
  simp only [List.append_assoc]
  rfl
theorem fn93 (L : List Ed) (hl : L.length ≤ 1000) (hb : ∀ x ∈ L, (∀ n ∈ numsE x, -999999999 ≤ n ∧ n ≤ 999999999) ∧ x.1.length ≤ 1000) : Fn P1 gl1 93 [.one (.sl edT L)] (.val (sV (ptH L))) true := by
  refine Fn.flat ?_ rfl
  refine fn_of false [(166, sp166)] [] h94 0 Proofs.Tryz.f93 ⟨so166, trivial⟩ trivial (by kernel_rfl) rfl (by kernel_rfl) rfl rfl rfl ?_
  rw [vc93]
  try simp only [splitB_iff, -eq_self]
  have e1 : Array.toList (ByteArray.data { data := #[(101 : UInt8), (100 : UInt8), (105 : UInt8), (116 : UInt8), (32 : UInt8)] }) = [101, 100, 105, 116, 32] := rfl
  have e2 : Array.toList (ByteArray.data { data := #[(32 : UInt8)] }) = [32] := rfl
  have e3 : Array.toList (ByteArray.data { data := #[(10 : UInt8)] }) = [10] := rfl
  have e4 : Array.toList (ByteArray.data { data := #[] }) = ([] : Str) := rfl
  simp only [ptH, itH, hd_eq, e1, e2, e3, e4, -eq_self]
  have hfits : ∀ x ∈ L, ∀ n ∈ numsE x, fits .i64 n := fun x hx n hn => by
    have := (hb x hx).1 n hn
    simp only [fits]; omega
  have hlen : ∀ g, ((List.take g L).map lineE).flatten.length ≤ 1000 * 2000 := fun g => by
    have hj := join_len 2000 ((List.take g L).map lineE) (fun y hy => by
      obtain ⟨x, hx, rfl⟩ := List.mem_map.1 hy
      have hx := List.mem_of_mem_take hx
      have h1 := line_len (hfits x hx)
      have h2 := (hb x hx).2
      unfold lineE
      rw [List.length_append]
      simp only [List.length_cons, List.length_nil]
      omega)
    rw [join_flat, List.length_map, List.length_take] at hj
    exact Nat.le_trans hj (Nat.mul_le_mul_right _ (by omega))
  refine ⟨⟨0, Nat.zero_le _, rfl, rfl, rfl, trivial⟩, fun g hg => ⟨fun hlt => ?_, fun hge => ?_⟩⟩
  · have hlt := of_decide_eq_true hlt
    have hlt : g < L.length := by omega
    have hx := getD_mem (d := e0) hlt
    have hq := hlen g
    have hxn := hb _ hx
    have n1 := hxn.1 (L.getD g e0).2.1 (by simp [numsE])
    have n2 := hxn.1 (L.getD g e0).2.2.1 (by simp [numsE])
    have n3 := hxn.1 (L.getD g e0).2.2.2.1 (by simp [numsE])
    have n4 := hxn.1 (L.getD g e0).2.2.2.2 (by simp [numsE])
    have i1 := Lib.itoa_length_le (L.getD g e0).2.1 (by omega) (by omega)
    have i2 := Lib.itoa_length_le (L.getD g e0).2.2.1 (by omega) (by omega)
    have i3 := Lib.itoa_length_le (L.getD g e0).2.2.2.1 (by omega) (by omega)
    have i4 := Lib.itoa_length_le (L.getD g e0).2.2.2.2 (by omega) (by omega)
    have hnm := hxn.2
    have hfin : ((List.take (g + 1) L).map lineE).flatten = ((List.take g L).map lineE).flatten ++ lineE (L.getD g e0) := by
      rw [List.take_succ_eq_append_getElem hlt, List.map_append, List.flatten_append]
      have : L[g] = L.getD g e0 := by rw [List.getD_eq_getElem?_getD, List.getElem?_eq_getElem hlt]; rfl
      rw [this]; simp
    generalize L.getD g e0 = x at *
    generalize ((List.take g L).map lineE).flatten = t at *
    simp only [List.length_append, List.length_cons, List.length_nil, -eq_self]
    refine ⟨⟨by omega, by omega⟩, by omega, by omega, by omega, ⟨by omega, by omega⟩, by omega, by omega, ⟨by omega, by omega⟩, by omega, by omega, ⟨by omega, by omega⟩, by omega, by omega, ⟨by omega, by omega⟩, by omega, by omega, by simp only [fits]; omega, g + 1, Nat.succ_le_of_lt hlt, by omega, by simp, ?_, rfl, trivial⟩
    rw [hfin, line_form]
    simp only [List.append_assoc]
  · have hge := of_decide_eq_false hge
    rw [List.take_of_length_le (by omega)]
    exact ⟨rfl, trivial⟩
theorem so93_ : SpecOk P1 gl1 93 sp93 := by
  intro vs ps r h hp
  simp only [sp93] at h
  split at h
  · cases h; exact fn93 _ (hp _ (.head _)) (hp _ (.tail _ (.head _)))
  · cases h
theorem so93 : Sp1 93 sp93 := ⟨so93_, Proofs.Tryz.f93, _, by kernel_rfl, rfl, by kernel_rfl⟩
end Go.Sx

namespace Go.Sx.U
noncomputable def pnH (L : List Ed) : Str := hd (printN L)
end Go.Sx.U
namespace Go.Sx
open U
noncomputable def sp90n : FSpec := ⟨fun vs => match vs with
  | [.one (.sl (.pair .str (.pair (.int .i64) (.pair (.int .i64) (.pair (.int .i64) (.int .i64))))) L)] => some ([List.length L ≤ 1000000, ∀ x ∈ (show List Ed from L), (∀ n ∈ numsE x, fits .i64 n) ∧ x.1.length ≤ 1000], .tup [sV (pnH L), iV (chkText L)])
  | _ => none, true⟩
noncomputable def sp91 : FSpec := ⟨fun vs => match vs with
  | [.one (.str s)] => some ([List.length s ≤ 1000000], .tup [.one (.frs edT (prsX s).1), iV (prsX s).2.1, iV (prsX s).2.2])
  | _ => none, false⟩
end Go.Sx

namespace Go.Sx
open U
theorem vc14 (L : List Ed) (s : Str) : exF (env false [(82, sp82), (18, sp18), (34, sp34), (90, sp90n), (91, sp91), (92, sp92), (93, sp93), (94, sp94), (57, sp57), (56, sp56)] []) h0 0 14 Proofs.Tryz.f14 [.one (.sl edT L), sV s] (.val (bV true)) = (let q2 := (1000000 : Nat); let q0 := ((bif pnH L == Array.toList (ByteArray.data { data := #[] }) then chkText L == chkText L else false) = true → List.length (prsX s).1 ≤ q2); let q1 := ((bif pnH L == ptH L then chkText L == chkText L else false) = true → List.length (prsX s).1 ≤ q2); List.length L ≤ (9223372036854775807 : Nat) ∧ splitB (bif !shortE L then true else bif decide ((300 : Int) < (↑(List.length s) : Int)) then (↑(List.length s) : Int) != (4097 : Int) else false) (true = true ∧ True) (List.length L ≤ q2 ∧ List.length L ≤ q2 ∧ (∀ (x : Ed), x ∈ L → (∀ (n : Int), n ∈ numsE x → fits IntKind.i64 n) ∧ List.length x.1 ≤ (1000 : Nat)) ∧ List.length s ≤ q2 ∧ List.length L ≤ (1000000000 : Nat) ∧ (∀ (x : Ed), x ∈ L → List.length x.1 ≤ (1000000000 : Nat)) ∧ splitB (chkText L == (0 : Int)) (List.length L ≤ (1000 : Nat) ∧ (∀ (x : Ed), x ∈ L → (∀ (n : Int), n ∈ numsE x → (-999999999 : Int) ≤ n ∧ n ≤ (999999999 : Int)) ∧ List.length x.1 ≤ (1000 : Nat)) ∧ List.length s ≤ q2 ∧ q1 ∧ q1 ∧ (bif bif bif bif bif pnH L == ptH L then chkText L == chkText L else false then decide ((prsX s).1 = (prsX s).1) else false then (prsX s).2.1 == (prsX s).2.1 else false then (prsX s).2.2 == (prsX s).2.2 else false then true else false) = true ∧ True) (List.length s ≤ q2 ∧ q0 ∧ q0 ∧ (bif bif bif bif bif pnH L == Array.toList (ByteArray.data { data := #[] }) then chkText L == chkText L else false then decide ((prsX s).1 = (prsX s).1) else false then (prsX s).2.1 == (prsX s).2.1 else false then (prsX s).2.2 == (prsX s).2.2 else false then true else false) = true ∧ True))) := by
  kernel_rfl
end Go.Sx

namespace Go.Sx
open U
theorem so90n : Sp1 90 sp90n := by
  refine ⟨fun vs ps r h hp => ?_, Proofs.Tryz.f90, _, by kernel_rfl, rfl, by kernel_rfl⟩
  simp only [sp90n] at h
  split at h
  · cases h
    unfold pnH; rw [hd_eq]
    exact fn90 _ (hp _ (.head _)) (hp _ (.tail _ (.head _)))
  · cases h
theorem so91 : Sp1 91 sp91 := by
  refine ⟨fun vs ps r h hp => ?_, Proofs.Tryz.f91, _, by kernel_rfl, rfl, by kernel_rfl⟩
  simp only [sp91] at h
  split at h
  · cases h
    exact fn91 _ (hp _ (.head _))
  · cases h
theorem prsT_form (s : Str) : ((prsT s).2.2 ≠ 0 ∧ (prsT s).1 = []) ∨ ((prsT s).2.2 = 0 ∧ (prsT s).2.1 = 0 ∧ chkText (prsT s).1 = 0) := by
  unfold prsT
  split
  · exact .inl ⟨by decide, rfl⟩
  · split
    · exact .inl ⟨by simp, rfl⟩
    · split
      · exact .inl ⟨by simp, rfl⟩
      · split
        · rename_i h; exact .inl ⟨h, rfl⟩
        · rename_i h; exact .inr ⟨rfl, rfl, Decidable.not_not.1 h⟩
theorem prsT_len (s : Str) : (prsT s).1.length ≤ 16 := by
  rcases prsT_form s with ⟨_, h⟩ | ⟨_, _, h⟩
  · rw [h]; simp
  · exact (ok_of_chk h).1
theorem shortE_of {L : List Ed} (h : shortE L = true) : L.length ≤ 17 ∧ ∀ x ∈ L, x.1.length ≤ 40 := by
  unfold shortE at h
  rw [Bool.and_eq_true] at h
  refine ⟨?_, fun x hx => of_decide_eq_true (List.all_eq_true.1 h.1 x hx)⟩
  have h2 := h.2
  rw [Bool.or_eq_true] at h2
  rcases h2 with h2 | h2 <;> have := of_decide_eq_true h2 <;> omega
theorem fn14 (L : List Ed) (s : Str) (hL : L.length ≤ 9223372036854775807) (hF : ∀ x ∈ L, ∀ n ∈ numsE x, fits .i64 n) (hs : s.length ≤ 9223372036854775807) : Fn P1 gl1 14 [.one (.sl edT L), sV s] (.val (bV true)) true := by
  refine Fn.flat ?_ rfl
  refine fn_of false [(82, sp82), (18, sp18), (34, sp34), (90, sp90n), (91, sp91), (92, sp92), (93, sp93), (94, sp94), (57, sp57), (56, sp56)] [] h0 0 Proofs.Tryz.f14 ⟨so82, so18, so34, so90n, so91, so92, so93, so94, so57, so56, trivial⟩ trivial (by kernel_rfl) rfl (by kernel_rfl) rfl rfl rfl ?_
  rw [vc14]
  try simp only [splitB_iff, -eq_self]
  have e4 : Array.toList (ByteArray.data { data := #[] }) = ([] : Str) := rfl
  simp only [pnH, ptH, prsX, hd_eq, e4, -eq_self]
  have hl := prsT_len s
  refine ⟨hL, fun _ => ⟨rfl, trivial⟩, fun h => ?_⟩
  rw [bcond_l, bcond_r, Bool.or_eq_false_iff, Bool.not_eq_false', Bool.and_eq_false_iff] at h
  have hs1 : s.length ≤ 1000000 := by
    rcases h.2 with h2 | h2
    · have := of_decide_eq_false h2; omega
    · have : (s.length : Int) = 4097 := by simpa using h2
      omega
  obtain ⟨h17, hN⟩ := shortE_of h.1
  refine ⟨by omega, by omega, fun x hx => ⟨hF x hx, by have := hN x hx; omega⟩, hs1, by omega, fun x hx => by have := hN x hx; omega, fun hc => ?_, fun hc => ?_⟩
  · have hc : chkText L = 0 := by simpa using hc
    rw [printN_eq hc]
    obtain ⟨_, hok⟩ := ok_of_chk hc
    exact ⟨by omega, fun x hx => ⟨(hok x hx).2, by have := hN x hx; omega⟩, hs1, fun _ => by omega, fun _ => by omega, by simp, trivial⟩
  · have hc : ¬ chkText L = 0 := by simpa using hc
    have e : printN L = [] := by unfold printN; rw [if_neg hc]
    rw [e]
    exact ⟨hs1, fun _ => by omega, fun _ => by omega, by simp, trivial⟩
end Go.Sx

namespace Go.Sx
open Go.RowKit
def WF : (t : Ty) → t.T → Prop
  | .int k, n => (Lit.int k n).wf = true
  | .bool, _ => True
  | .str, l => List.length l ≤ maxLen
  | .flt k, n => (Lit.float k n).wf = true
  | .cpx _, _ => True
  | .fnp, _ => True
  | .opq _, _ => True
  | .sl t, xs => List.length xs ≤ maxLen ∧ ∀ i (h : i < List.length xs), WF t (xs[i]'h)
  | .arr n t, xs => List.length xs = n ∧ ∀ i (h : i < List.length xs), WF t (xs[i]'h)
  | .pair a b, x => WF a x.1 ∧ WF b x.2
mutual
def rdChk (P : Program) : Nat → TypeId → Ty → Bool
  | 0, _, _ => false
  | n + 1, t, u => match P.underlying t with
      | some (.int k) => decide (u = .int k)
      | some .bool => decide (u = .bool)
      | some .string => decide (u = .str)
      | some (.float k) => decide (u = .flt k)
      | some (.slice e) => match u with
        | .sl v => decide (P.cellsOf e = v.sz) && decide (v.sz ≠ 0) && rdChk P n e v
        | _ => false
      | some (.array m e) => match u with
        | .arr m' v => decide (m = m') && decide (P.cellsOf e = v.sz) && decide (P.cellsOf t = m * v.sz) && rdChk P n e v
        | _ => false
      | some (.struct fs) => decide (P.cellsOf t = u.sz) && rdFs P n 0 fs.toList u
      | _ => false
def rdFs (P : Program) : Nat → Nat → List Field → Ty → Bool
  | 0, _, _, _ => false
  | n + 1, off, [f], u => decide (f.offset = off) && decide (P.cellsOf f.type = u.sz) && rdChk P n f.type u
  | n + 1, off, f :: r, .pair a b => decide (f.offset = off) && decide (P.cellsOf f.type = a.sz) && rdChk P n f.type a && rdFs P n (off + a.sz) r b
  | _, _, _, _ => false
end
def HW (w : World) : IH := fun b => w.heap[b]?
theorem addp (b off i : Nat) : (Addr.mk b off none).add i = ⟨b, off + i, none⟩ := by
  unfold Addr.add; split <;> simp_all
theorem cells_seg {w : World} {base : Nat} {a : Addr} {n : Nat} {cs : List Value} (h : w.cells? base a n = some cs) (hn : 0 < n) :
    ∃ b off c e fr, a = ⟨b, off, none⟩ ∧ w.heap[b]? = some (.cells c e fr) ∧ seg c off n = cs := by
  obtain ⟨_, hl, hc⟩ := World.cells?_some h
  obtain ⟨b, off, sp⟩ := a
  have h0 := hc 0 hn
  rw [List.getElem?_eq_getElem (by omega)] at h0
  have hs : sp = none := by
    have := World.cell?_spot h0
    simp only [Addr.add] at this
    cases sp with
    | none => rfl
    | some x => simp at this
  subst hs
  have hb : ∃ c e fr, w.heap[b]? = some (.cells c e fr) := by
    simp only [World.cell?, Addr.add] at h0
    split at h0
    · exact ⟨_, _, _, ‹_›⟩
    · cases h0
  obtain ⟨c, e, fr, hb⟩ := hb
  refine ⟨b, off, c, e, fr, rfl, hb, ?_⟩
  have hi : ∀ i, i < n → c[off + i]? = cs[i]? := by
    intro i hi
    have := hc i hi
    rw [addp] at this
    simpa [World.cell?, hb] using this
  apply List.ext_getElem?
  intro i
  simp only [seg, List.getElem?_take, List.getElem?_drop]
  split
  · rename_i h1
    rw [← hi i h1]; simp
  · rename_i h1
    rw [List.getElem?_eq_none (by omega)]
theorem choose_list {α : Type} (n : Nat) (p : Nat → α → Prop) (h : ∀ i, i < n → ∃ y, p i y) : ∃ ys : List α, ys.length = n ∧ ∀ i (hi : i < ys.length), p i (ys[i]'hi) := by
  induction n with
  | zero => exact ⟨[], rfl, fun i hi => by simp at hi⟩
  | succ n ih =>
    obtain ⟨ys, h1, h2⟩ := ih fun i hi => h i (by omega)
    obtain ⟨y, hy⟩ := h n (by omega)
    refine ⟨ys ++ [y], by simp [h1], fun i hi => ?_⟩
    by_cases hlt : i < ys.length
    · rw [List.getElem_append_left hlt]; exact h2 i hlt
    · simp at hi
      have : i = ys.length := by omega
      subst this
      simp
      rw [h1]; exact hy
theorem trod_rd_all {X : Type} {enc : TypeId × Value → X} {P : Program} {w : World} {base : Nat} {spare : Nat → Bool} {held : Bool} : ∀ (n : Nat),
    (∀ (t : TypeId) (u : Ty) (fuel : Nat) (cs : List Value) (x : DataW X × List MemPlace), rdChk P n t u = true → DataW.trod enc P w base spare held fuel t cs = some x → ∃ y : u.T, Rd (HW w) u y cs ∧ WF u y) ∧
    (∀ (off : Nat) (fs : List Field) (u : Ty) (fuel : Nat) (cs : List Value), rdFs P n off fs u = true → cs.length = off + u.sz →
      (∀ f ∈ fs, ∃ x, DataW.trod enc P w base spare held fuel f.type ((cs.drop f.offset).take (P.cellsOf f.type)) = some x) → ∃ y : u.T, Rd (HW w) u y (cs.drop off) ∧ WF u y) := by
  intro n
  induction n with
  | zero => exact ⟨fun _ _ _ _ _ h => by simp [rdChk] at h, fun _ _ _ _ _ h => by simp [rdFs] at h⟩
  | succ n ih =>
    refine ⟨?_, ?_⟩
    · intro t u fuel cs x h hx
      unfold rdChk at h
      split at h
      · rename_i k hu
        simp at h; subst h
        obtain ⟨m, rfl, _, hw⟩ := DataW.trod_int hu hx
        exact ⟨m, rfl, hw⟩
      · rename_i hu
        simp at h; subst h
        obtain ⟨m, rfl, _⟩ := DataW.trod_bool hu hx
        exact ⟨m, rfl, trivial⟩
      · rename_i hu
        simp at h; subst h
        obtain ⟨s, rfl, _, hw⟩ := DataW.trod_string hu hx
        refine ⟨s.data.toList, rfl, ?_⟩
        show s.data.toList.length ≤ maxLen
        rw [Array.length_toList]; exact hw
      · rename_i k hu
        simp at h; subst h
        cases fuel with
        | zero => simp [DataW.trod] at hx
        | succ m =>
          unfold DataW.trod at hx
          rw [hu] at hx
          have : ∃ b, cs = [.float k b] ∧ (Lit.float k b).wf = true := by split at hx <;> simp_all
          obtain ⟨b, rfl, hw⟩ := this
          exact ⟨b, rfl, hw⟩
      · rename_i e hu
        split at h
        · rename_i v
          simp only [Bool.and_eq_true, decide_eq_true_eq] at h
          obtain ⟨⟨h1, h2⟩, h3⟩ := h
          rcases DataW.trod_slice hu hx with ⟨rfl, _⟩ | ⟨a, len, cap, elems, rest, m, _, rfl, _, _, hlc, hm, hel, hei, _, _⟩
          · exact ⟨[], ⟨none, 0, rfl, Nat.le_refl _, .inl rfl⟩, by simp [WF]⟩
          · have hone : ∀ i, i < len → ∃ cs', w.cells? base (a.add (i * P.cellsOf e)) (P.cellsOf e) = some cs' ∧ ∃ y : v.T, Rd (HW w) v y cs' ∧ WF v y := by
              intro i hi
              have := hei i hi
              rw [List.getElem?_eq_getElem (by omega)] at this
              obtain ⟨cs', hc1, hc2⟩ := Option.bind_eq_some_iff.1 this
              exact ⟨cs', hc1, ih.1 _ _ _ _ _ h3 hc2⟩
            obtain ⟨ys, hy1, hy2⟩ := choose_list len (fun i (y : v.T) => ∃ cs', w.cells? base (a.add (i * P.cellsOf e)) (P.cellsOf e) = some cs' ∧ Rd (HW w) v y cs' ∧ WF v y)
              (fun i hi => by obtain ⟨cs', h1, y, h2⟩ := hone i hi; exact ⟨y, cs', h1, h2⟩)
            refine ⟨ys, ⟨some a, cap, by rw [hy1], by rw [hy1]; exact hlc, ?_⟩, by rw [hy1]; omega, fun i hi => ?_⟩
            · rcases Nat.eq_zero_or_pos ys.length with h0 | h0
              · exact .inl h0
              · right
                obtain ⟨cs0, hc0, _⟩ := hy2 0 h0
                obtain ⟨b, off, c, e', fr, ha, hb, _⟩ := cells_seg hc0 (by omega)
                have ha' : a = ⟨b, off, none⟩ := by rw [← ha]; simp [Addr.add]
                refine ⟨b, off, c, e', fr, by rw [ha'], hb, fun i hi => ?_⟩
                obtain ⟨cs', hc', hr, _⟩ := hy2 i hi
                obtain ⟨b', off', c', e'', fr', hab, hb', hsg⟩ := cells_seg hc' (by omega)
                rw [ha', addp] at hab
                simp only [Addr.mk.injEq] at hab
                obtain ⟨rfl, rfl, _⟩ := hab
                rw [hb] at hb'
                cases hb'
                rw [h1] at hsg
                rw [hsg]; exact hr
            · obtain ⟨_, _, _, hwf⟩ := hy2 i hi
              exact hwf
        · cases h
      · rename_i m e hu
        split at h
        · rename_i m' v
          simp only [Bool.and_eq_true, decide_eq_true_eq] at h
          obtain ⟨⟨⟨rfl, h1⟩, h2⟩, h3⟩ := h
          obtain ⟨xs, k, _, _, hl, hxl, hxi⟩ := DataW.trod_array hu hx
          obtain ⟨ys, hy1, hy2⟩ := choose_list m (fun i (y : v.T) => Rd (HW w) v y ((cs.drop (i * P.cellsOf e)).take (P.cellsOf e)) ∧ WF v y)
            (fun i hi => by
              have := hxi i hi
              rw [List.getElem?_eq_getElem (by omega)] at this
              exact ih.1 _ _ _ _ _ h3 this)
          refine ⟨ys, ⟨hy1, by rw [hl, h2], fun i hi => ?_⟩, hy1, fun i hi => (hy2 i hi).2⟩
          have := (hy2 i hi).1
          rw [h1] at this
          exact this
        · cases h
      · rename_i fs hu
        simp only [Bool.and_eq_true, decide_eq_true_eq] at h
        obtain ⟨xs, k, _, _, hl, hxl, hxi⟩ := DataW.trod_struct hu hx
        have := ih.2 0 fs.toList u k cs h.2 (by rw [hl, h.1]; omega) (fun f hf => by
          obtain ⟨i, hi, rfl⟩ := List.mem_iff_getElem.1 hf
          simp at hi
          have := hxi i fs[i] (by simp [hi])
          rw [List.getElem?_eq_getElem (by omega)] at this
          exact ⟨_, by simpa using this⟩)
        simpa using this
      · cases h
    · intro off fs u fuel cs h hl hf
      match fs, u, h, hl, hf with
      | [], u, h, _, _ => simp [rdFs] at h
      | [f], u, h, hl, hf =>
        simp only [rdFs, Bool.and_eq_true, decide_eq_true_eq] at h
        obtain ⟨⟨rfl, h1⟩, h2⟩ := h
        obtain ⟨x, hx⟩ := hf f (by simp)
        rw [h1, List.take_of_length_le (by simp; omega)] at hx
        exact ih.1 _ _ _ _ _ h2 hx
      | f :: g :: r, .pair a b, h, hl, hf =>
        simp only [rdFs, Bool.and_eq_true, decide_eq_true_eq] at h
        obtain ⟨⟨⟨rfl, h1⟩, h2⟩, h3⟩ := h
        simp only [Ty.sz] at hl
        obtain ⟨x, hx⟩ := hf f (by simp)
        rw [h1] at hx
        obtain ⟨y1, hy1, hw1⟩ := ih.1 _ _ _ _ _ h2 hx
        obtain ⟨y2, hy2, hw2⟩ := ih.2 _ _ _ fuel cs h3 (by omega) (fun g' hg => hf g' (List.mem_cons_of_mem _ hg))
        refine ⟨(y1, y2), ⟨hy1, ?_⟩, hw1, hw2⟩
        rw [List.drop_drop]; exact hy2
      | _ :: _ :: _, .int _, h, _, _ => simp [rdFs] at h
      | _ :: _ :: _, .bool, h, _, _ => simp [rdFs] at h
      | _ :: _ :: _, .str, h, _, _ => simp [rdFs] at h
      | _ :: _ :: _, .flt _, h, _, _ => simp [rdFs] at h
      | _ :: _ :: _, .cpx _, h, _, _ => simp [rdFs] at h
      | _ :: _ :: _, .sl _, h, _, _ => simp [rdFs] at h
      | _ :: _ :: _, .arr _ _, h, _, _ => simp [rdFs] at h
theorem trod_rd {X : Type} {enc : TypeId × Value → X} {P : Program} {w : World} {base : Nat} {spare : Nat → Bool} {held : Bool} (n : Nat)
    {t : TypeId} {u : Ty} (h : rdChk P n t u = true) {fuel : Nat} {cs : List Value} {x : DataW X × List MemPlace} (hx : DataW.trod enc P w base spare held fuel t cs = some x) : ∃ y : u.T, Rd (HW w) u y cs ∧ WF u y :=
  (trod_rd_all n).1 t u fuel cs x h hx
end Go.Sx

namespace Go.Sx
open Go.RowKit Go.ChangeShapes Go.WideShapes Go.ChangeAt
section
variable {X : Type} {enc : TypeId × Value → X} {P : Program} {w : World} {base base' : Nat} {spare : Nat → Bool} {held : Bool} {n : Nat} {t : TypeId} {u : Ty} {v : Value} {d : DataW X} {ps : List MemPlace}
theorem cells_one (hv : ∀ cs, v ≠ .agg cs) : v.cells.toList = [v] := by
  cases v <;> simp_all [Value.cells]
theorem okWide_one (ha : aggOf P t = false) (hok : Value.okWide P w .any base' t v) : ∀ cs, v ≠ .agg cs := by
  intro cs hv
  subst hv
  unfold aggOf at ha
  unfold Value.okWide at hok
  split at hok
  · rename_i h; rw [h] at ha; cases ha
  · rename_i h; rw [h] at ha; cases ha
  · unfold Cell.okWide at hok
    split at hok <;> try (rename_i h; cases h; done)
    all_goals first | (rename_i h _; cases h; done) | skip
    all_goals first | (unfold Cell.ok at hok; split at hok <;> first | (exact hok) | (rename_i h; cases h; done) | (rename_i h _; cases h; done) | simp_all; done) | simp_all
theorem arg_one (h : rdChk P n t u = true) (ha : aggOf P t = false) (hok : Value.okWide P w .any base' t v) (hT : DataW.Trod enc P w base spare held t v d ps) : ∃ y : u.T, Rd (HW w) u y [v] ∧ WF u y := by
  obtain ⟨fuel, hT⟩ := hT
  rw [cells_one (okWide_one ha hok)] at hT
  exact trod_rd n h hT
end
theorem trodAll_below {X : Type} {enc : TypeId × Value → X} {P : Program} (hl : laidOutB P = true) {W W' : World} (hb : Below W.heap.size W W') : ∀ {ts : List TypeId} {vs : List Value} {ds : List (DataW X)} {ps : List MemPlace},
    (ts.all fun t => P.readableRec t && decide (t < P.types.size)) = true → DataW.TrodAll enc P W 0 (fun _ => true) true ts vs ds ps → (∀ x ∈ ps, x.block < W.heap.size) → DataW.TrodAll enc P W' 0 (fun b => decide (b < W.heap.size)) true ts vs ds ps
  | [], vs, ds, ps, _, h, _ => by
    cases vs <;> cases ds <;> simp_all [DataW.TrodAll]
  | t :: ts, vs, ds, ps, ht, h, hlt => by
    obtain ⟨v, vs', d, ds', p, q, rfl, rfl, rfl, h1, h2⟩ := trodAll_cons h
    simp only [List.all_cons, Bool.and_eq_true, decide_eq_true_eq] at ht
    refine trodAll_cons_mk (Below.trod hl ht.1.1 ht.1.2 h1 hb fun x hx => hlt x (by simp [hx])) (trodAll_below hl hb ht.2 h2 fun x hx => hlt x (by simp [hx]))
theorem law_post {X : Type} {enc : TypeId × Value → X} {P : Program} (hl : laidOutB P = true) {s : ChangeSpec} {f : Func} {tb : TypeId} {W W' : World} {args : Array Value} {ds gs : List (DataW X)} {before : List MemPlace} {r : Value}
    (hvars : s.vars = []) (hts : (f.params.toList.all fun t => P.readableRec t && decide (t < P.types.size)) = true) (hres : f.resultTypes = #[tb]) (htb : P.underlying tb = some .bool)
    (hfn : s.fn X ds = { results := [.lit (.bool true)], args := ds })
    (hW : DataW.Whole enc P f.params.toList s.vars false W args.toList ds gs before) (hb : Below W.heap.size W W') (hr : r = .bool true) :
    s.post enc P f false true false false W args r W' := by
  subst hr
  have hW' := hW
  obtain ⟨p, q, hA, hV, rfl, hfz, hnd⟩ := hW
  rw [hvars] at hV
  obtain ⟨rfl, rfl⟩ := trodVars_none hV
  have hlt : ∀ x ∈ p, x.block < W.heap.size := fun x hx => hW'.lt x (by simp [hx])
  refine ⟨ds, [], p ++ [], [], p, [], hW', ?_, ?_, ?_, hb.frame _, fun h => by cases h⟩
  · rw [List.append_nil, hfn, hres]
    exact trodAll_cons_mk (shut_bool htb _) trodAll_mk0
  · rw [List.append_nil, hfn]
    exact trodAll_below hl hb hts hA hlt
  · rw [List.append_nil, hfn, hvars]
    rfl
theorem law_calls {X : Type} {enc : TypeId × Value → X} {P : Program} (hl : laidOutB P = true) {s : ChangeSpec} {f : Func} {tb : TypeId} {fid : FuncId} {W : World} {args : Array Value} {ds gs : List (DataW X)} {before : List MemPlace}
    (hvars : s.vars = []) (hts : (f.params.toList.all fun t => P.readableRec t && decide (t < P.types.size)) = true) (hres : f.resultTypes = #[tb]) (htb : P.underlying tb = some .bool)
    (hfn : s.fn X ds = { results := [.lit (.bool true)], args := ds })
    (hW : DataW.Whole enc P f.params.toList s.vars false W args.toList ds gs before)
    {gl : Nat → Option ((t : Ty) × t.T)} {avs : List V} (hF : Fn P gl fid avs (.val (.one (.bool true))) true) (hg : GlobOk gl (HW W)) (ha : DenVs ρ0 (HW W) avs args.toList) :
    Calls P fid args W fun e W' => ∃ v, e = .returned v ∧ s.post enc P f false true false false W args v W' := by
  refine (hF W (HW W) args.toList (fun b o h => h) hg ha).mono fun e W' h => ?_
  obtain ⟨v, H', rfl, hb, _, _, hd⟩ := h
  exact ⟨v, rfl, law_post hl hvars hts hres htb hfn hW hb hd.2⟩
theorem glob_tab {P : Program} {W : World} {name : String} {k : IntKind} {zs : List Int} {g : Nat} (h : Lib.TabIs P W name k zs) (hg : P.globalNamed name = some g) :
    ∃ c e fr, HW W g = some (.cells c e fr) ∧ Rd (HW W) (.arr zs.length (.int k)) zs (seg c 0 (zs.length * 1)) ∧ c.size = zs.length * 1 := by
  unfold Lib.TabIs at h
  simp only [World.var?, hg, Option.bind_some] at h
  split at h
  · rename_i cs e fr hh
    cases h
    refine ⟨_, _, _, hh, ?_, by simp⟩
    have e1 : seg (zs.map fun z => Value.int k z).toArray 0 (zs.length * 1) = zs.map fun z => Value.int k z := by
      simp [seg, List.take_of_length_le]
    rw [e1]
    refine ⟨rfl, by simp [Ty.sz], fun i hi => ?_⟩
    show List.take 1 (List.drop (i * 1) (List.map (fun z => Value.int k z) zs)) = [Value.int k zs[i]]
    simp only [Nat.mul_one]
    rw [List.drop_eq_getElem_cons (by simpa using hi)]
    simp
  · cases h
end Go.Sx

namespace Go.Sx
open Go.RowKit
theorem laid_at {P : Program} {W : World} {name : String} {d : DataW Unit} {l : List (String × DataW Unit)} (h : laidMet P l W) (hm : (name, d) ∈ l) :
    ∃ g t cs fuel p, P.globalNamed name = some g ∧ (P.globals[g]?).map (·.type) = some t ∧ W.var? P name = some cs ∧ DataW.trod (fun _ => ()) P W 0 (fun _ => true) false fuel t cs.toList = some (d, p) := by
  obtain ⟨ps, h, hrest⟩ := h
  clear hrest
  induction l generalizing ps with
  | nil => cases hm
  | cons x r ih =>
    obtain ⟨n, e⟩ := x
    obtain ⟨g, t, cs, fuel, p, q, h1, h2, h3, h4, h5, h6⟩ := h
    rcases List.mem_cons.1 hm with e | hm
    · cases e; exact ⟨g, t, cs, fuel, p, h1, h2, h3, h4⟩
    · exact ih hm _ h5
theorem tab_at {P : Program} {W : World} {name : String} {k : IntKind} {zs : List Int} {l : List (String × DataW Unit)} {g : Nat} {t e : TypeId} {n : Nat} (hm : (name, Lib.tabData k zs) ∈ l)
    (hg : P.globalNamed name = some g) (hty : (P.globals[g]?).map (·.type) = some t) (ht : P.underlying t = some (.array n e)) (he : P.underlying e = some (.int k)) (hce : P.cellsOf e = 1) (hct : P.cellsOf t = n)
    (h : laidMet P l W) : Lib.TabIs P W name k zs := by
  obtain ⟨g', t', cs, fuel, p, h1, h2, h3, h4⟩ := laid_at h hm
  obtain rfl := Option.some.inj (hg.symm.trans h1)
  obtain rfl := Option.some.inj (hty.symm.trans h2)
  unfold Lib.TabIs
  rw [h3, ← Lib.cells_of_tab ht he hce hct h4]
theorem var_heap {P : Program} {W : World} {name : String} {g : Nat} {cs : Array Value} (hg : P.globalNamed name = some g) (h : W.var? P name = some cs) : ∃ e fr, W.heap[g]? = some (.cells cs e fr) := by
  simp only [World.var?, hg, Option.bind_some] at h
  split at h
  · rename_i cs' e fr hh
    cases h
    exact ⟨e, fr, hh⟩
  · cases h
theorem pair_at {P : Program} {W : World} {name : String} {k k' : IntKind} {a b : Int} {l : List (String × DataW Unit)} {g : Nat} {t : TypeId} {fs : Array Field} {f0 f1 : Field} (hm : (name, .agg [.lit (.int k a), .lit (.int k' b)]) ∈ l)
    (hg : P.globalNamed name = some g) (hty : (P.globals[g]?).map (·.type) = some t) (ht : P.underlying t = some (.struct fs)) (hfs : fs.toList = [f0, f1]) (ho0 : f0.offset = 0) (ho1 : f1.offset = 1)
    (hc0 : P.cellsOf f0.type = 1) (hc1 : P.cellsOf f1.type = 1) (hu0 : P.underlying f0.type = some (.int k)) (hu1 : P.underlying f1.type = some (.int k')) (hct : P.cellsOf t = 2)
    (h : laidMet P l W) : ∃ c e fr, HW W g = some (.cells c e fr) ∧ Rd (HW W) (.pair (.int k) (.int k')) (a, b) (seg c 0 2) ∧ c.size = 2 := by
  obtain ⟨g', t', cs, fuel, p, h1, h2, h3, h4⟩ := laid_at h hm
  obtain rfl := Option.some.inj (hg.symm.trans h1)
  obtain rfl := Option.some.inj (hty.symm.trans h2)
  obtain ⟨e, fr, hh⟩ := var_heap hg h3
  refine ⟨cs, e, fr, hh, ?_⟩
  have hcs : cs.toList = [.int k a, .int k' b] := by
    cases fuel with
    | zero => simp [DataW.trod] at h4
    | succ fuel =>
      simp only [DataW.trod, ht, hct, hfs, hc0, hc1, ho0, ho1, List.mapM_cons, List.mapM_nil] at h4
      split at h4
      · rename_i hl
        obtain ⟨xs, hx1, hx2⟩ := Option.map_eq_some_iff.1 h4
        simp only [Option.bind_eq_bind, Option.bind_eq_some_iff, Option.pure_def, Option.some.injEq] at hx1
        obtain ⟨y0, hy0, r, ⟨y1, hy1, r2, rfl, rfl⟩, rfl⟩ := hx1
        obtain ⟨m0, e0, hz0, _⟩ := DataW.trod_int hu0 hy0
        obtain ⟨m1, e1, hz1, _⟩ := DataW.trod_int hu1 hy1
        subst hz0 hz1
        simp only [List.map_cons, List.map_nil, Prod.mk.injEq, DataW.agg.injEq, List.cons.injEq, DataW.lit.injEq, Lit.int.injEq, true_and, and_true] at hx2
        obtain ⟨⟨rfl, rfl⟩, _⟩ := hx2
        match hq : cs.toList, hl with
        | [u, v], _ =>
          rw [hq] at e0 e1
          simp at e0 e1
          rw [e0, e1]
      · cases h4
  have hs : seg cs 0 2 = [.int k a, .int k' b] := by unfold seg; rw [hcs]; rfl
  rw [hs]
  exact ⟨⟨rfl, rfl⟩, by rw [← Array.length_toList, hcs]; rfl⟩
def intB (P : Program) (t : TypeId) (k : IntKind) : Bool := match P.underlying t with
  | some (.int q) => decide (q = k)
  | _ => false
theorem intB_ok {P : Program} {t : TypeId} {k : IntKind} (h : intB P t k = true) : P.underlying t = some (.int k) := by
  unfold intB at h
  split at h
  · rename_i q hq
    rw [hq, of_decide_eq_true h]
  · cases h
def pairB (P : Program) (t : TypeId) (k k' : IntKind) : Bool := match P.underlying t with
  | some (.struct fs) => match fs.toList with
    | [f0, f1] => decide (f0.offset = 0) && decide (f1.offset = 1) && decide (P.cellsOf f0.type = 1) && decide (P.cellsOf f1.type = 1) && intB P f0.type k && intB P f1.type k' && decide (P.cellsOf t = 2)
    | _ => false
  | _ => false
theorem pair_at' {P : Program} {W : World} {name : String} {k k' : IntKind} {a b : Int} {l : List (String × DataW Unit)} {g : Nat} {t : TypeId} (hm : (name, .agg [.lit (.int k a), .lit (.int k' b)]) ∈ l)
    (hg : P.globalNamed name = some g) (hty : (P.globals[g]?).map (·.type) = some t) (hc : pairB P t k k' = true) (h : laidMet P l W) :
    ∃ c e fr, HW W g = some (.cells c e fr) ∧ Rd (HW W) (.pair (.int k) (.int k')) (a, b) (seg c 0 2) ∧ c.size = 2 := by
  unfold pairB at hc
  split at hc
  · rename_i fs hu
    split at hc
    · rename_i f0 f1 hfs
      simp only [Bool.and_eq_true, decide_eq_true_eq] at hc
      obtain ⟨⟨⟨⟨⟨⟨h1, h2⟩, h3⟩, h4⟩, h5⟩, h6⟩, h7⟩ := hc
      exact pair_at hm hg hty hu hfs h1 h2 h3 h4 (intB_ok h5) (intB_ok h6) h7 h
    · cases hc
  · cases hc
theorem wf_i64 {n : Int} (h : (Lit.int .i64 n).wf = true) : fits .i64 n := by
  simp [Lit.wf, IntKind.min, IntKind.max, IntKind.signed, IntKind.bits] at h
  simp only [fits]
  omega
theorem wf_mem {t : Ty} {xs : List t.T} (h : WF (.sl t) xs) : ∀ x ∈ xs, WF t x := by
  intro x hx
  obtain ⟨i, hi, rfl⟩ := List.mem_iff_getElem.1 hx
  exact h.2 i hi
end Go.Sx

namespace Go.Sx
theorem j3a : laidOutB Proofs.Tryz.prog = true := by kernel_rfl
theorem j3b : mapsRowed Proofs.Tryz.prog = true := by kernel_rfl
theorem j3c : Proofs.Tryz.prog.stopsHeard = true := by kernel_rfl
theorem j3d : Proofs.Tryz.prog.mayEnter = true := by kernel_rfl
end Go.Sx

namespace Go.Sx
open Go.RowKit
theorem opqE_at {P : Program} {W : World} {name nm : String} {d : DataW Unit} {l : List (String × DataW Unit)} {g : Nat} {ti : TypeId} {ms : Array (String × TypeId)} (hm : (name, .iface nm d) ∈ l)
    (hg : P.globalNamed name = some g) (hty : (P.globals[g]?).map (·.type) = some ti) (hi : P.underlying ti = some (.interface ms)) (h : laidMet P l W) :
    ∃ c e fr, HW W g = some (.cells c e fr) ∧ Rd (HW W) (.opq true) () (seg c 0 (Ty.opq true).sz) ∧ c.size = (Ty.opq true).sz := by
  obtain ⟨g', t', cs, fuel, p, h1, h2, h3, h4⟩ := laid_at h hm
  obtain rfl := Option.some.inj (hg.symm.trans h1)
  obtain rfl := Option.some.inj (hty.symm.trans h2)
  obtain ⟨ee, fr, hh⟩ := var_heap hg h3
  obtain ⟨_, u, v, hc, _⟩ := iface_of_trod hi h4
  obtain ⟨cl⟩ := cs
  have hc : cl = [.iface u v] := hc
  subst hc
  exact ⟨_, ee, fr, hh, ⟨_, rfl, .inr ⟨rfl, u, v, rfl⟩⟩, rfl⟩
theorem opqI_at {P : Program} {W : World} {g : Nat} {t : TypeId} {zero : Array Value} (h : W.ShapedOpen P) (hg : g < P.globals.size)
    (h0 : ((begin P (fun _ _ => 0) default).world.heap[g]?).bind Obj.row? = some (zero, t)) (hz : zero.size = 1)
    (hb : P.buildable t = true) (hc : P.cellTypes P.depth t = some [t]) (hu : P.underlying t = some (.int .i64)) :
    ∃ c e fr, HW W g = some (.cells c e fr) ∧ Rd (HW W) (.opq false) () (seg c 0 (Ty.opq false).sz) ∧ c.size = (Ty.opq false).sz := by
  obtain ⟨m, hm⟩ := Proofs.cell_of_shapedOpen_int h hg h0 hz hb hc hu
  obtain ⟨cs, hh, hs, _⟩ := h.1 g zero t hg h0
  obtain ⟨cl⟩ := cs
  have hl : cl.length = 1 := by have : cl.length = zero.size := hs; omega
  match cl, hl with
  | [v], _ =>
    have hv : v = .int .i64 m := by simpa [World.cell?, hh] using hm
    exact ⟨_, _, _, hh, ⟨_, rfl, .inl ⟨rfl, m, hv⟩⟩, rfl⟩
end Go.Sx
