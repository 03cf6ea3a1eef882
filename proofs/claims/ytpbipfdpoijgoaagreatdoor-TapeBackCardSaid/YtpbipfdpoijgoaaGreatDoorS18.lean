/- A verified symbolic run of functions, part 18: lemmas, no claim of their own. -/
import Derived.Test.YtpbipfdpoijgoaaGreatDoorS17
import Derived.OpenShut
import Derived.ProofKit
import Derived.Carry
import Derived.OpenVars
import Derived.Lib.LaidTab
import Derived.ChangeSame
import Derived.WalkKit
import Derived.Deep.DeepHandedRow
import Derived.JoinedCond
import Derived.KernelRfl
import Derived.Test.YtpbipfdpoijgoaaGreatDoorProg
import Derived.Test.YtpbipfdpoijgoaaGreatDoorCards
import Derived.LaidLaws
import Derived.Shelf.Vars
import Derived.Deep.DeepWitnessRowRef
namespace Go.Sx.U
open Go.Sx
theorem join_two (a b : Str) (r : List Str) (sep : Str) : Lib.join (a :: b :: r) sep = a ++ sep ++ Lib.join (b :: r) sep := by
  rw [Lib.join_cons, Lib.join_cons]
  simp [Lib.joinTail]
theorem sB_join (c : UInt8) : ∀ (ws : List Str), ws ≠ [] → (∀ w ∈ ws, c ∉ w) → sB c (Lib.join ws [c]) = ws
  | [], h, _ => absurd rfl h
  | [a], _, h => by rw [Lib.join_one]; exact sB_none c a (h a (by simp))
  | a :: b :: r, _, h => by
    rw [join_two, List.append_assoc, List.singleton_append, sB_app c a _ (h a (by simp)), sB_join c (b :: r) (by simp) (fun w hw => h w (by simp [hw]))]
theorem join_sB (c : UInt8) : ∀ s : Str, Lib.join (sB c s) [c] = s
  | [] => by simp [sB, Lib.join_one]
  | x :: t => by
    have ih := join_sB c t
    have hne := sB_ne c t
    rw [sB]
    split
    · rename_i hx
      subst hx
      cases e : sB x t with
      | nil => exact absurd e hne
      | cons a r => rw [join_two, ← e, ih]; simp
    · cases e : sB c t with
      | nil => exact absurd e hne
      | cons a r =>
        rw [e] at ih
        simp only [List.headD_cons, List.tail_cons]
        rw [Lib.join_cons] at ih ⊢
        rw [← ih]; simp
theorem join_end (c : UInt8) (w x : Str) (r : List Str) : Lib.join (w :: (r ++ [x])) [c] = Lib.join (w :: r) [c] ++ [c] ++ x := by
  rw [Lib.join_cons, Lib.join_cons]
  simp [Lib.joinTail]
theorem join_flat : ∀ xs : List Str, Lib.join xs [] = xs.flatten
  | [] => rfl
  | [a] => by rw [Lib.join_one]; simp
  | a :: b :: r => by rw [join_two, join_flat (b :: r)]; simp
theorem itoa_byte (n : Int) (b : UInt8) (h : b ∈ Lib.itoa n) : b = 45 ∨ dgB b = true := by
  unfold Lib.itoa at h
  split at h
  · rcases List.mem_cons.1 h with h | h
    · exact .inl h
    · exact .inr (List.all_eq_true.1 (decDigits_all _).1.2.1 b h)
  · exact .inr (List.all_eq_true.1 (decDigits_all _).1.2.1 b h)
theorem itoa_free (n : Int) (c : UInt8) (hc : c = 32 ∨ c = 10) : c ∉ Lib.itoa n := fun h => by
  rcases itoa_byte n c h with h | h <;> rcases hc with rfl | rfl <;> revert h <;> decide
theorem name_free {l : Str} (h : isName l = true) (c : UInt8) (hc : c = 32 ∨ c = 10) : c ∉ l := fun hm => by
  obtain ⟨j, hj, rfl⟩ := List.getElem_of_mem hm
  unfold isName at h
  rw [Bool.and_eq_true] at h
  have := List.all_eq_true.1 h.1 j (List.mem_range.2 hj)
  unfold nameAt at this
  have e : List.getD l j 0 = l[j] := by rw [List.getD_eq_getElem?_getD, List.getElem?_eq_getElem hj]; rfl
  rw [e] at this
  rcases hc with hc | hc <;> rw [hc] at this <;> simp at this
def eB (x : Ed) : Str := Lib.join ([[101, 100, 105, 116], x.1] ++ (numsE x).map Lib.itoa) [32]
theorem lineE_eB (x : Ed) : lineE x = eB x ++ [10] := rfl
theorem mem_join {c : UInt8} : ∀ (ws : List Str), c ∈ Lib.join ws [32] → c = 32 ∨ ∃ w ∈ ws, c ∈ w
  | [], h => by rw [Lib.join_nil] at h; cases h
  | [a], h => by rw [Lib.join_one] at h; exact .inr ⟨a, by simp, h⟩
  | a :: b :: r, h => by
    rw [join_two] at h
    simp only [List.mem_append, List.mem_singleton] at h
    rcases h with (h | h) | h
    · exact .inr ⟨a, by simp, h⟩
    · exact .inl h
    · rcases mem_join (b :: r) h with h | ⟨w, h1, h2⟩
      · exact .inl h
      · exact .inr ⟨w, List.mem_cons_of_mem _ h1, h2⟩
theorem words_free {x : Ed} (h : isName x.1 = true) (c : UInt8) (hc : c = 32 ∨ c = 10) : ∀ w ∈ [[101, 100, 105, 116], x.1] ++ (numsE x).map Lib.itoa, c ∉ w := fun w hw => by
  simp only [List.cons_append, List.nil_append, List.mem_cons] at hw
  rcases hw with rfl | rfl | hw
  · rcases hc with rfl | rfl <;> decide
  · exact name_free h c hc
  · obtain ⟨n, _, rfl⟩ := List.mem_map.1 hw
    exact itoa_free n c hc
theorem eB_free {x : Ed} (h : isName x.1 = true) : (10 : UInt8) ∉ eB x := fun hm => by
  rcases mem_join _ hm with h1 | ⟨w, h1, h2⟩
  · revert h1; decide
  · exact words_free h 10 (.inr rfl) w h1 h2
theorem eB_words {x : Ed} (h : isName x.1 = true) : sB 32 (eB x) = [[101, 100, 105, 116], x.1] ++ (numsE x).map Lib.itoa :=
  sB_join 32 _ (by simp) (words_free h 32 (.inl rfl))
theorem eB_ne (x : Ed) : eB x ≠ [] := by
  unfold eB
  rw [List.cons_append, Lib.join_cons]
  simp
def EdOk (x : Ed) : Prop := isName x.1 = true ∧ ∀ n ∈ numsE x, -999999999 ≤ n ∧ n ≤ 999999999
theorem eB_ok {x : Ed} (h : EdOk x) : lkOk (eB x) = true ∧ lkE (eB x) = x := by
  obtain ⟨nm, a, b, c, d⟩ := x
  have hw := eB_words h.1
  have ha := sg_itoa a (by have := h.2 a (by simp [numsE]); omega)
  have hb := sg_itoa b (by have := h.2 b (by simp [numsE]); omega)
  have hc := sg_itoa c (by have := h.2 c (by simp [numsE]); omega)
  have hd := sg_itoa d (by have := h.2 d (by simp [numsE]); omega)
  have hne : nm ≠ [] := (isName_len h.1).2
  have hw : sB 32 (eB (nm, a, b, c, d)) = [[101, 100, 105, 116], nm, Lib.itoa a, Lib.itoa b, Lib.itoa c, Lib.itoa d] := hw
  obtain ⟨k1, k2⟩ := lk_six hw
  rw [k1, k2, ha.1, hb.1, hc.1, hd.1, ha.2, hb.2, hc.2, hd.2]
  refine ⟨?_, rfl⟩
  have : lkS (eB (nm, a, b, c, d)) = true := by
    unfold lkS
    rw [hw]
    simp [hne]
  rw [this]; rfl
theorem ok_of_chk {L : List Ed} (h : chkText L = 0) : L.length ≤ 16 ∧ ∀ x ∈ L, EdOk x := by
  have h16 : ¬ 16 < L.length := fun e => by
    have : chkText L = 5 := if_pos e
    omega
  have hC : chkText L = upTo (fun i => chkTx (L.getD i e0)) L.length := if_neg h16
  rw [hC] at h
  have key : ∀ n, upTo (fun i => chkTx (L.getD i e0)) n = 0 → ∀ j, j < n → chkTx (L.getD j e0) = 0 := by
    intro n
    induction n with
    | zero => intro _ j hj; omega
    | succ n ih =>
      intro h j hj
      rw [upTo] at h
      split at h
      · rename_i h0
        rcases Nat.lt_succ_iff_lt_or_eq.1 hj with h3 | h3
        · exact ih h0 j h3
        · subst h3; exact h
      · rename_i h0; exact absurd h h0
  refine ⟨by omega, fun x hx => ?_⟩
  obtain ⟨j, hj, rfl⟩ := List.getElem_of_mem hx
  have h0 := key _ h j hj
  have e : List.getD L j e0 = L[j] := by rw [List.getD_eq_getElem?_getD, List.getElem?_eq_getElem hj]; rfl
  rw [e] at h0
  unfold chkTx at h0
  split at h0
  · rename_i hn
    refine ⟨hn, fun n hnm => ?_⟩
    have hz : ∀ (xs : List Int), first xs = 0 → ∀ y ∈ xs, y = 0 := by
      intro xs
      induction xs with
      | nil => intro _ y hy; cases hy
      | cons a r ih =>
        intro h y hy
        rw [first] at h
        split at h
        · rename_i ha
          rcases List.mem_cons.1 hy with rfl | hy
          · exact ha
          · exact ih h y hy
        · rename_i ha; exact absurd h ha
    have := hz _ h0 _ (List.mem_map_of_mem (f := fun n => within n (-999999999) 999999999) hnm)
    unfold within at this
    split at this
    · cases this
    · rename_i h1; omega
  · cases h0
theorem lines_join : ∀ L : List Ed, (L.map lineE).flatten = Lib.join (L.map eB ++ [[]]) [10]
  | [] => by
    show ([] : Str) = Lib.join [[]] [10]
    rw [Lib.join_one]
  | x :: M => by
    have ih := lines_join M
    rw [List.map_cons, List.flatten_cons, ih, lineE_eB, List.map_cons, List.cons_append]
    cases M with
    | nil => simp [join_two, Lib.join_one]
    | cons y M' => rw [List.map_cons, List.cons_append, join_two]
theorem print_lines {L : List Ed} (h : ∀ x ∈ L, EdOk x) : sB 10 (L.map lineE).flatten = L.map eB ++ [[]] := by
  rw [lines_join]
  refine sB_join 10 _ (by simp) fun w hw => ?_
  rcases List.mem_append.1 hw with hw | hw
  · obtain ⟨x, hx, rfl⟩ := List.mem_map.1 hw
    exact eB_free (h x hx).1
  · simp at hw; rw [hw]; simp
theorem printN_eq {L : List Ed} (h : chkText L = 0) : printN L = (L.map lineE).flatten := by
  unfold printN
  rw [if_pos h, join_flat]
theorem getD_mid (L : List Ed) (r : List Str) (i : Nat) (h : i < L.length) : List.getD (L.map eB ++ r) i [] = eB (L.getD i e0) := by
  rw [List.getD_eq_getElem?_getD, List.getElem?_append_left (by rw [List.length_map]; exact h), List.getElem?_map, List.getD_eq_getElem?_getD, List.getElem?_eq_getElem h]
  rfl
theorem tab_self (L : List Ed) (f : Nat → Ed) (h : ∀ i, i < L.length → f i = L.getD i e0) : tab L.length f = L := by
  conv => rhs; rw [list_tab L e0]
  exact tab_ext h
theorem getD_ok {L : List Ed} (h : ∀ x ∈ L, EdOk x) {i : Nat} (hi : i < L.length) : EdOk (L.getD i e0) := by
  rw [List.getD_eq_getElem?_getD, List.getElem?_eq_getElem hi]
  exact h _ (List.getElem_mem hi)
theorem tp_print {L : List Ed} (h : chkText L = 0) (hl : (L.map lineE).flatten.length ≤ 4096) : prsT (L.map lineE).flatten = (L, 0, 0) := by
  obtain ⟨_, hok⟩ := ok_of_chk h
  have hS := print_lines hok
  have hn : lnsN (L.map lineE).flatten = L.length := by unfold lnsN; rw [hS]; simp
  have hat : ∀ i, i < L.length → lnAt (L.map lineE).flatten i = eB (L.getD i e0) := fun i hi => by
    unfold lnAt; rw [hS]; exact getD_mid L _ i hi
  have hlast : lnAt (L.map lineE).flatten L.length = [] := by
    unfold lnAt
    rw [hS, List.getD_eq_getElem?_getD, List.getElem?_append_right (by simp)]
    simp
  have hall : ∀ i, i < lnsN (L.map lineE).flatten → lkOk (lnAt (L.map lineE).flatten i) = true := fun i hi => by
    rw [hn] at hi
    rw [hat i hi]
    exact (eB_ok (getD_ok hok hi)).1
  rw [tp_end hl hall (by rw [hn]; exact hlast), hn]
  have ht : (tab L.length fun i => lkE (lnAt (L.map lineE).flatten i)) = L := tab_self L _ fun i hi => by
    rw [hat i hi]
    exact (eB_ok (getD_ok hok hi)).2
  rw [ht, h]
  rfl
theorem tp_cut {L : List Ed} (h : chkText L = 0) (hL : L ≠ []) (hl : (L.map lineE).flatten.length ≤ 4096) :
    prsT (List.take ((L.map lineE).flatten.length - 1) (L.map lineE).flatten) = ([], (L.length : Int) - 1, 25) := by
  obtain ⟨_, hok⟩ := ok_of_chk h
  have he : List.take ((L.map lineE).flatten.length - 1) (L.map lineE).flatten = Lib.join (L.map eB) [10] := by
    rw [lines_join]
    cases L with
    | nil => exact absurd rfl hL
    | cons x M =>
      rw [List.map_cons, List.cons_append, join_end]
      simp
  have hlt : (List.take ((L.map lineE).flatten.length - 1) (L.map lineE).flatten).length ≤ 4096 := by rw [List.length_take]; omega
  generalize List.take ((L.map lineE).flatten.length - 1) (L.map lineE).flatten = t at he hlt
  have hpos : 0 < L.length := by cases L with
    | nil => exact absurd rfl hL
    | cons _ _ => simp
  have hS : sB 10 t = L.map eB ++ [] := by
    rw [he, List.append_nil]
    refine sB_join 10 _ (by simpa using hL) fun w hw => ?_
    obtain ⟨x, hx, rfl⟩ := List.mem_map.1 hw
    exact eB_free (hok x hx).1
  have hn : lnsN t = L.length - 1 := by unfold lnsN; rw [hS]; simp
  have hat : ∀ i, i < L.length → lnAt t i = eB (L.getD i e0) := fun i hi => by
    unfold lnAt; rw [hS]; exact getD_mid L _ i hi
  have hall : ∀ i, i < lnsN t → lkOk (lnAt t i) = true := fun i hi => by
    rw [hn] at hi
    rw [hat i (by omega)]
    exact (eB_ok (getD_ok hok (by omega))).1
  rw [tp_open hlt hall (by rw [hn, hat _ (by omega)]; exact eB_ne _), hn]
  have : ((L.length - 1 : Nat) : Int) = (L.length : Int) - 1 := by omega
  rw [this]
theorem line_again {l : Str} (h : lkOk l = true) : eB (lkE l) = l := by
  have h0 := h
  unfold lkOk at h0
  rw [Bool.and_eq_true] at h0
  have hs := h0.1
  unfold lkS at hs
  simp only [Bool.and_eq_true, decide_eq_true_eq] at hs
  obtain ⟨a, b, c, d, e, f, hW⟩ := six_list hs.1.1
  obtain ⟨k1, k2⟩ := lk_six hW
  rw [k1] at h
  simp only [Bool.and_eq_true] at h
  have ha : a = [101, 100, 105, 116] := by
    have := hs.1.2
    rw [hW] at this; exact this
  have ec := ((sg_iff c).1 h.2.1).2.2
  have ed := ((sg_iff d).1 h.2.2.1).2.2
  have ee := ((sg_iff e).1 h.2.2.2.1).2.2
  have ef := ((sg_iff f).1 h.2.2.2.2.1).2.2
  rw [k2]
  have e1 : eB (b, sgV c, sgV d, sgV e, sgV f) = Lib.join [[101, 100, 105, 116], b, Lib.itoa (sgV c), Lib.itoa (sgV d), Lib.itoa (sgV e), Lib.itoa (sgV f)] [32] := rfl
  rw [e1, ec, ed, ee, ef, ← ha, ← hW, join_sB]
theorem print_tp {s : Str} {L : List Ed} {i : Int} (h : prsT s = (L, i, 0)) : chkText L = 0 ∧ (L.map lineE).flatten = s := by
  by_cases hs : 4096 < s.length
  · rw [tp_long hs] at h; simp at h
  have hs : s.length ≤ 4096 := by omega
  by_cases hall : ∀ i, i < lnsN s → lkOk (lnAt s i) = true
  case neg =>
    exfalso
    have key : ∀ n, ¬ (∀ i, i < n → lkOk (lnAt s i) = true) → ∃ g, g < n ∧ (∀ i, i < g → lkOk (lnAt s i) = true) ∧ lkOk (lnAt s g) = false := by
      intro n
      induction n with
      | zero => intro h; exact absurd (fun i hi => absurd hi (Nat.not_lt_zero _)) h
      | succ n ih =>
        intro h
        by_cases hn : ∀ i, i < n → lkOk (lnAt s i) = true
        · refine ⟨n, Nat.lt_succ_self n, hn, ?_⟩
          cases e : lkOk (lnAt s n) with
          | false => rfl
          | true =>
            exact absurd (fun i hi => by
              rcases Nat.lt_succ_iff_lt_or_eq.1 hi with h3 | h3
              · exact hn i h3
              · subst h3; exact e) h
        · obtain ⟨g, h1, h2⟩ := ih hn
          exact ⟨g, by omega, h2⟩
    obtain ⟨g, h1, h2, h3⟩ := key _ hall
    rw [tp_bad hs h1 h2 h3] at h
    simp at h
  by_cases hb : lnAt s (lnsN s) = []
  case neg =>
    rw [tp_open hs hall hb] at h
    simp at h
  rw [tp_end hs hall hb] at h
  by_cases hc : chkText (tab (lnsN s) fun i => lkE (lnAt s i)) ≠ 0
  · rw [if_pos hc] at h
    simp only [Prod.mk.injEq] at h
    exact absurd h.2.2 hc
  · rw [if_neg hc] at h
    simp only [Prod.mk.injEq] at h
    obtain ⟨rfl, _⟩ := h
    refine ⟨Decidable.not_not.1 hc, ?_⟩
    rw [lines_join, tab_map]
    have e1 : (tab (lnsN s) fun i => eB (lkE (lnAt s i))) = tab (lnsN s) fun i => lnAt s i := tab_ext fun i hi => line_again (hall i hi)
    rw [e1]
    conv => rhs; rw [← join_sB 10 s]
    congr 1
    have hlen := sB_len 10 s
    have hn : (sB 10 s).length = lnsN s + 1 := by unfold lnsN; omega
    conv => rhs; rw [list_tab (sB 10 s) [], hn, tab_succ]
    have : List.getD (sB 10 s) (lnsN s) [] = [] := hb
    rw [this]; rfl
end Go.Sx.U

namespace Go.Sx
open U
end Go.Sx
namespace Go.Sx
open U
end Go.Sx

namespace Go.Sx
open U
end Go.Sx

namespace Go.Sx
open U
end Go.Sx

namespace Go.Sx.U
noncomputable def pnH (L : List Ed) : Str := hd (printN L)
end Go.Sx.U
namespace Go.Sx
open U
noncomputable def sp90n : FSpec := ⟨fun vs => match vs with
  | [.one (.sl (.pair .str (.pair (.int .i64) (.pair (.int .i64) (.pair (.int .i64) (.int .i64))))) L)] => some ([List.length L ≤ 1000000, ∀ x ∈ (show List Ed from L), (∀ n ∈ numsE x, fits .i64 n) ∧ x.1.length ≤ 1000], .tup [sV (pnH L), iV (chkText L)])
  | _ => none, true⟩
noncomputable def sp91 : FSpec := ⟨fun vs => match vs with
  | [.one (.str s)] => some ([List.length s ≤ 1000000], .tup [.one (.frs edT (prsX s).1), iV (prsX s).2.1, iV (prsX s).2.2])
  | _ => none, false⟩
end Go.Sx

namespace Go.Sx
open U
theorem vc15 (L : List Ed) (s : Str) : exF (env false [(82, sp82), (18, sp18), (34, sp34), (90, sp90n), (91, sp91), (92, sp92), (57, sp57), (56, sp56), (95, sp95)] []) h0 0 15 Proofs.Tryz.f15 [.one (.sl edT L), sV s] (.val (bV true)) = (let q7 := (1000000 : Nat); let q4 := (↑(List.length (pnH L)) : Int); let q2 := (List.take (Int.toNat (q4 - (1 : Int))) (pnH L)); let q5 := (↑(List.length L) : Int); let q0 := (splitB (q5 == (0 : Int)) (true = true ∧ True) (fits IntKind.i64 (q4 - (1 : Int)) ∧ ((0 : Int) ≤ (0 : Int) ∧ (0 : Int) ≤ q4 - (1 : Int) ∧ q4 - (1 : Int) ≤ q4) ∧ List.length q2 ≤ q7 ∧ (((prsX q2).2.2 == (25 : Int)) = true → fits IntKind.i64 (q5 - (1 : Int))) ∧ (bif bif (prsX q2).2.2 == (25 : Int) then (prsX q2).2.1 == q5 - (1 : Int) else false then true else false) = true ∧ True)); let q6 := (prsX (pnH L)); let q1 := (bif bif bif chkText L != (0 : Int) then true else q6.2.2 != (0 : Int) then true else q6.2.1 != (0 : Int) then true else !decide (q6.1 = L)); let q3 := ((bif bif chkText L != (0 : Int) then true else q6.2.2 != (0 : Int) then true else q6.2.1 != (0 : Int)) = false → List.length q6.1 ≤ q7); List.length L ≤ (9223372036854775807 : Nat) ∧ ((!shortE L) = false → List.length L ≤ (1000000000 : Nat)) ∧ ((!shortE L) = false → ∀ (x : Ed), x ∈ L → List.length x.1 ≤ (1000000000 : Nat)) ∧ splitB (bif bif !shortE L then true else chkText L != (0 : Int) then true else decide ((300 : Int) < (↑(List.length s) : Int))) (true = true ∧ True) (List.length L ≤ q7 ∧ List.length L ≤ q7 ∧ (∀ (x : Ed), x ∈ L → (∀ (n : Int), n ∈ numsE x → fits IntKind.i64 n) ∧ List.length x.1 ≤ (1000 : Nat)) ∧ List.length (pnH L) ≤ q7 ∧ q3 ∧ q3 ∧ (q1 = false → List.length (pnH L) ≤ q7) ∧ (q1 = false → (0 : Int) ≤ (10 : Int) ∧ (10 : Int) ≤ (255 : Int)) ∧ (q1 = false → fits IntKind.i64 (q5 + (1 : Int))) ∧ splitB (bif bif bif bif chkText L != (0 : Int) then true else q6.2.2 != (0 : Int) then true else q6.2.1 != (0 : Int) then true else !decide (q6.1 = L) then true else (↑(List.length (spB (10 : Int) (pnH L))) : Int) != q5 + (1 : Int)) (false = true ∧ True) (List.length s ≤ q7 ∧ splitB ((prsX s).2.2 == (0 : Int)) (List.length (prsX s).1 ≤ q7 ∧ (∀ (x : Ed), x ∈ (prsX s).1 → (∀ (n : Int), n ∈ numsE x → fits IntKind.i64 n) ∧ List.length x.1 ≤ (1000 : Nat)) ∧ splitB (bif chkText (prsX s).1 != (0 : Int) then true else pnH (prsX s).1 != s) (false = true ∧ True) q0) q0))) := by
  kernel_rfl
end Go.Sx

namespace Go.Sx
open U
theorem so90n : Sp1 90 sp90n := by
  refine ⟨fun vs ps r h hp => ?_, Proofs.Tryz.f90, _, by kernel_rfl, rfl, by kernel_rfl⟩
  simp only [sp90n] at h
  split at h
  · cases h
    unfold pnH; rw [hd_eq]
    exact fn90 _ (hp _ (.head _)) (hp _ (.tail _ (.head _)))
  · cases h
theorem so91 : Sp1 91 sp91 := by
  refine ⟨fun vs ps r h hp => ?_, Proofs.Tryz.f91, _, by kernel_rfl, rfl, by kernel_rfl⟩
  simp only [sp91] at h
  split at h
  · cases h
    exact fn91 _ (hp _ (.head _))
  · cases h
theorem prsT_form (s : Str) : ((prsT s).2.2 ≠ 0 ∧ (prsT s).1 = []) ∨ ((prsT s).2.2 = 0 ∧ (prsT s).2.1 = 0 ∧ chkText (prsT s).1 = 0) := by
  unfold prsT
  split
  · exact .inl ⟨by decide, rfl⟩
  · split
    · exact .inl ⟨by simp, rfl⟩
    · split
      · exact .inl ⟨by simp, rfl⟩
      · split
        · rename_i h; exact .inl ⟨h, rfl⟩
        · rename_i h; exact .inr ⟨rfl, rfl, Decidable.not_not.1 h⟩
theorem prsT_len (s : Str) : (prsT s).1.length ≤ 16 := by
  rcases prsT_form s with ⟨_, h⟩ | ⟨_, _, h⟩
  · rw [h]; simp
  · exact (ok_of_chk h).1
theorem shortE_of {L : List Ed} (h : shortE L = true) : L.length ≤ 17 ∧ ∀ x ∈ L, x.1.length ≤ 40 := by
  unfold shortE at h
  rw [Bool.and_eq_true] at h
  refine ⟨?_, fun x hx => of_decide_eq_true (List.all_eq_true.1 h.1 x hx)⟩
  have h2 := h.2
  rw [Bool.or_eq_true] at h2
  rcases h2 with h2 | h2 <;> have := of_decide_eq_true h2 <;> omega
theorem flat_len {L : List Ed} (hF : ∀ x ∈ L, ∀ n ∈ numsE x, fits .i64 n) (hL : L.length ≤ 16) (hN : ∀ x ∈ L, x.1.length ≤ 24) : (L.map lineE).flatten.length ≤ 4096 := by
  have hj := join_len 225 (L.map lineE) (fun y hy => by
    obtain ⟨x, hx, rfl⟩ := List.mem_map.1 hy
    have h1 := line_len (hF x hx)
    have h2 := hN x hx
    unfold lineE
    rw [List.length_append]
    simp only [List.length_cons, List.length_nil]
    omega)
  rw [join_flat, List.length_map] at hj
  exact Nat.le_trans hj (by omega)
theorem fn15 (L : List Ed) (s : Str) (hL : L.length ≤ 9223372036854775807) (hF : ∀ x ∈ L, ∀ n ∈ numsE x, fits .i64 n) (hs : s.length ≤ 9223372036854775807) : Fn P1 gl1 15 [.one (.sl edT L), sV s] (.val (bV true)) true := by
  refine Fn.flat ?_ rfl
  refine fn_of false [(82, sp82), (18, sp18), (34, sp34), (90, sp90n), (91, sp91), (92, sp92), (57, sp57), (56, sp56), (95, sp95)] [] h0 0 Proofs.Tryz.f15 ⟨so82, so18, so34, so90n, so91, so92, so57, so56, so95, trivial⟩ trivial (by kernel_rfl) rfl (by kernel_rfl) rfl rfl rfl ?_
  rw [vc15]
  try simp only [splitB_iff, -eq_self]
  have e10 : ((10 : Int).toNat.toUInt8) = 10 := rfl
  simp only [pnH, prsX, spB, hd_eq, e10, -eq_self]
  have hl := prsT_len s
  refine ⟨hL, fun h => ?_, fun h => ?_, fun _ => ⟨rfl, trivial⟩, fun h => ?_⟩
  · rw [Bool.not_eq_false'] at h
    have := (shortE_of h).1; omega
  · rw [Bool.not_eq_false'] at h
    exact fun x hx => by have := (shortE_of h).2 x hx; omega
  rw [bcond_l, bcond_l, Bool.or_eq_false_iff, Bool.or_eq_false_iff, Bool.not_eq_false'] at h
  obtain ⟨⟨h1, h3⟩, h4⟩ := h
  have hc : chkText L = 0 := bneF.1 h3
  have h4 := of_decide_eq_false h4
  obtain ⟨h17, hN⟩ := shortE_of h1
  obtain ⟨h16, hok⟩ := ok_of_chk hc
  have hfl := flat_len hF h16 (fun x hx => (isName_len (hok x hx).1).1)
  rw [printN_eq hc, hc, tp_print hc hfl, print_lines (fun x hx => hok x hx)]
  have hq0 : ((List.length L : Int) == 0) = true → L = [] := fun e => by
    have : (L.length : Int) = 0 := by simpa using e
    exact List.length_eq_zero_iff.1 (by omega)
  have hend : ((((List.length L : Int) == 0) = true → true = true ∧ True) ∧ (((List.length L : Int) == 0) = false → fits .i64 ((List.length (L.map lineE).flatten : Int) - 1) ∧ ((0 : Int) ≤ 0 ∧ (0 : Int) ≤ (List.length (L.map lineE).flatten : Int) - 1 ∧ (List.length (L.map lineE).flatten : Int) - 1 ≤ (List.length (L.map lineE).flatten : Int)) ∧ List.length (List.take ((List.length (L.map lineE).flatten : Int) - 1).toNat (L.map lineE).flatten) ≤ 1000000 ∧
      (((prsT (List.take ((List.length (L.map lineE).flatten : Int) - 1).toNat (L.map lineE).flatten)).2.2 == 25) = true → fits .i64 ((List.length L : Int) - 1)) ∧
      (bif bif (prsT (List.take ((List.length (L.map lineE).flatten : Int) - 1).toNat (L.map lineE).flatten)).2.2 == 25 then (prsT (List.take ((List.length (L.map lineE).flatten : Int) - 1).toNat (L.map lineE).flatten)).2.1 == (List.length L : Int) - 1 else false then true else false) = true ∧ True)) := by
    refine ⟨fun _ => ⟨rfl, trivial⟩, fun e => ?_⟩
    have hne : L ≠ [] := fun e2 => by rw [e2] at e; simp at e
    have hpos : 0 < (L.map lineE).flatten.length := by
      cases L with
      | nil => exact absurd rfl hne
      | cons x M =>
        rw [List.map_cons, List.flatten_cons, List.length_append, lineE_eB, List.length_append]
        simp only [List.length_cons, List.length_nil]; omega
    have e1 : ((List.length (L.map lineE).flatten : Int) - 1).toNat = (L.map lineE).flatten.length - 1 := by omega
    rw [e1, tp_cut hc hne hfl]
    refine ⟨by simp only [fits]; omega, ⟨by omega, by omega, by omega⟩, by rw [List.length_take]; omega, fun _ => by simp only [fits]; omega, by simp, trivial⟩
  refine ⟨by omega, by omega, fun x hx => ⟨hF x hx, by have := hN x hx; omega⟩, by omega, fun _ => by show L.length ≤ _; omega, fun _ => by show L.length ≤ _; omega, fun _ => by omega, fun _ => ⟨by omega, by omega⟩, fun _ => by simp only [fits]; omega, fun hx => ?_, fun _ => ⟨by omega, fun hx => ⟨by omega, fun x hm => ?_, fun hz => ?_, fun _ => hend⟩, fun _ => hend⟩⟩
  · exfalso
    have e5 : ((List.length (L.map eB ++ [[]]) : Int) != (List.length L : Int) + 1) = false := by simp
    have e6 : decide ((L, (0 : Int), (0 : Int)).1 = L) = true := decide_eq_true rfl
    rw [e5, e6] at hx
    exact absurd (show false = true from hx) (by decide)
  · have hx : (prsT s).2.2 = 0 := by simpa using hx
    obtain ⟨z1, z2⟩ := print_tp (s := s) (L := (prsT s).1) (i := (prsT s).2.1) (by rw [← hx])
    obtain ⟨_, z3⟩ := ok_of_chk z1
    refine ⟨fun n hn => ?_, by have := (isName_len (z3 x hm).1).1; omega⟩
    have := (z3 x hm).2 n hn
    simp only [fits]; omega
  · have hx : (prsT s).2.2 = 0 := by simpa using hx
    obtain ⟨z1, z2⟩ := print_tp (s := s) (L := (prsT s).1) (i := (prsT s).2.1) (by rw [← hx])
    rw [z1, printN_eq z1, z2] at hz
    simp at hz
end Go.Sx

namespace Go.Sx
open Go.RowKit
def WF : (t : Ty) → t.T → Prop
  | .int k, n => (Lit.int k n).wf = true
  | .bool, _ => True
  | .str, l => List.length l ≤ maxLen
  | .flt k, n => (Lit.float k n).wf = true
  | .cpx _, _ => True
  | .fnp, _ => True
  | .opq _, _ => True
  | .sl t, xs => List.length xs ≤ maxLen ∧ ∀ i (h : i < List.length xs), WF t (xs[i]'h)
  | .arr n t, xs => List.length xs = n ∧ ∀ i (h : i < List.length xs), WF t (xs[i]'h)
  | .pair a b, x => WF a x.1 ∧ WF b x.2
mutual
def rdChk (P : Program) : Nat → TypeId → Ty → Bool
  | 0, _, _ => false
  | n + 1, t, u => match P.underlying t with
      | some (.int k) => decide (u = .int k)
      | some .bool => decide (u = .bool)
      | some .string => decide (u = .str)
      | some (.float k) => decide (u = .flt k)
      | some (.slice e) => match u with
        | .sl v => decide (P.cellsOf e = v.sz) && decide (v.sz ≠ 0) && rdChk P n e v
        | _ => false
      | some (.array m e) => match u with
        | .arr m' v => decide (m = m') && decide (P.cellsOf e = v.sz) && decide (P.cellsOf t = m * v.sz) && rdChk P n e v
        | _ => false
      | some (.struct fs) => decide (P.cellsOf t = u.sz) && rdFs P n 0 fs.toList u
      | _ => false
def rdFs (P : Program) : Nat → Nat → List Field → Ty → Bool
  | 0, _, _, _ => false
  | n + 1, off, [f], u => decide (f.offset = off) && decide (P.cellsOf f.type = u.sz) && rdChk P n f.type u
  | n + 1, off, f :: r, .pair a b => decide (f.offset = off) && decide (P.cellsOf f.type = a.sz) && rdChk P n f.type a && rdFs P n (off + a.sz) r b
  | _, _, _, _ => false
end
def HW (w : World) : IH := fun b => w.heap[b]?
theorem addp (b off i : Nat) : (Addr.mk b off none).add i = ⟨b, off + i, none⟩ := by
  unfold Addr.add; split <;> simp_all
theorem cells_seg {w : World} {base : Nat} {a : Addr} {n : Nat} {cs : List Value} (h : w.cells? base a n = some cs) (hn : 0 < n) :
    ∃ b off c e fr, a = ⟨b, off, none⟩ ∧ w.heap[b]? = some (.cells c e fr) ∧ seg c off n = cs := by
  obtain ⟨_, hl, hc⟩ := World.cells?_some h
  obtain ⟨b, off, sp⟩ := a
  have h0 := hc 0 hn
  rw [List.getElem?_eq_getElem (by omega)] at h0
  have hs : sp = none := by
    have := World.cell?_spot h0
    simp only [Addr.add] at this
    cases sp with
    | none => rfl
    | some x => simp at this
  subst hs
  have hb : ∃ c e fr, w.heap[b]? = some (.cells c e fr) := by
    simp only [World.cell?, Addr.add] at h0
    split at h0
    · exact ⟨_, _, _, ‹_›⟩
    · cases h0
  obtain ⟨c, e, fr, hb⟩ := hb
  refine ⟨b, off, c, e, fr, rfl, hb, ?_⟩
  have hi : ∀ i, i < n → c[off + i]? = cs[i]? := by
    intro i hi
    have := hc i hi
    rw [addp] at this
    simpa [World.cell?, hb] using this
  apply List.ext_getElem?
  intro i
  simp only [seg, List.getElem?_take, List.getElem?_drop]
  split
  · rename_i h1
    rw [← hi i h1]; simp
  · rename_i h1
    rw [List.getElem?_eq_none (by omega)]
theorem choose_list {α : Type} (n : Nat) (p : Nat → α → Prop) (h : ∀ i, i < n → ∃ y, p i y) : ∃ ys : List α, ys.length = n ∧ ∀ i (hi : i < ys.length), p i (ys[i]'hi) := by
  induction n with
  | zero => exact ⟨[], rfl, fun i hi => by simp at hi⟩
  | succ n ih =>
    obtain ⟨ys, h1, h2⟩ := ih fun i hi => h i (by omega)
    obtain ⟨y, hy⟩ := h n (by omega)
    refine ⟨ys ++ [y], by simp [h1], fun i hi => ?_⟩
    by_cases hlt : i < ys.length
    · rw [List.getElem_append_left hlt]; exact h2 i hlt
    · simp at hi
      have : i = ys.length := by omega
      subst this
      simp
      rw [h1]; exact hy
theorem trod_rd_all {X : Type} {enc : TypeId × Value → X} {P : Program} {w : World} {base : Nat} {spare : Nat → Bool} {held : Bool} : ∀ (n : Nat),
    (∀ (t : TypeId) (u : Ty) (fuel : Nat) (cs : List Value) (x : DataW X × List MemPlace), rdChk P n t u = true → DataW.trod enc P w base spare held fuel t cs = some x → ∃ y : u.T, Rd (HW w) u y cs ∧ WF u y) ∧
    (∀ (off : Nat) (fs : List Field) (u : Ty) (fuel : Nat) (cs : List Value), rdFs P n off fs u = true → cs.length = off + u.sz →
      (∀ f ∈ fs, ∃ x, DataW.trod enc P w base spare held fuel f.type ((cs.drop f.offset).take (P.cellsOf f.type)) = some x) → ∃ y : u.T, Rd (HW w) u y (cs.drop off) ∧ WF u y) := by
  intro n
  induction n with
  | zero => exact ⟨fun _ _ _ _ _ h => by simp [rdChk] at h, fun _ _ _ _ _ h => by simp [rdFs] at h⟩
  | succ n ih =>
    refine ⟨?_, ?_⟩
    · intro t u fuel cs x h hx
      unfold rdChk at h
      split at h
      · rename_i k hu
        simp at h; subst h
        obtain ⟨m, rfl, _, hw⟩ := DataW.trod_int hu hx
        exact ⟨m, rfl, hw⟩
      · rename_i hu
        simp at h; subst h
        obtain ⟨m, rfl, _⟩ := DataW.trod_bool hu hx
        exact ⟨m, rfl, trivial⟩
      · rename_i hu
        simp at h; subst h
        obtain ⟨s, rfl, _, hw⟩ := DataW.trod_string hu hx
        refine ⟨s.data.toList, rfl, ?_⟩
        show s.data.toList.length ≤ maxLen
        rw [Array.length_toList]; exact hw
      · rename_i k hu
        simp at h; subst h
        cases fuel with
        | zero => simp [DataW.trod] at hx
        | succ m =>
          unfold DataW.trod at hx
          rw [hu] at hx
          have : ∃ b, cs = [.float k b] ∧ (Lit.float k b).wf = true := by split at hx <;> simp_all
          obtain ⟨b, rfl, hw⟩ := this
          exact ⟨b, rfl, hw⟩
      · rename_i e hu
        split at h
        · rename_i v
          simp only [Bool.and_eq_true, decide_eq_true_eq] at h
          obtain ⟨⟨h1, h2⟩, h3⟩ := h
          rcases DataW.trod_slice hu hx with ⟨rfl, _⟩ | ⟨a, len, cap, elems, rest, m, _, rfl, _, _, hlc, hm, hel, hei, _, _⟩
          · exact ⟨[], ⟨none, 0, rfl, Nat.le_refl _, .inl rfl⟩, by simp [WF]⟩
          · have hone : ∀ i, i < len → ∃ cs', w.cells? base (a.add (i * P.cellsOf e)) (P.cellsOf e) = some cs' ∧ ∃ y : v.T, Rd (HW w) v y cs' ∧ WF v y := by
              intro i hi
              have := hei i hi
              rw [List.getElem?_eq_getElem (by omega)] at this
              obtain ⟨cs', hc1, hc2⟩ := Option.bind_eq_some_iff.1 this
              exact ⟨cs', hc1, ih.1 _ _ _ _ _ h3 hc2⟩
            obtain ⟨ys, hy1, hy2⟩ := choose_list len (fun i (y : v.T) => ∃ cs', w.cells? base (a.add (i * P.cellsOf e)) (P.cellsOf e) = some cs' ∧ Rd (HW w) v y cs' ∧ WF v y)
              (fun i hi => by obtain ⟨cs', h1, y, h2⟩ := hone i hi; exact ⟨y, cs', h1, h2⟩)
            refine ⟨ys, ⟨some a, cap, by rw [hy1], by rw [hy1]; exact hlc, ?_⟩, by rw [hy1]; omega, fun i hi => ?_⟩
            · rcases Nat.eq_zero_or_pos ys.length with h0 | h0
              · exact .inl h0
              · right
                obtain ⟨cs0, hc0, _⟩ := hy2 0 h0
                obtain ⟨b, off, c, e', fr, ha, hb, _⟩ := cells_seg hc0 (by omega)
                have ha' : a = ⟨b, off, none⟩ := by rw [← ha]; simp [Addr.add]
                refine ⟨b, off, c, e', fr, by rw [ha'], hb, fun i hi => ?_⟩
                obtain ⟨cs', hc', hr, _⟩ := hy2 i hi
                obtain ⟨b', off', c', e'', fr', hab, hb', hsg⟩ := cells_seg hc' (by omega)
                rw [ha', addp] at hab
                simp only [Addr.mk.injEq] at hab
                obtain ⟨rfl, rfl, _⟩ := hab
                rw [hb] at hb'
                cases hb'
                rw [h1] at hsg
                rw [hsg]; exact hr
            · obtain ⟨_, _, _, hwf⟩ := hy2 i hi
              exact hwf
        · cases h
      · rename_i m e hu
        split at h
        · rename_i m' v
          simp only [Bool.and_eq_true, decide_eq_true_eq] at h
          obtain ⟨⟨⟨rfl, h1⟩, h2⟩, h3⟩ := h
          obtain ⟨xs, k, _, _, hl, hxl, hxi⟩ := DataW.trod_array hu hx
          obtain ⟨ys, hy1, hy2⟩ := choose_list m (fun i (y : v.T) => Rd (HW w) v y ((cs.drop (i * P.cellsOf e)).take (P.cellsOf e)) ∧ WF v y)
            (fun i hi => by
              have := hxi i hi
              rw [List.getElem?_eq_getElem (by omega)] at this
              exact ih.1 _ _ _ _ _ h3 this)
          refine ⟨ys, ⟨hy1, by rw [hl, h2], fun i hi => ?_⟩, hy1, fun i hi => (hy2 i hi).2⟩
          have := (hy2 i hi).1
          rw [h1] at this
          exact this
        · cases h
      · rename_i fs hu
        simp only [Bool.and_eq_true, decide_eq_true_eq] at h
        obtain ⟨xs, k, _, _, hl, hxl, hxi⟩ := DataW.trod_struct hu hx
        have := ih.2 0 fs.toList u k cs h.2 (by rw [hl, h.1]; omega) (fun f hf => by
          obtain ⟨i, hi, rfl⟩ := List.mem_iff_getElem.1 hf
          simp at hi
          have := hxi i fs[i] (by simp [hi])
          rw [List.getElem?_eq_getElem (by omega)] at this
          exact ⟨_, by simpa using this⟩)
        simpa using this
      · cases h
    · intro off fs u fuel cs h hl hf
      match fs, u, h, hl, hf with
      | [], u, h, _, _ => simp [rdFs] at h
      | [f], u, h, hl, hf =>
        simp only [rdFs, Bool.and_eq_true, decide_eq_true_eq] at h
        obtain ⟨⟨rfl, h1⟩, h2⟩ := h
        obtain ⟨x, hx⟩ := hf f (by simp)
        rw [h1, List.take_of_length_le (by simp; omega)] at hx
        exact ih.1 _ _ _ _ _ h2 hx
      | f :: g :: r, .pair a b, h, hl, hf =>
        simp only [rdFs, Bool.and_eq_true, decide_eq_true_eq] at h
        obtain ⟨⟨⟨rfl, h1⟩, h2⟩, h3⟩ := h
        simp only [Ty.sz] at hl
        obtain ⟨x, hx⟩ := hf f (by simp)
        rw [h1] at hx
        obtain ⟨y1, hy1, hw1⟩ := ih.1 _ _ _ _ _ h2 hx
        obtain ⟨y2, hy2, hw2⟩ := ih.2 _ _ _ fuel cs h3 (by omega) (fun g' hg => hf g' (List.mem_cons_of_mem _ hg))
        refine ⟨(y1, y2), ⟨hy1, ?_⟩, hw1, hw2⟩
        rw [List.drop_drop]; exact hy2
      | _ :: _ :: _, .int _, h, _, _ => simp [rdFs] at h
      | _ :: _ :: _, .bool, h, _, _ => simp [rdFs] at h
      | _ :: _ :: _, .str, h, _, _ => simp [rdFs] at h
      | _ :: _ :: _, .flt _, h, _, _ => simp [rdFs] at h
      | _ :: _ :: _, .cpx _, h, _, _ => simp [rdFs] at h
      | _ :: _ :: _, .sl _, h, _, _ => simp [rdFs] at h
      | _ :: _ :: _, .arr _ _, h, _, _ => simp [rdFs] at h
theorem trod_rd {X : Type} {enc : TypeId × Value → X} {P : Program} {w : World} {base : Nat} {spare : Nat → Bool} {held : Bool} (n : Nat)
    {t : TypeId} {u : Ty} (h : rdChk P n t u = true) {fuel : Nat} {cs : List Value} {x : DataW X × List MemPlace} (hx : DataW.trod enc P w base spare held fuel t cs = some x) : ∃ y : u.T, Rd (HW w) u y cs ∧ WF u y :=
  (trod_rd_all n).1 t u fuel cs x h hx
end Go.Sx

namespace Go.Sx
open Go.RowKit Go.ChangeShapes Go.WideShapes Go.ChangeAt
section
variable {X : Type} {enc : TypeId × Value → X} {P : Program} {w : World} {base base' : Nat} {spare : Nat → Bool} {held : Bool} {n : Nat} {t : TypeId} {u : Ty} {v : Value} {d : DataW X} {ps : List MemPlace}
theorem cells_one (hv : ∀ cs, v ≠ .agg cs) : v.cells.toList = [v] := by
  cases v <;> simp_all [Value.cells]
theorem okWide_one (ha : aggOf P t = false) (hok : Value.okWide P w .any base' t v) : ∀ cs, v ≠ .agg cs := by
  intro cs hv
  subst hv
  unfold aggOf at ha
  unfold Value.okWide at hok
  split at hok
  · rename_i h; rw [h] at ha; cases ha
  · rename_i h; rw [h] at ha; cases ha
  · unfold Cell.okWide at hok
    split at hok <;> try (rename_i h; cases h; done)
    all_goals first | (rename_i h _; cases h; done) | skip
    all_goals first | (unfold Cell.ok at hok; split at hok <;> first | (exact hok) | (rename_i h; cases h; done) | (rename_i h _; cases h; done) | simp_all; done) | simp_all
theorem arg_one (h : rdChk P n t u = true) (ha : aggOf P t = false) (hok : Value.okWide P w .any base' t v) (hT : DataW.Trod enc P w base spare held t v d ps) : ∃ y : u.T, Rd (HW w) u y [v] ∧ WF u y := by
  obtain ⟨fuel, hT⟩ := hT
  rw [cells_one (okWide_one ha hok)] at hT
  exact trod_rd n h hT
end
theorem trodAll_below {X : Type} {enc : TypeId × Value → X} {P : Program} (hl : laidOutB P = true) {W W' : World} (hb : Below W.heap.size W W') : ∀ {ts : List TypeId} {vs : List Value} {ds : List (DataW X)} {ps : List MemPlace},
    (ts.all fun t => P.readableRec t && decide (t < P.types.size)) = true → DataW.TrodAll enc P W 0 (fun _ => true) true ts vs ds ps → (∀ x ∈ ps, x.block < W.heap.size) → DataW.TrodAll enc P W' 0 (fun b => decide (b < W.heap.size)) true ts vs ds ps
  | [], vs, ds, ps, _, h, _ => by
    cases vs <;> cases ds <;> simp_all [DataW.TrodAll]
  | t :: ts, vs, ds, ps, ht, h, hlt => by
    obtain ⟨v, vs', d, ds', p, q, rfl, rfl, rfl, h1, h2⟩ := trodAll_cons h
    simp only [List.all_cons, Bool.and_eq_true, decide_eq_true_eq] at ht
    refine trodAll_cons_mk (Below.trod hl ht.1.1 ht.1.2 h1 hb fun x hx => hlt x (by simp [hx])) (trodAll_below hl hb ht.2 h2 fun x hx => hlt x (by simp [hx]))
theorem law_post {X : Type} {enc : TypeId × Value → X} {P : Program} (hl : laidOutB P = true) {s : ChangeSpec} {f : Func} {tb : TypeId} {W W' : World} {args : Array Value} {ds gs : List (DataW X)} {before : List MemPlace} {r : Value}
    (hvars : s.vars = []) (hts : (f.params.toList.all fun t => P.readableRec t && decide (t < P.types.size)) = true) (hres : f.resultTypes = #[tb]) (htb : P.underlying tb = some .bool)
    (hfn : s.fn X ds = { results := [.lit (.bool true)], args := ds })
    (hW : DataW.Whole enc P f.params.toList s.vars false W args.toList ds gs before) (hb : Below W.heap.size W W') (hr : r = .bool true) :
    s.post enc P f false true false false W args r W' := by
  subst hr
  have hW' := hW
  obtain ⟨p, q, hA, hV, rfl, hfz, hnd⟩ := hW
  rw [hvars] at hV
  obtain ⟨rfl, rfl⟩ := trodVars_none hV
  have hlt : ∀ x ∈ p, x.block < W.heap.size := fun x hx => hW'.lt x (by simp [hx])
  refine ⟨ds, [], p ++ [], [], p, [], hW', ?_, ?_, ?_, hb.frame _, fun h => by cases h⟩
  · rw [List.append_nil, hfn, hres]
    exact trodAll_cons_mk (shut_bool htb _) trodAll_mk0
  · rw [List.append_nil, hfn]
    exact trodAll_below hl hb hts hA hlt
  · rw [List.append_nil, hfn, hvars]
    rfl
theorem law_calls {X : Type} {enc : TypeId × Value → X} {P : Program} (hl : laidOutB P = true) {s : ChangeSpec} {f : Func} {tb : TypeId} {fid : FuncId} {W : World} {args : Array Value} {ds gs : List (DataW X)} {before : List MemPlace}
    (hvars : s.vars = []) (hts : (f.params.toList.all fun t => P.readableRec t && decide (t < P.types.size)) = true) (hres : f.resultTypes = #[tb]) (htb : P.underlying tb = some .bool)
    (hfn : s.fn X ds = { results := [.lit (.bool true)], args := ds })
    (hW : DataW.Whole enc P f.params.toList s.vars false W args.toList ds gs before)
    {gl : Nat → Option ((t : Ty) × t.T)} {avs : List V} (hF : Fn P gl fid avs (.val (.one (.bool true))) true) (hg : GlobOk gl (HW W)) (ha : DenVs ρ0 (HW W) avs args.toList) :
    Calls P fid args W fun e W' => ∃ v, e = .returned v ∧ s.post enc P f false true false false W args v W' := by
  refine (hF W (HW W) args.toList (fun b o h => h) hg ha).mono fun e W' h => ?_
  obtain ⟨v, H', rfl, hb, _, _, hd⟩ := h
  exact ⟨v, rfl, law_post hl hvars hts hres htb hfn hW hb hd.2⟩
theorem glob_tab {P : Program} {W : World} {name : String} {k : IntKind} {zs : List Int} {g : Nat} (h : Lib.TabIs P W name k zs) (hg : P.globalNamed name = some g) :
    ∃ c e fr, HW W g = some (.cells c e fr) ∧ Rd (HW W) (.arr zs.length (.int k)) zs (seg c 0 (zs.length * 1)) ∧ c.size = zs.length * 1 := by
  unfold Lib.TabIs at h
  simp only [World.var?, hg, Option.bind_some] at h
  split at h
  · rename_i cs e fr hh
    cases h
    refine ⟨_, _, _, hh, ?_, by simp⟩
    have e1 : seg (zs.map fun z => Value.int k z).toArray 0 (zs.length * 1) = zs.map fun z => Value.int k z := by
      simp [seg, List.take_of_length_le]
    rw [e1]
    refine ⟨rfl, by simp [Ty.sz], fun i hi => ?_⟩
    show List.take 1 (List.drop (i * 1) (List.map (fun z => Value.int k z) zs)) = [Value.int k zs[i]]
    simp only [Nat.mul_one]
    rw [List.drop_eq_getElem_cons (by simpa using hi)]
    simp
  · cases h
end Go.Sx

namespace Go.Sx
open Go.RowKit
theorem laid_at {P : Program} {W : World} {name : String} {d : DataW Unit} {l : List (String × DataW Unit)} (h : laidMet P l W) (hm : (name, d) ∈ l) :
    ∃ g t cs fuel p, P.globalNamed name = some g ∧ (P.globals[g]?).map (·.type) = some t ∧ W.var? P name = some cs ∧ DataW.trod (fun _ => ()) P W 0 (fun _ => true) false fuel t cs.toList = some (d, p) := by
  obtain ⟨ps, h, hrest⟩ := h
  clear hrest
  induction l generalizing ps with
  | nil => cases hm
  | cons x r ih =>
    obtain ⟨n, e⟩ := x
    obtain ⟨g, t, cs, fuel, p, q, h1, h2, h3, h4, h5, h6⟩ := h
    rcases List.mem_cons.1 hm with e | hm
    · cases e; exact ⟨g, t, cs, fuel, p, h1, h2, h3, h4⟩
    · exact ih hm _ h5
theorem tab_at {P : Program} {W : World} {name : String} {k : IntKind} {zs : List Int} {l : List (String × DataW Unit)} {g : Nat} {t e : TypeId} {n : Nat} (hm : (name, Lib.tabData k zs) ∈ l)
    (hg : P.globalNamed name = some g) (hty : (P.globals[g]?).map (·.type) = some t) (ht : P.underlying t = some (.array n e)) (he : P.underlying e = some (.int k)) (hce : P.cellsOf e = 1) (hct : P.cellsOf t = n)
    (h : laidMet P l W) : Lib.TabIs P W name k zs := by
  obtain ⟨g', t', cs, fuel, p, h1, h2, h3, h4⟩ := laid_at h hm
  obtain rfl := Option.some.inj (hg.symm.trans h1)
  obtain rfl := Option.some.inj (hty.symm.trans h2)
  unfold Lib.TabIs
  rw [h3, ← Lib.cells_of_tab ht he hce hct h4]
theorem var_heap {P : Program} {W : World} {name : String} {g : Nat} {cs : Array Value} (hg : P.globalNamed name = some g) (h : W.var? P name = some cs) : ∃ e fr, W.heap[g]? = some (.cells cs e fr) := by
  simp only [World.var?, hg, Option.bind_some] at h
  split at h
  · rename_i cs' e fr hh
    cases h
    exact ⟨e, fr, hh⟩
  · cases h
theorem pair_at {P : Program} {W : World} {name : String} {k k' : IntKind} {a b : Int} {l : List (String × DataW Unit)} {g : Nat} {t : TypeId} {fs : Array Field} {f0 f1 : Field} (hm : (name, .agg [.lit (.int k a), .lit (.int k' b)]) ∈ l)
    (hg : P.globalNamed name = some g) (hty : (P.globals[g]?).map (·.type) = some t) (ht : P.underlying t = some (.struct fs)) (hfs : fs.toList = [f0, f1]) (ho0 : f0.offset = 0) (ho1 : f1.offset = 1)
    (hc0 : P.cellsOf f0.type = 1) (hc1 : P.cellsOf f1.type = 1) (hu0 : P.underlying f0.type = some (.int k)) (hu1 : P.underlying f1.type = some (.int k')) (hct : P.cellsOf t = 2)
    (h : laidMet P l W) : ∃ c e fr, HW W g = some (.cells c e fr) ∧ Rd (HW W) (.pair (.int k) (.int k')) (a, b) (seg c 0 2) ∧ c.size = 2 := by
  obtain ⟨g', t', cs, fuel, p, h1, h2, h3, h4⟩ := laid_at h hm
  obtain rfl := Option.some.inj (hg.symm.trans h1)
  obtain rfl := Option.some.inj (hty.symm.trans h2)
  obtain ⟨e, fr, hh⟩ := var_heap hg h3
  refine ⟨cs, e, fr, hh, ?_⟩
  have hcs : cs.toList = [.int k a, .int k' b] := by
    cases fuel with
    | zero => simp [DataW.trod] at h4
    | succ fuel =>
      simp only [DataW.trod, ht, hct, hfs, hc0, hc1, ho0, ho1, List.mapM_cons, List.mapM_nil] at h4
      split at h4
      · rename_i hl
        obtain ⟨xs, hx1, hx2⟩ := Option.map_eq_some_iff.1 h4
        simp only [Option.bind_eq_bind, Option.bind_eq_some_iff, Option.pure_def, Option.some.injEq] at hx1
        obtain ⟨y0, hy0, r, ⟨y1, hy1, r2, rfl, rfl⟩, rfl⟩ := hx1
        obtain ⟨m0, e0, hz0, _⟩ := DataW.trod_int hu0 hy0
        obtain ⟨m1, e1, hz1, _⟩ := DataW.trod_int hu1 hy1
        subst hz0 hz1
        simp only [List.map_cons, List.map_nil, Prod.mk.injEq, DataW.agg.injEq, List.cons.injEq, DataW.lit.injEq, Lit.int.injEq, true_and, and_true] at hx2
        obtain ⟨⟨rfl, rfl⟩, _⟩ := hx2
        match hq : cs.toList, hl with
        | [u, v], _ =>
          rw [hq] at e0 e1
          simp at e0 e1
          rw [e0, e1]
      · cases h4
  have hs : seg cs 0 2 = [.int k a, .int k' b] := by unfold seg; rw [hcs]; rfl
  rw [hs]
  exact ⟨⟨rfl, rfl⟩, by rw [← Array.length_toList, hcs]; rfl⟩
def intB (P : Program) (t : TypeId) (k : IntKind) : Bool := match P.underlying t with
  | some (.int q) => decide (q = k)
  | _ => false
theorem intB_ok {P : Program} {t : TypeId} {k : IntKind} (h : intB P t k = true) : P.underlying t = some (.int k) := by
  unfold intB at h
  split at h
  · rename_i q hq
    rw [hq, of_decide_eq_true h]
  · cases h
def pairB (P : Program) (t : TypeId) (k k' : IntKind) : Bool := match P.underlying t with
  | some (.struct fs) => match fs.toList with
    | [f0, f1] => decide (f0.offset = 0) && decide (f1.offset = 1) && decide (P.cellsOf f0.type = 1) && decide (P.cellsOf f1.type = 1) && intB P f0.type k && intB P f1.type k' && decide (P.cellsOf t = 2)
    | _ => false
  | _ => false
theorem pair_at' {P : Program} {W : World} {name : String} {k k' : IntKind} {a b : Int} {l : List (String × DataW Unit)} {g : Nat} {t : TypeId} (hm : (name, .agg [.lit (.int k a), .lit (.int k' b)]) ∈ l)
    (hg : P.globalNamed name = some g) (hty : (P.globals[g]?).map (·.type) = some t) (hc : pairB P t k k' = true) (h : laidMet P l W) :
    ∃ c e fr, HW W g = some (.cells c e fr) ∧ Rd (HW W) (.pair (.int k) (.int k')) (a, b) (seg c 0 2) ∧ c.size = 2 := by
  unfold pairB at hc
  split at hc
  · rename_i fs hu
    split at hc
    · rename_i f0 f1 hfs
      simp only [Bool.and_eq_true, decide_eq_true_eq] at hc
      obtain ⟨⟨⟨⟨⟨⟨h1, h2⟩, h3⟩, h4⟩, h5⟩, h6⟩, h7⟩ := hc
      exact pair_at hm hg hty hu hfs h1 h2 h3 h4 (intB_ok h5) (intB_ok h6) h7 h
    · cases hc
  · cases hc
theorem wf_i64 {n : Int} (h : (Lit.int .i64 n).wf = true) : fits .i64 n := by
  simp [Lit.wf, IntKind.min, IntKind.max, IntKind.signed, IntKind.bits] at h
  simp only [fits]
  omega
theorem wf_mem {t : Ty} {xs : List t.T} (h : WF (.sl t) xs) : ∀ x ∈ xs, WF t x := by
  intro x hx
  obtain ⟨i, hi, rfl⟩ := List.mem_iff_getElem.1 hx
  exact h.2 i hi
end Go.Sx

namespace Go.Sx
theorem j3a : laidOutB Proofs.Tryz.prog = true := by kernel_rfl
theorem j3b : mapsRowed Proofs.Tryz.prog = true := by kernel_rfl
theorem j3c : Proofs.Tryz.prog.stopsHeard = true := by kernel_rfl
theorem j3d : Proofs.Tryz.prog.mayEnter = true := by kernel_rfl
end Go.Sx

namespace Go.Sx
open Go.RowKit
theorem opqE_at {P : Program} {W : World} {name nm : String} {d : DataW Unit} {l : List (String × DataW Unit)} {g : Nat} {ti : TypeId} {ms : Array (String × TypeId)} (hm : (name, .iface nm d) ∈ l)
    (hg : P.globalNamed name = some g) (hty : (P.globals[g]?).map (·.type) = some ti) (hi : P.underlying ti = some (.interface ms)) (h : laidMet P l W) :
    ∃ c e fr, HW W g = some (.cells c e fr) ∧ Rd (HW W) (.opq true) () (seg c 0 (Ty.opq true).sz) ∧ c.size = (Ty.opq true).sz := by
  obtain ⟨g', t', cs, fuel, p, h1, h2, h3, h4⟩ := laid_at h hm
  obtain rfl := Option.some.inj (hg.symm.trans h1)
  obtain rfl := Option.some.inj (hty.symm.trans h2)
  obtain ⟨ee, fr, hh⟩ := var_heap hg h3
  obtain ⟨_, u, v, hc, _⟩ := iface_of_trod hi h4
  obtain ⟨cl⟩ := cs
  have hc : cl = [.iface u v] := hc
  subst hc
  exact ⟨_, ee, fr, hh, ⟨_, rfl, .inr ⟨rfl, u, v, rfl⟩⟩, rfl⟩
theorem opqI_at {P : Program} {W : World} {g : Nat} {t : TypeId} {zero : Array Value} (h : W.ShapedOpen P) (hg : g < P.globals.size)
    (h0 : ((begin P (fun _ _ => 0) default).world.heap[g]?).bind Obj.row? = some (zero, t)) (hz : zero.size = 1)
    (hb : P.buildable t = true) (hc : P.cellTypes P.depth t = some [t]) (hu : P.underlying t = some (.int .i64)) :
    ∃ c e fr, HW W g = some (.cells c e fr) ∧ Rd (HW W) (.opq false) () (seg c 0 (Ty.opq false).sz) ∧ c.size = (Ty.opq false).sz := by
  obtain ⟨m, hm⟩ := Proofs.cell_of_shapedOpen_int h hg h0 hz hb hc hu
  obtain ⟨cs, hh, hs, _⟩ := h.1 g zero t hg h0
  obtain ⟨cl⟩ := cs
  have hl : cl.length = 1 := by have : cl.length = zero.size := hs; omega
  match cl, hl with
  | [v], _ =>
    have hv : v = .int .i64 m := by simpa [World.cell?, hh] using hm
    exact ⟨_, _, _, hh, ⟨_, rfl, .inl ⟨rfl, m, hv⟩⟩, rfl⟩
end Go.Sx
