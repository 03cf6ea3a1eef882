/- A verified symbolic run of functions, part 14: lemmas, no claim of their own. -/
import Derived.Test.YtpbipfdpoijgoaaGreatDoorS13
/- Contracts: Read. -/
namespace Go.Sx
open U

theorem take1 (l : List Int) : List.getD (List.take 1 l) 0 0 = List.getD l 0 0 := by cases l <;> rfl

theorem chks_len (r : List Int) (g : Nat) : (chks r g).length = g := by simp [chks]
theorem chks_succ (r : List Int) (g : Nat) : chks r (g + 1) = chks r g ++ [chk r g] := by simp [chks, List.range_succ]
theorem chks_w {r : List Int} (hb : Bytes r) (g : Nat) : W16 (chks r g) := by
  intro x hx
  obtain ⟨j, _, rfl⟩ := List.mem_map.1 hx
  have := number_bd 2 (((r.drop (5 * j)).drop 1).take 2) (byTake (byDrop (byDrop hb _) _) _) (by simp; omega)
  have e : (256 : Int) ^ 2 = 65536 := by decide
  rw [e] at this
  unfold chk
  omega

theorem getD_head {l : List Int} (h : 0 < l.length) : l = l.getD 0 0 :: l.drop 1 := by
  cases l with
  | nil => simp at h
  | cons a t => rfl

theorem take5 {l : List Int} (h : 5 ≤ l.length) : List.take 5 ([List.getD l 0 0] ++ List.take 4 (List.drop 1 l)) = List.take 5 l := by
  cases l with
  | nil => simp at h
  | cons a t =>
    have h4 : 4 ≤ t.length := by simpa using h
    simp [List.take_take]

theorem recErr_zero {k : Int} {n : Nat} (h : recErr k n = 0) : (k = 69 ∨ k = 70) ∧ (k = 69 ∨ n ≠ 256) := by
  have hz := (first_zero_iff _).1 h
  have h1 := (whenE_zero (e := 1) (by decide)).1 (hz (whenE (!(k == 69) && (k != 70)) 1) (by simp))
  have h2 := (whenE_zero (e := 5) (by decide)).1 (hz (whenE (!(k == 69) && ((n : Int) == 256)) 5) (by simp))
  by_cases e : k = 69
  · exact ⟨.inl e, .inl e⟩
  · have e' : (k == 69) = false := by simp [e]
    rw [e'] at h1 h2
    simp at h1 h2
    exact ⟨.inr h1, .inr (by omega)⟩

theorem rdRec_none {s l : List Int} (h : s.length < 1) : rdRec s l = (28, false, 0) := by unfold rdRec; rw [if_pos h]
theorem rdRec_bad {s l : List Int} (h : ¬ s.length < 1) (he : recErr (s.getD 0 0) l.length ≠ 0) : rdRec s l = (recErr (s.getD 0 0) l.length, false, 0) := by unfold rdRec; rw [if_neg h, if_neg he]
theorem rdRec_torn {s l : List Int} (h : ¬ s.length < 1) (he : recErr (s.getD 0 0) l.length = 0) (h5 : s.length < 5) : rdRec s l = (28, false, 0) := by unfold rdRec; rw [if_neg h, if_pos he, if_pos h5]
theorem rdRec_full {s l : List Int} (he : recErr (s.getD 0 0) l.length = 0) (h5 : ¬ s.length < 5) :
    rdRec s l = (whenE (!decide (s.take 5 = if (s.getD 0 0 == 69) = true then tlast l else tframe l.length (number ((s.drop 1).take 2)))) 27, s.getD 0 0 == 69, number ((s.drop 1).take 2)) := by
  unfold rdRec; rw [if_neg (by omega), if_pos he, if_neg h5]

theorem rdAll_stop {n : Nat} {s l : List Int} (h : (rdRec s l).1 ≠ 0) : rdAll (n + 1) s l = ((rdRec s l).1, l, s) := by rw [rdAll, if_neg h]
theorem rdAll_last {n : Nat} {s l : List Int} (h : (rdRec s l).1 = 0) (h2 : (rdRec s l).2.1 = true) : rdAll (n + 1) s l = (0, l, s.drop 5) := by rw [rdAll, if_pos h, if_pos h2]
theorem rdAll_more {n : Nat} {s l : List Int} (h : (rdRec s l).1 = 0) (h2 : (rdRec s l).2.1 = false) : rdAll (n + 1) s l = rdAll n (s.drop 5) (l ++ [(rdRec s l).2.2]) := by rw [rdAll, if_pos h, if_neg (by simp [h2])]

theorem readS_begin {s : List Int} (h : (rdBegin s).1 ≠ 0) : readS s = (([], 0, []), (rdBegin s).1) := by unfold readS; rw [if_neg h]
theorem readS_err {s : List Int} {nm : List UInt8} {f : Int} {r : List Int} (hb : rdBegin s = (0, nm, f, r)) {e : Int} {l q : List Int} (h : rdAll (s.length + 1) r [] = (e, l, q)) (he : e ≠ 0) : readS s = (([], 0, []), e) := by
  unfold readS
  rw [hb]
  simp only [if_true]
  rw [h, if_neg he]
theorem readS_bad {s : List Int} {nm : List UInt8} {f : Int} {r : List Int} (hb : rdBegin s = (0, nm, f, r)) {l q : List Int} (h : rdAll (s.length + 1) r [] = (0, l, q)) (he : first [whenE (decide (0 < q.length)) 23, checkReel nm f l] ≠ 0) :
    readS s = (([], 0, []), first [whenE (decide (0 < q.length)) 23, checkReel nm f l]) := by
  unfold readS
  rw [hb]
  simp only [if_true]
  rw [h]
  simp only [if_true]
  rw [if_neg he]
theorem readS_ok {s : List Int} {nm : List UInt8} {f : Int} {r : List Int} (hb : rdBegin s = (0, nm, f, r)) {l q : List Int} (h : rdAll (s.length + 1) r [] = (0, l, q)) (he : first [whenE (decide (0 < q.length)) 23, checkReel nm f l] = 0) :
    readS s = ((nm, f, l), 0) := by
  unfold readS
  rw [hb]
  simp only [if_true]
  rw [h]
  simp only [if_true]
  rw [if_pos he]

theorem fn27 (s : List Int) (hl : s.length ≤ 1000000) (hb : Bytes s) : Fn P1 gl1 27 [.one (.sl (.int .u8) s)] (.tup [rV (readS s).1.1 (readS s).1.2.1 (readS s).1.2.2, iV (readS s).2]) true := by
  refine fn_ofr false [(23, sp23), (100, sp100), (101, sp101), (106, sp106), (107, sp107), (108, sp108), (172, sp172), (173, sp173)] [fb116, fb117, fb171] h27 3 Proofs.Tryz.f27 ⟨so23, so100, so101, so106, so107, so108, so172, so173, trivial⟩
    ⟨⟨by kernel_rfl, by kernel_rfl, _, rfl, by kernel_rfl⟩, ⟨by kernel_rfl, by kernel_rfl, _, rfl, by kernel_rfl⟩, ⟨by kernel_rfl, by kernel_rfl, _, rfl, by kernel_rfl⟩, trivial⟩ (by kernel_rfl) rfl (by kernel_rfl) rfl rfl rfl ?_
  rw [vc27]
  simp only [splitB_iff, Bool.cond_false_right, Bool.cond_true_left, take1, decide_eq_true_eq, decide_eq_false_iff_not, List.length_take, List.length_drop, -eq_self]
  have fail : ∀ {e : Int}, (rdBegin s).1 = e → e ≠ 0 → [] = (readS s).1.1 ∧ 0 = (readS s).1.2.1 ∧ (readS s).1.2.2 = [] ∧ e = (readS s).2 ∧ True := by
    intro e h1 h2
    rw [readS_begin (by rw [h1]; exact h2), h1]
    exact ⟨rfl, rfl, rfl, rfl, trivial⟩
  refine ⟨fun h => ?_, fun h => ⟨by omega, by omega, by omega, fun h2 => ?_, fun h2 => ⟨fun h3 => ?_, fun h3 => ?_⟩⟩⟩
  · refine fail ?_ (by decide)
    unfold rdBegin; rw [if_pos (by omega)]
  · have e : ¬ List.take 4 s = [82, 69, 69, 76] := by
      rw [List.take_take, eqT_int .u8 4 _ _ (by simp; omega) rfl] at h2
      simpa using h2
    refine fail ?_ (by decide)
    unfold rdBegin; rw [if_neg (by omega), if_neg e]
  · have e : List.take 4 s = [82, 69, 69, 76] := by
      rw [List.take_take, eqT_int .u8 4 _ _ (by simp; omega) rfl] at h2
      simpa using h2
    refine fail ?_ (by decide)
    unfold rdBegin; rw [if_neg (by omega), if_pos e, if_pos (by rw [List.length_drop]; omega)]
  · have e : List.take 4 s = [82, 69, 69, 76] := by
      rw [List.take_take, eqT_int .u8 4 _ _ (by simp; omega) rfl] at h2
      simpa using h2
    have hk : 0 ≤ (List.drop 4 s).getD 0 0 ∧ (List.drop 4 s).getD 0 0 ≤ 255 := by
      have hl4 : 0 < (List.drop 4 s).length := by rw [List.length_drop]; omega
      rw [getD_of hl4]
      exact byDrop hb 4 _ (List.getElem_mem hl4)
    refine ⟨by omega, by omega, by omega, by simp only [fits]; omega, fun h4 => ?_, fun h4 => ⟨by omega, by omega, fun h5 => ?_, fun h5 => ⟨fun h6 => ?_, fun h6 => ⟨by omega, by omega, ⟨by omega, byTake (byDrop (byDrop (byDrop hb _) _) _) _⟩, fun h7 => ?_, fun h7 => ?_⟩⟩⟩⟩
    · refine fail ?_ (by decide)
      unfold rdBegin; rw [if_neg (by omega), if_pos e, if_neg (by rw [List.length_drop]; omega), if_pos (by simp only [List.length_drop]; omega)]
    · refine fail ?_ (by decide)
      unfold rdBegin; rw [if_neg (by omega), if_pos e, if_neg (by rw [List.length_drop]; omega), if_neg (by simp only [List.length_drop]; omega), if_neg]
      intro h6
      rw [Bool.and_eq_true] at h6
      rw [h6.1, h6.2] at h5
      cases h5
    all_goals
      have h5' : (plain (bytesOf (((s.drop 4).drop 1).take ((s.drop 4).getD 0 0).toNat)) && isName (bytesOf (((s.drop 4).drop 1).take ((s.drop 4).getD 0 0).toNat))) = true := by
        cases hp : plain (bytesOf (((s.drop 4).drop 1).take ((s.drop 4).getD 0 0).toNat)) <;> cases hq : isName (bytesOf (((s.drop 4).drop 1).take ((s.drop 4).getD 0 0).toNat)) <;> rw [hp, hq] at h5 <;> first | rfl | cases h5
    · refine fail ?_ (by decide)
      unfold rdBegin; rw [if_neg (by omega), if_pos e, if_neg (by rw [List.length_drop]; omega), if_neg (by simp only [List.length_drop]; omega), if_pos h5', if_pos (by simp only [List.length_drop]; omega)]
    · refine fail ?_ (by simpa using h7)
      unfold rdBegin; rw [if_neg (by omega), if_pos e, if_neg (by rw [List.length_drop]; omega), if_neg (by simp only [List.length_drop]; omega), if_pos h5', if_neg (by simp only [List.length_drop]; omega)]
    · have h7' : whenE (decide (10000000 < number ((((s.drop 4).drop 1).drop ((s.drop 4).getD 0 0).toNat).take 4))) 1 = 0 := by simpa using h7
      have hbg : rdBegin s = (0, bytesOf (((s.drop 4).drop 1).take ((s.drop 4).getD 0 0).toNat), number ((((s.drop 4).drop 1).drop ((s.drop 4).getD 0 0).toNat).take 4), (((s.drop 4).drop 1).drop ((s.drop 4).getD 0 0).toNat).drop 4) := by
        unfold rdBegin; rw [if_neg (by omega), if_pos e, if_neg (by rw [List.length_drop]; omega), if_neg (by simp only [List.length_drop]; omega), if_pos h5', if_neg (by simp only [List.length_drop]; omega), h7']
      have hrl : ((((s.drop 4).drop 1).drop ((s.drop 4).getD 0 0).toNat).drop 4).length = s.length - 4 - 1 - ((s.drop 4).getD 0 0).toNat - 4 := by simp only [List.length_drop]
      have hrb : Bytes ((((s.drop 4).drop 1).drop ((s.drop 4).getD 0 0).toNat).drop 4) := byDrop (byDrop (byDrop (byDrop hb _) _) _) _
      clear h7 h7' h5 h5' h6 h4 h2 e fail
      generalize (((s.drop 4).drop 1).drop ((s.drop 4).getD 0 0).toNat).drop 4 = r at *
      generalize bytesOf (((s.drop 4).drop 1).take ((s.drop 4).getD 0 0).toNat) = nm at *
      generalize number ((((s.drop 4).drop 1).drop ((s.drop 4).getD 0 0).toNat).take 4) = f at *
      generalize ((s.drop 4).getD 0 0).toNat = N at *
      refine ⟨⟨0, ⟨Nat.zero_le _, Nat.zero_le _, fun n => rfl⟩, rfl, rfl, rfl, rfl, rfl, rfl, trivial⟩, fun g hg => ?_⟩
      obtain ⟨hg1, hg2, hg3⟩ := hg
      have hcl : (r.drop (5 * g)).length = r.length - 5 * g := List.length_drop
      have hcb : Bytes (r.drop (5 * g)) := byDrop hrb _
      have hchk : chk r g = number (((r.drop (5 * g)).drop 1).take 2) := rfl
      have hsucc := chks_succ r g
      have hcw := chks_w hrb g
      have hclen := chks_len r g
      have hd5 : (r.drop (5 * g)).drop 5 = r.drop (5 * (g + 1)) := by rw [List.drop_drop]; rfl
      obtain ⟨n, hn⟩ : ∃ n, s.length + 1 = (n + 1) + g := ⟨s.length - g, by omega⟩
      have hall : rdAll (s.length + 1) r [] = rdAll (n + 1) (r.drop (5 * g)) (chks r g) := by rw [hn]; exact hg3 (n + 1)
      have hE : first [whenE (!(r.drop (5 * g)).getD 0 0 == 69 && (r.drop (5 * g)).getD 0 0 != 70) 1, whenE (!(r.drop (5 * g)).getD 0 0 == 69 && ((chks r g).length : Int) == 256) 5] = recErr ((r.drop (5 * g)).getD 0 0) (chks r g).length := rfl
      have hq : decide ((0 : Int) < ((s.length - 4 - 1 - N - 4 - 5 * g - 1 - 4 : Nat) : Int)) = decide (0 < ((r.drop (5 * g)).drop 5).length) := decide_eq_decide.2 (by rw [List.length_drop]; omega)
      have hd5' : (List.drop 4 (List.drop 1 (r.drop (5 * g)))) = (r.drop (5 * g)).drop 5 := by rw [List.drop_drop]
      simp only [hE, hq, hd5', List.take_take, -eq_self]
      have hcont : ∀ n, rdAll (n + (g + 1)) r [] = rdAll (n + 1) (r.drop (5 * g)) (chks r g) := by
        intro n
        rw [show n + (g + 1) = (n + 1) + g by omega]
        exact hg3 (n + 1)
      rw [hchk] at hsucc
      generalize r.drop (5 * g) = cur at *
      generalize chks r g = L at *
      have errs : ∀ {e : Int}, (rdRec cur L).1 = e → e ≠ 0 → [] = (readS s).1.1 ∧ 0 = (readS s).1.2.1 ∧ (readS s).1.2.2 = [] ∧ e = (readS s).2 ∧ True := by
        intro e h1 h2
        rw [readS_err hbg (hall.trans (rdAll_stop (by rw [h1]; exact h2))) (by rw [h1]; exact h2), h1]
        exact ⟨rfl, rfl, rfl, rfl, trivial⟩
      have hnum : 0 ≤ number (List.take 2 (List.drop 1 cur)) ∧ number (List.take 2 (List.drop 1 cur)) < 256 ^ 2 := number_bd 2 _ (byTake (byDrop hcb _) _) (by simp; omega)
      rw [show (256 : Int) ^ 2 = 65536 by decide] at hnum
      refine ⟨fun h8 => ?_, fun h8 => ⟨by omega, by omega, by omega, fun _ => by omega, by decide, fun h9 => ⟨fun h10 => ?_, fun h10 => ?_⟩, fun h9 => ⟨fun h10 => ?_, fun h10 => ?_⟩⟩⟩
      · exact errs (by rw [rdRec_none (by omega)]) (by decide)
      · have h9' : recErr (cur.getD 0 0) L.length ≠ 0 := by simpa using h9
        exact errs (by rw [rdRec_bad (by omega) h9']) h9'
      · rw [h9] at h10; cases h10
      · have h9' : recErr (cur.getD 0 0) L.length = 0 := by simpa using h9
        exact errs (by rw [rdRec_torn (by omega) h9' (by omega)]) (by decide)
      · have h9' : recErr (cur.getD 0 0) L.length = 0 := by simpa using h9
        have h5 : ¬ cur.length < 5 := by omega
        have hfull := rdRec_full h9' h5
        have hlen5 : 5 ≤ ([cur.getD 0 0] ++ List.take 4 (List.drop 1 cur)).length := by simp only [List.length_append, List.length_take, List.length_drop, List.length_cons, List.length_nil]; omega
        have htk := take5 (l := cur) (by omega)
        have hm2 : min 2 4 = 2 := rfl
        rw [hm2]
        rw [htk]
        have ht5 : (List.take 5 cur).length = 5 := by rw [List.length_take]; omega
        rw [eqT_int .u8 5 _ _ ht5 rfl, eqT_int .u8 5 _ _ ht5 rfl]
        refine ⟨by omega, by omega, by omega, by simp only [room]; omega, hlen5, by omega, by omega, ⟨by omega, byTake (byDrop hcb _) _⟩, ⟨by omega, by omega⟩, fun h11 => ⟨⟨by omega, hcw⟩, fun h12 => ?_, fun h12 => ⟨fun h13 => ⟨by omega, by decide, fun h14 => ?_, fun h14 => ?_⟩, fun h13 => ?_⟩⟩, fun h11 => ⟨fun h12 => ?_, fun h12 => ⟨fun h13 => ?_, fun h13 => ?_⟩⟩⟩
        · rw [h11, if_pos rfl] at hfull
          exact errs (by rw [hfull]) (by simpa using h12)
        · rw [h11, if_pos rfl] at hfull
          have h12' : whenE (!decide (List.take 5 cur = tlast L)) 27 = 0 := by simpa using h12
          rw [h12'] at hfull
          have h14' : first [whenE (decide (0 < (cur.drop 5).length)) 23, checkReel nm f L] ≠ 0 := by simpa using h14
          rw [readS_bad hbg (hall.trans (rdAll_last (by rw [hfull]) (by rw [hfull]))) h14']
          exact ⟨rfl, rfl, rfl, rfl, trivial⟩
        · rw [h11, if_pos rfl] at hfull
          have h12' : whenE (!decide (List.take 5 cur = tlast L)) 27 = 0 := by simpa using h12
          rw [h12'] at hfull
          have h14' : first [whenE (decide (0 < (cur.drop 5).length)) 23, checkReel nm f L] = 0 := by simpa using h14
          rw [readS_ok hbg (hall.trans (rdAll_last (by rw [hfull]) (by rw [hfull]))) h14']
          exact ⟨rfl, rfl, rfl, rfl, trivial⟩
        · rw [h11] at h13; cases h13
        · rw [h11, if_neg (by decide)] at hfull
          exact errs (by rw [hfull]) (by simpa using h12)
        · rw [h11] at h13; cases h13
        · rw [h11, if_neg (by decide)] at hfull
          have h12' : whenE (!decide (List.take 5 cur = tframe L.length (number (List.take 2 (List.drop 1 cur))))) 27 = 0 := by simpa using h12
          rw [h12'] at hfull
          have hn256 : L.length ≠ 256 := by
            rcases (recErr_zero h9').2 with h | h
            · rw [h] at h11; cases h11
            · exact h
          refine ⟨by simp only [room]; omega, g + 1, ⟨by omega, by omega, fun n => ?_⟩, by omega, rfl, rfl, hd5, rfl, rfl, hsucc.symm, trivial⟩
          rw [hcont n, rdAll_more (by rw [hfull]) (by rw [hfull]), hfull, hd5, hsucc]
def sp27 : FSpec := ⟨fun vs => match vs with
  | [.one (.sl (.int .u8) s)] => some ([List.length s ≤ 1000000 ∧ Bytes s], .tup [rV (readS s).1.1 (readS s).1.2.1 (readS s).1.2.2, iV (readS s).2])
  | _ => none, true⟩
theorem so27_ : SpecOk P1 gl1 27 sp27 := by
  intro vs ps r h hp
  simp only [sp27] at h
  split at h
  · cases h
    have := hp _ (List.mem_singleton.2 rfl)
    exact fn27 _ this.1 this.2
  · cases h
theorem so27 : Sp1 27 sp27 := ⟨so27_, Proofs.Tryz.f27, _, by kernel_rfl, rfl, by kernel_rfl⟩
end Go.Sx

/- What the engine asks, written out (printed by a program). -/
namespace Go.Sx
open U
theorem vc29 (s : List Int) : exFr (env false [(27, sp27), (100, sp100), (101, sp101), (112, sp112), (106, sp106), (107, sp107), (108, sp108), (172, sp172), (173, sp173)] [fb116, fb117, fb171]) h29 3 29 Proofs.Tryz.f29 [.one (.sl (.int .u8) s)] (.tup [rV (U.rebuilt s).1.1 (U.rebuilt s).1.2.1 (U.rebuilt s).1.2.2, bV (U.rebuilt s).2.1, iV (U.rebuilt s).2.2]) = (let q11 := (List.drop (4 : Nat) s); let q33 := (List.drop (1 : Nat) q11); let q16 := (List.take (1 : Nat) q11); let q28 := (List.getD q16 (0 : Nat) (0 : Int)); let q0 := (List.drop (Int.toNat q28) q33); let q2 := (List.take (Int.toNat q28) q33); let q3 := (List.drop (4 : Nat) q0); let q5 := (List.take (4 : Nat) q0); let q7 := ([] = (rebuilt s).1.1 ∧ (0 : Int) = (rebuilt s).1.2.1 ∧ (rebuilt s).1.2.2 = [] ∧ false = (rebuilt s).2.1 ∧ (12 : Int) = (rebuilt s).2.2 ∧ True); let q10 := ([] = (rebuilt s).1.1 ∧ (0 : Int) = (rebuilt s).1.2.1 ∧ (rebuilt s).1.2.2 = [] ∧ false = (rebuilt s).2.1 ∧ (28 : Int) = (rebuilt s).2.2 ∧ True); let q15 := (↑(List.length q33) : Int); let q18 := ([] = (rebuilt s).1.1 ∧ (0 : Int) = (rebuilt s).1.2.1 ∧ (rebuilt s).1.2.2 = [] ∧ false = (rebuilt s).2.1 ∧ (1 : Int) = (rebuilt s).2.2 ∧ True); let q20 := (Ty.arr (5 : Nat) (Ty.int IntKind.u8)); let q21 := (↑(List.length q11) : Int); let q23 := (↑(List.length q0) : Int); let q25 := (↑(List.length s) : Int); splitB (decide (q25 < (4 : Int))) q10 (((0 : Int) ≤ (0 : Int) ∧ (0 : Int) ≤ (4 : Int) ∧ (4 : Int) ≤ q25) ∧ ((0 : Int) ≤ (4 : Int) ∧ (4 : Int) ≤ q25 ∧ q25 ≤ q25) ∧ (4 : Nat) ≤ List.length (List.take (4 : Nat) s) ∧ splitB (!eqT (Ty.arr (4 : Nat) (Ty.int IntKind.u8)) (List.take (4 : Nat) (List.take (4 : Nat) s)) [(82 : Int), (69 : Int), (69 : Int), (76 : Int)]) q18 (splitB (decide (q21 < (1 : Int))) q10 (((0 : Int) ≤ (0 : Int) ∧ (0 : Int) ≤ (1 : Int) ∧ (1 : Int) ≤ q21) ∧ ((0 : Int) ≤ (1 : Int) ∧ (1 : Int) ≤ q21 ∧ q21 ≤ q21) ∧ ((0 : Int) ≤ (0 : Int) ∧ (0 : Int) < (↑(List.length q16) : Int)) ∧ fits IntKind.i64 q28 ∧ splitB (decide (q15 < List.getD q16 (0 : Nat) (0 : Int))) q10 (((0 : Int) ≤ (0 : Int) ∧ (0 : Int) ≤ List.getD q16 (0 : Nat) (0 : Int) ∧ List.getD q16 (0 : Nat) (0 : Int) ≤ q15) ∧ ((0 : Int) ≤ List.getD q16 (0 : Nat) (0 : Int) ∧ List.getD q16 (0 : Nat) (0 : Int) ≤ q15 ∧ q15 ≤ q15) ∧ splitB (bif !plain (bytesOf q2) then true else !isName (bytesOf q2)) q18 (splitB (decide (q23 < (4 : Int))) q10 (((0 : Int) ≤ (0 : Int) ∧ (0 : Int) ≤ (4 : Int) ∧ (4 : Int) ≤ q23) ∧ ((0 : Int) ≤ (4 : Int) ∧ (4 : Int) ≤ q23 ∧ q23 ≤ q23) ∧ (List.length q5 ≤ (4 : Nat) ∧ Bytes q5) ∧ splitB (whenE (decide ((10000000 : Int) < number q5)) (1 : Int) != (0 : Int)) ([] = (rebuilt s).1.1 ∧ (0 : Int) = (rebuilt s).1.2.1 ∧ (rebuilt s).1.2.2 = [] ∧ false = (rebuilt s).2.1 ∧ whenE (decide ((10000000 : Int) < number q5)) (1 : Int) = (rebuilt s).2.2 ∧ True) ((∃ (g : Nat), ((5 : Nat) * g ≤ List.length q3 ∧ g ≤ (256 : Nat) ∧ ∀ (n : Nat), rbAll (number q5) (n + g) q3 [] = rbAll (number q5) n (List.drop ((5 : Nat) * g) q3) (chks q3 g)) ∧ s = s ∧ nilB = [] ∧ (0 : Int) = (0 : Int) ∧ List.drop (4 : Nat) q0 = List.drop ((5 : Nat) * g) q3 ∧ bytesOf q2 = bytesOf q2 ∧ number q5 = number q5 ∧ chks q3 g = [] ∧ True) ∧ ∀ (g : Nat), let q1 := (List.drop ((5 : Nat) * g) q3); let q4 := ((List.length s ≤ (1000000 : Nat) ∧ Bytes s) ∧ bytesOf q2 = (rebuilt s).1.1 ∧ number q5 = (rebuilt s).1.2.1 ∧ chks q3 g = (rebuilt s).1.2.2 ∧ ((readS s).2 == (0 : Int)) = (rebuilt s).2.1 ∧ (0 : Int) = (rebuilt s).2.2 ∧ True); let q6 := (↑(List.length (chks q3 g)) : Int); let q12 := (List.take (1 : Nat) q1); let q14 := (List.drop (1 : Nat) q1); let q8 := ([List.getD q12 (0 : Nat) (0 : Int)] ++ List.take (4 : Nat) q14); let q32 := (List.take (4 : Nat) q14); let q9 := (List.take (2 : Nat) q32); let q13 := (bif !List.getD q12 (0 : Nat) (0 : Int) == (69 : Int) then List.getD q12 (0 : Nat) (0 : Int) != (70 : Int) else false); let q17 := (bif !List.getD q12 (0 : Nat) (0 : Int) == (69 : Int) then q6 == (256 : Int) else false); let q19 := (((bif (28 : Int) != (0 : Int) then true else false) = false → fits IntKind.i64 (number q5 + q6)) ∧ splitB (q6 == (0 : Int)) q7 q4); let q22 := (↑(List.length q14) : Int); let q24 := (↑(List.length q1) : Int); let q26 := (List.take (5 : Nat) q8); let q27 := (List.length (chks q3 g) + (1 : Nat)); let q29 := ((10000000 : Int) ≤ number q5 + q6); let q30 := ((0 : Int) ≤ (0 : Int) ∧ (0 : Int) < (↑(List.length q12) : Int)); let q31 := (splitB (q6 == (0 : Int)) q7 q4); ((5 : Nat) * g ≤ List.length q3 ∧ g ≤ (256 : Nat) ∧ ∀ (n : Nat), rbAll (number q5) (n + g) q3 [] = rbAll (number q5) n q1 (chks q3 g)) → splitB (decide (q24 < (1 : Int))) q19 (((0 : Int) ≤ (0 : Int) ∧ (0 : Int) ≤ (1 : Int) ∧ (1 : Int) ≤ q24) ∧ ((0 : Int) ≤ (1 : Int) ∧ (1 : Int) ≤ q24 ∧ q24 ≤ q24) ∧ q30 ∧ ((!List.getD q12 (0 : Nat) (0 : Int) == (69 : Int)) = true → (0 : Int) ≤ (0 : Int) ∧ (0 : Int) < (↑(List.length q12) : Int)) ∧ (2 : Nat) ≤ (1000000000 : Nat) ∧ splitB (first [whenE q13 (1 : Int), whenE q17 (5 : Int)] != (0 : Int)) (((bif first [whenE q13 (1 : Int), whenE q17 (5 : Int)] != (0 : Int) then true else false) = false → fits IntKind.i64 (number q5 + q6)) ∧ splitB (bif bif first [whenE q13 (1 : Int), whenE q17 (5 : Int)] != (0 : Int) then true else false then true else decide q29) q31 (room q27 (8 : Nat) ∧ ∃ (g' : Nat), ((5 : Nat) * g' ≤ List.length q3 ∧ g' ≤ (256 : Nat) ∧ ∀ (n : Nat), rbAll (number q5) (n + g') q3 [] = rbAll (number q5) n (List.drop ((5 : Nat) * g') q3) (chks q3 g')) ∧ List.length q3 - (5 : Nat) * g' < List.length q3 - (5 : Nat) * g ∧ s = s ∧ nilB = [] ∧ (0 : Int) = (0 : Int) ∧ List.drop (1 : Nat) q1 = List.drop ((5 : Nat) * g') q3 ∧ bytesOf q2 = bytesOf q2 ∧ number q5 = number q5 ∧ chks q3 g ++ [(0 : Int)] = chks q3 g' ∧ True)) (splitB (decide (q22 < (4 : Int))) q19 (((0 : Int) ≤ (0 : Int) ∧ (0 : Int) ≤ (4 : Int) ∧ (4 : Int) ≤ q22) ∧ ((0 : Int) ≤ (4 : Int) ∧ (4 : Int) ≤ q22 ∧ q22 ≤ q22) ∧ q30 ∧ room ((1 : Nat) + List.length q32) (1 : Nat) ∧ (5 : Nat) ≤ List.length q8 ∧ List.length q26 = (5 : Nat) ∧ ((0 : Int) ≤ (0 : Int) ∧ (0 : Int) ≤ (2 : Int) ∧ (2 : Int) ≤ (↑(List.length q32) : Int)) ∧ (List.length q9 ≤ (4 : Nat) ∧ Bytes q9) ∧ (((0 : Int) ≤ q6 ∧ q6 ≤ (1000000 : Int)) ∧ (0 : Int) ≤ number q9 ∧ number q9 ≤ (1000000 : Int)) ∧ splitB (List.getD q12 (0 : Nat) (0 : Int) == (69 : Int)) ((List.length (chks q3 g) ≤ (1000000 : Nat) ∧ ∀ (x : Int), x ∈ chks q3 g → (0 : Int) ≤ x ∧ x ≤ (65535 : Int)) ∧ ((bif whenE (!eqT q20 q26 (tlast (chks q3 g))) (27 : Int) != (0 : Int) then true else List.getD q12 (0 : Nat) (0 : Int) == (69 : Int)) = false → fits IntKind.i64 (number q5 + q6)) ∧ splitB (bif bif whenE (!eqT q20 q26 (tlast (chks q3 g))) (27 : Int) != (0 : Int) then true else List.getD q12 (0 : Nat) (0 : Int) == (69 : Int) then true else decide q29) q31 (room q27 (8 : Nat) ∧ ∃ (g' : Nat), ((5 : Nat) * g' ≤ List.length q3 ∧ g' ≤ (256 : Nat) ∧ ∀ (n : Nat), rbAll (number q5) (n + g') q3 [] = rbAll (number q5) n (List.drop ((5 : Nat) * g') q3) (chks q3 g')) ∧ List.length q3 - (5 : Nat) * g' < List.length q3 - (5 : Nat) * g ∧ s = s ∧ nilB = [] ∧ (0 : Int) = (0 : Int) ∧ List.drop (4 : Nat) q14 = List.drop ((5 : Nat) * g') q3 ∧ bytesOf q2 = bytesOf q2 ∧ number q5 = number q5 ∧ chks q3 g ++ [number q9] = chks q3 g' ∧ True)) (((bif whenE (!eqT q20 q26 (tframe q6 (number q9))) (27 : Int) != (0 : Int) then true else List.getD q12 (0 : Nat) (0 : Int) == (69 : Int)) = false → fits IntKind.i64 (number q5 + q6)) ∧ splitB (bif bif whenE (!eqT q20 q26 (tframe q6 (number q9))) (27 : Int) != (0 : Int) then true else List.getD q12 (0 : Nat) (0 : Int) == (69 : Int) then true else decide q29) q31 (room q27 (8 : Nat) ∧ ∃ (g' : Nat), ((5 : Nat) * g' ≤ List.length q3 ∧ g' ≤ (256 : Nat) ∧ ∀ (n : Nat), rbAll (number q5) (n + g') q3 [] = rbAll (number q5) n (List.drop ((5 : Nat) * g') q3) (chks q3 g')) ∧ List.length q3 - (5 : Nat) * g' < List.length q3 - (5 : Nat) * g ∧ s = s ∧ nilB = [] ∧ (0 : Int) = (0 : Int) ∧ List.drop (4 : Nat) q14 = List.drop ((5 : Nat) * g') q3 ∧ bytesOf q2 = bytesOf q2 ∧ number q5 = number q5 ∧ chks q3 g ++ [number q9] = chks q3 g' ∧ True))))))))))))) := by
  kernel_rfl
end Go.Sx

/- Contracts: Rebuilt. -/
namespace Go.Sx
open U

theorem rbAll_stop {f : Int} {n : Nat} {s l : List Int} (h : ¬ ((rdRec s l).1 = 0 ∧ (rdRec s l).2.1 = false ∧ f + (l.length : Int) < 10000000)) : rbAll f (n + 1) s l = l := by rw [rbAll, if_neg h]
theorem rbAll_more {f : Int} {n : Nat} {s l : List Int} (h : (rdRec s l).1 = 0 ∧ (rdRec s l).2.1 = false ∧ f + (l.length : Int) < 10000000) : rbAll f (n + 1) s l = rbAll f n (s.drop 5) (l ++ [(rdRec s l).2.2]) := by rw [rbAll, if_pos h]
theorem rebuilt_begin {s : List Int} (h : (rdBegin s).1 ≠ 0) : rebuilt s = (([], 0, []), false, (rdBegin s).1) := by unfold rebuilt; rw [if_neg h]
theorem rebuilt_none {s : List Int} {nm : List UInt8} {f : Int} {r : List Int} (hb : rdBegin s = (0, nm, f, r)) {l : List Int} (h : rbAll f (s.length + 1) r [] = l) (he : l.length = 0) : rebuilt s = (([], 0, []), false, 12) := by
  unfold rebuilt
  rw [hb]
  simp only [if_true]
  rw [h, if_pos he]
theorem rebuilt_some {s : List Int} {nm : List UInt8} {f : Int} {r : List Int} (hb : rdBegin s = (0, nm, f, r)) {l : List Int} (h : rbAll f (s.length + 1) r [] = l) (he : ¬ l.length = 0) : rebuilt s = ((nm, f, l), decide ((readS s).2 = 0), 0) := by
  unfold rebuilt
  rw [hb]
  simp only [if_true]
  rw [h, if_neg he]

theorem fn29 (s : List Int) (hl : s.length ≤ 1000000) (hb : Bytes s) : Fn P1 gl1 29 [.one (.sl (.int .u8) s)] (.tup [rV (rebuilt s).1.1 (rebuilt s).1.2.1 (rebuilt s).1.2.2, bV (rebuilt s).2.1, iV (rebuilt s).2.2]) true := by
  refine fn_ofr false [(27, sp27), (100, sp100), (101, sp101), (112, sp112), (106, sp106), (107, sp107), (108, sp108), (172, sp172), (173, sp173)] [fb116, fb117, fb171] h29 3 Proofs.Tryz.f29 ⟨so27, so100, so101, so112, so106, so107, so108, so172, so173, trivial⟩
    ⟨⟨by kernel_rfl, by kernel_rfl, _, rfl, by kernel_rfl⟩, ⟨by kernel_rfl, by kernel_rfl, _, rfl, by kernel_rfl⟩, ⟨by kernel_rfl, by kernel_rfl, _, rfl, by kernel_rfl⟩, trivial⟩ (by kernel_rfl) rfl (by kernel_rfl) rfl rfl rfl ?_
  rw [vc29]
  simp only [splitB_iff, Bool.cond_false_right, Bool.cond_true_left, take1, decide_eq_true_eq, decide_eq_false_iff_not, List.length_take, List.length_drop, -eq_self]
  have fail : ∀ {e : Int}, (rdBegin s).1 = e → e ≠ 0 → [] = (rebuilt s).1.1 ∧ 0 = (rebuilt s).1.2.1 ∧ (rebuilt s).1.2.2 = [] ∧ false = (rebuilt s).2.1 ∧ e = (rebuilt s).2.2 ∧ True := by
    intro e h1 h2
    rw [rebuilt_begin (by rw [h1]; exact h2), h1]
    exact ⟨rfl, rfl, rfl, rfl, rfl, trivial⟩
  refine ⟨fun h => ?_, fun h => ⟨by omega, by omega, by omega, fun h2 => ?_, fun h2 => ⟨fun h3 => ?_, fun h3 => ?_⟩⟩⟩
  · refine fail ?_ (by decide)
    unfold rdBegin; rw [if_pos (by omega)]
  · have e : ¬ List.take 4 s = [82, 69, 69, 76] := by
      rw [List.take_take, eqT_int .u8 4 _ _ (by simp; omega) rfl] at h2
      simpa using h2
    refine fail ?_ (by decide)
    unfold rdBegin; rw [if_neg (by omega), if_neg e]
  · have e : List.take 4 s = [82, 69, 69, 76] := by
      rw [List.take_take, eqT_int .u8 4 _ _ (by simp; omega) rfl] at h2
      simpa using h2
    refine fail ?_ (by decide)
    unfold rdBegin; rw [if_neg (by omega), if_pos e, if_pos (by rw [List.length_drop]; omega)]
  · have e : List.take 4 s = [82, 69, 69, 76] := by
      rw [List.take_take, eqT_int .u8 4 _ _ (by simp; omega) rfl] at h2
      simpa using h2
    have hk : 0 ≤ (List.drop 4 s).getD 0 0 ∧ (List.drop 4 s).getD 0 0 ≤ 255 := by
      have hl4 : 0 < (List.drop 4 s).length := by rw [List.length_drop]; omega
      rw [getD_of hl4]
      exact byDrop hb 4 _ (List.getElem_mem hl4)
    refine ⟨by omega, by omega, by omega, by simp only [fits]; omega, fun h4 => ?_, fun h4 => ⟨by omega, by omega, fun h5 => ?_, fun h5 => ⟨fun h6 => ?_, fun h6 => ⟨by omega, by omega, ⟨by omega, byTake (byDrop (byDrop (byDrop hb _) _) _) _⟩, fun h7 => ?_, fun h7 => ?_⟩⟩⟩⟩
    · refine fail ?_ (by decide)
      unfold rdBegin; rw [if_neg (by omega), if_pos e, if_neg (by rw [List.length_drop]; omega), if_pos (by simp only [List.length_drop]; omega)]
    · refine fail ?_ (by decide)
      unfold rdBegin; rw [if_neg (by omega), if_pos e, if_neg (by rw [List.length_drop]; omega), if_neg (by simp only [List.length_drop]; omega), if_neg]
      intro h6
      rw [Bool.and_eq_true] at h6
      rw [h6.1, h6.2] at h5
      cases h5
    all_goals
      have h5' : (plain (bytesOf (((s.drop 4).drop 1).take ((s.drop 4).getD 0 0).toNat)) && isName (bytesOf (((s.drop 4).drop 1).take ((s.drop 4).getD 0 0).toNat))) = true := by
        cases hp : plain (bytesOf (((s.drop 4).drop 1).take ((s.drop 4).getD 0 0).toNat)) <;> cases hq : isName (bytesOf (((s.drop 4).drop 1).take ((s.drop 4).getD 0 0).toNat)) <;> rw [hp, hq] at h5 <;> first | rfl | cases h5
    · refine fail ?_ (by decide)
      unfold rdBegin; rw [if_neg (by omega), if_pos e, if_neg (by rw [List.length_drop]; omega), if_neg (by simp only [List.length_drop]; omega), if_pos h5', if_pos (by simp only [List.length_drop]; omega)]
    · refine fail ?_ (by simpa using h7)
      unfold rdBegin; rw [if_neg (by omega), if_pos e, if_neg (by rw [List.length_drop]; omega), if_neg (by simp only [List.length_drop]; omega), if_pos h5', if_neg (by simp only [List.length_drop]; omega)]
    · have h7' : whenE (decide (10000000 < number ((((s.drop 4).drop 1).drop ((s.drop 4).getD 0 0).toNat).take 4))) 1 = 0 := by simpa using h7
      have hbg : rdBegin s = (0, bytesOf (((s.drop 4).drop 1).take ((s.drop 4).getD 0 0).toNat), number ((((s.drop 4).drop 1).drop ((s.drop 4).getD 0 0).toNat).take 4), (((s.drop 4).drop 1).drop ((s.drop 4).getD 0 0).toNat).drop 4) := by
        unfold rdBegin; rw [if_neg (by omega), if_pos e, if_neg (by rw [List.length_drop]; omega), if_neg (by simp only [List.length_drop]; omega), if_pos h5', if_neg (by simp only [List.length_drop]; omega), h7']
      have hrl : ((((s.drop 4).drop 1).drop ((s.drop 4).getD 0 0).toNat).drop 4).length = s.length - 4 - 1 - ((s.drop 4).getD 0 0).toNat - 4 := by simp only [List.length_drop]
      have hrb : Bytes ((((s.drop 4).drop 1).drop ((s.drop 4).getD 0 0).toNat).drop 4) := byDrop (byDrop (byDrop (byDrop hb _) _) _) _
      have hfb := number_bd 4 ((((s.drop 4).drop 1).drop ((s.drop 4).getD 0 0).toNat).take 4) (byTake (byDrop (byDrop (byDrop hb _) _) _) _) (by rw [List.length_take]; omega)
      rw [show (256 : Int) ^ 4 = 4294967296 by decide] at hfb
      clear h7 h7' h5 h5' h6 h4 h2 e fail
      generalize (((s.drop 4).drop 1).drop ((s.drop 4).getD 0 0).toNat).drop 4 = r at *
      generalize bytesOf (((s.drop 4).drop 1).take ((s.drop 4).getD 0 0).toNat) = nm at *
      generalize number ((((s.drop 4).drop 1).drop ((s.drop 4).getD 0 0).toNat).take 4) = f at *
      generalize ((s.drop 4).getD 0 0).toNat = N at *
      refine ⟨⟨0, ⟨Nat.zero_le _, Nat.zero_le _, fun n => rfl⟩, rfl, rfl, rfl, rfl, rfl, rfl, rfl, trivial⟩, fun g hg => ?_⟩
      obtain ⟨hg1, hg2, hg3⟩ := hg
      have hcl : (r.drop (5 * g)).length = r.length - 5 * g := List.length_drop
      have hcb : Bytes (r.drop (5 * g)) := byDrop hrb _
      have hchk : chk r g = number (((r.drop (5 * g)).drop 1).take 2) := rfl
      have hsucc := chks_succ r g
      have hcw := chks_w hrb g
      have hclen := chks_len r g
      have hd5 : (r.drop (5 * g)).drop 5 = r.drop (5 * (g + 1)) := by rw [List.drop_drop]; rfl
      obtain ⟨n, hn⟩ : ∃ n, s.length + 1 = (n + 1) + g := ⟨s.length - g, by omega⟩
      have hall : rbAll f (s.length + 1) r [] = rbAll f (n + 1) (r.drop (5 * g)) (chks r g) := by rw [hn]; exact hg3 (n + 1)
      have hE : first [whenE (!(r.drop (5 * g)).getD 0 0 == 69 && (r.drop (5 * g)).getD 0 0 != 70) 1, whenE (!(r.drop (5 * g)).getD 0 0 == 69 && ((chks r g).length : Int) == 256) 5] = recErr ((r.drop (5 * g)).getD 0 0) (chks r g).length := rfl
      have hd5' : (List.drop 4 (List.drop 1 (r.drop (5 * g)))) = (r.drop (5 * g)).drop 5 := by rw [List.drop_drop]
      simp only [hE, hd5', List.take_take, -eq_self]
      have hcont : ∀ n, rbAll f (n + (g + 1)) r [] = rbAll f (n + 1) (r.drop (5 * g)) (chks r g) := by
        intro n
        rw [show n + (g + 1) = (n + 1) + g by omega]
        exact hg3 (n + 1)
      rw [hchk] at hsucc
      generalize r.drop (5 * g) = cur at *
      generalize chks r g = L at *
      have hfit : fits .i64 (f + (L.length : Int)) := by simp only [fits]; omega
      have stop : ¬ ((rdRec cur L).1 = 0 ∧ (rdRec cur L).2.1 = false ∧ f + (L.length : Int) < 10000000) →
          ((((L.length : Int) == 0) = true → [] = (rebuilt s).1.1 ∧ 0 = (rebuilt s).1.2.1 ∧ (rebuilt s).1.2.2 = [] ∧ false = (rebuilt s).2.1 ∧ 12 = (rebuilt s).2.2 ∧ True) ∧
          (((L.length : Int) == 0) = false → (s.length ≤ 1000000 ∧ Bytes s) ∧ nm = (rebuilt s).1.1 ∧ f = (rebuilt s).1.2.1 ∧ L = (rebuilt s).1.2.2 ∧ ((readS s).2 == 0) = (rebuilt s).2.1 ∧ 0 = (rebuilt s).2.2 ∧ True)) := by
        intro h1
        have h2 := hall.trans (rbAll_stop h1)
        rw [len_beq]
        refine ⟨fun h3 => ?_, fun h3 => ⟨⟨hl, hb⟩, ?_⟩⟩
        · rw [rebuilt_none hbg h2 (by simpa using h3)]
          exact ⟨rfl, rfl, rfl, rfl, rfl, trivial⟩
        · rw [rebuilt_some hbg h2 (by simpa using h3)]
          exact ⟨rfl, rfl, rfl, rfl, rfl, trivial⟩
      have hnum : 0 ≤ number (List.take 2 (List.drop 1 cur)) ∧ number (List.take 2 (List.drop 1 cur)) < 256 ^ 2 := number_bd 2 _ (byTake (byDrop hcb _) _) (by simp; omega)
      rw [show (256 : Int) ^ 2 = 65536 by decide] at hnum
      refine ⟨fun h8 => ⟨fun _ => hfit, stop (by rw [rdRec_none (by omega)]; simp)⟩, fun h8 => ⟨by omega, by omega, by omega, fun _ => by omega, by decide, fun h9 => ⟨fun _ => hfit, fun h10 => ?_, fun h10 => ?_⟩, fun h9 => ⟨fun h10 => ⟨fun _ => hfit, ?_⟩, fun h10 => ?_⟩⟩⟩
      · have h9' : recErr (cur.getD 0 0) L.length ≠ 0 := by simpa using h9
        exact stop (by rw [rdRec_bad (by omega) h9']; exact fun h => h9' h.1)
      · rw [h9] at h10; cases h10
      · have h9' : recErr (cur.getD 0 0) L.length = 0 := by simpa using h9
        exact stop (by rw [rdRec_torn (by omega) h9' (by omega)]; simp)
      · have h9' : recErr (cur.getD 0 0) L.length = 0 := by simpa using h9
        have h5 : ¬ cur.length < 5 := by omega
        have hfull := rdRec_full h9' h5
        have hlen5 : 5 ≤ ([cur.getD 0 0] ++ List.take 4 (List.drop 1 cur)).length := by simp only [List.length_append, List.length_take, List.length_drop, List.length_cons, List.length_nil]; omega
        have htk := take5 (l := cur) (by omega)
        have hm2 : min 2 4 = 2 := rfl
        rw [hm2]
        rw [htk]
        have ht5 : (List.take 5 cur).length = 5 := by rw [List.length_take]; omega
        rw [eqT_int .u8 5 _ _ ht5 rfl, eqT_int .u8 5 _ _ ht5 rfl]
        refine ⟨by omega, by omega, by omega, by simp only [room]; omega, hlen5, by omega, by omega, ⟨by omega, byTake (byDrop hcb _) _⟩, ⟨by omega, by omega⟩, fun h11 => ⟨⟨by omega, hcw⟩, fun _ => hfit, fun h12 => ?_, fun h12 => ?_⟩, fun h11 => ⟨fun _ => hfit, fun h12 => ?_, fun h12 => ?_⟩⟩
        · rw [h11, if_pos rfl] at hfull
          exact stop (by rw [hfull]; simp)
        · rw [h11] at h12; simp at h12
        · rw [h11, if_neg (by decide)] at hfull
          refine stop ?_
          rw [hfull]
          rintro ⟨k1, _, k3⟩
          simp only [] at k1
          rw [h11, k1] at h12
          simp at h12
          omega
        · rw [h11, if_neg (by decide)] at hfull
          rw [h11] at h12
          simp only [Bool.or_false, Bool.or_eq_false_iff, bne_eq_false_iff_eq, decide_eq_false_iff_not] at h12
          obtain ⟨h12', h13⟩ := h12
          rw [h12'] at hfull
          have hn256 : L.length ≠ 256 := by
            rcases (recErr_zero h9').2 with h | h
            · rw [h] at h11; cases h11
            · exact h
          refine ⟨by simp only [room]; omega, g + 1, ⟨by omega, by omega, fun n => ?_⟩, by omega, rfl, rfl, rfl, hd5, rfl, rfl, hsucc.symm, trivial⟩
          rw [hcont n, rbAll_more (by rw [hfull]; exact ⟨rfl, rfl, by omega⟩), hfull, hd5, hsucc]
def sp29 : FSpec := ⟨fun vs => match vs with
  | [.one (.sl (.int .u8) s)] => some ([List.length s ≤ 1000000 ∧ Bytes s], .tup [rV (rebuilt s).1.1 (rebuilt s).1.2.1 (rebuilt s).1.2.2, bV (rebuilt s).2.1, iV (rebuilt s).2.2])
  | _ => none, true⟩
theorem so29_ : SpecOk P1 gl1 29 sp29 := by
  intro vs ps r h hp
  simp only [sp29] at h
  split at h
  · cases h
    have := hp _ (List.mem_singleton.2 rfl)
    exact fn29 _ this.1 this.2
  · cases h
theorem so29 : Sp1 29 sp29 := ⟨so29_, Proofs.Tryz.f29, _, by kernel_rfl, rfl, by kernel_rfl⟩
end Go.Sx

/- Plain functions and hints. -/
namespace Go.Sx.U
abbrev Nd := List UInt8 × Int × Int
def nd0 : Nd := ([], 0, 0)
end Go.Sx.U
namespace Go.Sx
open U
/-- The loop that copies a list. -/
def hCopyP (u : Ty) (s : St) : Option LInv := match listAs s 6 u with
  | some xs => some ⟨Nat, fun i => ⟨[tI 8 i, (3, .val (.one (.own s.nx)))] ++ keepT [6, 7] s.tm, (s.nx, some (.row u (List.take i xs))) :: lessO s [3], s.nx + 1, s.lr⟩, fun i => i ≤ List.length xs, fun i => List.length xs - i⟩
  | _ => none
def hCopy (f : Nat) (u : Ty) : Hints := ⟨fun f' k s => match Nat.beq f' f, k with
  | true, 3 => hCopyP u s
  | _, _ => none, 0⟩
/-- The loop that compares two lists. -/
def hSame (f : Nat) (u : Ty) (d : u.T) : Hints := ⟨fun f' k s => match Nat.beq f' f, k with
  | true, 4 => match listAs s 0 u, listAs s 1 u with
    | some a, some b => hCt s [0, 1] 5 (List.length a) fun i => ∀ j, j < i → List.getD a j d = List.getD b j d
    | _, _ => none
  | _, _ => none, 0⟩
end Go.Sx
namespace Go.Sx
open U
def sp59 : FSpec := ⟨fun vs => match vs with
  | [.one (.sl (.int .i64) l)] => some ([List.length l ≤ 1000000], .val (.one (.frs (.int .i64) l)))
  | _ => none, true⟩
def sp28 : FSpec := ⟨fun vs => match vs with
  | [.one (.sl (.int .u8) l)] => some ([List.length l ≤ 1000000], .val (.one (.frs (.int .u8) l)))
  | _ => none, true⟩
def sp20 : FSpec := ⟨fun vs => match vs with
  | [.agg [.one (.str nm), .one (.int .i64 f), .one (.sl (.int .i64) l)]] => some ([List.length l ≤ 1000000], .val (rV nm f l))
  | _ => none, true⟩
def sp25 : FSpec := ⟨fun vs => match vs with
  | [.one (.sl (.pair .str (.pair (.int .i64) (.sl (.int .i64)))) R)] => some ([List.length R ≤ 1000000, ∀ r ∈ (show List Rl from R), List.length r.2.2 ≤ 1000000], .val (.one (.sl rlT R)))
  | _ => none, false⟩
def sp34 : FSpec := ⟨fun vs => match vs with
  | [.one (.sl (.pair .str (.pair (.int .i64) (.pair (.int .i64) (.pair (.int .i64) (.int .i64))))) L)] => some ([List.length L ≤ 1000000], .val (.one (.frs edT L)))
  | _ => none, true⟩
def sp57 : FSpec := ⟨fun vs => match vs with
  | [.one (.sl (.pair .str (.pair (.int .i64) (.pair (.int .i64) (.pair (.int .i64) (.int .i64))))) L)] => some ([List.length L ≤ 1000000], .val (.one (.frs edT L)))
  | _ => none, true⟩
def sp48 : FSpec := ⟨fun vs => match vs with
  | [.one (.sl (.pair .str (.pair (.int .i64) (.pair (.int .i64) (.int .i64)))) L)] => some ([List.length L ≤ 1000000], .val (.one (.frs tkT L)))
  | _ => none, true⟩
def sp74 : FSpec := ⟨fun vs => match vs with
  | [.one (.sl (.pair .str (.pair (.int .i64) (.int .i64))) L)] => some ([List.length L ≤ 1000000], .val (.one (.frs ndT L)))
  | _ => none, true⟩
def sp56 : FSpec := ⟨fun vs => match vs with
  | [.one (.sl (.pair .str (.pair (.int .i64) (.pair (.int .i64) (.pair (.int .i64) (.int .i64))))) a), .one (.sl (.pair .str (.pair (.int .i64) (.pair (.int .i64) (.pair (.int .i64) (.int .i64))))) b)] => some ([List.length a ≤ 1000000], .val (bV (decide ((show List Ed from a) = b))))
  | [.one (.sl (.pair .str (.pair (.int .i64) (.pair (.int .i64) (.pair (.int .i64) (.int .i64))))) a), .one .nils] => some ([List.length a ≤ 1000000], .val (bV (decide ((show List Ed from a) = []))))
  | _ => none, true⟩
def sp47 : FSpec := ⟨fun vs => match vs with
  | [.one (.sl (.pair .str (.pair (.int .i64) (.pair (.int .i64) (.int .i64)))) a), .one (.sl (.pair .str (.pair (.int .i64) (.pair (.int .i64) (.int .i64)))) b)] => some ([List.length a ≤ 1000000], .val (bV (decide ((show List Tk from a) = b))))
  | [.one (.sl (.pair .str (.pair (.int .i64) (.pair (.int .i64) (.int .i64)))) a), .one .nils] => some ([List.length a ≤ 1000000], .val (bV (decide ((show List Tk from a) = []))))
  | _ => none, true⟩
def sp73 : FSpec := ⟨fun vs => match vs with
  | [.one (.sl (.pair .str (.pair (.int .i64) (.int .i64))) a), .one (.sl (.pair .str (.pair (.int .i64) (.int .i64))) b)] => some ([List.length a ≤ 1000000], .val (bV (decide ((show List Nd from a) = b))))
  | [.one (.sl (.pair .str (.pair (.int .i64) (.int .i64))) a), .one .nils] => some ([List.length a ≤ 1000000], .val (bV (decide ((show List Nd from a) = []))))
  | _ => none, true⟩
def sp32 : FSpec := ⟨fun vs => match vs with
  | [.agg [.one (.str n1), .one (.int .i64 f1), .one (.sl (.int .i64) l1)], .agg [.one (.str n2), .one (.int .i64 f2), .one (.sl (.int .i64) l2)]] => some ([List.length l1 ≤ 1000000], .val (bV (decide ((n1, f1, l1) = (n2, f2, l2)))))
  | _ => none, true⟩
end Go.Sx

/- What the engine asks, written out (printed by a program). -/
namespace Go.Sx
open U
theorem vc59 (l : List Int) : exF (env false [] []) h0 0 59 Proofs.Tryz.f59 [.one (.sl (.int .i64) l)] (.val (.one (.frs (.int .i64) l))) = (room ((0 : Nat) + List.length l) (8 : Nat) ∧ l = l ∧ True) := by
  kernel_rfl
theorem vc28 (l : List Int) : exF (env false [] []) h0 0 28 Proofs.Tryz.f28 [.one (.sl (.int .u8) l)] (.val (.one (.frs (.int .u8) l))) = (room ((0 : Nat) + List.length l) (1 : Nat) ∧ l = l ∧ True) := by
  kernel_rfl
theorem vc20 (nm : List UInt8) (f : Int) (l : List Int) : exFr (env false [(59, sp59)] []) h0 0 20 Proofs.Tryz.f20 [rV nm f l] (.val (rV nm f l)) = (List.length l ≤ (1000000 : Nat) ∧ nm = nm ∧ f = f ∧ l = l ∧ True) := by
  kernel_rfl
theorem vc25 (R : List Rl) : exF (env false [(20, sp20)] []) (hCopy 25 rlT) 0 25 Proofs.Tryz.f25 [.one (.sl rlT R)] (.val (.one (.sl rlT R))) = (let q0 := (↑(List.length R) : Int); (∃ (g : Nat), Nat.le g (List.length R) ∧ (0 : Int) = (↑g : Int) ∧ q0 = q0 ∧ R = R ∧ List.take g R = [] ∧ True) ∧ ∀ (g : Nat), let q1 := (List.getD R g r0); Nat.le g (List.length R) → splitB (decide ((↑g : Int) < q0)) (((0 : Int) ≤ (↑g : Int) ∧ (↑g : Int) < q0) ∧ List.length q1.2.2 ≤ (1000000 : Nat) ∧ room (List.length (List.take g R) + (1 : Nat)) (48 : Nat) ∧ fits IntKind.i64 ((↑g : Int) + (1 : Int)) ∧ ∃ (g' : Nat), Nat.le g' (List.length R) ∧ List.length R - g' < List.length R - g ∧ (↑g : Int) + (1 : Int) = (↑g' : Int) ∧ q0 = q0 ∧ R = R ∧ List.take g R ++ [(q1.1, q1.2.1, q1.2.2)] = List.take g' R ∧ True) (List.take g R = R ∧ True)) := by
  kernel_rfl
theorem vc34 (L : List Ed) : exF (env false [] []) (hCopy 34 edT) 0 34 Proofs.Tryz.f34 [.one (.sl edT L)] (.val (.one (.frs edT L))) = (let q0 := (↑(List.length L) : Int); (∃ (g : Nat), Nat.le g (List.length L) ∧ (0 : Int) = (↑g : Int) ∧ q0 = q0 ∧ L = L ∧ List.take g L = [] ∧ True) ∧ ∀ (g : Nat), let q1 := (List.getD L g e0); Nat.le g (List.length L) → splitB (decide ((↑g : Int) < q0)) (((0 : Int) ≤ (↑g : Int) ∧ (↑g : Int) < q0) ∧ room (List.length (List.take g L) + (1 : Nat)) (48 : Nat) ∧ fits IntKind.i64 ((↑g : Int) + (1 : Int)) ∧ ∃ (g' : Nat), Nat.le g' (List.length L) ∧ List.length L - g' < List.length L - g ∧ (↑g : Int) + (1 : Int) = (↑g' : Int) ∧ q0 = q0 ∧ L = L ∧ List.take g L ++ [(q1.1, q1.2.1, q1.2.2.1, q1.2.2.2.1, q1.2.2.2.2)] = List.take g' L ∧ True) (List.take g L = L ∧ True)) := by
  kernel_rfl
theorem vc57 (L : List Ed) : exF (env false [] []) (hCopy 57 edT) 0 57 Proofs.Tryz.f57 [.one (.sl edT L)] (.val (.one (.frs edT L))) = (let q0 := (↑(List.length L) : Int); (∃ (g : Nat), Nat.le g (List.length L) ∧ (0 : Int) = (↑g : Int) ∧ q0 = q0 ∧ L = L ∧ List.take g L = [] ∧ True) ∧ ∀ (g : Nat), let q1 := (List.getD L g e0); Nat.le g (List.length L) → splitB (decide ((↑g : Int) < q0)) (((0 : Int) ≤ (↑g : Int) ∧ (↑g : Int) < q0) ∧ room (List.length (List.take g L) + (1 : Nat)) (48 : Nat) ∧ fits IntKind.i64 ((↑g : Int) + (1 : Int)) ∧ ∃ (g' : Nat), Nat.le g' (List.length L) ∧ List.length L - g' < List.length L - g ∧ (↑g : Int) + (1 : Int) = (↑g' : Int) ∧ q0 = q0 ∧ L = L ∧ List.take g L ++ [(q1.1, q1.2.1, q1.2.2.1, q1.2.2.2.1, q1.2.2.2.2)] = List.take g' L ∧ True) (List.take g L = L ∧ True)) := by
  kernel_rfl
theorem vc48 (L : List Tk) : exF (env false [] []) (hCopy 48 tkT) 0 48 Proofs.Tryz.f48 [.one (.sl tkT L)] (.val (.one (.frs tkT L))) = (let q0 := (↑(List.length L) : Int); (∃ (g : Nat), Nat.le g (List.length L) ∧ (0 : Int) = (↑g : Int) ∧ q0 = q0 ∧ L = L ∧ List.take g L = [] ∧ True) ∧ ∀ (g : Nat), let q1 := (List.getD L g tk0); Nat.le g (List.length L) → splitB (decide ((↑g : Int) < q0)) (((0 : Int) ≤ (↑g : Int) ∧ (↑g : Int) < q0) ∧ room (List.length (List.take g L) + (1 : Nat)) (40 : Nat) ∧ fits IntKind.i64 ((↑g : Int) + (1 : Int)) ∧ ∃ (g' : Nat), Nat.le g' (List.length L) ∧ List.length L - g' < List.length L - g ∧ (↑g : Int) + (1 : Int) = (↑g' : Int) ∧ q0 = q0 ∧ L = L ∧ List.take g L ++ [(q1.1, q1.2.1, q1.2.2.1, q1.2.2.2)] = List.take g' L ∧ True) (List.take g L = L ∧ True)) := by
  kernel_rfl
theorem vc74 (L : List Nd) : exF (env false [] []) (hCopy 74 ndT) 0 74 Proofs.Tryz.f74 [.one (.sl ndT L)] (.val (.one (.frs ndT L))) = (let q0 := (↑(List.length L) : Int); (∃ (g : Nat), Nat.le g (List.length L) ∧ (0 : Int) = (↑g : Int) ∧ q0 = q0 ∧ L = L ∧ List.take g L = [] ∧ True) ∧ ∀ (g : Nat), let q1 := (List.getD L g ([], (0 : Int), (0 : Int))); Nat.le g (List.length L) → splitB (decide ((↑g : Int) < q0)) (((0 : Int) ≤ (↑g : Int) ∧ (↑g : Int) < q0) ∧ room (List.length (List.take g L) + (1 : Nat)) (32 : Nat) ∧ fits IntKind.i64 ((↑g : Int) + (1 : Int)) ∧ ∃ (g' : Nat), Nat.le g' (List.length L) ∧ List.length L - g' < List.length L - g ∧ (↑g : Int) + (1 : Int) = (↑g' : Int) ∧ q0 = q0 ∧ L = L ∧ List.take g L ++ [(q1.1, q1.2.1, q1.2.2)] = List.take g' L ∧ True) (List.take g L = L ∧ True)) := by
  kernel_rfl
theorem vc56 (a b : List Ed) : exF (env false [] []) (hSame 56 edT e0) 0 56 Proofs.Tryz.f56 [.one (.sl edT a), .one (.sl edT b)] (.val (bV (decide (a = b)))) = (let q2 := (Ty.int IntKind.i64); splitB ((↑(List.length a) : Int) != (↑(List.length b) : Int)) (false = decide (a = b) ∧ True) ((∃ (g : Nat), (g ≤ List.length a ∧ ∀ (j : Nat), j < g → List.getD a j e0 = List.getD b j e0) ∧ (0 : Int) = (↑g : Int) ∧ a = a ∧ b = b ∧ True) ∧ ∀ (g : Nat), let q0 := (List.getD a g e0); let q1 := (List.getD b g e0); (g ≤ List.length a ∧ ∀ (j : Nat), j < g → List.getD a j e0 = List.getD b j e0) → splitB (decide ((↑g : Int) < (↑(List.length a) : Int))) (((0 : Int) ≤ (↑g : Int) ∧ (↑g : Int) < (↑(List.length a) : Int)) ∧ ((0 : Int) ≤ (↑g : Int) ∧ (↑g : Int) < (↑(List.length b) : Int)) ∧ splitB (!eqT (Ty.pair Ty.str (Ty.pair q2 (Ty.pair q2 (Ty.pair q2 q2)))) (q0.1, q0.2.1, q0.2.2.1, q0.2.2.2.1, q0.2.2.2.2) (q1.1, q1.2.1, q1.2.2.1, q1.2.2.2.1, q1.2.2.2.2)) (false = decide (a = b) ∧ True) (fits IntKind.i64 ((↑g : Int) + (1 : Int)) ∧ ∃ (g' : Nat), (g' ≤ List.length a ∧ ∀ (j : Nat), j < g' → List.getD a j e0 = List.getD b j e0) ∧ List.length a - g' < List.length a - g ∧ (↑g : Int) + (1 : Int) = (↑g' : Int) ∧ a = a ∧ b = b ∧ True)) (true = decide (a = b) ∧ True))) := by
  kernel_rfl
theorem vc47 (a b : List Tk) : exF (env false [] []) (hSame 47 tkT tk0) 0 47 Proofs.Tryz.f47 [.one (.sl tkT a), .one (.sl tkT b)] (.val (bV (decide (a = b)))) = (splitB ((↑(List.length a) : Int) != (↑(List.length b) : Int)) (false = decide (a = b) ∧ True) ((∃ (g : Nat), (g ≤ List.length a ∧ ∀ (j : Nat), j < g → List.getD a j tk0 = List.getD b j tk0) ∧ (0 : Int) = (↑g : Int) ∧ a = a ∧ b = b ∧ True) ∧ ∀ (g : Nat), let q0 := (List.getD a g tk0); let q1 := (List.getD b g tk0); (g ≤ List.length a ∧ ∀ (j : Nat), j < g → List.getD a j tk0 = List.getD b j tk0) → splitB (decide ((↑g : Int) < (↑(List.length a) : Int))) (((0 : Int) ≤ (↑g : Int) ∧ (↑g : Int) < (↑(List.length a) : Int)) ∧ ((0 : Int) ≤ (↑g : Int) ∧ (↑g : Int) < (↑(List.length b) : Int)) ∧ splitB (!eqT (Ty.pair Ty.str (Ty.pair (Ty.int IntKind.i64) (Ty.pair (Ty.int IntKind.i64) (Ty.int IntKind.i64)))) (q0.1, q0.2.1, q0.2.2.1, q0.2.2.2) (q1.1, q1.2.1, q1.2.2.1, q1.2.2.2)) (false = decide (a = b) ∧ True) (fits IntKind.i64 ((↑g : Int) + (1 : Int)) ∧ ∃ (g' : Nat), (g' ≤ List.length a ∧ ∀ (j : Nat), j < g' → List.getD a j tk0 = List.getD b j tk0) ∧ List.length a - g' < List.length a - g ∧ (↑g : Int) + (1 : Int) = (↑g' : Int) ∧ a = a ∧ b = b ∧ True)) (true = decide (a = b) ∧ True))) := by
  kernel_rfl
theorem vc73 (a b : List Nd) : exF (env false [] []) (hSame 73 ndT nd0) 0 73 Proofs.Tryz.f73 [.one (.sl ndT a), .one (.sl ndT b)] (.val (bV (decide (a = b)))) = (let q0 := ([], (0 : Int), (0 : Int)); splitB ((↑(List.length a) : Int) != (↑(List.length b) : Int)) (false = decide (a = b) ∧ True) ((∃ (g : Nat), (g ≤ List.length a ∧ ∀ (j : Nat), j < g → List.getD a j nd0 = List.getD b j nd0) ∧ (0 : Int) = (↑g : Int) ∧ a = a ∧ b = b ∧ True) ∧ ∀ (g : Nat), (g ≤ List.length a ∧ ∀ (j : Nat), j < g → List.getD a j nd0 = List.getD b j nd0) → splitB (decide ((↑g : Int) < (↑(List.length a) : Int))) (((0 : Int) ≤ (↑g : Int) ∧ (↑g : Int) < (↑(List.length a) : Int)) ∧ ((0 : Int) ≤ (↑g : Int) ∧ (↑g : Int) < (↑(List.length b) : Int)) ∧ splitB (!eqT (Ty.pair Ty.str (Ty.pair (Ty.int IntKind.i64) (Ty.int IntKind.i64))) ((List.getD a g q0).1, (List.getD a g q0).2.1, (List.getD a g q0).2.2) ((List.getD b g q0).1, (List.getD b g q0).2.1, (List.getD b g q0).2.2)) (false = decide (a = b) ∧ True) (fits IntKind.i64 ((↑g : Int) + (1 : Int)) ∧ ∃ (g' : Nat), (g' ≤ List.length a ∧ ∀ (j : Nat), j < g' → List.getD a j nd0 = List.getD b j nd0) ∧ List.length a - g' < List.length a - g ∧ (↑g : Int) + (1 : Int) = (↑g' : Int) ∧ a = a ∧ b = b ∧ True)) (true = decide (a = b) ∧ True))) := by
  kernel_rfl
theorem vc32 (n1 : List UInt8) (f1 : Int) (l1 : List Int) (n2 : List UInt8) (f2 : Int) (l2 : List Int) : exF (env false [(44, sp44)] []) h0 0 32 Proofs.Tryz.f32 [rV n1 f1 l1, rV n2 f2 l2] (.val (bV (decide ((n1, f1, l1) = (n2, f2, l2))))) = (((bif n1 == n2 then f1 == f2 else false) = true → List.length l1 ≤ (1000000000 : Nat)) ∧ (bif bif n1 == n2 then f1 == f2 else false then decide (l1 = l2) else false) = decide ((n1, f1, l1) = (n2, f2, l2)) ∧ True) := by
  kernel_rfl
end Go.Sx

/- Contracts. -/
namespace Go.Sx
open U
theorem copied {α : Type} {xs : List α} {g : Nat} {d : α} (h : g < xs.length) : xs.take g ++ [xs.getD g d] = xs.take (g + 1) := by
  rw [List.take_succ_eq_append_getElem h, getD_of h]
theorem same_len {α : Type} (a b : List α) : ((a.length : Int) != (b.length : Int)) = !decide (a.length = b.length) := by
  by_cases h : a.length = b.length
  · simp [h]
  · have : ¬ (a.length : Int) = (b.length : Int) := by omega
    simp [h]
    exact this
theorem same_all {α : Type} (d : α) {a b : List α} (h : a.length = b.length) (hj : ∀ j, j < a.length → a.getD j d = b.getD j d) : a = b :=
  List.ext_getElem h fun i h1 h2 => by
    have := hj i h1
    rwa [getD_of h1, getD_of h2] at this
theorem fn59 (l : List Int) (hl : l.length ≤ 1000000) : Fn P1 gl1 59 [.one (.sl (.int .i64) l)] (.val (.one (.frs (.int .i64) l))) true := by
  refine Fn.flat ?_ rfl
  refine fn_of false [] [] h0 0 Proofs.Tryz.f59 trivial trivial (by kernel_rfl) rfl (by kernel_rfl) rfl rfl rfl ?_
  rw [vc59]
  try simp only [splitB_iff, -eq_self]
  exact ⟨by simp only [room]; omega, by trivial, trivial⟩
theorem so59_ : SpecOk P1 gl1 59 sp59 := by
  intro vs ps r h hp
  simp only [sp59] at h
  split at h
  · cases h; exact fn59 _ (hp _ (.head _))
  · cases h
theorem so59 : Sp1 59 sp59 := ⟨so59_, Proofs.Tryz.f59, _, by kernel_rfl, rfl, by kernel_rfl⟩
theorem fn28 (l : List Int) (hl : l.length ≤ 1000000) : Fn P1 gl1 28 [.one (.sl (.int .u8) l)] (.val (.one (.frs (.int .u8) l))) true := by
  refine Fn.flat ?_ rfl
  refine fn_of false [] [] h0 0 Proofs.Tryz.f28 trivial trivial (by kernel_rfl) rfl (by kernel_rfl) rfl rfl rfl ?_
  rw [vc28]
  try simp only [splitB_iff, -eq_self]
  exact ⟨by simp only [room]; omega, by trivial, trivial⟩
theorem so28_ : SpecOk P1 gl1 28 sp28 := by
  intro vs ps r h hp
  simp only [sp28] at h
  split at h
  · cases h; exact fn28 _ (hp _ (.head _))
  · cases h
theorem so28 : Sp1 28 sp28 := ⟨so28_, Proofs.Tryz.f28, _, by kernel_rfl, rfl, by kernel_rfl⟩
theorem fn20 (nm : List UInt8) (f : Int) (l : List Int) (hl : l.length ≤ 1000000) : Fn P1 gl1 20 [rV nm f l] (.val (rV nm f l)) true := by
  refine fn_ofr false [(59, sp59)] [] h0 0 Proofs.Tryz.f20 ⟨so59, trivial⟩ trivial (by kernel_rfl) rfl (by kernel_rfl) rfl rfl rfl ?_
  rw [vc20]
  try simp only [splitB_iff, -eq_self]
  exact ⟨hl, by trivial, by trivial, by trivial, trivial⟩
theorem so20_ : SpecOk P1 gl1 20 sp20 := by
  intro vs ps r h hp
  simp only [sp20] at h
  split at h
  · cases h; exact fn20 _ _ _ (hp _ (.head _))
  · cases h
theorem so20 : Sp1 20 sp20 := ⟨so20_, Proofs.Tryz.f20, _, by kernel_rfl, rfl, by kernel_rfl⟩
theorem fn25 (R : List Rl) (hl : R.length ≤ 1000000) (hR : ∀ r ∈ R, r.2.2.length ≤ 1000000) : Fn P1 gl1 25 [.one (.sl rlT R)] (.val (.one (.sl rlT R))) false := by
  refine fn_of false [(20, sp20)] [] (hCopy 25 rlT) 0 Proofs.Tryz.f25 ⟨so20, trivial⟩ trivial (by kernel_rfl) rfl (by kernel_rfl) rfl rfl rfl ?_
  rw [vc25]
  try simp only [splitB_iff, -eq_self]
  refine ⟨⟨0, Nat.zero_le _, rfl, by trivial, by trivial, by simp⟩, fun g hg => ⟨fun hlt => ?_, fun hge => ?_⟩⟩
  · have hlt' : g < R.length := by simpa using hlt
    exact ⟨by omega, hR _ (getD_mem (d := r0) hlt'), by simp only [room, List.length_take]; omega, by simp only [fits]; omega, g + 1, hlt', by omega, by simp, by trivial, by trivial, copied hlt', trivial⟩
  · have hge' : ¬ g < R.length := by simpa using hge
    exact ⟨List.take_of_length_le (by omega), trivial⟩
theorem so25_ : SpecOk P1 gl1 25 sp25 := by
  intro vs ps r h hp
  simp only [sp25] at h
  split at h
  · cases h; exact fn25 _ (hp _ (.head _)) (hp _ (.tail _ (.head _)))
  · cases h
theorem so25 : Sp1 25 sp25 := ⟨so25_, Proofs.Tryz.f25, _, by kernel_rfl, rfl, by kernel_rfl⟩
theorem fn34 (L : List Ed) (hl : L.length ≤ 1000000) : Fn P1 gl1 34 [.one (.sl edT L)] (.val (.one (.frs edT L))) true := by
  refine Fn.flat ?_ rfl
  refine fn_of false [] [] (hCopy 34 edT) 0 Proofs.Tryz.f34 trivial trivial (by kernel_rfl) rfl (by kernel_rfl) rfl rfl rfl ?_
  rw [vc34]
  try simp only [splitB_iff, -eq_self]
  refine ⟨⟨0, Nat.zero_le _, rfl, by trivial, by trivial, by simp⟩, fun g hg => ⟨fun hlt => ?_, fun hge => ?_⟩⟩
  · have hlt' : g < L.length := by simpa using hlt
    exact ⟨by omega, by simp only [room, List.length_take]; omega, by simp only [fits]; omega, g + 1, hlt', by omega, by simp, by trivial, by trivial, copied hlt', trivial⟩
  · have hge' : ¬ g < L.length := by simpa using hge
    exact ⟨List.take_of_length_le (by omega), trivial⟩
theorem so34_ : SpecOk P1 gl1 34 sp34 := by
  intro vs ps r h hp
  simp only [sp34] at h
  split at h
  · cases h; exact fn34 _ (hp _ (.head _))
  · cases h
theorem so34 : Sp1 34 sp34 := ⟨so34_, Proofs.Tryz.f34, _, by kernel_rfl, rfl, by kernel_rfl⟩
theorem fn57 (L : List Ed) (hl : L.length ≤ 1000000) : Fn P1 gl1 57 [.one (.sl edT L)] (.val (.one (.frs edT L))) true := by
  refine Fn.flat ?_ rfl
  refine fn_of false [] [] (hCopy 57 edT) 0 Proofs.Tryz.f57 trivial trivial (by kernel_rfl) rfl (by kernel_rfl) rfl rfl rfl ?_
  rw [vc57]
  try simp only [splitB_iff, -eq_self]
  refine ⟨⟨0, Nat.zero_le _, rfl, by trivial, by trivial, by simp⟩, fun g hg => ⟨fun hlt => ?_, fun hge => ?_⟩⟩
  · have hlt' : g < L.length := by simpa using hlt
    exact ⟨by omega, by simp only [room, List.length_take]; omega, by simp only [fits]; omega, g + 1, hlt', by omega, by simp, by trivial, by trivial, copied hlt', trivial⟩
  · have hge' : ¬ g < L.length := by simpa using hge
    exact ⟨List.take_of_length_le (by omega), trivial⟩
theorem so57_ : SpecOk P1 gl1 57 sp57 := by
  intro vs ps r h hp
  simp only [sp57] at h
  split at h
  · cases h; exact fn57 _ (hp _ (.head _))
  · cases h
theorem so57 : Sp1 57 sp57 := ⟨so57_, Proofs.Tryz.f57, _, by kernel_rfl, rfl, by kernel_rfl⟩
theorem fn48 (L : List Tk) (hl : L.length ≤ 1000000) : Fn P1 gl1 48 [.one (.sl tkT L)] (.val (.one (.frs tkT L))) true := by
  refine Fn.flat ?_ rfl
  refine fn_of false [] [] (hCopy 48 tkT) 0 Proofs.Tryz.f48 trivial trivial (by kernel_rfl) rfl (by kernel_rfl) rfl rfl rfl ?_
  rw [vc48]
  try simp only [splitB_iff, -eq_self]
  refine ⟨⟨0, Nat.zero_le _, rfl, by trivial, by trivial, by simp⟩, fun g hg => ⟨fun hlt => ?_, fun hge => ?_⟩⟩
  · have hlt' : g < L.length := by simpa using hlt
    exact ⟨by omega, by simp only [room, List.length_take]; omega, by simp only [fits]; omega, g + 1, hlt', by omega, by simp, by trivial, by trivial, copied hlt', trivial⟩
  · have hge' : ¬ g < L.length := by simpa using hge
    exact ⟨List.take_of_length_le (by omega), trivial⟩
theorem so48_ : SpecOk P1 gl1 48 sp48 := by
  intro vs ps r h hp
  simp only [sp48] at h
  split at h
  · cases h; exact fn48 _ (hp _ (.head _))
  · cases h
theorem so48 : Sp1 48 sp48 := ⟨so48_, Proofs.Tryz.f48, _, by kernel_rfl, rfl, by kernel_rfl⟩
theorem fn74 (L : List Nd) (hl : L.length ≤ 1000000) : Fn P1 gl1 74 [.one (.sl ndT L)] (.val (.one (.frs ndT L))) true := by
  refine Fn.flat ?_ rfl
  refine fn_of false [] [] (hCopy 74 ndT) 0 Proofs.Tryz.f74 trivial trivial (by kernel_rfl) rfl (by kernel_rfl) rfl rfl rfl ?_
  rw [vc74]
  try simp only [splitB_iff, -eq_self]
  refine ⟨⟨0, Nat.zero_le _, rfl, by trivial, by trivial, by simp⟩, fun g hg => ⟨fun hlt => ?_, fun hge => ?_⟩⟩
  · have hlt' : g < L.length := by simpa using hlt
    exact ⟨by omega, by simp only [room, List.length_take]; omega, by simp only [fits]; omega, g + 1, hlt', by omega, by simp, by trivial, by trivial, copied hlt', trivial⟩
  · have hge' : ¬ g < L.length := by simpa using hge
    exact ⟨List.take_of_length_le (by omega), trivial⟩
theorem so74_ : SpecOk P1 gl1 74 sp74 := by
  intro vs ps r h hp
  simp only [sp74] at h
  split at h
  · cases h; exact fn74 _ (hp _ (.head _))
  · cases h
theorem so74 : Sp1 74 sp74 := ⟨so74_, Proofs.Tryz.f74, _, by kernel_rfl, rfl, by kernel_rfl⟩
theorem fn56 (a b : List Ed) (hl : a.length ≤ 1000000) : Fn P1 gl1 56 [.one (.sl edT a), .one (.sl edT b)] (.val (bV (decide (a = b)))) true := by
  refine Fn.flat ?_ rfl
  refine fn_of false [] [] (hSame 56 edT e0) 0 Proofs.Tryz.f56 trivial trivial (by kernel_rfl) rfl (by kernel_rfl) rfl rfl rfl ?_
  rw [vc56]
  try simp only [splitB_iff, -eq_self]
  have heq : ∀ x y : Ed, eqT edT x y = true ↔ x = y := fun x y => by simp [eqT, Prod.ext_iff]
  simp only [same_len]
  refine ⟨fun h => ⟨(decide_eq_false fun e => ?_).symm, trivial⟩, fun h => ?_⟩
  · rw [e] at h; simp at h
  · have h' : a.length = b.length := by simpa using h
    refine ⟨⟨0, ⟨Nat.zero_le _, fun j hj => absurd hj (Nat.not_lt_zero _)⟩, rfl, by trivial, by trivial, trivial⟩, fun g hg => ⟨fun hlt => ?_, fun hge => ?_⟩⟩
    · have hlt' : g < a.length := by have := of_decide_eq_true hlt; omega
      refine ⟨by omega, by omega, fun hne => ⟨(decide_eq_false fun e => ?_).symm, trivial⟩, fun hq => ⟨by simp only [fits]; omega, g + 1, ⟨hlt', fun j hj => ?_⟩, by omega, by omega, by trivial, by trivial, trivial⟩⟩
      · subst e
        have hne' : (!eqT edT (a.getD g e0) (a.getD g e0)) = true := hne
        rw [(heq _ _).2 rfl] at hne'
        cases hne'
      · by_cases ej : j = g
        · subst ej
          have hq' : (!eqT edT (a.getD j e0) (b.getD j e0)) = false := hq
          exact (heq _ _).1 (by simpa using hq')
        · exact hg.2 j (by omega)
    · exact ⟨(decide_eq_true (same_all e0 h' fun j hj => hg.2 j (by have := of_decide_eq_false hge; omega))).symm, trivial⟩
theorem so56_ : SpecOk P1 gl1 56 sp56 := by
  intro vs ps r h hp
  simp only [sp56] at h
  split at h
  · cases h; exact fn56 _ _ (hp _ (.head _))
  · cases h; exact Fn.args (fn56 _ [] (hp _ (.head _))) fun H vs d => by
      obtain ⟨v0, r0, rfl, h0, v1, r1, rfl, h1, hz⟩ := d
      exact ⟨_, _, rfl, h0, _, _, rfl, nil_sl h1, hz⟩
  · cases h
theorem so56 : Sp1 56 sp56 := ⟨so56_, Proofs.Tryz.f56, _, by kernel_rfl, rfl, by kernel_rfl⟩
theorem fn47 (a b : List Tk) (hl : a.length ≤ 1000000) : Fn P1 gl1 47 [.one (.sl tkT a), .one (.sl tkT b)] (.val (bV (decide (a = b)))) true := by
  refine Fn.flat ?_ rfl
  refine fn_of false [] [] (hSame 47 tkT tk0) 0 Proofs.Tryz.f47 trivial trivial (by kernel_rfl) rfl (by kernel_rfl) rfl rfl rfl ?_
  rw [vc47]
  try simp only [splitB_iff, -eq_self]
  have heq : ∀ x y : Tk, eqT tkT x y = true ↔ x = y := fun x y => by simp [eqT, Prod.ext_iff]
  simp only [same_len]
  refine ⟨fun h => ⟨(decide_eq_false fun e => ?_).symm, trivial⟩, fun h => ?_⟩
  · rw [e] at h; simp at h
  · have h' : a.length = b.length := by simpa using h
    refine ⟨⟨0, ⟨Nat.zero_le _, fun j hj => absurd hj (Nat.not_lt_zero _)⟩, rfl, by trivial, by trivial, trivial⟩, fun g hg => ⟨fun hlt => ?_, fun hge => ?_⟩⟩
    · have hlt' : g < a.length := by have := of_decide_eq_true hlt; omega
      refine ⟨by omega, by omega, fun hne => ⟨(decide_eq_false fun e => ?_).symm, trivial⟩, fun hq => ⟨by simp only [fits]; omega, g + 1, ⟨hlt', fun j hj => ?_⟩, by omega, by omega, by trivial, by trivial, trivial⟩⟩
      · subst e
        have hne' : (!eqT tkT (a.getD g tk0) (a.getD g tk0)) = true := hne
        rw [(heq _ _).2 rfl] at hne'
        cases hne'
      · by_cases ej : j = g
        · subst ej
          have hq' : (!eqT tkT (a.getD j tk0) (b.getD j tk0)) = false := hq
          exact (heq _ _).1 (by simpa using hq')
        · exact hg.2 j (by omega)
    · exact ⟨(decide_eq_true (same_all tk0 h' fun j hj => hg.2 j (by have := of_decide_eq_false hge; omega))).symm, trivial⟩
theorem so47_ : SpecOk P1 gl1 47 sp47 := by
  intro vs ps r h hp
  simp only [sp47] at h
  split at h
  · cases h; exact fn47 _ _ (hp _ (.head _))
  · cases h; exact Fn.args (fn47 _ [] (hp _ (.head _))) fun H vs d => by
      obtain ⟨v0, r0, rfl, h0, v1, r1, rfl, h1, hz⟩ := d
      exact ⟨_, _, rfl, h0, _, _, rfl, nil_sl h1, hz⟩
  · cases h
theorem so47 : Sp1 47 sp47 := ⟨so47_, Proofs.Tryz.f47, _, by kernel_rfl, rfl, by kernel_rfl⟩
theorem fn73 (a b : List Nd) (hl : a.length ≤ 1000000) : Fn P1 gl1 73 [.one (.sl ndT a), .one (.sl ndT b)] (.val (bV (decide (a = b)))) true := by
  refine Fn.flat ?_ rfl
  refine fn_of false [] [] (hSame 73 ndT nd0) 0 Proofs.Tryz.f73 trivial trivial (by kernel_rfl) rfl (by kernel_rfl) rfl rfl rfl ?_
  rw [vc73]
  try simp only [splitB_iff, -eq_self]
  have heq : ∀ x y : Nd, eqT ndT x y = true ↔ x = y := fun x y => by simp [eqT, Prod.ext_iff]
  simp only [same_len]
  refine ⟨fun h => ⟨(decide_eq_false fun e => ?_).symm, trivial⟩, fun h => ?_⟩
  · rw [e] at h; simp at h
  · have h' : a.length = b.length := by simpa using h
    refine ⟨⟨0, ⟨Nat.zero_le _, fun j hj => absurd hj (Nat.not_lt_zero _)⟩, rfl, by trivial, by trivial, trivial⟩, fun g hg => ⟨fun hlt => ?_, fun hge => ?_⟩⟩
    · have hlt' : g < a.length := by have := of_decide_eq_true hlt; omega
      refine ⟨by omega, by omega, fun hne => ⟨(decide_eq_false fun e => ?_).symm, trivial⟩, fun hq => ⟨by simp only [fits]; omega, g + 1, ⟨hlt', fun j hj => ?_⟩, by omega, by omega, by trivial, by trivial, trivial⟩⟩
      · subst e
        have hne' : (!eqT ndT (a.getD g nd0) (a.getD g nd0)) = true := hne
        rw [(heq _ _).2 rfl] at hne'
        cases hne'
      · by_cases ej : j = g
        · subst ej
          have hq' : (!eqT ndT (a.getD j nd0) (b.getD j nd0)) = false := hq
          exact (heq _ _).1 (by simpa using hq')
        · exact hg.2 j (by omega)
    · exact ⟨(decide_eq_true (same_all nd0 h' fun j hj => hg.2 j (by have := of_decide_eq_false hge; omega))).symm, trivial⟩
theorem so73_ : SpecOk P1 gl1 73 sp73 := by
  intro vs ps r h hp
  simp only [sp73] at h
  split at h
  · cases h; exact fn73 _ _ (hp _ (.head _))
  · cases h; exact Fn.args (fn73 _ [] (hp _ (.head _))) fun H vs d => by
      obtain ⟨v0, r0, rfl, h0, v1, r1, rfl, h1, hz⟩ := d
      exact ⟨_, _, rfl, h0, _, _, rfl, nil_sl h1, hz⟩
  · cases h
theorem so73 : Sp1 73 sp73 := ⟨so73_, Proofs.Tryz.f73, _, by kernel_rfl, rfl, by kernel_rfl⟩
theorem fn32 (n1 : List UInt8) (f1 : Int) (l1 : List Int) (n2 : List UInt8) (f2 : Int) (l2 : List Int) (hl : l1.length ≤ 1000000) : Fn P1 gl1 32 [rV n1 f1 l1, rV n2 f2 l2] (.val (bV (decide ((n1, f1, l1) = (n2, f2, l2))))) true := by
  refine Fn.flat ?_ rfl
  refine fn_of false [(44, sp44)] [] h0 0 Proofs.Tryz.f32 ⟨so44, trivial⟩ trivial (by kernel_rfl) rfl (by kernel_rfl) rfl rfl rfl ?_
  rw [vc32]
  try simp only [splitB_iff, -eq_self]
  refine ⟨fun _ => by omega, ?_, trivial⟩
  rw [Bool.eq_iff_iff]
  simp only [bcond_r, Bool.and_eq_true, decide_eq_true_eq, beq_iff_eq, Prod.mk.injEq]
  exact and_assoc
theorem so32_ : SpecOk P1 gl1 32 sp32 := by
  intro vs ps r h hp
  simp only [sp32] at h
  split at h
  · cases h; exact fn32 _ _ _ _ _ _ (hp _ (.head _))
  · cases h
theorem so32 : Sp1 32 sp32 := ⟨so32_, Proofs.Tryz.f32, _, by kernel_rfl, rfl, by kernel_rfl⟩

end Go.Sx

/- Plain functions and hints. -/
namespace Go.Sx.U
def RateOk (F : Int) (D : Bool) : Prop := (F = 24 ∨ F = 25 ∨ F = 30) ∧ (D = true → F = 30)
def dayN (F : Int) (D : Bool) : Int := if D then 86400 * F - 2592 else 86400 * F
def frameN (F : Int) (D : Bool) (h m s f : Int) : Int := if D then (60 * (60 * h + m) + s) * F + f - 2 * ((60 * h + m) - (60 * h + m) / 10) else (60 * (60 * h + m) + s) * F + f
def skipN (D : Bool) (n : Int) : Int := if D then (if 1800 ≤ n % 17982 then n + 18 * (n / 17982) + 2 * (1 + (n % 17982 - 1800) / 1798) else n + 18 * (n / 17982)) else n
def LabOk (F : Int) (D : Bool) (h m s f : Int) : Prop := (0 ≤ h ∧ h ≤ 23) ∧ (0 ≤ m ∧ m ≤ 59) ∧ (0 ≤ s ∧ s ≤ 59) ∧ (0 ≤ f ∧ f ≤ F - 1) ∧ ¬ (D = true ∧ m % 10 ≠ 0 ∧ s = 0 ∧ f < 2)
def labH (F : Int) (D : Bool) (n : Int) : Int := skipN D n / F / 3600
def labM (F : Int) (D : Bool) (n : Int) : Int := skipN D n / F / 60 % 60
def labS (F : Int) (D : Bool) (n : Int) : Int := skipN D n / F % 60
def labF (F : Int) (D : Bool) (n : Int) : Int := skipN D n % F
def chkRate (F : Int) (D : Bool) : Int := if F = 24 ∨ F = 25 ∨ F = 30 then (if D = true ∧ F ≠ 30 then 24 else 0) else 13
def dropB (D : Bool) (m s f : Int) : Bool := D && (m % 10 != 0) && (s == 0) && decide (f < 2)
def chkLab (F : Int) (D : Bool) (h m s f : Int) : Int := first [chkRate F D, within h 0 23, within m 0 59, within s 0 59, within f 0 (F - 1), whenE (dropB D m s f) 7]
def chkStamp (F : Int) (D : Bool) (h m s f u : Int) : Int := first [chkLab F D h m s f, within u 0 65535]
abbrev Lb := Int × Int × Int × Int
abbrev St7 := (Int × Bool) × Lb × Int
def chkSt (x : St7) : Int := chkStamp x.1.1 x.1.2 x.2.1.1 x.2.1.2.1 x.2.1.2.2.1 x.2.1.2.2.2 x.2.2
def addN (F : Int) (D : Bool) (h m s f n : Int) : Int := (frameN F D h m s f + n) % dayN F D
def lab (F : Int) (D : Bool) (n : Int) : Lb := (labH F D n, labM F D n, labS F D n, labF F D n)
def StOk (x : St7) : Prop := RateOk x.1.1 x.1.2 ∧ LabOk x.1.1 x.1.2 x.2.1.1 x.2.1.2.1 x.2.1.2.2.1 x.2.1.2.2.2 ∧ 0 ≤ x.2.2 ∧ x.2.2 ≤ 65535
def st0 : St7 := ((0, false), (0, 0, 0, 0), 0)
end Go.Sx.U
namespace Go.Sx
open U
abbrev rtT : Ty := .pair (.int .i64) .bool
abbrev lbT : Ty := .pair (.int .i64) (.pair (.int .i64) (.pair (.int .i64) (.int .i64)))
abbrev stT : Ty := .pair (.pair (.int .i64) .bool) (.pair (.pair (.int .i64) (.pair (.int .i64) (.pair (.int .i64) (.int .i64)))) (.int .i64))
@[reducible] def rtV (F : Int) (D : Bool) : V := .agg [.one (.int .i64 F), .one (.bool D)]
@[reducible] def lbV (h m s f : Int) : V := .agg [.one (.int .i64 h), .one (.int .i64 m), .one (.int .i64 s), .one (.int .i64 f)]
@[reducible] def lbW (l : Lb) : V := lbV l.1 l.2.1 l.2.2.1 l.2.2.2
@[reducible] def stV (F : Int) (D : Bool) (h m s f u : Int) : V := .agg [.one (.int .i64 F), .one (.bool D), .one (.int .i64 h), .one (.int .i64 m), .one (.int .i64 s), .one (.int .i64 f), .one (.int .i64 u)]
@[reducible] def stW (x : St7) : V := stV x.1.1 x.1.2 x.2.1.1 x.2.1.2.1 x.2.1.2.2.1 x.2.1.2.2.2 x.2.2
def h182 : Hints := ⟨fun f k s => match f, k with
  | 182, 2 => hFirst 5 6 7 s
  | _, _ => none, 0⟩
@[reducible] noncomputable def fb234 : Nat × Func := (234, Proofs.Tryz.f234)
def sp224 : FSpec := ⟨fun vs => match vs with
  | [.one (.sl (.int .i64) xs), .one (.int .i64 n)] => some ([xs = [24, 25, 30]], .val (bV (decide (n = 24 ∨ n = 25 ∨ n = 30))))
  | _ => none, true⟩
end Go.Sx
namespace Go.Sx
open U
def sp183 : FSpec := ⟨fun vs => match vs with
  | [.one (.bool b), .one (.int .i64 e)] => some ([], .val (iV (whenE b e)))
  | _ => none, true⟩
def sp186 : FSpec := ⟨fun vs => match vs with
  | [.one (.int .i64 n), .one (.int .i64 lo), .one (.int .i64 hi)] => some ([], .val (iV (within n lo hi)))
  | _ => none, true⟩
def sp182 : FSpec := ⟨fun vs => match vs with
  | [.one (.sl (.int .i64) xs)] => some ([List.length xs ≤ 1000000000], .val (iV (first xs)))
  | _ => none, true⟩
def sp190 : FSpec := ⟨fun vs => match vs with
  | [.agg [.one (.int .i64 F), .one (.bool D)]] => some ([], .val (iV (chkRate F D)))
  | _ => none, true⟩
def sp191 : FSpec := ⟨fun vs => match vs with
  | [.agg [.one (.int .i64 F), .one (.bool D)], .agg [.one (.int .i64 h), .one (.int .i64 m), .one (.int .i64 s), .one (.int .i64 f)]] => some ([0 ≤ m], .val (bV (dropB D m s f)))
  | _ => none, true⟩
def sp142 : FSpec := ⟨fun vs => match vs with
  | [.agg [.one (.int .i64 F), .one (.bool D)], .agg [.one (.int .i64 h), .one (.int .i64 m), .one (.int .i64 s), .one (.int .i64 f)]] => some ([], .val (iV (chkLab F D h m s f)))
  | _ => none, true⟩
def sp63 : FSpec := ⟨fun vs => match vs with
  | [.agg [.one (.int .i64 F), .one (.bool D), .one (.int .i64 h), .one (.int .i64 m), .one (.int .i64 s), .one (.int .i64 f), .one (.int .i64 u)]] => some ([], .val (iV (chkStamp F D h m s f u)))
  | _ => none, true⟩
def sp212 : FSpec := ⟨fun vs => match vs with
  | [.agg [.one (.int .i64 F), .one (.bool D)]] => some ([], .val (iV (chkRate F D)))
  | _ => none, true⟩
def sp215 : FSpec := ⟨fun vs => match vs with
  | [.agg [.one (.int .i64 F), .one (.bool D)]] => some ([0 ≤ F ∧ F ≤ 1000], .val (iV (dayN F D)))
  | _ => none, true⟩
def sp213 : FSpec := ⟨fun vs => match vs with
  | [.agg [.one (.int .i64 h), .one (.int .i64 m), .one (.int .i64 s), .one (.int .i64 f)], .agg [.one (.int .i64 F), .one (.bool D)]] => some ([0 ≤ m], .val (bV (dropB D m s f)))
  | _ => none, true⟩
def sp188 : FSpec := ⟨fun vs => match vs with
  | [.agg [.one (.int .i64 F), .one (.bool D)], .agg [.one (.int .i64 h), .one (.int .i64 m), .one (.int .i64 s), .one (.int .i64 f)]] => some ([0 ≤ m, 0 ≤ F ∧ F ≤ 1000], .val (iV (chkLab F D h m s f)))
  | _ => none, true⟩
def sp140 : FSpec := ⟨fun vs => match vs with
  | [.agg [.one (.int .i64 F), .one (.bool D), .one (.int .i64 h), .one (.int .i64 m), .one (.int .i64 s), .one (.int .i64 f), .one (.int .i64 u)]] => some ([0 ≤ m, 0 ≤ F ∧ F ≤ 1000], .val (iV (chkStamp F D h m s f u)))
  | _ => none, true⟩
def sp214 : FSpec := ⟨fun vs => match vs with
  | [.agg [.one (.int .i64 h), .one (.int .i64 m), .one (.int .i64 s), .one (.int .i64 f)], .agg [.one (.int .i64 F), .one (.bool D)]] => some ([RateOk F D, LabOk F D h m s f], .val (iV (frameN F D h m s f)))
  | _ => none, true⟩
def sp216 : FSpec := ⟨fun vs => match vs with
  | [.agg [.one (.int .i64 F), .one (.bool D)], .one (.int .i64 n)] => some ([RateOk F D, 0 ≤ n ∧ n < dayN F D], .val (lbW (lab F D n)))
  | _ => none, true⟩
def sp189 : FSpec := ⟨fun vs => match vs with
  | [.agg [.one (.int .i64 h), .one (.int .i64 m), .one (.int .i64 s), .one (.int .i64 f)], .agg [.one (.int .i64 F), .one (.bool D)], .one (.int .i64 n)] => some ([RateOk F D, LabOk F D h m s f, 0 ≤ n ∧ n ≤ 10000000], .val (lbW (lab F D (addN F D h m s f n))))
  | _ => none, true⟩
def sp141 : FSpec := ⟨fun vs => match vs with
  | [.agg [.one (.int .i64 F), .one (.bool D)], .agg [.one (.int .i64 h), .one (.int .i64 m), .one (.int .i64 s), .one (.int .i64 f)], .one (.int .i64 n)] => some ([RateOk F D, LabOk F D h m s f, 0 ≤ n ∧ n ≤ 10000000], .tup [lbW (lab F D (addN F D h m s f n)), iV 0])
  | _ => none, true⟩
end Go.Sx

/- What the engine asks, written out (printed by a program). -/
namespace Go.Sx
open U
theorem vc224 (n : Int) : exF (env false [] [fb234]) (hu 4) 3 224 Proofs.Tryz.f224 [.one (.sl (.int .i64) [24, 25, 30]), iV n] (.val (bV (decide (n = 24 ∨ n = 25 ∨ n = 30)))) = (let q0 := (n = (24 : Int) ∨ n = (25 : Int) ∨ n = (30 : Int)); ((0 : Int) ≤ (0 : Int) ∧ (0 : Int) < (3 : Int)) ∧ splitB (n == (24 : Int)) (decide ((0 : Int) ≤ (0 : Int)) = decide q0 ∧ True) (fits IntKind.i64 (1 : Int) ∧ ((0 : Int) ≤ (1 : Int) ∧ (1 : Int) < (3 : Int)) ∧ splitB (n == (25 : Int)) (decide ((0 : Int) ≤ (1 : Int)) = decide q0 ∧ True) (fits IntKind.i64 (2 : Int) ∧ ((0 : Int) ≤ (2 : Int) ∧ (2 : Int) < (3 : Int)) ∧ splitB (n == (30 : Int)) (decide ((0 : Int) ≤ (2 : Int)) = decide q0 ∧ True) (fits IntKind.i64 (3 : Int) ∧ decide ((0 : Int) ≤ (-1 : Int)) = decide q0 ∧ True)))) := by
  kernel_rfl
theorem vc183 (b : Bool) (e : Int) : exF (env false [] []) h0 0 183 Proofs.Tryz.f183 [bV b, iV e] (.val (iV (whenE b e))) = (splitB b (e = whenE b e ∧ True) ((0 : Int) = whenE b e ∧ True)) := by
  kernel_rfl
theorem vc186 (n lo hi : Int) : exF (env false [(183, sp183)] []) h0 0 186 Proofs.Tryz.f186 [iV n, iV lo, iV hi] (.val (iV (within n lo hi))) = (whenE (bif decide (n < lo) then true else decide (hi < n)) (3 : Int) = within n lo hi ∧ True) := by
  kernel_rfl
theorem vc182 (xs : List Int) : exF (env false [] []) h182 0 182 Proofs.Tryz.f182 [.one (.sl (.int .i64) xs)] (.val (iV (first xs))) = (let q0 := (↑(List.length xs) : Int); (∃ (g : Nat), (g ≤ List.length xs ∧ first xs = first (List.drop g xs)) ∧ (0 : Int) = (↑g : Int) ∧ q0 = q0 ∧ xs = xs ∧ True) ∧ ∀ (g : Nat), g ≤ List.length xs ∧ first xs = first (List.drop g xs) → splitB (decide ((↑g : Int) < q0)) (((0 : Int) ≤ (↑g : Int) ∧ (↑g : Int) < q0) ∧ splitB (List.getD xs g (0 : Int) != (0 : Int)) (List.getD xs g (0 : Int) = first xs ∧ True) (fits IntKind.i64 ((↑g : Int) + (1 : Int)) ∧ ∃ (g' : Nat), (g' ≤ List.length xs ∧ first xs = first (List.drop g' xs)) ∧ List.length xs - g' < List.length xs - g ∧ (↑g : Int) + (1 : Int) = (↑g' : Int) ∧ q0 = q0 ∧ xs = xs ∧ True)) ((0 : Int) = first xs ∧ True)) := by
  kernel_rfl
theorem vc190 (F : Int) (D : Bool) : exF (env false [] []) h0 0 190 Proofs.Tryz.f190 [rtV F D] (.val (iV (chkRate F D))) = (splitB (bif bif F != (24 : Int) then F != (25 : Int) else false then F != (30 : Int) else false) ((13 : Int) = chkRate F D ∧ True) (splitB (bif D then F != (30 : Int) else false) ((24 : Int) = chkRate F D ∧ True) ((0 : Int) = chkRate F D ∧ True))) := by
  kernel_rfl
theorem vc191 (F : Int) (D : Bool) (h m s f : Int) : exF (env false [] []) h0 0 191 Proofs.Tryz.f191 [rtV F D, lbV h m s f] (.val (bV (dropB D m s f))) = ((D = true → (0 : Int) ≤ m ∧ (0 : Int) < (10 : Int)) ∧ (bif bif bif D then m % (10 : Int) != (0 : Int) else false then s == (0 : Int) else false then decide (f < (2 : Int)) else false) = dropB D m s f ∧ True) := by
  kernel_rfl
theorem vc142 (F : Int) (D : Bool) (h m s f : Int) : exF (env false [(190, sp190), (87, sp87), (61, sp61), (191, sp191)] []) h0 0 142 Proofs.Tryz.f142 [rtV F D, lbV h m s f] (.val (iV (chkLab F D h m s f))) = (splitB (chkRate F D != (0 : Int)) (chkRate F D = chkLab F D h m s f ∧ True) (fits IntKind.i64 (F - (1 : Int)) ∧ (4 : Nat) ≤ (1000000000 : Nat) ∧ splitB (first [within h (0 : Int) (23 : Int), within m (0 : Int) (59 : Int), within s (0 : Int) (59 : Int), within f (0 : Int) (F - (1 : Int))] != (0 : Int)) (first [within h (0 : Int) (23 : Int), within m (0 : Int) (59 : Int), within s (0 : Int) (59 : Int), within f (0 : Int) (F - (1 : Int))] = chkLab F D h m s f ∧ True) ((0 : Int) ≤ m ∧ splitB (dropB D m s f) ((7 : Int) = chkLab F D h m s f ∧ True) ((0 : Int) = chkLab F D h m s f ∧ True)))) := by
  kernel_rfl
theorem vc63 (F : Int) (D : Bool) (h m s f u : Int) : exF (env false [(142, sp142), (87, sp87), (61, sp61)] []) h0 0 63 Proofs.Tryz.f63 [stV F D h m s f u] (.val (iV (chkStamp F D h m s f u))) = ((2 : Nat) ≤ (1000000000 : Nat) ∧ first [chkLab F D h m s f, within u (0 : Int) (65535 : Int)] = chkStamp F D h m s f u ∧ True) := by
  kernel_rfl
theorem vc212 (F : Int) (D : Bool) : exF (env false [(183, sp183), (182, sp182), (224, sp224)] []) h0 0 212 Proofs.Tryz.f212 [rtV F D] (.val (iV (chkRate F D))) = (((0 : Int) ≤ (0 : Int) ∧ (0 : Int) ≤ (3 : Int) ∧ (3 : Int) ≤ (3 : Int)) ∧ [(24 : Int), (25 : Int), (30 : Int)] = [(24 : Int), (25 : Int), (30 : Int)] ∧ (2 : Nat) ≤ (1000000000 : Nat) ∧ first [whenE (!decide (F = (24 : Int) ∨ F = (25 : Int) ∨ F = (30 : Int))) (13 : Int), whenE (bif D then F != (30 : Int) else false) (24 : Int)] = chkRate F D ∧ True) := by
  kernel_rfl
theorem vc215 (F : Int) (D : Bool) : exF (env false [] []) h0 0 215 Proofs.Tryz.f215 [rtV F D] (.val (iV (dayN F D))) = (fits IntKind.i64 ((86400 : Int) * F) ∧ splitB D (fits IntKind.i64 ((86400 : Int) * F - (2592 : Int)) ∧ (86400 : Int) * F - (2592 : Int) = dayN F D ∧ True) ((86400 : Int) * F = dayN F D ∧ True)) := by
  kernel_rfl
theorem vc213 (F : Int) (D : Bool) (h m s f : Int) : exF (env false [] []) h0 0 213 Proofs.Tryz.f213 [lbV h m s f, rtV F D] (.val (bV (dropB D m s f))) = ((D = true → (0 : Int) ≤ m ∧ (0 : Int) < (10 : Int)) ∧ (bif bif bif D then m % (10 : Int) != (0 : Int) else false then s == (0 : Int) else false then decide (f < (2 : Int)) else false) = dropB D m s f ∧ True) := by
  kernel_rfl
theorem vc188 (F : Int) (D : Bool) (h m s f : Int) : exF (env false [(212, sp212), (186, sp186), (183, sp183), (182, sp182), (213, sp213)] []) h0 0 188 Proofs.Tryz.f188 [rtV F D, lbV h m s f] (.val (iV (chkLab F D h m s f))) = (fits IntKind.i64 (F - (1 : Int)) ∧ (0 : Int) ≤ m ∧ (6 : Nat) ≤ (1000000000 : Nat) ∧ first [chkRate F D, within h (0 : Int) (23 : Int), within m (0 : Int) (59 : Int), within s (0 : Int) (59 : Int), within f (0 : Int) (F - (1 : Int)), whenE (dropB D m s f) (7 : Int)] = chkLab F D h m s f ∧ True) := by
  kernel_rfl
theorem vc140 (F : Int) (D : Bool) (h m s f u : Int) : exF (env false [(188, sp188), (186, sp186), (182, sp182)] []) h0 0 140 Proofs.Tryz.f140 [stV F D h m s f u] (.val (iV (chkStamp F D h m s f u))) = ((0 : Int) ≤ m ∧ ((0 : Int) ≤ F ∧ F ≤ (1000 : Int)) ∧ (2 : Nat) ≤ (1000000000 : Nat) ∧ first [chkLab F D h m s f, within u (0 : Int) (65535 : Int)] = chkStamp F D h m s f u ∧ True) := by
  kernel_rfl
theorem vc214 (F : Int) (D : Bool) (h m s f : Int) : exF (env false [] []) h0 0 214 Proofs.Tryz.f214 [lbV h m s f, rtV F D] (.val (iV (frameN F D h m s f))) = (let q0 := ((60 : Int) * h + m); let q1 := ((60 : Int) * h + m - q0 / (10 : Int)); let q2 := ((60 : Int) * q0 + s); fits IntKind.i64 ((60 : Int) * h) ∧ fits IntKind.i64 q0 ∧ fits IntKind.i64 ((60 : Int) * q0) ∧ fits IntKind.i64 q2 ∧ fits IntKind.i64 (q2 * F) ∧ fits IntKind.i64 (q2 * F + f) ∧ splitB D (((0 : Int) ≤ (60 : Int) * h + m ∧ (0 : Int) < (10 : Int) ∧ fits IntKind.i64 (q0 / (10 : Int))) ∧ fits IntKind.i64 q1 ∧ fits IntKind.i64 ((2 : Int) * q1) ∧ fits IntKind.i64 (q2 * F + f - (2 : Int) * q1) ∧ q2 * F + f - (2 : Int) * q1 = frameN F D h m s f ∧ True) (q2 * F + f = frameN F D h m s f ∧ True)) := by
  kernel_rfl
theorem vc216 (F : Int) (D : Bool) (n : Int) : exF (env false [] []) h0 0 216 Proofs.Tryz.f216 [rtV F D, iV n] (.val (lbW (lab F D n))) = (let q4 := (n % (17982 : Int) - (1800 : Int)); let q2 := ((1 : Int) + q4 / (1798 : Int)); let q3 := (n / (17982 : Int)); let q0 := (n + (18 : Int) * q3 + (2 : Int) * q2); let q1 := (n + (18 : Int) * q3); splitB D (((0 : Int) ≤ n ∧ (0 : Int) < (17982 : Int) ∧ fits IntKind.i64 q3) ∧ ((0 : Int) ≤ n ∧ (0 : Int) < (17982 : Int)) ∧ fits IntKind.i64 ((18 : Int) * q3) ∧ fits IntKind.i64 q1 ∧ splitB (decide ((1800 : Int) ≤ n % (17982 : Int))) (fits IntKind.i64 q4 ∧ ((0 : Int) ≤ n % (17982 : Int) - (1800 : Int) ∧ (0 : Int) < (1798 : Int) ∧ fits IntKind.i64 (q4 / (1798 : Int))) ∧ fits IntKind.i64 q2 ∧ fits IntKind.i64 ((2 : Int) * q2) ∧ fits IntKind.i64 q0 ∧ ((0 : Int) ≤ n + (18 : Int) * q3 + (2 : Int) * q2 ∧ (0 : Int) < F ∧ fits IntKind.i64 (q0 / F)) ∧ ((0 : Int) ≤ q0 / F ∧ (0 : Int) < (3600 : Int) ∧ fits IntKind.i64 (q0 / F / (3600 : Int))) ∧ ((0 : Int) ≤ q0 / F ∧ (0 : Int) < (60 : Int) ∧ fits IntKind.i64 (q0 / F / (60 : Int))) ∧ ((0 : Int) ≤ q0 / F / (60 : Int) ∧ (0 : Int) < (60 : Int)) ∧ ((0 : Int) ≤ q0 / F ∧ (0 : Int) < (60 : Int)) ∧ ((0 : Int) ≤ n + (18 : Int) * q3 + (2 : Int) * q2 ∧ (0 : Int) < F) ∧ q0 / F / (3600 : Int) = (lab F D n).1 ∧ q0 / F / (60 : Int) % (60 : Int) = (lab F D n).2.1 ∧ q0 / F % (60 : Int) = (lab F D n).2.2.1 ∧ q0 % F = (lab F D n).2.2.2 ∧ True) (((0 : Int) ≤ n + (18 : Int) * q3 ∧ (0 : Int) < F ∧ fits IntKind.i64 (q1 / F)) ∧ ((0 : Int) ≤ q1 / F ∧ (0 : Int) < (3600 : Int) ∧ fits IntKind.i64 (q1 / F / (3600 : Int))) ∧ ((0 : Int) ≤ q1 / F ∧ (0 : Int) < (60 : Int) ∧ fits IntKind.i64 (q1 / F / (60 : Int))) ∧ ((0 : Int) ≤ q1 / F / (60 : Int) ∧ (0 : Int) < (60 : Int)) ∧ ((0 : Int) ≤ q1 / F ∧ (0 : Int) < (60 : Int)) ∧ ((0 : Int) ≤ n + (18 : Int) * q3 ∧ (0 : Int) < F) ∧ q1 / F / (3600 : Int) = (lab F D n).1 ∧ q1 / F / (60 : Int) % (60 : Int) = (lab F D n).2.1 ∧ q1 / F % (60 : Int) = (lab F D n).2.2.1 ∧ q1 % F = (lab F D n).2.2.2 ∧ True)) (((0 : Int) ≤ n ∧ (0 : Int) < F ∧ fits IntKind.i64 (n / F)) ∧ ((0 : Int) ≤ n / F ∧ (0 : Int) < (3600 : Int) ∧ fits IntKind.i64 (n / F / (3600 : Int))) ∧ ((0 : Int) ≤ n / F ∧ (0 : Int) < (60 : Int) ∧ fits IntKind.i64 (n / F / (60 : Int))) ∧ ((0 : Int) ≤ n / F / (60 : Int) ∧ (0 : Int) < (60 : Int)) ∧ ((0 : Int) ≤ n / F ∧ (0 : Int) < (60 : Int)) ∧ ((0 : Int) ≤ n ∧ (0 : Int) < F) ∧ n / F / (3600 : Int) = (lab F D n).1 ∧ n / F / (60 : Int) % (60 : Int) = (lab F D n).2.1 ∧ n / F % (60 : Int) = (lab F D n).2.2.1 ∧ n % F = (lab F D n).2.2.2 ∧ True)) := by
  kernel_rfl
theorem vc189 (F : Int) (D : Bool) (h m s f n : Int) : exF (env false [(214, sp214), (215, sp215), (216, sp216)] []) h0 0 189 Proofs.Tryz.f189 [lbV h m s f, rtV F D, iV n] (.val (lbW (lab F D (addN F D h m s f n)))) = (RateOk F D ∧ LabOk F D h m s f ∧ fits IntKind.i64 (frameN F D h m s f + n) ∧ ((0 : Int) ≤ F ∧ F ≤ (1000 : Int)) ∧ ((0 : Int) ≤ frameN F D h m s f + n ∧ (0 : Int) < dayN F D) ∧ ((0 : Int) ≤ F ∧ F ≤ (1000 : Int)) ∧ fits IntKind.i64 ((frameN F D h m s f + n) % dayN F D + dayN F D) ∧ ((0 : Int) ≤ F ∧ F ≤ (1000 : Int)) ∧ ((0 : Int) ≤ (frameN F D h m s f + n) % dayN F D + dayN F D ∧ (0 : Int) < dayN F D) ∧ RateOk F D ∧ ((0 : Int) ≤ ((frameN F D h m s f + n) % dayN F D + dayN F D) % dayN F D ∧ ((frameN F D h m s f + n) % dayN F D + dayN F D) % dayN F D < dayN F D) ∧ Prod.fst (lab F D (((frameN F D h m s f + n) % dayN F D + dayN F D) % dayN F D)) = Prod.fst (lab F D (addN F D h m s f n)) ∧ Prod.fst (Prod.snd (lab F D (((frameN F D h m s f + n) % dayN F D + dayN F D) % dayN F D))) = Prod.fst (Prod.snd (lab F D (addN F D h m s f n))) ∧ Prod.fst (Prod.snd (Prod.snd (lab F D (((frameN F D h m s f + n) % dayN F D + dayN F D) % dayN F D)))) = Prod.fst (Prod.snd (Prod.snd (lab F D (addN F D h m s f n)))) ∧ Prod.snd (Prod.snd (Prod.snd (lab F D (((frameN F D h m s f + n) % dayN F D + dayN F D) % dayN F D)))) = Prod.snd (Prod.snd (Prod.snd (lab F D (addN F D h m s f n)))) ∧ True) := by
  kernel_rfl
theorem vc141 (F : Int) (D : Bool) (h m s f n : Int) : exF (env false [(188, sp188), (186, sp186), (182, sp182), (189, sp189)] []) h0 0 141 Proofs.Tryz.f141 [rtV F D, lbV h m s f, iV n] (.tup [lbW (lab F D (addN F D h m s f n)), iV 0]) = (let q0 := (lab F D (addN F D h m s f n)); (0 : Int) ≤ m ∧ ((0 : Int) ≤ F ∧ F ≤ (1000 : Int)) ∧ (2 : Nat) ≤ (1000000000 : Nat) ∧ splitB (first [chkLab F D h m s f, within n (-10000000 : Int) (10000000 : Int)] != (0 : Int)) ((0 : Int) = q0.1 ∧ (0 : Int) = q0.2.1 ∧ (0 : Int) = q0.2.2.1 ∧ (0 : Int) = q0.2.2.2 ∧ first [chkLab F D h m s f, within n (-10000000 : Int) (10000000 : Int)] = (0 : Int) ∧ True) (RateOk F D ∧ LabOk F D h m s f ∧ ((0 : Int) ≤ n ∧ n ≤ (10000000 : Int)) ∧ q0.1 = q0.1 ∧ q0.2.1 = q0.2.1 ∧ q0.2.2.1 = q0.2.2.1 ∧ q0.2.2.2 = q0.2.2.2 ∧ (0 : Int) = (0 : Int) ∧ True)) := by
  kernel_rfl
end Go.Sx
