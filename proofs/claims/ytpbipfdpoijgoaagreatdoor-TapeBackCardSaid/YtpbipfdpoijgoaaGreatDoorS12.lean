/- A verified symbolic run of functions, part 12: lemmas, no claim of their own. -/
import Derived.Test.YtpbipfdpoijgoaaGreatDoorS11
namespace Go.Sx
open U
theorem take1 (l : List Int) : List.getD (List.take 1 l) 0 0 = List.getD l 0 0 := by cases l <;> rfl
theorem chks_len (r : List Int) (g : Nat) : (chks r g).length = g := by simp [chks]
theorem chks_succ (r : List Int) (g : Nat) : chks r (g + 1) = chks r g ++ [chk r g] := by simp [chks, List.range_succ]
theorem chks_w {r : List Int} (hb : Bytes r) (g : Nat) : W16 (chks r g) := by
  intro x hx
  obtain ⟨j, _, rfl⟩ := List.mem_map.1 hx
  have := number_bd 2 (((r.drop (5 * j)).drop 1).take 2) (byTake (byDrop (byDrop hb _) _) _) (by simp; omega)
  have e : (256 : Int) ^ 2 = 65536 := by decide
  rw [e] at this
  unfold chk
  omega
theorem take5 {l : List Int} (h : 5 ≤ l.length) : List.take 5 ([List.getD l 0 0] ++ List.take 4 (List.drop 1 l)) = List.take 5 l := by
  cases l with
  | nil => simp at h
  | cons a t =>
    have h4 : 4 ≤ t.length := by simpa using h
    simp [List.take_take]
theorem recErr_zero {k : Int} {n : Nat} (h : recErr k n = 0) : (k = 69 ∨ k = 70) ∧ (k = 69 ∨ n ≠ 256) := by
  have hz := (first_zero_iff _).1 h
  have h1 := (whenE_zero (e := 1) (by decide)).1 (hz (whenE (!(k == 69) && (k != 70)) 1) (by simp))
  have h2 := (whenE_zero (e := 5) (by decide)).1 (hz (whenE (!(k == 69) && ((n : Int) == 256)) 5) (by simp))
  by_cases e : k = 69
  · exact ⟨.inl e, .inl e⟩
  · have e' : (k == 69) = false := by simp [e]
    rw [e'] at h1 h2
    simp at h1 h2
    exact ⟨.inr h1, .inr (by omega)⟩
theorem rdRec_none {s l : List Int} (h : s.length < 1) : rdRec s l = (28, false, 0) := by unfold rdRec; rw [if_pos h]
theorem rdRec_bad {s l : List Int} (h : ¬ s.length < 1) (he : recErr (s.getD 0 0) l.length ≠ 0) : rdRec s l = (recErr (s.getD 0 0) l.length, false, 0) := by unfold rdRec; rw [if_neg h, if_neg he]
theorem rdRec_torn {s l : List Int} (h : ¬ s.length < 1) (he : recErr (s.getD 0 0) l.length = 0) (h5 : s.length < 5) : rdRec s l = (28, false, 0) := by unfold rdRec; rw [if_neg h, if_pos he, if_pos h5]
theorem rdRec_full {s l : List Int} (he : recErr (s.getD 0 0) l.length = 0) (h5 : ¬ s.length < 5) :
    rdRec s l = (whenE (!decide (s.take 5 = if (s.getD 0 0 == 69) = true then tlast l else tframe l.length (number ((s.drop 1).take 2)))) 27, s.getD 0 0 == 69, number ((s.drop 1).take 2)) := by
  unfold rdRec; rw [if_neg (by omega), if_pos he, if_neg h5]
theorem rdAll_stop {n : Nat} {s l : List Int} (h : (rdRec s l).1 ≠ 0) : rdAll (n + 1) s l = ((rdRec s l).1, l, s) := by rw [rdAll, if_neg h]
theorem rdAll_last {n : Nat} {s l : List Int} (h : (rdRec s l).1 = 0) (h2 : (rdRec s l).2.1 = true) : rdAll (n + 1) s l = (0, l, s.drop 5) := by rw [rdAll, if_pos h, if_pos h2]
theorem rdAll_more {n : Nat} {s l : List Int} (h : (rdRec s l).1 = 0) (h2 : (rdRec s l).2.1 = false) : rdAll (n + 1) s l = rdAll n (s.drop 5) (l ++ [(rdRec s l).2.2]) := by rw [rdAll, if_pos h, if_neg (by simp [h2])]
theorem readS_begin {s : List Int} (h : (rdBegin s).1 ≠ 0) : readS s = (([], 0, []), (rdBegin s).1) := by unfold readS; rw [if_neg h]
theorem readS_err {s : List Int} {nm : List UInt8} {f : Int} {r : List Int} (hb : rdBegin s = (0, nm, f, r)) {e : Int} {l q : List Int} (h : rdAll (s.length + 1) r [] = (e, l, q)) (he : e ≠ 0) : readS s = (([], 0, []), e) := by
  unfold readS
  rw [hb]
  simp only [if_true]
  rw [h, if_neg he]
theorem readS_bad {s : List Int} {nm : List UInt8} {f : Int} {r : List Int} (hb : rdBegin s = (0, nm, f, r)) {l q : List Int} (h : rdAll (s.length + 1) r [] = (0, l, q)) (he : first [whenE (decide (0 < q.length)) 23, checkReel nm f l] ≠ 0) :
    readS s = (([], 0, []), first [whenE (decide (0 < q.length)) 23, checkReel nm f l]) := by
  unfold readS
  rw [hb]
  simp only [if_true]
  rw [h]
  simp only [if_true]
  rw [if_neg he]
theorem readS_ok {s : List Int} {nm : List UInt8} {f : Int} {r : List Int} (hb : rdBegin s = (0, nm, f, r)) {l q : List Int} (h : rdAll (s.length + 1) r [] = (0, l, q)) (he : first [whenE (decide (0 < q.length)) 23, checkReel nm f l] = 0) :
    readS s = ((nm, f, l), 0) := by
  unfold readS
  rw [hb]
  simp only [if_true]
  rw [h]
  simp only [if_true]
  rw [if_pos he]
theorem fn27 (s : List Int) (hl : s.length ≤ 1000000) (hb : Bytes s) : Fn P1 gl1 27 [.one (.sl (.int .u8) s)] (.tup [rV (readS s).1.1 (readS s).1.2.1 (readS s).1.2.2, iV (readS s).2]) true := by
  refine fn_ofr false [(23, sp23), (100, sp100), (101, sp101), (106, sp106), (107, sp107), (108, sp108), (172, sp172), (173, sp173)] [fb116, fb117, fb171] h27 3 Proofs.Tryz.f27 ⟨so23, so100, so101, so106, so107, so108, so172, so173, trivial⟩
    ⟨⟨by kernel_rfl, by kernel_rfl, _, rfl, by kernel_rfl⟩, ⟨by kernel_rfl, by kernel_rfl, _, rfl, by kernel_rfl⟩, ⟨by kernel_rfl, by kernel_rfl, _, rfl, by kernel_rfl⟩, trivial⟩ (by kernel_rfl) rfl (by kernel_rfl) rfl rfl rfl ?_
  rw [vc27]
  simp only [splitB_iff, Bool.cond_false_right, Bool.cond_true_left, take1, decide_eq_true_eq, decide_eq_false_iff_not, List.length_take, List.length_drop, -eq_self]
  have fail : ∀ {e : Int}, (rdBegin s).1 = e → e ≠ 0 → [] = (readS s).1.1 ∧ 0 = (readS s).1.2.1 ∧ (readS s).1.2.2 = [] ∧ e = (readS s).2 ∧ True := by
    intro e h1 h2
    rw [readS_begin (by rw [h1]; exact h2), h1]
    exact ⟨rfl, rfl, rfl, rfl, trivial⟩
  refine ⟨fun h => ?_, fun h => ⟨by omega, by omega, by omega, fun h2 => ?_, fun h2 => ⟨fun h3 => ?_, fun h3 => ?_⟩⟩⟩
  · refine fail ?_ (by decide)
    unfold rdBegin; rw [if_pos (by omega)]
  · have e : ¬ List.take 4 s = [82, 69, 69, 76] := by
      rw [List.take_take, eqT_int .u8 4 _ _ (by simp; omega) rfl] at h2
      simpa using h2
    refine fail ?_ (by decide)
    unfold rdBegin; rw [if_neg (by omega), if_neg e]
  · have e : List.take 4 s = [82, 69, 69, 76] := by
      rw [List.take_take, eqT_int .u8 4 _ _ (by simp; omega) rfl] at h2
      simpa using h2
    refine fail ?_ (by decide)
    unfold rdBegin; rw [if_neg (by omega), if_pos e, if_pos (by rw [List.length_drop]; omega)]
  · have e : List.take 4 s = [82, 69, 69, 76] := by
      rw [List.take_take, eqT_int .u8 4 _ _ (by simp; omega) rfl] at h2
      simpa using h2
    have hk : 0 ≤ (List.drop 4 s).getD 0 0 ∧ (List.drop 4 s).getD 0 0 ≤ 255 := by
      have hl4 : 0 < (List.drop 4 s).length := by rw [List.length_drop]; omega
      rw [getD_of hl4]
      exact byDrop hb 4 _ (List.getElem_mem hl4)
    refine ⟨by omega, by omega, by omega, by simp only [fits]; omega, fun h4 => ?_, fun h4 => ⟨by omega, by omega, fun h5 => ?_, fun h5 => ⟨fun h6 => ?_, fun h6 => ⟨by omega, by omega, ⟨by omega, byTake (byDrop (byDrop (byDrop hb _) _) _) _⟩, fun h7 => ?_, fun h7 => ?_⟩⟩⟩⟩
    · refine fail ?_ (by decide)
      unfold rdBegin; rw [if_neg (by omega), if_pos e, if_neg (by rw [List.length_drop]; omega), if_pos (by simp only [List.length_drop]; omega)]
    · refine fail ?_ (by decide)
      unfold rdBegin; rw [if_neg (by omega), if_pos e, if_neg (by rw [List.length_drop]; omega), if_neg (by simp only [List.length_drop]; omega), if_neg]
      intro h6
      rw [Bool.and_eq_true] at h6
      rw [h6.1, h6.2] at h5
      cases h5
    all_goals
      have h5' : (plain (bytesOf (((s.drop 4).drop 1).take ((s.drop 4).getD 0 0).toNat)) && isName (bytesOf (((s.drop 4).drop 1).take ((s.drop 4).getD 0 0).toNat))) = true := by
        cases hp : plain (bytesOf (((s.drop 4).drop 1).take ((s.drop 4).getD 0 0).toNat)) <;> cases hq : isName (bytesOf (((s.drop 4).drop 1).take ((s.drop 4).getD 0 0).toNat)) <;> rw [hp, hq] at h5 <;> first | rfl | cases h5
    · refine fail ?_ (by decide)
      unfold rdBegin; rw [if_neg (by omega), if_pos e, if_neg (by rw [List.length_drop]; omega), if_neg (by simp only [List.length_drop]; omega), if_pos h5', if_pos (by simp only [List.length_drop]; omega)]
    · refine fail ?_ (by simpa using h7)
      unfold rdBegin; rw [if_neg (by omega), if_pos e, if_neg (by rw [List.length_drop]; omega), if_neg (by simp only [List.length_drop]; omega), if_pos h5', if_neg (by simp only [List.length_drop]; omega)]
    · have h7' : whenE (decide (10000000 < number ((((s.drop 4).drop 1).drop ((s.drop 4).getD 0 0).toNat).take 4))) 1 = 0 := by simpa using h7
      have hbg : rdBegin s = (0, bytesOf (((s.drop 4).drop 1).take ((s.drop 4).getD 0 0).toNat), number ((((s.drop 4).drop 1).drop ((s.drop 4).getD 0 0).toNat).take 4), (((s.drop 4).drop 1).drop ((s.drop 4).getD 0 0).toNat).drop 4) := by
        unfold rdBegin; rw [if_neg (by omega), if_pos e, if_neg (by rw [List.length_drop]; omega), if_neg (by simp only [List.length_drop]; omega), if_pos h5', if_neg (by simp only [List.length_drop]; omega), h7']
      have hrl : ((((s.drop 4).drop 1).drop ((s.drop 4).getD 0 0).toNat).drop 4).length = s.length - 4 - 1 - ((s.drop 4).getD 0 0).toNat - 4 := by simp only [List.length_drop]
      have hrb : Bytes ((((s.drop 4).drop 1).drop ((s.drop 4).getD 0 0).toNat).drop 4) := byDrop (byDrop (byDrop (byDrop hb _) _) _) _
      clear h7 h7' h5 h5' h6 h4 h2 e fail
      generalize (((s.drop 4).drop 1).drop ((s.drop 4).getD 0 0).toNat).drop 4 = r at *
      generalize bytesOf (((s.drop 4).drop 1).take ((s.drop 4).getD 0 0).toNat) = nm at *
      generalize number ((((s.drop 4).drop 1).drop ((s.drop 4).getD 0 0).toNat).take 4) = f at *
      generalize ((s.drop 4).getD 0 0).toNat = N at *
      refine ⟨⟨0, ⟨Nat.zero_le _, Nat.zero_le _, fun n => rfl⟩, rfl, rfl, rfl, rfl, rfl, rfl, trivial⟩, fun g hg => ?_⟩
      obtain ⟨hg1, hg2, hg3⟩ := hg
      have hcl : (r.drop (5 * g)).length = r.length - 5 * g := List.length_drop
      have hcb : Bytes (r.drop (5 * g)) := byDrop hrb _
      have hchk : chk r g = number (((r.drop (5 * g)).drop 1).take 2) := rfl
      have hsucc := chks_succ r g
      have hcw := chks_w hrb g
      have hclen := chks_len r g
      have hd5 : (r.drop (5 * g)).drop 5 = r.drop (5 * (g + 1)) := by rw [List.drop_drop]; rfl
      obtain ⟨n, hn⟩ : ∃ n, s.length + 1 = (n + 1) + g := ⟨s.length - g, by omega⟩
      have hall : rdAll (s.length + 1) r [] = rdAll (n + 1) (r.drop (5 * g)) (chks r g) := by rw [hn]; exact hg3 (n + 1)
      have hE : first [whenE (!(r.drop (5 * g)).getD 0 0 == 69 && (r.drop (5 * g)).getD 0 0 != 70) 1, whenE (!(r.drop (5 * g)).getD 0 0 == 69 && ((chks r g).length : Int) == 256) 5] = recErr ((r.drop (5 * g)).getD 0 0) (chks r g).length := rfl
      have hq : decide ((0 : Int) < ((s.length - 4 - 1 - N - 4 - 5 * g - 1 - 4 : Nat) : Int)) = decide (0 < ((r.drop (5 * g)).drop 5).length) := decide_eq_decide.2 (by rw [List.length_drop]; omega)
      have hd5' : (List.drop 4 (List.drop 1 (r.drop (5 * g)))) = (r.drop (5 * g)).drop 5 := by rw [List.drop_drop]
      simp only [hE, hq, hd5', List.take_take, -eq_self]
      have hcont : ∀ n, rdAll (n + (g + 1)) r [] = rdAll (n + 1) (r.drop (5 * g)) (chks r g) := by
        intro n
        rw [show n + (g + 1) = (n + 1) + g by omega]
        exact hg3 (n + 1)
      rw [hchk] at hsucc
      generalize r.drop (5 * g) = cur at *
      generalize chks r g = L at *
      have errs : ∀ {e : Int}, (rdRec cur L).1 = e → e ≠ 0 → [] = (readS s).1.1 ∧ 0 = (readS s).1.2.1 ∧ (readS s).1.2.2 = [] ∧ e = (readS s).2 ∧ True := by
        intro e h1 h2
        rw [readS_err hbg (hall.trans (rdAll_stop (by rw [h1]; exact h2))) (by rw [h1]; exact h2), h1]
        exact ⟨rfl, rfl, rfl, rfl, trivial⟩
      have hnum : 0 ≤ number (List.take 2 (List.drop 1 cur)) ∧ number (List.take 2 (List.drop 1 cur)) < 256 ^ 2 := number_bd 2 _ (byTake (byDrop hcb _) _) (by simp; omega)
      rw [show (256 : Int) ^ 2 = 65536 by decide] at hnum
      refine ⟨fun h8 => ?_, fun h8 => ⟨by omega, by omega, by omega, fun _ => by omega, by decide, fun h9 => ⟨fun h10 => ?_, fun h10 => ?_⟩, fun h9 => ⟨fun h10 => ?_, fun h10 => ?_⟩⟩⟩
      · exact errs (by rw [rdRec_none (by omega)]) (by decide)
      · have h9' : recErr (cur.getD 0 0) L.length ≠ 0 := by simpa using h9
        exact errs (by rw [rdRec_bad (by omega) h9']) h9'
      · rw [h9] at h10; cases h10
      · have h9' : recErr (cur.getD 0 0) L.length = 0 := by simpa using h9
        exact errs (by rw [rdRec_torn (by omega) h9' (by omega)]) (by decide)
      · have h9' : recErr (cur.getD 0 0) L.length = 0 := by simpa using h9
        have h5 : ¬ cur.length < 5 := by omega
        have hfull := rdRec_full h9' h5
        have hlen5 : 5 ≤ ([cur.getD 0 0] ++ List.take 4 (List.drop 1 cur)).length := by simp only [List.length_append, List.length_take, List.length_drop, List.length_cons, List.length_nil]; omega
        have htk := take5 (l := cur) (by omega)
        have hm2 : min 2 4 = 2 := rfl
        rw [hm2]
        rw [htk]
        have ht5 : (List.take 5 cur).length = 5 := by rw [List.length_take]; omega
        rw [eqT_int .u8 5 _ _ ht5 rfl, eqT_int .u8 5 _ _ ht5 rfl]
        refine ⟨by omega, by omega, by omega, by simp only [room]; omega, hlen5, by omega, by omega, ⟨by omega, byTake (byDrop hcb _) _⟩, ⟨by omega, by omega⟩, fun h11 => ⟨⟨by omega, hcw⟩, fun h12 => ?_, fun h12 => ⟨fun h13 => ⟨by omega, by decide, fun h14 => ?_, fun h14 => ?_⟩, fun h13 => ?_⟩⟩, fun h11 => ⟨fun h12 => ?_, fun h12 => ⟨fun h13 => ?_, fun h13 => ?_⟩⟩⟩
        · rw [h11, if_pos rfl] at hfull
          exact errs (by rw [hfull]) (by simpa using h12)
        · rw [h11, if_pos rfl] at hfull
          have h12' : whenE (!decide (List.take 5 cur = tlast L)) 27 = 0 := by simpa using h12
          rw [h12'] at hfull
          have h14' : first [whenE (decide (0 < (cur.drop 5).length)) 23, checkReel nm f L] ≠ 0 := by simpa using h14
          rw [readS_bad hbg (hall.trans (rdAll_last (by rw [hfull]) (by rw [hfull]))) h14']
          exact ⟨rfl, rfl, rfl, rfl, trivial⟩
        · rw [h11, if_pos rfl] at hfull
          have h12' : whenE (!decide (List.take 5 cur = tlast L)) 27 = 0 := by simpa using h12
          rw [h12'] at hfull
          have h14' : first [whenE (decide (0 < (cur.drop 5).length)) 23, checkReel nm f L] = 0 := by simpa using h14
          rw [readS_ok hbg (hall.trans (rdAll_last (by rw [hfull]) (by rw [hfull]))) h14']
          exact ⟨rfl, rfl, rfl, rfl, trivial⟩
        · rw [h11] at h13; cases h13
        · rw [h11, if_neg (by decide)] at hfull
          exact errs (by rw [hfull]) (by simpa using h12)
        · rw [h11] at h13; cases h13
        · rw [h11, if_neg (by decide)] at hfull
          have h12' : whenE (!decide (List.take 5 cur = tframe L.length (number (List.take 2 (List.drop 1 cur))))) 27 = 0 := by simpa using h12
          rw [h12'] at hfull
          have hn256 : L.length ≠ 256 := by
            rcases (recErr_zero h9').2 with h | h
            · rw [h] at h11; cases h11
            · exact h
          refine ⟨by simp only [room]; omega, g + 1, ⟨by omega, by omega, fun n => ?_⟩, by omega, rfl, rfl, hd5, rfl, rfl, hsucc.symm, trivial⟩
          rw [hcont n, rdAll_more (by rw [hfull]) (by rw [hfull]), hfull, hd5, hsucc]
def sp27 : FSpec := ⟨fun vs => match vs with
  | [.one (.sl (.int .u8) s)] => some ([List.length s ≤ 1000000 ∧ Bytes s], .tup [rV (readS s).1.1 (readS s).1.2.1 (readS s).1.2.2, iV (readS s).2])
  | _ => none, true⟩
theorem so27_ : SpecOk P1 gl1 27 sp27 := by
  intro vs ps r h hp
  simp only [sp27] at h
  split at h
  · cases h
    have := hp _ (List.mem_singleton.2 rfl)
    exact fn27 _ this.1 this.2
  · cases h
theorem so27 : Sp1 27 sp27 := ⟨so27_, Proofs.Tryz.f27, _, by kernel_rfl, rfl, by kernel_rfl⟩
end Go.Sx

namespace Go.Sx
open U
theorem vc112 (nm : List UInt8) (f : Int) (l : List Int) : exF (env false [] []) h0 0 112 Proofs.Tryz.f112 [rV nm f l] (.val (iV (f + (l.length : Int)))) = (fits IntKind.i64 (f + (↑(List.length l) : Int)) ∧ f + (↑(List.length l) : Int) = f + (↑(List.length l) : Int) ∧ True) := by
  kernel_rfl
end Go.Sx

namespace Go.Sx
open U
theorem fn112 (nm : List UInt8) (f : Int) (l : List Int) (h : fits .i64 (f + (l.length : Int))) : Fn P1 gl1 112 [rV nm f l] (.val (iV (f + (l.length : Int)))) true := by
  refine Fn.flat ?_ rfl
  refine fn_of false [] [] h0 0 Proofs.Tryz.f112 trivial trivial (by kernel_rfl) rfl (by kernel_rfl) rfl rfl rfl ?_
  rw [vc112]
  exact ⟨h, rfl, trivial⟩
def sp112 : FSpec := ⟨fun vs => match vs with
  | [.agg [.one (.str _), .one (.int .i64 f), .one (.sl (.int .i64) l)]] => some ([fits .i64 (f + (List.length l : Int))], .val (iV (f + (List.length l : Int))))
  | _ => none, true⟩
theorem so112_ : SpecOk P1 gl1 112 sp112 := by
  intro vs ps r h hp
  simp only [sp112] at h
  split at h
  · cases h
    exact fn112 _ _ _ (hp _ (List.mem_singleton.2 rfl))
  · cases h
theorem so112 : Sp1 112 sp112 := ⟨so112_, Proofs.Tryz.f112, _, by kernel_rfl, rfl, by kernel_rfl⟩
end Go.Sx

namespace Go.Sx
open U
theorem vc29 (s : List Int) : exFr (env false [(27, sp27), (100, sp100), (101, sp101), (112, sp112), (106, sp106), (107, sp107), (108, sp108), (172, sp172), (173, sp173)] [fb116, fb117, fb171]) h29 3 29 Proofs.Tryz.f29 [.one (.sl (.int .u8) s)] (.tup [rV (U.rebuilt s).1.1 (U.rebuilt s).1.2.1 (U.rebuilt s).1.2.2, bV (U.rebuilt s).2.1, iV (U.rebuilt s).2.2]) = (let q11 := (List.drop (4 : Nat) s); let q33 := (List.drop (1 : Nat) q11); let q16 := (List.take (1 : Nat) q11); let q28 := (List.getD q16 (0 : Nat) (0 : Int)); let q0 := (List.drop (Int.toNat q28) q33); let q2 := (List.take (Int.toNat q28) q33); let q3 := (List.drop (4 : Nat) q0); let q5 := (List.take (4 : Nat) q0); let q7 := ([] = (rebuilt s).1.1 ∧ (0 : Int) = (rebuilt s).1.2.1 ∧ (rebuilt s).1.2.2 = [] ∧ false = (rebuilt s).2.1 ∧ (12 : Int) = (rebuilt s).2.2 ∧ True); let q10 := ([] = (rebuilt s).1.1 ∧ (0 : Int) = (rebuilt s).1.2.1 ∧ (rebuilt s).1.2.2 = [] ∧ false = (rebuilt s).2.1 ∧ (28 : Int) = (rebuilt s).2.2 ∧ True); let q15 := (↑(List.length q33) : Int); let q18 := ([] = (rebuilt s).1.1 ∧ (0 : Int) = (rebuilt s).1.2.1 ∧ (rebuilt s).1.2.2 = [] ∧ false = (rebuilt s).2.1 ∧ (1 : Int) = (rebuilt s).2.2 ∧ True); let q20 := (Ty.arr (5 : Nat) (Ty.int IntKind.u8)); let q21 := (↑(List.length q11) : Int); let q23 := (↑(List.length q0) : Int); let q25 := (↑(List.length s) : Int); splitB (decide (q25 < (4 : Int))) q10 (((0 : Int) ≤ (0 : Int) ∧ (0 : Int) ≤ (4 : Int) ∧ (4 : Int) ≤ q25) ∧ ((0 : Int) ≤ (4 : Int) ∧ (4 : Int) ≤ q25 ∧ q25 ≤ q25) ∧ (4 : Nat) ≤ List.length (List.take (4 : Nat) s) ∧ splitB (!eqT (Ty.arr (4 : Nat) (Ty.int IntKind.u8)) (List.take (4 : Nat) (List.take (4 : Nat) s)) [(82 : Int), (69 : Int), (69 : Int), (76 : Int)]) q18 (splitB (decide (q21 < (1 : Int))) q10 (((0 : Int) ≤ (0 : Int) ∧ (0 : Int) ≤ (1 : Int) ∧ (1 : Int) ≤ q21) ∧ ((0 : Int) ≤ (1 : Int) ∧ (1 : Int) ≤ q21 ∧ q21 ≤ q21) ∧ ((0 : Int) ≤ (0 : Int) ∧ (0 : Int) < (↑(List.length q16) : Int)) ∧ fits IntKind.i64 q28 ∧ splitB (decide (q15 < List.getD q16 (0 : Nat) (0 : Int))) q10 (((0 : Int) ≤ (0 : Int) ∧ (0 : Int) ≤ List.getD q16 (0 : Nat) (0 : Int) ∧ List.getD q16 (0 : Nat) (0 : Int) ≤ q15) ∧ ((0 : Int) ≤ List.getD q16 (0 : Nat) (0 : Int) ∧ List.getD q16 (0 : Nat) (0 : Int) ≤ q15 ∧ q15 ≤ q15) ∧ splitB (bif !plain (bytesOf q2) then true else !isName (bytesOf q2)) q18 (splitB (decide (q23 < (4 : Int))) q10 (((0 : Int) ≤ (0 : Int) ∧ (0 : Int) ≤ (4 : Int) ∧ (4 : Int) ≤ q23) ∧ ((0 : Int) ≤ (4 : Int) ∧ (4 : Int) ≤ q23 ∧ q23 ≤ q23) ∧ (List.length q5 ≤ (4 : Nat) ∧ Bytes q5) ∧ splitB (whenE (decide ((10000000 : Int) < number q5)) (1 : Int) != (0 : Int)) ([] = (rebuilt s).1.1 ∧ (0 : Int) = (rebuilt s).1.2.1 ∧ (rebuilt s).1.2.2 = [] ∧ false = (rebuilt s).2.1 ∧ whenE (decide ((10000000 : Int) < number q5)) (1 : Int) = (rebuilt s).2.2 ∧ True) ((∃ (g : Nat), ((5 : Nat) * g ≤ List.length q3 ∧ g ≤ (256 : Nat) ∧ ∀ (n : Nat), rbAll (number q5) (n + g) q3 [] = rbAll (number q5) n (List.drop ((5 : Nat) * g) q3) (chks q3 g)) ∧ s = s ∧ nilB = [] ∧ (0 : Int) = (0 : Int) ∧ List.drop (4 : Nat) q0 = List.drop ((5 : Nat) * g) q3 ∧ bytesOf q2 = bytesOf q2 ∧ number q5 = number q5 ∧ chks q3 g = [] ∧ True) ∧ ∀ (g : Nat), let q1 := (List.drop ((5 : Nat) * g) q3); let q4 := ((List.length s ≤ (1000000 : Nat) ∧ Bytes s) ∧ bytesOf q2 = (rebuilt s).1.1 ∧ number q5 = (rebuilt s).1.2.1 ∧ chks q3 g = (rebuilt s).1.2.2 ∧ ((readS s).2 == (0 : Int)) = (rebuilt s).2.1 ∧ (0 : Int) = (rebuilt s).2.2 ∧ True); let q6 := (↑(List.length (chks q3 g)) : Int); let q12 := (List.take (1 : Nat) q1); let q14 := (List.drop (1 : Nat) q1); let q8 := ([List.getD q12 (0 : Nat) (0 : Int)] ++ List.take (4 : Nat) q14); let q32 := (List.take (4 : Nat) q14); let q9 := (List.take (2 : Nat) q32); let q13 := (bif !List.getD q12 (0 : Nat) (0 : Int) == (69 : Int) then List.getD q12 (0 : Nat) (0 : Int) != (70 : Int) else false); let q17 := (bif !List.getD q12 (0 : Nat) (0 : Int) == (69 : Int) then q6 == (256 : Int) else false); let q19 := (((bif (28 : Int) != (0 : Int) then true else false) = false → fits IntKind.i64 (number q5 + q6)) ∧ splitB (q6 == (0 : Int)) q7 q4); let q22 := (↑(List.length q14) : Int); let q24 := (↑(List.length q1) : Int); let q26 := (List.take (5 : Nat) q8); let q27 := (List.length (chks q3 g) + (1 : Nat)); let q29 := ((10000000 : Int) ≤ number q5 + q6); let q30 := ((0 : Int) ≤ (0 : Int) ∧ (0 : Int) < (↑(List.length q12) : Int)); let q31 := (splitB (q6 == (0 : Int)) q7 q4); ((5 : Nat) * g ≤ List.length q3 ∧ g ≤ (256 : Nat) ∧ ∀ (n : Nat), rbAll (number q5) (n + g) q3 [] = rbAll (number q5) n q1 (chks q3 g)) → splitB (decide (q24 < (1 : Int))) q19 (((0 : Int) ≤ (0 : Int) ∧ (0 : Int) ≤ (1 : Int) ∧ (1 : Int) ≤ q24) ∧ ((0 : Int) ≤ (1 : Int) ∧ (1 : Int) ≤ q24 ∧ q24 ≤ q24) ∧ q30 ∧ ((!List.getD q12 (0 : Nat) (0 : Int) == (69 : Int)) = true → (0 : Int) ≤ (0 : Int) ∧ (0 : Int) < (↑(List.length q12) : Int)) ∧ (2 : Nat) ≤ (1000000000 : Nat) ∧ splitB (first [whenE q13 (1 : Int), whenE q17 (5 : Int)] != (0 : Int)) (((bif first [whenE q13 (1 : Int), whenE q17 (5 : Int)] != (0 : Int) then true else false) = false → fits IntKind.i64 (number q5 + q6)) ∧ splitB (bif bif first [whenE q13 (1 : Int), whenE q17 (5 : Int)] != (0 : Int) then true else false then true else decide q29) q31 (room q27 (8 : Nat) ∧ ∃ (g' : Nat), ((5 : Nat) * g' ≤ List.length q3 ∧ g' ≤ (256 : Nat) ∧ ∀ (n : Nat), rbAll (number q5) (n + g') q3 [] = rbAll (number q5) n (List.drop ((5 : Nat) * g') q3) (chks q3 g')) ∧ List.length q3 - (5 : Nat) * g' < List.length q3 - (5 : Nat) * g ∧ s = s ∧ nilB = [] ∧ (0 : Int) = (0 : Int) ∧ List.drop (1 : Nat) q1 = List.drop ((5 : Nat) * g') q3 ∧ bytesOf q2 = bytesOf q2 ∧ number q5 = number q5 ∧ chks q3 g ++ [(0 : Int)] = chks q3 g' ∧ True)) (splitB (decide (q22 < (4 : Int))) q19 (((0 : Int) ≤ (0 : Int) ∧ (0 : Int) ≤ (4 : Int) ∧ (4 : Int) ≤ q22) ∧ ((0 : Int) ≤ (4 : Int) ∧ (4 : Int) ≤ q22 ∧ q22 ≤ q22) ∧ q30 ∧ room ((1 : Nat) + List.length q32) (1 : Nat) ∧ (5 : Nat) ≤ List.length q8 ∧ List.length q26 = (5 : Nat) ∧ ((0 : Int) ≤ (0 : Int) ∧ (0 : Int) ≤ (2 : Int) ∧ (2 : Int) ≤ (↑(List.length q32) : Int)) ∧ (List.length q9 ≤ (4 : Nat) ∧ Bytes q9) ∧ (((0 : Int) ≤ q6 ∧ q6 ≤ (1000000 : Int)) ∧ (0 : Int) ≤ number q9 ∧ number q9 ≤ (1000000 : Int)) ∧ splitB (List.getD q12 (0 : Nat) (0 : Int) == (69 : Int)) ((List.length (chks q3 g) ≤ (1000000 : Nat) ∧ ∀ (x : Int), x ∈ chks q3 g → (0 : Int) ≤ x ∧ x ≤ (65535 : Int)) ∧ ((bif whenE (!eqT q20 q26 (tlast (chks q3 g))) (27 : Int) != (0 : Int) then true else List.getD q12 (0 : Nat) (0 : Int) == (69 : Int)) = false → fits IntKind.i64 (number q5 + q6)) ∧ splitB (bif bif whenE (!eqT q20 q26 (tlast (chks q3 g))) (27 : Int) != (0 : Int) then true else List.getD q12 (0 : Nat) (0 : Int) == (69 : Int) then true else decide q29) q31 (room q27 (8 : Nat) ∧ ∃ (g' : Nat), ((5 : Nat) * g' ≤ List.length q3 ∧ g' ≤ (256 : Nat) ∧ ∀ (n : Nat), rbAll (number q5) (n + g') q3 [] = rbAll (number q5) n (List.drop ((5 : Nat) * g') q3) (chks q3 g')) ∧ List.length q3 - (5 : Nat) * g' < List.length q3 - (5 : Nat) * g ∧ s = s ∧ nilB = [] ∧ (0 : Int) = (0 : Int) ∧ List.drop (4 : Nat) q14 = List.drop ((5 : Nat) * g') q3 ∧ bytesOf q2 = bytesOf q2 ∧ number q5 = number q5 ∧ chks q3 g ++ [number q9] = chks q3 g' ∧ True)) (((bif whenE (!eqT q20 q26 (tframe q6 (number q9))) (27 : Int) != (0 : Int) then true else List.getD q12 (0 : Nat) (0 : Int) == (69 : Int)) = false → fits IntKind.i64 (number q5 + q6)) ∧ splitB (bif bif whenE (!eqT q20 q26 (tframe q6 (number q9))) (27 : Int) != (0 : Int) then true else List.getD q12 (0 : Nat) (0 : Int) == (69 : Int) then true else decide q29) q31 (room q27 (8 : Nat) ∧ ∃ (g' : Nat), ((5 : Nat) * g' ≤ List.length q3 ∧ g' ≤ (256 : Nat) ∧ ∀ (n : Nat), rbAll (number q5) (n + g') q3 [] = rbAll (number q5) n (List.drop ((5 : Nat) * g') q3) (chks q3 g')) ∧ List.length q3 - (5 : Nat) * g' < List.length q3 - (5 : Nat) * g ∧ s = s ∧ nilB = [] ∧ (0 : Int) = (0 : Int) ∧ List.drop (4 : Nat) q14 = List.drop ((5 : Nat) * g') q3 ∧ bytesOf q2 = bytesOf q2 ∧ number q5 = number q5 ∧ chks q3 g ++ [number q9] = chks q3 g' ∧ True))))))))))))) := by
  kernel_rfl
end Go.Sx

namespace Go.Sx
open U
theorem rbAll_stop {f : Int} {n : Nat} {s l : List Int} (h : ¬ ((rdRec s l).1 = 0 ∧ (rdRec s l).2.1 = false ∧ f + (l.length : Int) < 10000000)) : rbAll f (n + 1) s l = l := by rw [rbAll, if_neg h]
theorem rbAll_more {f : Int} {n : Nat} {s l : List Int} (h : (rdRec s l).1 = 0 ∧ (rdRec s l).2.1 = false ∧ f + (l.length : Int) < 10000000) : rbAll f (n + 1) s l = rbAll f n (s.drop 5) (l ++ [(rdRec s l).2.2]) := by rw [rbAll, if_pos h]
theorem rebuilt_begin {s : List Int} (h : (rdBegin s).1 ≠ 0) : rebuilt s = (([], 0, []), false, (rdBegin s).1) := by unfold rebuilt; rw [if_neg h]
theorem rebuilt_none {s : List Int} {nm : List UInt8} {f : Int} {r : List Int} (hb : rdBegin s = (0, nm, f, r)) {l : List Int} (h : rbAll f (s.length + 1) r [] = l) (he : l.length = 0) : rebuilt s = (([], 0, []), false, 12) := by
  unfold rebuilt
  rw [hb]
  simp only [if_true]
  rw [h, if_pos he]
theorem rebuilt_some {s : List Int} {nm : List UInt8} {f : Int} {r : List Int} (hb : rdBegin s = (0, nm, f, r)) {l : List Int} (h : rbAll f (s.length + 1) r [] = l) (he : ¬ l.length = 0) : rebuilt s = ((nm, f, l), decide ((readS s).2 = 0), 0) := by
  unfold rebuilt
  rw [hb]
  simp only [if_true]
  rw [h, if_neg he]
theorem fn29 (s : List Int) (hl : s.length ≤ 1000000) (hb : Bytes s) : Fn P1 gl1 29 [.one (.sl (.int .u8) s)] (.tup [rV (rebuilt s).1.1 (rebuilt s).1.2.1 (rebuilt s).1.2.2, bV (rebuilt s).2.1, iV (rebuilt s).2.2]) true := by
  refine fn_ofr false [(27, sp27), (100, sp100), (101, sp101), (112, sp112), (106, sp106), (107, sp107), (108, sp108), (172, sp172), (173, sp173)] [fb116, fb117, fb171] h29 3 Proofs.Tryz.f29 ⟨so27, so100, so101, so112, so106, so107, so108, so172, so173, trivial⟩
    ⟨⟨by kernel_rfl, by kernel_rfl, _, rfl, by kernel_rfl⟩, ⟨by kernel_rfl, by kernel_rfl, _, rfl, by kernel_rfl⟩, ⟨by kernel_rfl, by kernel_rfl, _, rfl, by kernel_rfl⟩, trivial⟩ (by kernel_rfl) rfl (by kernel_rfl) rfl rfl rfl ?_
  rw [vc29]
  simp only [splitB_iff, Bool.cond_false_right, Bool.cond_true_left, take1, decide_eq_true_eq, decide_eq_false_iff_not, List.length_take, List.length_drop, -eq_self]
  have fail : ∀ {e : Int}, (rdBegin s).1 = e → e ≠ 0 → [] = (rebuilt s).1.1 ∧ 0 = (rebuilt s).1.2.1 ∧ (rebuilt s).1.2.2 = [] ∧ false = (rebuilt s).2.1 ∧ e = (rebuilt s).2.2 ∧ True := by
    intro e h1 h2
    rw [rebuilt_begin (by rw [h1]; exact h2), h1]
    exact ⟨rfl, rfl, rfl, rfl, rfl, trivial⟩
  refine ⟨fun h => ?_, fun h => ⟨by omega, by omega, by omega, fun h2 => ?_, fun h2 => ⟨fun h3 => ?_, fun h3 => ?_⟩⟩⟩
  · refine fail ?_ (by decide)
    unfold rdBegin; rw [if_pos (by omega)]
  · have e : ¬ List.take 4 s = [82, 69, 69, 76] := by
      rw [List.take_take, eqT_int .u8 4 _ _ (by simp; omega) rfl] at h2
      simpa using h2
    refine fail ?_ (by decide)
    unfold rdBegin; rw [if_neg (by omega), if_neg e]
  · have e : List.take 4 s = [82, 69, 69, 76] := by
      rw [List.take_take, eqT_int .u8 4 _ _ (by simp; omega) rfl] at h2
      simpa using h2
    refine fail ?_ (by decide)
    unfold rdBegin; rw [if_neg (by omega), if_pos e, if_pos (by rw [List.length_drop]; omega)]
  · have e : List.take 4 s = [82, 69, 69, 76] := by
      rw [List.take_take, eqT_int .u8 4 _ _ (by simp; omega) rfl] at h2
      simpa using h2
    have hk : 0 ≤ (List.drop 4 s).getD 0 0 ∧ (List.drop 4 s).getD 0 0 ≤ 255 := by
      have hl4 : 0 < (List.drop 4 s).length := by rw [List.length_drop]; omega
      rw [getD_of hl4]
      exact byDrop hb 4 _ (List.getElem_mem hl4)
    refine ⟨by omega, by omega, by omega, by simp only [fits]; omega, fun h4 => ?_, fun h4 => ⟨by omega, by omega, fun h5 => ?_, fun h5 => ⟨fun h6 => ?_, fun h6 => ⟨by omega, by omega, ⟨by omega, byTake (byDrop (byDrop (byDrop hb _) _) _) _⟩, fun h7 => ?_, fun h7 => ?_⟩⟩⟩⟩
    · refine fail ?_ (by decide)
      unfold rdBegin; rw [if_neg (by omega), if_pos e, if_neg (by rw [List.length_drop]; omega), if_pos (by simp only [List.length_drop]; omega)]
    · refine fail ?_ (by decide)
      unfold rdBegin; rw [if_neg (by omega), if_pos e, if_neg (by rw [List.length_drop]; omega), if_neg (by simp only [List.length_drop]; omega), if_neg]
      intro h6
      rw [Bool.and_eq_true] at h6
      rw [h6.1, h6.2] at h5
      cases h5
    all_goals
      have h5' : (plain (bytesOf (((s.drop 4).drop 1).take ((s.drop 4).getD 0 0).toNat)) && isName (bytesOf (((s.drop 4).drop 1).take ((s.drop 4).getD 0 0).toNat))) = true := by
        cases hp : plain (bytesOf (((s.drop 4).drop 1).take ((s.drop 4).getD 0 0).toNat)) <;> cases hq : isName (bytesOf (((s.drop 4).drop 1).take ((s.drop 4).getD 0 0).toNat)) <;> rw [hp, hq] at h5 <;> first | rfl | cases h5
    · refine fail ?_ (by decide)
      unfold rdBegin; rw [if_neg (by omega), if_pos e, if_neg (by rw [List.length_drop]; omega), if_neg (by simp only [List.length_drop]; omega), if_pos h5', if_pos (by simp only [List.length_drop]; omega)]
    · refine fail ?_ (by simpa using h7)
      unfold rdBegin; rw [if_neg (by omega), if_pos e, if_neg (by rw [List.length_drop]; omega), if_neg (by simp only [List.length_drop]; omega), if_pos h5', if_neg (by simp only [List.length_drop]; omega)]
    · have h7' : whenE (decide (10000000 < number ((((s.drop 4).drop 1).drop ((s.drop 4).getD 0 0).toNat).take 4))) 1 = 0 := by simpa using h7
      have hbg : rdBegin s = (0, bytesOf (((s.drop 4).drop 1).take ((s.drop 4).getD 0 0).toNat), number ((((s.drop 4).drop 1).drop ((s.drop 4).getD 0 0).toNat).take 4), (((s.drop 4).drop 1).drop ((s.drop 4).getD 0 0).toNat).drop 4) := by
        unfold rdBegin; rw [if_neg (by omega), if_pos e, if_neg (by rw [List.length_drop]; omega), if_neg (by simp only [List.length_drop]; omega), if_pos h5', if_neg (by simp only [List.length_drop]; omega), h7']
      have hrl : ((((s.drop 4).drop 1).drop ((s.drop 4).getD 0 0).toNat).drop 4).length = s.length - 4 - 1 - ((s.drop 4).getD 0 0).toNat - 4 := by simp only [List.length_drop]
      have hrb : Bytes ((((s.drop 4).drop 1).drop ((s.drop 4).getD 0 0).toNat).drop 4) := byDrop (byDrop (byDrop (byDrop hb _) _) _) _
      have hfb := number_bd 4 ((((s.drop 4).drop 1).drop ((s.drop 4).getD 0 0).toNat).take 4) (byTake (byDrop (byDrop (byDrop hb _) _) _) _) (by rw [List.length_take]; omega)
      rw [show (256 : Int) ^ 4 = 4294967296 by decide] at hfb
      clear h7 h7' h5 h5' h6 h4 h2 e fail
      generalize (((s.drop 4).drop 1).drop ((s.drop 4).getD 0 0).toNat).drop 4 = r at *
      generalize bytesOf (((s.drop 4).drop 1).take ((s.drop 4).getD 0 0).toNat) = nm at *
      generalize number ((((s.drop 4).drop 1).drop ((s.drop 4).getD 0 0).toNat).take 4) = f at *
      generalize ((s.drop 4).getD 0 0).toNat = N at *
      refine ⟨⟨0, ⟨Nat.zero_le _, Nat.zero_le _, fun n => rfl⟩, rfl, rfl, rfl, rfl, rfl, rfl, rfl, trivial⟩, fun g hg => ?_⟩
      obtain ⟨hg1, hg2, hg3⟩ := hg
      have hcl : (r.drop (5 * g)).length = r.length - 5 * g := List.length_drop
      have hcb : Bytes (r.drop (5 * g)) := byDrop hrb _
      have hchk : chk r g = number (((r.drop (5 * g)).drop 1).take 2) := rfl
      have hsucc := chks_succ r g
      have hcw := chks_w hrb g
      have hclen := chks_len r g
      have hd5 : (r.drop (5 * g)).drop 5 = r.drop (5 * (g + 1)) := by rw [List.drop_drop]; rfl
      obtain ⟨n, hn⟩ : ∃ n, s.length + 1 = (n + 1) + g := ⟨s.length - g, by omega⟩
      have hall : rbAll f (s.length + 1) r [] = rbAll f (n + 1) (r.drop (5 * g)) (chks r g) := by rw [hn]; exact hg3 (n + 1)
      have hE : first [whenE (!(r.drop (5 * g)).getD 0 0 == 69 && (r.drop (5 * g)).getD 0 0 != 70) 1, whenE (!(r.drop (5 * g)).getD 0 0 == 69 && ((chks r g).length : Int) == 256) 5] = recErr ((r.drop (5 * g)).getD 0 0) (chks r g).length := rfl
      have hd5' : (List.drop 4 (List.drop 1 (r.drop (5 * g)))) = (r.drop (5 * g)).drop 5 := by rw [List.drop_drop]
      simp only [hE, hd5', List.take_take, -eq_self]
      have hcont : ∀ n, rbAll f (n + (g + 1)) r [] = rbAll f (n + 1) (r.drop (5 * g)) (chks r g) := by
        intro n
        rw [show n + (g + 1) = (n + 1) + g by omega]
        exact hg3 (n + 1)
      rw [hchk] at hsucc
      generalize r.drop (5 * g) = cur at *
      generalize chks r g = L at *
      have hfit : fits .i64 (f + (L.length : Int)) := by simp only [fits]; omega
      have stop : ¬ ((rdRec cur L).1 = 0 ∧ (rdRec cur L).2.1 = false ∧ f + (L.length : Int) < 10000000) →
          ((((L.length : Int) == 0) = true → [] = (rebuilt s).1.1 ∧ 0 = (rebuilt s).1.2.1 ∧ (rebuilt s).1.2.2 = [] ∧ false = (rebuilt s).2.1 ∧ 12 = (rebuilt s).2.2 ∧ True) ∧
          (((L.length : Int) == 0) = false → (s.length ≤ 1000000 ∧ Bytes s) ∧ nm = (rebuilt s).1.1 ∧ f = (rebuilt s).1.2.1 ∧ L = (rebuilt s).1.2.2 ∧ ((readS s).2 == 0) = (rebuilt s).2.1 ∧ 0 = (rebuilt s).2.2 ∧ True)) := by
        intro h1
        have h2 := hall.trans (rbAll_stop h1)
        rw [len_beq]
        refine ⟨fun h3 => ?_, fun h3 => ⟨⟨hl, hb⟩, ?_⟩⟩
        · rw [rebuilt_none hbg h2 (by simpa using h3)]
          exact ⟨rfl, rfl, rfl, rfl, rfl, trivial⟩
        · rw [rebuilt_some hbg h2 (by simpa using h3)]
          exact ⟨rfl, rfl, rfl, rfl, rfl, trivial⟩
      have hnum : 0 ≤ number (List.take 2 (List.drop 1 cur)) ∧ number (List.take 2 (List.drop 1 cur)) < 256 ^ 2 := number_bd 2 _ (byTake (byDrop hcb _) _) (by simp; omega)
      rw [show (256 : Int) ^ 2 = 65536 by decide] at hnum
      refine ⟨fun h8 => ⟨fun _ => hfit, stop (by rw [rdRec_none (by omega)]; simp)⟩, fun h8 => ⟨by omega, by omega, by omega, fun _ => by omega, by decide, fun h9 => ⟨fun _ => hfit, fun h10 => ?_, fun h10 => ?_⟩, fun h9 => ⟨fun h10 => ⟨fun _ => hfit, ?_⟩, fun h10 => ?_⟩⟩⟩
      · have h9' : recErr (cur.getD 0 0) L.length ≠ 0 := by simpa using h9
        exact stop (by rw [rdRec_bad (by omega) h9']; exact fun h => h9' h.1)
      · rw [h9] at h10; cases h10
      · have h9' : recErr (cur.getD 0 0) L.length = 0 := by simpa using h9
        exact stop (by rw [rdRec_torn (by omega) h9' (by omega)]; simp)
      · have h9' : recErr (cur.getD 0 0) L.length = 0 := by simpa using h9
        have h5 : ¬ cur.length < 5 := by omega
        have hfull := rdRec_full h9' h5
        have hlen5 : 5 ≤ ([cur.getD 0 0] ++ List.take 4 (List.drop 1 cur)).length := by simp only [List.length_append, List.length_take, List.length_drop, List.length_cons, List.length_nil]; omega
        have htk := take5 (l := cur) (by omega)
        have hm2 : min 2 4 = 2 := rfl
        rw [hm2]
        rw [htk]
        have ht5 : (List.take 5 cur).length = 5 := by rw [List.length_take]; omega
        rw [eqT_int .u8 5 _ _ ht5 rfl, eqT_int .u8 5 _ _ ht5 rfl]
        refine ⟨by omega, by omega, by omega, by simp only [room]; omega, hlen5, by omega, by omega, ⟨by omega, byTake (byDrop hcb _) _⟩, ⟨by omega, by omega⟩, fun h11 => ⟨⟨by omega, hcw⟩, fun _ => hfit, fun h12 => ?_, fun h12 => ?_⟩, fun h11 => ⟨fun _ => hfit, fun h12 => ?_, fun h12 => ?_⟩⟩
        · rw [h11, if_pos rfl] at hfull
          exact stop (by rw [hfull]; simp)
        · rw [h11] at h12; simp at h12
        · rw [h11, if_neg (by decide)] at hfull
          refine stop ?_
          rw [hfull]
          rintro ⟨k1, _, k3⟩
          simp only [] at k1
          rw [h11, k1] at h12
          simp at h12
          omega
        · rw [h11, if_neg (by decide)] at hfull
          rw [h11] at h12
          simp only [Bool.or_false, Bool.or_eq_false_iff, bne_eq_false_iff_eq, decide_eq_false_iff_not] at h12
          obtain ⟨h12', h13⟩ := h12
          rw [h12'] at hfull
          have hn256 : L.length ≠ 256 := by
            rcases (recErr_zero h9').2 with h | h
            · rw [h] at h11; cases h11
            · exact h
          refine ⟨by simp only [room]; omega, g + 1, ⟨by omega, by omega, fun n => ?_⟩, by omega, rfl, rfl, rfl, hd5, rfl, rfl, hsucc.symm, trivial⟩
          rw [hcont n, rbAll_more (by rw [hfull]; exact ⟨rfl, rfl, by omega⟩), hfull, hd5, hsucc]
def sp29 : FSpec := ⟨fun vs => match vs with
  | [.one (.sl (.int .u8) s)] => some ([List.length s ≤ 1000000 ∧ Bytes s], .tup [rV (rebuilt s).1.1 (rebuilt s).1.2.1 (rebuilt s).1.2.2, bV (rebuilt s).2.1, iV (rebuilt s).2.2])
  | _ => none, true⟩
theorem so29_ : SpecOk P1 gl1 29 sp29 := by
  intro vs ps r h hp
  simp only [sp29] at h
  split at h
  · cases h
    have := hp _ (List.mem_singleton.2 rfl)
    exact fn29 _ this.1 this.2
  · cases h
theorem so29 : Sp1 29 sp29 := ⟨so29_, Proofs.Tryz.f29, _, by kernel_rfl, rfl, by kernel_rfl⟩
end Go.Sx

namespace Go.Sx
open U
def hMapI (u : Ty) (g : u.T → Int) (tl tn ti to : Nat) (keep : List Nat) (s : St) : Option LInv := match listAs s tl u with
  | some xs => some ⟨Nat, fun i => ⟨[tI ti i, (to, .val (.one (.own s.nx)))] ++ keepT (keep ++ [tl, tn]) s.tm, (s.nx, some (.row (.int .i64) ((List.take i xs).map g))) :: lessO s [to], s.nx + 1, s.lr⟩, fun i => i ≤ List.length xs, fun i => List.length xs - i⟩
  | _ => none
def h61 : Hints := ⟨fun f k s => match f, k with
  | 61, 2 => hFirst 0 2 3 s
  | _, _ => none, 0⟩
end Go.Sx
namespace Go.Sx
open U
def sp70 : FSpec := ⟨fun vs => match vs with
  | [.one (.bool b), .one (.int .i64 e)] => some ([], .val (iV (whenE b e)))
  | _ => none, true⟩
def sp87 : FSpec := ⟨fun vs => match vs with
  | [.one (.int .i64 n), .one (.int .i64 lo), .one (.int .i64 hi)] => some ([], .val (iV (within n lo hi)))
  | _ => none, true⟩
def sp61 : FSpec := ⟨fun vs => match vs with
  | [.one (.sl (.int .i64) xs)] => some ([List.length xs ≤ 1000000000], .val (iV (first xs)))
  | _ => none, true⟩
end Go.Sx

namespace Go.Sx
open U
theorem vc70 (b : Bool) (e : Int) : exF (env false [] []) h0 0 70 Proofs.Tryz.f70 [bV b, iV e] (.val (iV (whenE b e))) = (splitB b (e = whenE b e ∧ True) ((0 : Int) = whenE b e ∧ True)) := by
  kernel_rfl
theorem vc87 (n lo hi : Int) : exF (env false [(70, sp70)] []) h0 0 87 Proofs.Tryz.f87 [iV n, iV lo, iV hi] (.val (iV (within n lo hi))) = (whenE (bif decide (n < lo) then true else decide (hi < n)) (3 : Int) = within n lo hi ∧ True) := by
  kernel_rfl
theorem vc61 (xs : List Int) : exF (env false [] []) h61 0 61 Proofs.Tryz.f61 [.one (.sl (.int .i64) xs)] (.val (iV (first xs))) = ((∃ (g : Nat), (g ≤ List.length xs ∧ first xs = first (List.drop g xs)) ∧ (0 : Int) = (↑g : Int) ∧ (0 : Int) = (0 : Int) ∧ xs = xs ∧ True) ∧ ∀ (g : Nat), let q0 := ((0 : Int) ≤ (↑g : Int) ∧ (↑g : Int) < (↑(List.length xs) : Int)); g ≤ List.length xs ∧ first xs = first (List.drop g xs) → splitB (decide ((↑g : Int) < (↑(List.length xs) : Int))) (q0 ∧ splitB (List.getD xs g (0 : Int) != (0 : Int)) (q0 ∧ List.getD xs g (0 : Int) = first xs ∧ True) (fits IntKind.i64 ((↑g : Int) + (1 : Int)) ∧ ∃ (g' : Nat), (g' ≤ List.length xs ∧ first xs = first (List.drop g' xs)) ∧ List.length xs - g' < List.length xs - g ∧ (↑g : Int) + (1 : Int) = (↑g' : Int) ∧ (0 : Int) = (0 : Int) ∧ xs = xs ∧ True)) ((0 : Int) = first xs ∧ True)) := by
  kernel_rfl
end Go.Sx

namespace Go.Sx
open U
theorem bneZ {n : Int} : (n != 0) = true ↔ n ≠ 0 := by simp
theorem bneF {n : Int} : (n != 0) = false ↔ n = 0 := by simp
theorem eqT_key : ∀ {k : Ty}, keyTy k = true → ∀ (x y : k.T), eqT k x y = true ↔ x = y
  | .int _, _, x, y => by simp [eqT]
  | .bool, _, x, y => by simp [eqT]
  | .str, _, x, y => by simp [eqT]
  | .pair a b, hk, x, y => by
    simp only [keyTy, Bool.and_eq_true] at hk
    simp only [eqT, Bool.and_eq_true, eqT_key hk.1, eqT_key hk.2]
    exact ⟨fun h => Prod.ext h.1 h.2, fun h => by rw [h]; exact ⟨rfl, rfl⟩⟩
  | .flt _, hk, _, _ => by simp [keyTy] at hk
  | .cpx _, hk, _, _ => by simp [keyTy] at hk
  | .sl _, hk, _, _ => by simp [keyTy] at hk
  | .arr _ _, hk, _, _ => by simp [keyTy] at hk
theorem bcond_r (a b : Bool) : (bif a then b else false) = (a && b) := by cases a <;> rfl
theorem bcond_l (a b : Bool) : (bif a then true else b) = (a || b) := by cases a <;> rfl
theorem fn70 (b : Bool) (e : Int)  : Fn P1 gl1 70 [bV b, iV e] (.val (iV (whenE b e))) true := by
  refine Fn.flat ?_ rfl
  refine fn_of false [] [] h0 0 Proofs.Tryz.f70 trivial trivial (by kernel_rfl) rfl (by kernel_rfl) rfl rfl rfl ?_
  rw [vc70]
  try simp only [splitB_iff, -eq_self]
  cases b <;> simp [whenE]
theorem so70_ : SpecOk P1 gl1 70 sp70 := by
  intro vs ps r h _
  simp only [sp70] at h
  split at h
  · cases h; exact fn70 _ _ 
  · cases h
theorem so70 : Sp1 70 sp70 := ⟨so70_, Proofs.Tryz.f70, _, by kernel_rfl, rfl, by kernel_rfl⟩
theorem fn87 (n lo hi : Int)  : Fn P1 gl1 87 [iV n, iV lo, iV hi] (.val (iV (within n lo hi))) true := by
  refine Fn.flat ?_ rfl
  refine fn_of false [(70, sp70)] [] h0 0 Proofs.Tryz.f87 ⟨so70, trivial⟩ trivial (by kernel_rfl) rfl (by kernel_rfl) rfl rfl rfl ?_
  rw [vc87]
  try simp only [splitB_iff, -eq_self]
  unfold within
  by_cases h1 : n < lo <;> by_cases h2 : hi < n <;> simp [h1, h2, whenE]
theorem so87_ : SpecOk P1 gl1 87 sp87 := by
  intro vs ps r h _
  simp only [sp87] at h
  split at h
  · cases h; exact fn87 _ _ _ 
  · cases h
theorem so87 : Sp1 87 sp87 := ⟨so87_, Proofs.Tryz.f87, _, by kernel_rfl, rfl, by kernel_rfl⟩
theorem fn61 (xs : List Int) (hl : xs.length ≤ 1000000000) : Fn P1 gl1 61 [.one (.sl (.int .i64) xs)] (.val (iV (first xs))) true := by
  refine Fn.flat ?_ rfl
  refine fn_of false [] [] h61 0 Proofs.Tryz.f61 trivial trivial (by kernel_rfl) rfl (by kernel_rfl) rfl rfl rfl ?_
  rw [vc61]
  try simp only [splitB_iff, -eq_self]
  refine ⟨⟨0, by simp, by simp⟩, fun g hg => ⟨fun hlt => ?_, fun hge => ?_⟩⟩
  · have hlt' : g < xs.length := by simpa using hlt
    rw [getD_of hlt', hg.2, first_drop xs g hlt']
    refine ⟨by omega, fun h => ⟨by omega, ?_⟩, fun h => ⟨by simp only [fits]; omega, g + 1, ⟨by omega, ?_⟩, by omega, by simp⟩⟩
    · rw [if_neg (by simpa using h)]; simp
    · rw [if_pos (by simpa using h)]
  · have hge' : ¬ g < xs.length := by simpa using hge
    rw [hg.2, List.drop_of_length_le (by omega)]
    simp [first]
theorem so61_ : SpecOk P1 gl1 61 sp61 := by
  intro vs ps r h hp
  simp only [sp61] at h
  split at h
  · cases h; exact fn61 _ (hp _ (.head _))
  · cases h
theorem so61 : Sp1 61 sp61 := ⟨so61_, Proofs.Tryz.f61, _, by kernel_rfl, rfl, by kernel_rfl⟩
end Go.Sx

namespace Go.Sx.U
abbrev Rl := List UInt8 × Int × List Int
abbrev Ed := List UInt8 × Int × Int × Int × Int
abbrev Pl := Ed × Int
abbrev Tk := List UInt8 × Int × Int × Int
def r0 : Rl := ([], 0, [])
def e0 : Ed := ([], 0, 0, 0, 0)
def idxN (nm : List UInt8) (R : List Rl) : Nat := R.findIdx fun r => decide (r.1 = nm)
def dupR (R : List Rl) (i : Nat) : Bool := decide (idxN (R.getD i r0).1 (R.take i) < i)
def chkRl (R : List Rl) (i : Nat) : Int := first [checkReel (R.getD i r0).1 (R.getD i r0).2.1 (R.getD i r0).2.2, whenE (dupR R i) 9]
def upTo (f : Nat → Int) : Nat → Int
  | 0 => 0
  | i + 1 => if upTo f i = 0 then f i else upTo f i
def chkRs (R : List Rl) : Int := if 8 < R.length then 5 else upTo (chkRl R) R.length
def begN (L : List Ed) : Nat → Int
  | 0 => 0
  | i + 1 => begN L i + ((L.getD i e0).2.2.1 - (L.getD i e0).2.1)
def plTo (L : List Ed) : Nat → List Pl
  | 0 => []
  | i + 1 => plTo L i ++ [(L.getD i e0, begN L i)]
def mapR (R : List Rl) : Nat → List (List UInt8 × Rl)
  | 0 => []
  | i + 1 => U.mapPut .str (.pair .str (.pair (.int .i64) (.sl (.int .i64)))) (mapR R i) (R.getD i r0).1 (R.getD i r0)
def EdsIn (L : List Ed) : Prop := L.length ≤ 16 ∧ ∀ x ∈ L, 0 ≤ x.2.1 ∧ x.2.1 < x.2.2.1 ∧ x.2.2.1 ≤ 10000000
def lowN (n d : Int) : Int × Int := (n / (Nat.gcd n.toNat d.toNat : Int), d / (Nat.gcd n.toNat d.toNat : Int))
end Go.Sx.U
namespace Go.Sx
open U
abbrev rlT : Ty := .pair .str (.pair (.int .i64) (.sl (.int .i64)))
abbrev edT : Ty := .pair .str (.pair (.int .i64) (.pair (.int .i64) (.pair (.int .i64) (.int .i64))))
abbrev plT : Ty := .pair (.pair .str (.pair (.int .i64) (.pair (.int .i64) (.pair (.int .i64) (.int .i64))))) (.int .i64)
abbrev tkT : Ty := .pair .str (.pair (.int .i64) (.pair (.int .i64) (.int .i64)))
@[reducible] def edV (x : Ed) : V := .agg [.one (.str x.1), .one (.int .i64 x.2.1), .one (.int .i64 x.2.2.1), .one (.int .i64 x.2.2.2.1), .one (.int .i64 x.2.2.2.2)]
@[reducible] def plV (x : Pl) : V := .agg [.one (.str x.1.1), .one (.int .i64 x.1.2.1), .one (.int .i64 x.1.2.2.1), .one (.int .i64 x.1.2.2.2.1), .one (.int .i64 x.1.2.2.2.2), .one (.int .i64 x.2)]
@[reducible] def tkV (x : Tk) : V := .agg [.one (.str x.1), .one (.int .i64 x.2.1), .one (.int .i64 x.2.2.1), .one (.int .i64 x.2.2.2)]
@[reducible] def lsV (p : List Pl) (n : Int) (m : List (List UInt8 × Rl)) : V := .agg [.one (.sl plT p), .one (.int .i64 n), .one (.mp false true .str rlT m)]
def nmOf (s : St) (t : Nat) : Option (List UInt8) := match lookT s.tm t with
  | some (.val (.one (.fn _ [] [(id, _)]))) => match lookO s.ob id with
    | some (.box (.one (.str nm) :: _)) => some nm
    | _ => none
  | _ => none
def hFind (s : St) : Option LInv := match listAs s 6 rlT, nmOf s 1 with
  | some xs, some nm => some ⟨Nat, fun i => s.at [0, 1, 6, 7] [tI 8 i], fun i => i ≤ idxN nm xs, fun i => List.length xs - i⟩
  | _, _ => none
def h24 : Hints := ⟨fun f k s => match f, k with
  | 24, 4 => match listAs s 10 rlT with
    | some xs => some ⟨Nat, fun i => s.at [0, 10, 11] [tI 12 i], fun i => i ≤ List.length xs ∧ upTo (chkRl xs) i = 0, fun i => List.length xs - i⟩
    | _ => none
  | 170, 2 => hFind s
  | _, _ => none, 0⟩
def ownM (s : St) (t : Nat) : Option Nat := match lookT s.tm t with
  | some (.val (.one (.own id))) => some id
  | _ => none
def ptrId (s : St) (t : Nat) : Option Nat := match lookT s.tm t with
  | some (.val (.one (.ptr id 0))) => some id
  | _ => none
def h120 : Hints := ⟨fun f k s => match f, k with
  | 120, 3 => match listAs s 0 rlT, ownM s 10 with
    | some R, some m => some ⟨Nat, fun i => ⟨(14, .val (iV i)) :: keepT [0, 1, 4, 5, 12, 13] s.tm, (m, some (.map false true .str rlT (mapR R i))) :: (liveO [] s.ob).filter (fun x => x.1 != m), s.nx, s.lr⟩, fun i => i ≤ List.length R, fun i => List.length R - i⟩
    | _, _ => none
  | 120, 8 => match listAs s 1 edT, ptrId s 5 with
    | some L, some b => match lookO s.ob b with
      | some (.box [_, _, .one (.own m)]) => some ⟨Nat, fun i => ⟨(26, .val (iV i)) :: keepT [0, 1, 4, 5, 24, 25] s.tm,
          (b, some (.box [.one (.own s.nx), .one (.int .i64 (begN L i)), .one (.own m)])) :: (s.nx, some (.row plT (plTo L i))) :: (liveO [] s.ob).filter (fun x => x.1 != b), s.nx + 1, s.lr⟩, fun i => i ≤ List.length L, fun i => List.length L - i⟩
      | _ => none
    | _, _ => none
  | _, _ => none, 0⟩
def h195 : Hints := ⟨fun f k s => match f, k with
  | 195, 2 => match intOfT s 0, intOfT s 1 with
    | some n, some d => some ⟨Nat × Nat, fun g => s.at [0, 1, 4] [tI 5 g.1, tI 6 g.2], fun g => 0 < g.1 ∧ Nat.gcd g.1 g.2 = Nat.gcd n.toNat d.toNat, fun g => g.2⟩
    | _, _ => none
  | _, _ => none, 0⟩
@[reducible] noncomputable def fb113 : Nat × Func := (113, Proofs.Tryz.f113)
@[reducible] noncomputable def fb114 : Nat × Func := (114, Proofs.Tryz.f114)
@[reducible] noncomputable def fb170 : Nat × Func := (170, Proofs.Tryz.f170)
end Go.Sx
namespace Go.Sx
open U
def sp158 : FSpec := ⟨fun vs => match vs with
  | [.agg [.one (.str _a), .one (.int .i64 b), .one (.int .i64 c), .one (.int .i64 _d), .one (.int .i64 _e)]] => some ([fits .i64 (c - b)], .val (iV (c - b)))
  | _ => none, true⟩
def sp130 : FSpec := ⟨fun vs => match vs with
  | [.agg [.one (.str _a), .one (.int .i64 _b), .one (.int .i64 _c), .one (.int .i64 _d), .one (.int .i64 e), .one (.int .i64 f)]] => some ([fits .i64 (f + e)], .val (iV (f + e)))
  | _ => none, true⟩
def sp195 : FSpec := ⟨fun vs => match vs with
  | [.one (.int .i64 n), .one (.int .i64 d)] => some ([0 < n, 0 < d, n ≤ 1000000 ∧ d ≤ 1000000], .val (.agg [.one (.int .i64 (lowN n d).1), .one (.int .i64 (lowN n d).2)]))
  | _ => none, true⟩
def sp24 : FSpec := ⟨fun vs => match vs with
  | [.one (.sl (.pair .str (.pair (.int .i64) (.sl (.int .i64)))) R)] => some ([List.length R ≤ 1000000000, ∀ r ∈ (show List Rl from R), List.length r.2.2 ≤ 1000000], .val (iV (chkRs R)))
  | _ => none, true⟩
def sp120 : FSpec := ⟨fun vs => match vs with
  | [.one (.sl (.pair .str (.pair (.int .i64) (.sl (.int .i64)))) R), .one (.sl (.pair .str (.pair (.int .i64) (.pair (.int .i64) (.pair (.int .i64) (.int .i64))))) L)] => some ([List.length R ≤ 1000000000, EdsIn L], .val (lsV (plTo L (List.length L)) (begN L (List.length L)) (mapR R (List.length R))))
  | _ => none, false⟩
end Go.Sx

namespace Go.Sx
open U
theorem vc158 (x : Ed) : exF (env false [] []) h0 0 158 Proofs.Tryz.f158 [edV x] (.val (iV (x.2.2.1 - x.2.1))) = (fits IntKind.i64 (Prod.fst (Prod.snd (Prod.snd x)) - Prod.fst (Prod.snd x)) ∧ Prod.fst (Prod.snd (Prod.snd x)) - Prod.fst (Prod.snd x) = Prod.fst (Prod.snd (Prod.snd x)) - Prod.fst (Prod.snd x) ∧ True) := by
  kernel_rfl
theorem vc130 (x : Pl) : exF (env false [] []) h0 0 130 Proofs.Tryz.f130 [plV x] (.val (iV (x.2 + x.1.2.2.2.2))) = (fits IntKind.i64 (Prod.snd x + Prod.snd (Prod.snd (Prod.snd (Prod.snd (Prod.fst x))))) ∧ Prod.snd x + Prod.snd (Prod.snd (Prod.snd (Prod.snd (Prod.fst x)))) = Prod.snd x + Prod.snd (Prod.snd (Prod.snd (Prod.snd (Prod.fst x)))) ∧ True) := by
  kernel_rfl
theorem vc195 (n d : Int) : exF (env false [] []) h195 0 195 Proofs.Tryz.f195 [iV n, iV d] (.val (.agg [.one (.int .i64 (lowN n d).1), .one (.int .i64 (lowN n d).2)])) = ((∃ (g : Nat × Nat), ((0 : Nat) < g.1 ∧ Nat.gcd g.1 g.2 = Nat.gcd (Int.toNat n) (Int.toNat d)) ∧ n = (↑g.1 : Int) ∧ d = (↑g.2 : Int) ∧ n = n ∧ d = d ∧ (0 : Int) = (0 : Int) ∧ (0 : Int) = (0 : Int) ∧ True) ∧ ∀ (g : Nat × Nat), (0 : Nat) < g.1 ∧ Nat.gcd g.1 g.2 = Nat.gcd (Int.toNat n) (Int.toNat d) → splitB ((↑g.2 : Int) != (0 : Int)) (((0 : Int) ≤ (↑g.1 : Int) ∧ (0 : Int) < (↑g.2 : Int)) ∧ ∃ (g' : Nat × Nat), ((0 : Nat) < g'.1 ∧ Nat.gcd g'.1 g'.2 = Nat.gcd (Int.toNat n) (Int.toNat d)) ∧ g'.2 < g.2 ∧ (↑g.2 : Int) = (↑g'.1 : Int) ∧ (↑g.1 : Int) % (↑g.2 : Int) = (↑g'.2 : Int) ∧ n = n ∧ d = d ∧ (0 : Int) = (0 : Int) ∧ (0 : Int) = (0 : Int) ∧ True) (((0 : Int) ≤ n ∧ (0 : Int) < (↑g.1 : Int) ∧ fits IntKind.i64 (n / (↑g.1 : Int))) ∧ ((0 : Int) ≤ d ∧ (0 : Int) < (↑g.1 : Int) ∧ fits IntKind.i64 (d / (↑g.1 : Int))) ∧ n / (↑g.1 : Int) = (lowN n d).1 ∧ d / (↑g.1 : Int) = (lowN n d).2 ∧ True)) := by
  kernel_rfl
theorem vc24 (R : List Rl) : exF (env false [(23, sp23), (107, sp107), (106, sp106)] [fb113, fb114, fb170]) h24 3 24 Proofs.Tryz.f24 [.one (.sl rlT R)] (.val (iV (chkRs R))) = (let q1 := (↑(List.length R) : Int); splitB (decide ((8 : Int) < q1)) ((5 : Int) = chkRs R ∧ True) ((∃ (g : Nat), (g ≤ List.length R ∧ upTo (chkRl R) g = (0 : Int)) ∧ (0 : Int) = (↑g : Int) ∧ q1 = q1 ∧ R = R ∧ R = R ∧ True) ∧ ∀ (g : Nat), let q0 := (List.getD R g ([], (0 : Int), [])); let q3 := (List.take g R); let q2 := (↑(List.length q3) : Int); g ≤ List.length R ∧ upTo (chkRl R) g = (0 : Int) → splitB (decide ((↑g : Int) < q1)) (((0 : Int) ≤ (↑g : Int) ∧ (↑g : Int) < q1) ∧ ((0 : Int) ≤ (0 : Int) ∧ (0 : Int) ≤ (↑g : Int) ∧ (↑g : Int) ≤ q1) ∧ (∃ (g_1 : Nat), Nat.le g_1 (idxN q0.1 q3) ∧ (0 : Int) = (↑g_1 : Int) ∧ q2 = q2 ∧ List.take g R = List.take g R ∧ List.take g R = List.take g R ∧ q0.1 = q0.1 ∧ q0.2.1 = q0.2.1 ∧ q0.2.2 = q0.2.2 ∧ True) ∧ ∀ (g_1 : Nat), Nat.le g_1 (idxN q0.1 q3) → splitB (decide ((↑g_1 : Int) < q2)) (((0 : Int) ≤ (↑g_1 : Int) ∧ (↑g_1 : Int) < q2) ∧ splitB ((List.getD q3 g_1 ([], (0 : Int), [])).1 == q0.1) (List.length q0.2.2 ≤ (1000000 : Nat) ∧ (2 : Nat) ≤ (1000000000 : Nat) ∧ splitB (first [checkReel q0.1 q0.2.1 q0.2.2, whenE (decide ((0 : Int) ≤ (↑g_1 : Int))) (9 : Int)] != (0 : Int)) (first [checkReel q0.1 q0.2.1 q0.2.2, whenE (decide ((0 : Int) ≤ (↑g_1 : Int))) (9 : Int)] = chkRs R ∧ True) (fits IntKind.i64 ((↑g : Int) + (1 : Int)) ∧ ∃ (g' : Nat), (g' ≤ List.length R ∧ upTo (chkRl R) g' = (0 : Int)) ∧ List.length R - g' < List.length R - g ∧ (↑g : Int) + (1 : Int) = (↑g' : Int) ∧ q1 = q1 ∧ R = R ∧ R = R ∧ True)) (fits IntKind.i64 ((↑g_1 : Int) + (1 : Int)) ∧ ∃ (g' : Nat), Nat.le g' (idxN q0.1 q3) ∧ List.length q3 - g' < List.length q3 - g_1 ∧ (↑g_1 : Int) + (1 : Int) = (↑g' : Int) ∧ q2 = q2 ∧ List.take g R = List.take g R ∧ List.take g R = List.take g R ∧ q0.1 = q0.1 ∧ q0.2.1 = q0.2.1 ∧ q0.2.2 = q0.2.2 ∧ True)) (List.length q0.2.2 ≤ (1000000 : Nat) ∧ (2 : Nat) ≤ (1000000000 : Nat) ∧ splitB (first [checkReel q0.1 q0.2.1 q0.2.2, whenE (decide ((0 : Int) ≤ (-1 : Int))) (9 : Int)] != (0 : Int)) (first [checkReel q0.1 q0.2.1 q0.2.2, whenE (decide ((0 : Int) ≤ (-1 : Int))) (9 : Int)] = chkRs R ∧ True) (fits IntKind.i64 ((↑g : Int) + (1 : Int)) ∧ ∃ (g' : Nat), (g' ≤ List.length R ∧ upTo (chkRl R) g' = (0 : Int)) ∧ List.length R - g' < List.length R - g ∧ (↑g : Int) + (1 : Int) = (↑g' : Int) ∧ q1 = q1 ∧ R = R ∧ R = R ∧ True))) ((0 : Int) = chkRs R ∧ True))) := by
  kernel_rfl
theorem vc120 (R : List Rl) (L : List Ed) : exF (env false [(158, sp158)] []) h120 0 120 Proofs.Tryz.f120 [.one (.sl rlT R), .one (.sl edT L)] (.val (lsV (plTo L L.length) (begN L L.length) (mapR R R.length))) = (let q1 := (List.length L); let q4 := (List.length R); let q2 := (↑q4 : Int); (∃ (g : Nat), Nat.le g q4 ∧ (0 : Int) = (↑g : Int) ∧ q2 = q2 ∧ R = R ∧ R = R ∧ L = L ∧ [] = mapR R g ∧ (0 : Int) = (0 : Int) ∧ (0 : Int) = (0 : Int) ∧ True) ∧ ∀ (g : Nat), let q3 := (List.getD R g ([], (0 : Int), [])); Nat.le g q4 → splitB (decide ((↑g : Int) < q2)) (((0 : Int) ≤ (↑g : Int) ∧ (↑g : Int) < q2) ∧ fits IntKind.i64 ((↑g : Int) + (1 : Int)) ∧ ∃ (g' : Nat), Nat.le g' q4 ∧ List.length R - g' < List.length R - g ∧ (↑g : Int) + (1 : Int) = (↑g' : Int) ∧ q2 = q2 ∧ R = R ∧ R = R ∧ L = L ∧ mapPut Ty.str (Ty.pair Ty.str (Ty.pair (Ty.int IntKind.i64) (Ty.sl (Ty.int IntKind.i64)))) (mapR R g) q3.1 (q3.1, q3.2.1, q3.2.2) = mapR R g' ∧ (0 : Int) = (0 : Int) ∧ (0 : Int) = (0 : Int) ∧ True) ((∃ (g_1 : Nat), Nat.le g_1 q1 ∧ (0 : Int) = (↑g_1 : Int) ∧ (↑q1 : Int) = (↑q1 : Int) ∧ L = L ∧ R = R ∧ L = L ∧ (0 : Int) = begN L g_1 ∧ plTo L g_1 = [] ∧ mapR R g = mapR R g ∧ (0 : Int) = (0 : Int) ∧ True) ∧ ∀ (g_1 : Nat), let q0 := (List.getD L g_1 ([], (0 : Int), (0 : Int), (0 : Int), (0 : Int))); Nat.le g_1 q1 → splitB (decide ((↑g_1 : Int) < (↑q1 : Int))) (((0 : Int) ≤ (↑g_1 : Int) ∧ (↑g_1 : Int) < (↑q1 : Int)) ∧ room (List.length (plTo L g_1) + (1 : Nat)) (56 : Nat) ∧ fits IntKind.i64 (q0.2.2.1 - q0.2.1) ∧ fits IntKind.i64 (begN L g_1 + (q0.2.2.1 - q0.2.1)) ∧ fits IntKind.i64 ((↑g_1 : Int) + (1 : Int)) ∧ ∃ (g' : Nat), Nat.le g' q1 ∧ List.length L - g' < List.length L - g_1 ∧ (↑g_1 : Int) + (1 : Int) = (↑g' : Int) ∧ (↑q1 : Int) = (↑q1 : Int) ∧ L = L ∧ R = R ∧ L = L ∧ begN L g_1 + (q0.2.2.1 - q0.2.1) = begN L g' ∧ plTo L g_1 ++ [((q0.1, q0.2.1, q0.2.2.1, q0.2.2.2.1, q0.2.2.2.2), begN L g_1)] = plTo L g' ∧ mapR R g = mapR R g ∧ (0 : Int) = (0 : Int) ∧ True) (plTo L g_1 = plTo L q1 ∧ begN L g_1 = begN L q1 ∧ mapR R g = mapR R q4 ∧ True))) := by
  kernel_rfl
end Go.Sx

namespace Go.Sx
open U
theorem upTo_stay {f : Nat → Int} {i : Nat} (h : upTo f i ≠ 0) : ∀ k, upTo f (i + k) = upTo f i
  | 0 => rfl
  | k + 1 => by
    have ih := upTo_stay h k
    rw [← Nat.add_assoc]
    show (if upTo f (i + k) = 0 then _ else _) = _
    rw [ih, if_neg h]
theorem idxN_at {nm : List UInt8} {R : List Rl} {j : Nat} {d : Rl} (h : j < R.length) (hn : (R.getD j d).1 = nm) : idxN nm R ≤ j := by
  apply Nat.le_of_not_lt
  intro hlt
  have := List.not_of_lt_findIdx hlt
  rw [getD_of h] at hn
  simp [hn] at this
theorem idxN_next {nm : List UInt8} {R : List Rl} {j : Nat} {d : Rl} (hj : j ≤ idxN nm R) (h : j < R.length) (hn : (R.getD j d).1 ≠ nm) : j + 1 ≤ idxN nm R := by
  apply Classical.byContradiction
  intro hc
  have e : idxN nm R = j := by omega
  have hlt : R.findIdx (fun r => decide (r.1 = nm)) < R.length := by show idxN nm R < _; omega
  have h2 := List.findIdx_getElem (w := hlt)
  simp only [decide_eq_true_eq] at h2
  apply hn
  rw [getD_of h, ← h2]
  have e' : R.findIdx (fun r => decide (r.1 = nm)) = j := e
  simp only [e']
theorem getD_mem {α : Type} {l : List α} {i : Nat} {d : α} (h : i < l.length) : l.getD i d ∈ l := by
  rw [getD_of h]
  exact List.getElem_mem h
theorem plTo_len (L : List Ed) : ∀ i, (plTo L i).length = i
  | 0 => rfl
  | i + 1 => by simp [plTo, plTo_len L i]
theorem begN_bd {L : List Ed} (h : EdsIn L) : ∀ i, i ≤ L.length → (i : Int) ≤ begN L i ∧ begN L i ≤ 10000000 * i
  | 0, _ => by simp [begN]
  | i + 1, hi => by
    have ih := begN_bd h i (by omega)
    have := h.2 _ (getD_mem (d := e0) (show i < L.length by omega))
    simp only [begN]
    omega
theorem fn158 (x : Ed) (h : fits .i64 (x.2.2.1 - x.2.1)) : Fn P1 gl1 158 [edV x] (.val (iV (x.2.2.1 - x.2.1))) true := by
  refine Fn.flat ?_ rfl
  refine fn_of false [] [] h0 0 Proofs.Tryz.f158 trivial trivial (by kernel_rfl) rfl (by kernel_rfl) rfl rfl rfl ?_
  rw [vc158]
  try simp only [splitB_iff, -eq_self]
  exact ⟨h, rfl, trivial⟩
theorem so158_ : SpecOk P1 gl1 158 sp158 := by
  intro vs ps r h hp
  simp only [sp158] at h
  split at h
  · cases h; exact fn158 (_, _, _, _, _) (hp _ (.head _))
  · cases h
theorem so158 : Sp1 158 sp158 := ⟨so158_, Proofs.Tryz.f158, _, by kernel_rfl, rfl, by kernel_rfl⟩
theorem fn130 (x : Pl) (h : fits .i64 (x.2 + x.1.2.2.2.2)) : Fn P1 gl1 130 [plV x] (.val (iV (x.2 + x.1.2.2.2.2))) true := by
  refine Fn.flat ?_ rfl
  refine fn_of false [] [] h0 0 Proofs.Tryz.f130 trivial trivial (by kernel_rfl) rfl (by kernel_rfl) rfl rfl rfl ?_
  rw [vc130]
  try simp only [splitB_iff, -eq_self]
  exact ⟨h, rfl, trivial⟩
theorem so130_ : SpecOk P1 gl1 130 sp130 := by
  intro vs ps r h hp
  simp only [sp130] at h
  split at h
  · cases h; exact fn130 ((_, _, _, _, _), _) (hp _ (.head _))
  · cases h
theorem so130 : Sp1 130 sp130 := ⟨so130_, Proofs.Tryz.f130, _, by kernel_rfl, rfl, by kernel_rfl⟩
theorem fn195 (n d : Int) (hn : 0 < n) (hd : 0 < d) (hf : n ≤ 1000000 ∧ d ≤ 1000000) : Fn P1 gl1 195 [iV n, iV d] (.val (.agg [.one (.int .i64 (lowN n d).1), .one (.int .i64 (lowN n d).2)])) true := by
  refine Fn.flat ?_ rfl
  refine fn_of false [] [] h195 0 Proofs.Tryz.f195 trivial trivial (by kernel_rfl) rfl (by kernel_rfl) rfl rfl rfl ?_
  rw [vc195]
  try simp only [splitB_iff, -eq_self]
  refine ⟨⟨(n.toNat, d.toNat), ⟨by dsimp only; omega, rfl⟩, by dsimp only; omega, by dsimp only; omega, rfl, rfl, rfl, rfl, trivial⟩, fun g hg => ⟨fun h => ?_, fun h => ?_⟩⟩
  · have h' : g.2 ≠ 0 := by simpa using h
    refine ⟨⟨by omega, by omega⟩, (g.2, g.1 % g.2), ⟨by dsimp only; omega, ?_⟩, by dsimp only; exact Nat.mod_lt _ (by omega), rfl, by dsimp only; omega, rfl, rfl, rfl, rfl, trivial⟩
    dsimp only
    rw [Nat.gcd_comm, ← Nat.gcd_rec, Nat.gcd_comm]
    exact hg.2
  · have h' : g.2 = 0 := by simpa using h
    have hg2 := hg.2
    rw [h', Nat.gcd_zero_right] at hg2
    have e : ((g.1 : Nat) : Int) = (Nat.gcd n.toNat d.toNat : Int) := by rw [hg2]
    have hpos : (0 : Int) < (Nat.gcd n.toNat d.toNat : Int) := by omega
    unfold lowN
    rw [e]
    have b1 := Int.ediv_nonneg (a := n) (b := (Nat.gcd n.toNat d.toNat : Int)) (by omega) (by omega)
    have b2 := Int.ediv_le_self (a := n) (Nat.gcd n.toNat d.toNat : Int) (by omega)
    have b3 := Int.ediv_nonneg (a := d) (b := (Nat.gcd n.toNat d.toNat : Int)) (by omega) (by omega)
    have b4 := Int.ediv_le_self (a := d) (Nat.gcd n.toNat d.toNat : Int) (by omega)
    exact ⟨⟨by omega, hpos, by simp only [fits]; omega⟩, ⟨by omega, hpos, by simp only [fits]; omega⟩, rfl, rfl, trivial⟩
theorem so195_ : SpecOk P1 gl1 195 sp195 := by
  intro vs ps r h hp
  simp only [sp195] at h
  split at h
  · cases h; exact fn195 _ _ (hp _ (.head _)) (hp _ (.tail _ (.head _))) (hp _ (.tail _ (.tail _ (.head _))))
  · cases h
theorem so195 : Sp1 195 sp195 := ⟨so195_, Proofs.Tryz.f195, _, by kernel_rfl, rfl, by kernel_rfl⟩
theorem fn24 (R : List Rl) (hl : R.length ≤ 1000000000) (hR : ∀ r ∈ R, r.2.2.length ≤ 1000000) : Fn P1 gl1 24 [.one (.sl rlT R)] (.val (iV (chkRs R))) true := by
  refine Fn.flat ?_ rfl
  refine fn_of false [(23, sp23), (107, sp107), (106, sp106)] [fb113, fb114, fb170] h24 3 Proofs.Tryz.f24 ⟨so23, so107, so106, trivial⟩ ⟨⟨by kernel_rfl, by kernel_rfl, _, rfl, by kernel_rfl⟩, ⟨by kernel_rfl, by kernel_rfl, _, rfl, by kernel_rfl⟩, ⟨by kernel_rfl, by kernel_rfl, _, rfl, by kernel_rfl⟩, trivial⟩ (by kernel_rfl) rfl (by kernel_rfl) rfl rfl rfl ?_
  rw [vc24]
  try simp only [splitB_iff, -eq_self]
  constructor
  · intro h
    have h8 : 8 < R.length := by have : (8 : Int) < (R.length : Int) := by simpa using h
                                 omega
    unfold chkRs
    rw [if_pos h8]
    exact ⟨rfl, trivial⟩
  · intro h
    have h8 : ¬ 8 < R.length := by have : ¬ (8 : Int) < (R.length : Int) := by simpa using h
                                   omega
    have hc : chkRs R = upTo (chkRl R) R.length := by unfold chkRs; rw [if_neg h8]
    rw [hc]
    refine ⟨⟨0, ⟨Nat.zero_le _, rfl⟩, rfl, rfl, rfl, rfl, trivial⟩, fun g hg => ⟨fun hlt => ?_, fun hge => ?_⟩⟩
    · have hlt' : g < R.length := by simpa using hlt
      have hT : (R.take g).length = g := by rw [List.length_take]; omega
      have fin : ∀ e : Int, e = chkRl R g → ((e != 0) = true → e = upTo (chkRl R) R.length ∧ True) ∧ ((e != 0) = false → fits .i64 ((g : Int) + 1) ∧ ∃ g', (g' ≤ R.length ∧ upTo (chkRl R) g' = 0) ∧ R.length - g' < R.length - g ∧ (g : Int) + 1 = (g' : Int) ∧ (R.length : Int) = (R.length : Int) ∧ R = R ∧ R = R ∧ True) := by
        rintro e rfl
        have h1 : upTo (chkRl R) (g + 1) = chkRl R g := by
          show (if upTo (chkRl R) g = 0 then _ else _) = _
          rw [if_pos hg.2]
        refine ⟨fun h => ⟨?_, trivial⟩, fun h => ⟨by simp only [fits]; omega, g + 1, ⟨hlt', ?_⟩, by omega, by simp, rfl, rfl, rfl, trivial⟩⟩
        · have hne : upTo (chkRl R) (g + 1) ≠ 0 := by rw [h1]; simpa using h
          have := upTo_stay hne (R.length - (g + 1))
          rw [show g + 1 + (R.length - (g + 1)) = R.length by omega, h1] at this
          exact this.symm
        · rw [h1]; simpa using h
      have hRg : (R.getD g ([], 0, [])).2.2.length ≤ 1000000 := hR _ (getD_mem hlt')
      refine ⟨by omega, by omega, ⟨0, Nat.zero_le _, rfl, rfl, rfl, rfl, rfl, rfl, rfl, trivial⟩, fun j hj => ⟨fun hjl => ?_, fun hjg => ?_⟩⟩
      · have hjl' : j < (R.take g).length := by simpa using hjl
        refine ⟨by omega, fun hq => ⟨hRg, by decide, fin _ ?_⟩, fun hq => ⟨by simp only [fits]; omega, j + 1, ?_, by omega, by simp, rfl, rfl, rfl, rfl, rfl, rfl, trivial⟩⟩
        · have := idxN_at hjl' (by simpa using hq)
          unfold chkRl dupR
          have hd : decide (idxN (R.getD g r0).1 (R.take g) < g) = true := by
            rw [decide_eq_true_eq]
            have : idxN (R.getD g r0).1 (R.take g) ≤ j := this
            omega
          have h0 : decide ((0 : Int) ≤ (j : Int)) = true := by simp
          rw [hd, h0]
          rfl
        · exact idxN_next hj hjl' (by simpa using hq)
      · have hjg' : ¬ j < (R.take g).length := by simpa using hjg
        refine ⟨hRg, by decide, fin _ ?_⟩
        unfold chkRl dupR
        have hj' : j ≤ idxN (R.getD g r0).1 (R.take g) := hj
        have hd : decide (idxN (R.getD g r0).1 (R.take g) < g) = false := by
          rw [decide_eq_false_iff_not]
          omega
        rw [hd]
        rfl
    · have hge' : ¬ g < R.length := by simpa using hge
      have : g = R.length := by omega
      rw [← this, hg.2]
      exact ⟨rfl, trivial⟩
theorem so24_ : SpecOk P1 gl1 24 sp24 := by
  intro vs ps r h hp
  simp only [sp24] at h
  split at h
  · cases h; exact fn24 _ (hp _ (.head _)) (hp _ (.tail _ (.head _)))
  · cases h
theorem so24 : Sp1 24 sp24 := ⟨so24_, Proofs.Tryz.f24, _, by kernel_rfl, rfl, by kernel_rfl⟩
theorem fn120 (R : List Rl) (L : List Ed) (hl : R.length ≤ 1000000000) (hL : EdsIn L) : Fn P1 gl1 120 [.one (.sl rlT R), .one (.sl edT L)] (.val (lsV (plTo L L.length) (begN L L.length) (mapR R R.length))) false := by
  refine fn_of false [(158, sp158)] [] h120 0 Proofs.Tryz.f120 ⟨so158, trivial⟩ trivial (by kernel_rfl) rfl (by kernel_rfl) rfl rfl rfl ?_
  rw [vc120]
  try simp only [splitB_iff, -eq_self]
  refine ⟨⟨0, Nat.zero_le _, rfl, rfl, rfl, rfl, rfl, rfl, rfl, rfl, trivial⟩, fun g hg => ⟨fun hlt => ?_, fun hge => ?_⟩⟩
  · have hlt' : g < R.length := by simpa using hlt
    exact ⟨by omega, by simp only [fits]; omega, g + 1, hlt', by omega, by simp, rfl, rfl, rfl, rfl, rfl, rfl, rfl, trivial⟩
  · have hge' : ¬ g < R.length := by simpa using hge
    have hgR : g = R.length := by have : g ≤ R.length := hg; omega
    subst hgR
    refine ⟨⟨0, Nat.zero_le _, rfl, rfl, rfl, rfl, rfl, rfl, rfl, rfl, rfl, trivial⟩, fun i hi => ⟨fun hlt => ?_, fun hge => ?_⟩⟩
    · have hlt' : i < L.length := by simpa using hlt
      have h16 := hL.1
      have hb := begN_bd hL i (by omega)
      have hb2 := begN_bd hL (i + 1) hlt'
      have hx := hL.2 _ (getD_mem (d := e0) hlt')
      have e2 : begN L (i + 1) = begN L i + ((L.getD i e0).2.2.1 - (L.getD i e0).2.1) := rfl
      refine ⟨by omega, by simp only [room, plTo_len]; omega, ?_, ?_, by simp only [fits]; omega, i + 1, hlt', by omega, by simp, rfl, rfl, rfl, rfl, rfl, rfl, rfl, rfl, trivial⟩
      · show fits .i64 ((L.getD i e0).2.2.1 - (L.getD i e0).2.1)
        simp only [fits]; omega
      · show fits .i64 (begN L i + ((L.getD i e0).2.2.1 - (L.getD i e0).2.1))
        rw [← e2]
        simp only [fits]; omega
    · have hge' : ¬ i < L.length := by simpa using hge
      have hiL : i = L.length := by have : i ≤ L.length := hi; omega
      subst hiL
      exact ⟨rfl, rfl, rfl, trivial⟩
theorem so120_ : SpecOk P1 gl1 120 sp120 := by
  intro vs ps r h hp
  simp only [sp120] at h
  split at h
  · cases h; exact fn120 _ _ (hp _ (.head _)) (hp _ (.tail _ (.head _)))
  · cases h
theorem so120 : Sp1 120 sp120 := ⟨so120_, Proofs.Tryz.f120, _, by kernel_rfl, rfl, by kernel_rfl⟩
end Go.Sx

namespace Go.Sx.U
def pl0 : Pl := (([], 0, 0, 0, 0), 0)
def rlOf (R : List Rl) (nm : List UInt8) : Rl := R.getD (idxN nm R) r0
def endR (r : Rl) : Int := r.2.1 + (r.2.2.length : Int)
def prs (x : Ed) : Int := first [within x.2.2.2.1 0 (x.2.2.1 - x.2.1), within x.2.2.2.2 (-100) 100]
def chkE (R : List Rl) (x : Ed) (b : Option Ed) : Int :=
  if R.length ≤ idxN x.1 R then 10 else
  if x.2.2.1 ≤ x.2.1 ∨ x.2.1 < (rlOf R x.1).2.1 ∨ endR (rlOf R x.1) < x.2.2.1 then 14 else
  if prs x ≠ 0 then prs x else
  match b with
  | none => whenE (decide (x ≠ (x.1, x.2.1, x.2.2.1, 0, 0))) 21
  | some b => whenE (decide (endR (rlOf R b.1) < b.2.2.1 + x.2.2.2.1)) 16
def chkEd (R : List Rl) (L : List Ed) (i : Nat) : Int := chkE R (L.getD i e0) (if i = 0 then none else some (L.getD (i - 1) e0))
def sndN (x : Pl) : Int := x.2 + x.1.2.2.2.2
def begP (x : Pl) : Int := x.2
def heardN (p : List Pl) (n : Int) (i : Nat) : Int × Int := (sndN (p.getD i pl0), if i + 1 < p.length then sndN (p.getD (i + 1) pl0) else n)
def lastTo (g : Pl → Int) (p : List Pl) (fr : Int) : Nat → Nat
  | 0 => 0
  | i + 1 => if g (p.getD i pl0) ≤ fr then i else lastTo g p fr i
def soundN (p : List Pl) (fr : Int) : Tk := ((p.getD (lastTo sndN p fr p.length) pl0).1.1, (p.getD (lastTo sndN p fr p.length) pl0).1.2.1 + fr - (p.getD (lastTo sndN p fr p.length) pl0).2, 1, 1)
def takesE (x b : Ed) (j : Int) : List Tk :=
  if x.2.2.2.1 ≤ j then [(x.1, x.2.1 + j, 1, 1)] else
  [(b.1, b.2.2.1 + j, lowN (x.2.2.2.1 - j) (x.2.2.2.1 + 1)), (x.1, x.2.1 + j, lowN (j + 1) (x.2.2.2.1 + 1))]
def takesN (p : List Pl) (fr : Int) : List Tk :=
  takesE (p.getD (lastTo begP p fr p.length) pl0).1 (p.getD (lastTo begP p fr p.length - 1) pl0).1 (fr - (p.getD (lastTo begP p fr p.length) pl0).2)
def PlsOk (p : List Pl) : Prop := 0 < p.length ∧ p.length ≤ 16 ∧ (∀ x ∈ p, (0 ≤ x.1.2.1 ∧ x.1.2.1 ≤ 10000000) ∧ (0 ≤ x.1.2.2.1 ∧ x.1.2.2.1 ≤ 10000000) ∧ (0 ≤ x.1.2.2.2.1 ∧ x.1.2.2.2.1 ≤ 100000) ∧ (-100 ≤ x.1.2.2.2.2 ∧ x.1.2.2.2.2 ≤ 100) ∧ (0 ≤ x.2 ∧ x.2 ≤ 100000)) ∧ (p.getD 0 pl0).2 = 0 ∧ (p.getD 0 pl0).1.2.2.2.1 = 0
end Go.Sx.U
namespace Go.Sx
open U
def h129 : Hints := ⟨fun f k s => match f, k with
  | 170, 2 => hFind s
  | _, _ => none, 0⟩
def hLast (s : St) : Option LInv := match listAs s 11 plT, intOfT s 1, lookT s.tm 2 with
  | some p, some fr, some (.val (.one (.fn 194 [] []))) => some ⟨Nat, fun i => s.at [0, 1, 2, 3, 11, 12] [tI 13 i, tI 7 (lastTo begP p fr i)], fun i => i ≤ List.length p, fun i => List.length p - i⟩
  | some p, some fr, some (.val (.one (.fn 130 [] []))) => some ⟨Nat, fun i => s.at [0, 1, 2, 3, 11, 12] [tI 13 i, tI 7 (lastTo sndN p fr i)], fun i => i ≤ List.length p, fun i => List.length p - i⟩
  | _, _, _ => none
def hLastH : Hints := ⟨fun f k s => match f, k with
  | 175, 3 => hLast s
  | _, _ => none, 0⟩
@[reducible] noncomputable def fb178 : Nat × Func := (178, Proofs.Tryz.f178)
@[reducible] noncomputable def fb194 : Nat × Func := (194, Proofs.Tryz.f194)
def sp175 : FSpec := ⟨fun vs => match vs with
  | [.agg [.one (.sl (.pair (.pair .str (.pair (.int .i64) (.pair (.int .i64) (.pair (.int .i64) (.int .i64))))) (.int .i64)) p), .one (.int .i64 _), .one (.mp false true .str (.pair .str (.pair (.int .i64) (.sl (.int .i64)))) _)], .one (.int .i64 fr), .one (.fn g [] [])] =>
    if g = 194 then some ([List.length p ≤ 1000000], .val (iV (lastTo begP p fr (List.length p)))) else
    if g = 130 then some ([List.length p ≤ 1000000, ∀ x ∈ (show List Pl from p), fits .i64 (sndN x)], .val (iV (lastTo sndN p fr (List.length p)))) else none
  | _ => none, true⟩
def sp129 : FSpec := ⟨fun vs => match vs with
  | [.one (.sl (.pair .str (.pair (.int .i64) (.sl (.int .i64)))) R), .one (.sl (.pair .str (.pair (.int .i64) (.pair (.int .i64) (.pair (.int .i64) (.int .i64))))) L), .one (.int .i64 i)] =>
    some ([chkRs R = 0, ((Int.toNat i : Nat) : Int) = i, Int.toNat i < List.length L, List.length L ≤ 1000000, 0 < Int.toNat i → chkEd R L (Int.toNat i - 1) = 0], .val (iV (chkEd R L (Int.toNat i))))
  | _ => none, true⟩
def sp131 : FSpec := ⟨fun vs => match vs with
  | [.agg [.one (.sl (.pair (.pair .str (.pair (.int .i64) (.pair (.int .i64) (.pair (.int .i64) (.int .i64))))) (.int .i64)) p), .one (.int .i64 n), .one (.mp false true .str (.pair .str (.pair (.int .i64) (.sl (.int .i64)))) _)], .one (.int .i64 i)] =>
    some ([((Int.toNat i : Nat) : Int) = i, Int.toNat i < List.length p, ∀ x ∈ (show List Pl from p), fits .i64 (sndN x), List.length p ≤ 1000000], .val (.agg [.one (.int .i64 (heardN p n (Int.toNat i)).1), .one (.int .i64 (heardN p n (Int.toNat i)).2)]))
  | _ => none, true⟩
def sp124 : FSpec := ⟨fun vs => match vs with
  | [.agg [.one (.sl (.pair (.pair .str (.pair (.int .i64) (.pair (.int .i64) (.pair (.int .i64) (.int .i64))))) (.int .i64)) p), .one (.int .i64 _), .one (.mp false true .str (.pair .str (.pair (.int .i64) (.sl (.int .i64)))) _)], .one (.int .i64 fr)] =>
    some ([PlsOk p, 0 ≤ fr ∧ fr ≤ 100000], .val (tkV (soundN p fr)))
  | _ => none, true⟩
def sp155 : FSpec := ⟨fun vs => match vs with
  | [.agg [.one (.sl (.pair (.pair .str (.pair (.int .i64) (.pair (.int .i64) (.pair (.int .i64) (.int .i64))))) (.int .i64)) p), .one (.int .i64 _), .one (.mp false true .str (.pair .str (.pair (.int .i64) (.sl (.int .i64)))) _)], .one (.int .i64 fr)] =>
    some ([PlsOk p, 0 ≤ fr ∧ fr ≤ 100000], .val (.one (.sl tkT (takesN p fr))))
  | _ => none, false⟩
end Go.Sx
namespace Go.Sx
open U
def sp177 : FSpec := ⟨fun vs => match vs with
  | [.one (.str nm), .one (.ref (.sl (.pair .str (.pair (.int .i64) (.sl (.int .i64))))) R)] => some ([List.length (show List Rl from R) ≤ 1000000000], .val (iV (if idxN nm R < List.length (show List Rl from R) then (idxN nm R : Int) else -1)))
  | _ => none, true⟩
end Go.Sx

namespace Go.Sx
open U
theorem vc175 (p : List Pl) (n : Int) (m : List (List UInt8 × Rl)) (fr : Int) : exF (env false [] [fb194]) hLastH 3 175 Proofs.Tryz.f175 [lsV p n m, iV fr, .one (.fn 194 [] [])] (.val (iV (lastTo begP p fr p.length))) = (let q1 := (List.length p); let q0 := (↑q1 : Int); (∃ (g : Nat), Nat.le g q1 ∧ (0 : Int) = (↑g : Int) ∧ (0 : Int) = (↑(lastTo begP p fr g) : Int) ∧ q0 = q0 ∧ p = p ∧ p = p ∧ n = n ∧ m = m ∧ fr = fr ∧ p = p ∧ n = n ∧ m = m ∧ True) ∧ ∀ (g : Nat), Nat.le g q1 → splitB (decide ((↑g : Int) < q0)) (((0 : Int) ≤ (↑g : Int) ∧ (↑g : Int) < q0) ∧ splitB (decide ((List.getD p g (([], (0 : Int), (0 : Int), (0 : Int), (0 : Int)), (0 : Int))).2 ≤ fr)) (fits IntKind.i64 ((↑g : Int) + (1 : Int)) ∧ ∃ (g' : Nat), Nat.le g' q1 ∧ List.length p - g' < List.length p - g ∧ (↑g : Int) + (1 : Int) = (↑g' : Int) ∧ (↑g : Int) = (↑(lastTo begP p fr g') : Int) ∧ q0 = q0 ∧ p = p ∧ p = p ∧ n = n ∧ m = m ∧ fr = fr ∧ p = p ∧ n = n ∧ m = m ∧ True) (fits IntKind.i64 ((↑g : Int) + (1 : Int)) ∧ ∃ (g' : Nat), Nat.le g' q1 ∧ List.length p - g' < List.length p - g ∧ (↑g : Int) + (1 : Int) = (↑g' : Int) ∧ (↑(lastTo begP p fr g) : Int) = (↑(lastTo begP p fr g') : Int) ∧ q0 = q0 ∧ p = p ∧ p = p ∧ n = n ∧ m = m ∧ fr = fr ∧ p = p ∧ n = n ∧ m = m ∧ True)) ((↑(lastTo begP p fr g) : Int) = (↑(lastTo begP p fr q1) : Int) ∧ True)) := by
  kernel_rfl
theorem vc175b (p : List Pl) (n : Int) (m : List (List UInt8 × Rl)) (fr : Int) : exF (env false [(130, sp130)] []) hLastH 0 175 Proofs.Tryz.f175 [lsV p n m, iV fr, .one (.fn 130 [] [])] (.val (iV (lastTo sndN p fr p.length))) = (let q2 := (List.length p); let q1 := (↑q2 : Int); (∃ (g : Nat), Nat.le g q2 ∧ (0 : Int) = (↑g : Int) ∧ (0 : Int) = (↑(lastTo sndN p fr g) : Int) ∧ q1 = q1 ∧ p = p ∧ p = p ∧ n = n ∧ m = m ∧ fr = fr ∧ p = p ∧ n = n ∧ m = m ∧ True) ∧ ∀ (g : Nat), let q0 := (List.getD p g (([], (0 : Int), (0 : Int), (0 : Int), (0 : Int)), (0 : Int))); Nat.le g q2 → splitB (decide ((↑g : Int) < q1)) (((0 : Int) ≤ (↑g : Int) ∧ (↑g : Int) < q1) ∧ fits IntKind.i64 (q0.2 + q0.1.2.2.2.2) ∧ splitB (decide (q0.2 + q0.1.2.2.2.2 ≤ fr)) (fits IntKind.i64 ((↑g : Int) + (1 : Int)) ∧ ∃ (g' : Nat), Nat.le g' q2 ∧ List.length p - g' < List.length p - g ∧ (↑g : Int) + (1 : Int) = (↑g' : Int) ∧ (↑g : Int) = (↑(lastTo sndN p fr g') : Int) ∧ q1 = q1 ∧ p = p ∧ p = p ∧ n = n ∧ m = m ∧ fr = fr ∧ p = p ∧ n = n ∧ m = m ∧ True) (fits IntKind.i64 ((↑g : Int) + (1 : Int)) ∧ ∃ (g' : Nat), Nat.le g' q2 ∧ List.length p - g' < List.length p - g ∧ (↑g : Int) + (1 : Int) = (↑g' : Int) ∧ (↑(lastTo sndN p fr g) : Int) = (↑(lastTo sndN p fr g') : Int) ∧ q1 = q1 ∧ p = p ∧ p = p ∧ n = n ∧ m = m ∧ fr = fr ∧ p = p ∧ n = n ∧ m = m ∧ True)) ((↑(lastTo sndN p fr g) : Int) = (↑(lastTo sndN p fr q2) : Int) ∧ True)) := by
  kernel_rfl
theorem vc177 (nm : List UInt8) (R : List Rl) : exF (env false [] [fb178, fb170]) h129 3 177 Proofs.Tryz.f177 [.one (.str nm), .one (.ref (.sl rlT) R)] (.val (iV (if idxN nm R < R.length then (idxN nm R : Int) else -1))) = (let q0 := (↑(List.length R) : Int); (∃ (g : Nat), Nat.le g (idxN nm R) ∧ (0 : Int) = (↑g : Int) ∧ q0 = q0 ∧ R = R ∧ R = R ∧ nm = nm ∧ True) ∧ ∀ (g : Nat), Nat.le g (idxN nm R) → splitB (decide ((↑g : Int) < q0)) (((0 : Int) ≤ (↑g : Int) ∧ (↑g : Int) < q0) ∧ splitB ((List.getD R g ([], (0 : Int), [])).1 == nm) (((↑g : Int) = if idxN nm R < List.length R then (↑(idxN nm R) : Int) else (-1 : Int)) ∧ True) (fits IntKind.i64 ((↑g : Int) + (1 : Int)) ∧ ∃ (g' : Nat), Nat.le g' (idxN nm R) ∧ List.length R - g' < List.length R - g ∧ (↑g : Int) + (1 : Int) = (↑g' : Int) ∧ q0 = q0 ∧ R = R ∧ R = R ∧ nm = nm ∧ True)) (((-1 : Int) = if idxN nm R < List.length R then (↑(idxN nm R) : Int) else (-1 : Int)) ∧ True)) := by
  kernel_rfl
theorem vc129 (R : List Rl) (L : List Ed) (i : Nat) : exF (env false [(112, sp112), (158, sp158), (109, sp109), (106, sp106), (107, sp107), (177, sp177)] []) h0 0 129 Proofs.Tryz.f129 [.one (.sl rlT R), .one (.sl edT L), iV i] (.val (iV (chkEd R L i))) = (let q9 := ([], (0 : Int), (0 : Int), (0 : Int), (0 : Int)); let q0 := (List.getD L i q9); let q1 := (List.getD L (Int.toNat ((↑i : Int) - (1 : Int))) q9); let q4 := (if idxN q0.1 R < List.length R then (↑(idxN q0.1 R) : Int) else (-1 : Int)); let q2 := (List.getD R (Int.toNat q4) ([], (0 : Int), [])); let q6 := (if idxN q1.1 R < List.length R then (↑(idxN q1.1 R) : Int) else (-1 : Int)); let q3 := (List.getD R (Int.toNat q6) ([], (0 : Int), [])); let q5 := ((0 : Int) ≤ if idxN q0.1 R < List.length R then (↑(idxN q0.1 R) : Int) else (-1 : Int)); let q7 := (bif decide (q0.2.2.1 ≤ q0.2.1) then true else decide (q0.2.1 < q2.2.1)); let q8 := (Ty.int IntKind.i64); ((0 : Int) ≤ (↑i : Int) ∧ (↑i : Int) < (↑(List.length L) : Int)) ∧ List.length R ≤ (1000000000 : Nat) ∧ splitB (decide (q4 < (0 : Int))) ((10 : Int) = chkEd R L i ∧ True) ((decide (q0.2.2.1 ≤ q0.2.1) = false → q5 ∧ q4 < (↑(List.length R) : Int)) ∧ (q7 = false → q5 ∧ q4 < (↑(List.length R) : Int)) ∧ (q7 = false → fits IntKind.i64 (q2.2.1 + (↑(List.length q2.2.2) : Int))) ∧ splitB (bif bif decide (q0.2.2.1 ≤ q0.2.1) then true else decide (q0.2.1 < q2.2.1) then true else decide (q2.2.1 + (↑(List.length q2.2.2) : Int) < q0.2.2.1)) ((14 : Int) = chkEd R L i ∧ True) (fits IntKind.i64 (q0.2.2.1 - q0.2.1) ∧ (2 : Nat) ≤ (1000000000 : Nat) ∧ splitB (first [within q0.2.2.2.1 (0 : Int) (q0.2.2.1 - q0.2.1), within q0.2.2.2.2 (-100 : Int) (100 : Int)] != (0 : Int)) (first [within q0.2.2.2.1 (0 : Int) (q0.2.2.1 - q0.2.1), within q0.2.2.2.2 (-100 : Int) (100 : Int)] = chkEd R L i ∧ True) (splitB ((↑i : Int) == (0 : Int)) (whenE (!eqT (Ty.pair Ty.str (Ty.pair q8 (Ty.pair q8 (Ty.pair q8 q8)))) (q0.1, q0.2.1, q0.2.2.1, q0.2.2.2.1, q0.2.2.2.2) (q0.1, q0.2.1, q0.2.2.1, (0 : Int), (0 : Int))) (21 : Int) = chkEd R L i ∧ True) (fits IntKind.i64 ((↑i : Int) - (1 : Int)) ∧ ((0 : Int) ≤ (↑i : Int) - (1 : Int) ∧ (↑i : Int) - (1 : Int) < (↑(List.length L) : Int)) ∧ fits IntKind.i64 (q1.2.2.1 + q0.2.2.2.1) ∧ List.length R ≤ (1000000000 : Nat) ∧ (((0 : Int) ≤ if idxN q1.1 R < List.length R then (↑(idxN q1.1 R) : Int) else (-1 : Int)) ∧ q6 < (↑(List.length R) : Int)) ∧ fits IntKind.i64 (q3.2.1 + (↑(List.length q3.2.2) : Int)) ∧ whenE (decide (q3.2.1 + (↑(List.length q3.2.2) : Int) < q1.2.2.1 + q0.2.2.2.1)) (16 : Int) = chkEd R L i ∧ True))))) := by
  kernel_rfl
theorem vc131 (p : List Pl) (n : Int) (m : List (List UInt8 × Rl)) (i : Nat) : exF (env false [(130, sp130)] []) h0 0 131 Proofs.Tryz.f131 [lsV p n m, iV i] (.val (.agg [.one (.int .i64 (heardN p n i).1), .one (.int .i64 (heardN p n i).2)])) = (let q0 := (([], (0 : Int), (0 : Int), (0 : Int), (0 : Int)), (0 : Int)); let q1 := (List.getD p (Int.toNat ((↑i : Int) + (1 : Int))) q0); let q2 := (List.getD p i q0); ((0 : Int) ≤ (↑i : Int) ∧ (↑i : Int) < (↑(List.length p) : Int)) ∧ fits IntKind.i64 (q2.2 + q2.1.2.2.2.2) ∧ fits IntKind.i64 ((↑i : Int) + (1 : Int)) ∧ splitB (decide ((↑i : Int) + (1 : Int) < (↑(List.length p) : Int))) (fits IntKind.i64 ((↑i : Int) + (1 : Int)) ∧ ((0 : Int) ≤ (↑i : Int) + (1 : Int) ∧ (↑i : Int) + (1 : Int) < (↑(List.length p) : Int)) ∧ fits IntKind.i64 (q1.2 + q1.1.2.2.2.2) ∧ q2.2 + q2.1.2.2.2.2 = (heardN p n i).1 ∧ q1.2 + q1.1.2.2.2.2 = (heardN p n i).2 ∧ True) (q2.2 + q2.1.2.2.2.2 = (heardN p n i).1 ∧ n = (heardN p n i).2 ∧ True)) := by
  kernel_rfl
theorem vc124 (p : List Pl) (n : Int) (m : List (List UInt8 × Rl)) (fr : Int) : exF (env false [(175, sp175)] []) h0 0 124 Proofs.Tryz.f124 [lsV p n m, iV fr] (.val (tkV (soundN p fr))) = (List.length p ≤ (1000000 : Nat) ∧ (∀ (x : Pl), x ∈ p → fits IntKind.i64 (sndN x)) ∧ ((0 : Int) ≤ (↑(lastTo sndN p fr (List.length p)) : Int) ∧ (↑(lastTo sndN p fr (List.length p)) : Int) < (↑(List.length p) : Int)) ∧ fits IntKind.i64 (Prod.fst (Prod.snd (Prod.fst (List.getD p (lastTo sndN p fr (List.length p)) (([], (0 : Int), (0 : Int), (0 : Int), (0 : Int)), (0 : Int))))) + fr) ∧ fits IntKind.i64 (Prod.fst (Prod.snd (Prod.fst (List.getD p (lastTo sndN p fr (List.length p)) (([], (0 : Int), (0 : Int), (0 : Int), (0 : Int)), (0 : Int))))) + fr - Prod.snd (List.getD p (lastTo sndN p fr (List.length p)) (([], (0 : Int), (0 : Int), (0 : Int), (0 : Int)), (0 : Int)))) ∧ Prod.fst (Prod.fst (List.getD p (lastTo sndN p fr (List.length p)) (([], (0 : Int), (0 : Int), (0 : Int), (0 : Int)), (0 : Int)))) = Prod.fst (soundN p fr) ∧ Prod.fst (Prod.snd (Prod.fst (List.getD p (lastTo sndN p fr (List.length p)) (([], (0 : Int), (0 : Int), (0 : Int), (0 : Int)), (0 : Int))))) + fr - Prod.snd (List.getD p (lastTo sndN p fr (List.length p)) (([], (0 : Int), (0 : Int), (0 : Int), (0 : Int)), (0 : Int))) = Prod.fst (Prod.snd (soundN p fr)) ∧ (1 : Int) = Prod.fst (Prod.snd (Prod.snd (soundN p fr))) ∧ (1 : Int) = Prod.snd (Prod.snd (Prod.snd (soundN p fr))) ∧ True) := by
  kernel_rfl
theorem vc155 (p : List Pl) (n : Int) (m : List (List UInt8 × Rl)) (fr : Int) : exF (env false [(195, sp195), (175, sp175)] []) h0 0 155 Proofs.Tryz.f155 [lsV p n m, iV fr] (.val (.one (.sl tkT (takesN p fr)))) = (let q4 := (([], (0 : Int), (0 : Int), (0 : Int), (0 : Int)), (0 : Int)); let q0 := (List.getD p (lastTo begP p fr (List.length p)) q4); let q2 := (↑(lastTo begP p fr (List.length p)) : Int); let q1 := (List.getD p (Int.toNat (q2 - (1 : Int))) q4); let q3 := (q0.1.2.2.2.1 + (1 : Int)); let q5 := (q0.1.2.2.2.1 - (fr - q0.2)); List.length p ≤ (1000000 : Nat) ∧ ((0 : Int) ≤ q2 ∧ q2 < (↑(List.length p) : Int)) ∧ fits IntKind.i64 (fr - q0.2) ∧ splitB (decide (q0.1.2.2.2.1 ≤ fr - q0.2)) (fits IntKind.i64 (q0.1.2.1 + (fr - q0.2)) ∧ [(q0.1.1, q0.1.2.1 + (fr - q0.2), (1 : Int), (1 : Int))] = takesN p fr ∧ True) (fits IntKind.i64 (q2 - (1 : Int)) ∧ ((0 : Int) ≤ q2 - (1 : Int) ∧ q2 - (1 : Int) < (↑(List.length p) : Int)) ∧ fits IntKind.i64 (q1.1.2.2.1 + (fr - q0.2)) ∧ fits IntKind.i64 q5 ∧ fits IntKind.i64 q3 ∧ (0 : Int) < q0.1.2.2.2.1 - (fr - q0.2) ∧ (0 : Int) < q0.1.2.2.2.1 + (1 : Int) ∧ (q0.1.2.2.2.1 - (fr - q0.2) ≤ (1000000 : Int) ∧ q0.1.2.2.2.1 + (1 : Int) ≤ (1000000 : Int)) ∧ fits IntKind.i64 (q0.1.2.1 + (fr - q0.2)) ∧ fits IntKind.i64 (fr - q0.2 + (1 : Int)) ∧ fits IntKind.i64 q3 ∧ (0 : Int) < fr - q0.2 + (1 : Int) ∧ (0 : Int) < q0.1.2.2.2.1 + (1 : Int) ∧ (fr - q0.2 + (1 : Int) ≤ (1000000 : Int) ∧ q0.1.2.2.2.1 + (1 : Int) ≤ (1000000 : Int)) ∧ [(q1.1.1, q1.1.2.2.1 + (fr - q0.2), (lowN q5 q3).1, (lowN q5 q3).2), (q0.1.1, q0.1.2.1 + (fr - q0.2), (lowN (fr - q0.2 + (1 : Int)) q3).1, (lowN (fr - q0.2 + (1 : Int)) q3).2)] = takesN p fr ∧ True)) := by
  kernel_rfl
end Go.Sx
