/- A verified symbolic run of functions, part 18: lemmas, no claim of their own. -/
import Derived.Test.YtpbipfdpoijgoaaGreatDoorS17
/- Contracts. -/
namespace Go.Sx
open U
theorem ns_bytes {x : List Int} (h : Bytes x) : strNs (bytesOf x) = x := by
  unfold strNs bytesOf
  rw [List.map_map]
  conv => rhs; rw [← List.map_id x]
  refine List.map_congr_left fun b hb => ?_
  have := h b hb
  show ((UInt8.ofNat b.toNat).toNat : Int) = b
  rw [UInt8.toNat_ofNat']
  omega
theorem bytes_inj {x y : List Int} (hx : Bytes x) (hy : Bytes y) : (bytesOf x != bytesOf y) = !decide (x = y) := by
  by_cases h : x = y
  · simp [h]
  · have : bytesOf x ≠ bytesOf y := fun e => h (by rw [← ns_bytes hx, ← ns_bytes hy, e])
    simp [h, this]
theorem rec_byt {k a b : Int} (hk : 0 ≤ k ∧ k ≤ 255) : Bytes (U.record k a b) := fun x hx => by
  simp only [U.record, List.mem_cons, List.not_mem_nil, or_false] at hx
  omega
theorem getD_drop (s : List Int) (a i : Nat) : (s.drop a).getD i 0 = s.getD (a + i) 0 := by
  simp only [List.getD_eq_getElem?_getD, List.getElem?_drop]
theorem byte_at {s : List Int} (hb : Bytes s) (i : Nat) : 0 ≤ s.getD i 0 ∧ s.getD i 0 ≤ 255 := by
  by_cases h : i < s.length
  · exact hb _ (getD_mem h)
  · rw [List.getD_eq_getElem?_getD, List.getElem?_eq_none (by omega)]; decide
theorem num2 {s : List Int} (h : 3 ≤ s.length) : number ((s.drop 1).take 2) = 256 * s.getD 1 0 + s.getD 2 0 := by
  match s, h with
  | [], h => simp at h
  | [_], h => simp at h
  | [_, _], h => simp at h
  | x :: y :: z :: r, _ => show 256 * (256 * 0 + y) + z = _; simp
theorem num4 {s : List Int} (h : 4 ≤ s.length) : number (s.take 4) = 256 * (256 * (256 * (256 * 0 + s.getD 0 0) + s.getD 1 0) + s.getD 2 0) + s.getD 3 0 := by
  match s, h with
  | [], h => simp at h
  | [_], h => simp at h
  | [_, _], h => simp at h
  | [_, _, _], h => simp at h
  | x :: y :: z :: w :: r, _ => rfl
theorem begin_eq {s : List Int} {K : Nat} (hK : s.getD 4 0 = (K : Int)) : rdBegin s =
    if s.length < 4 then (28, [], 0, []) else if s.take 4 = [82, 69, 69, 76] then
      if s.length - 4 < 1 then (28, [], 0, []) else if s.length - 5 < K then (28, [], 0, []) else
      if plain (bytesOf ((s.drop 5).take K)) && isName (bytesOf ((s.drop 5).take K)) then
        if s.length - (5 + K) < 4 then (28, [], 0, []) else
        (whenE (decide (10000000 < number ((s.drop (5 + K)).take 4))) 1, bytesOf ((s.drop 5).take K), number ((s.drop (5 + K)).take 4), s.drop (5 + K + 4))
      else (1, [], 0, []) else (1, [], 0, []) := by
  have d0 : (s.drop 4).getD 0 0 = (K : Int) := by rw [getD_drop, hK]
  have d1 : (s.drop 4).drop 1 = s.drop 5 := List.drop_drop
  have d2 : (s.drop 5).drop K = s.drop (5 + K) := List.drop_drop
  have d3 : (s.drop (5 + K)).drop 4 = s.drop (5 + K + 4) := List.drop_drop
  unfold rdBegin
  simp only [d0, d1, d2, d3, Int.toNat_natCast, List.length_drop]
/-- What a beginning that is right says. -/
theorem begin_ok {s : List Int} (hb : Bytes s) (h : (rdBegin s).1 = 0) : (0 ≤ hdAt s ∧ hdAt s ≤ s.length) ∧ (rdBegin s).2.2.2 = s.drop (hdAt s).toNat ∧ (rdBegin s).2.1.length ≤ 255 ∧ (0 ≤ (rdBegin s).2.2.1 ∧ (rdBegin s).2.2.1 ≤ 10000000) := by
  have h4 := byte_at hb 4
  obtain ⟨K, hK⟩ : ∃ K : Nat, s.getD 4 0 = (K : Int) := ⟨(s.getD 4 0).toNat, by omega⟩
  have hA : hdAt s = 9 + (K : Int) := by unfold hdAt; rw [hK]
  have e := begin_eq hK
  by_cases c1 : s.length < 4
  · rw [if_pos c1] at e; rw [e] at h; cases h
  rw [if_neg c1] at e
  by_cases c2 : s.take 4 = [82, 69, 69, 76]
  rotate_left
  · rw [if_neg c2] at e; rw [e] at h; cases h
  rw [if_pos c2] at e
  by_cases c3 : s.length - 4 < 1
  · rw [if_pos c3] at e; rw [e] at h; cases h
  rw [if_neg c3] at e
  by_cases c4 : s.length - 5 < K
  · rw [if_pos c4] at e; rw [e] at h; cases h
  rw [if_neg c4] at e
  by_cases c5 : (plain (bytesOf ((s.drop 5).take K)) && isName (bytesOf ((s.drop 5).take K))) = true
  rotate_left
  · rw [if_neg c5] at e; rw [e] at h; cases h
  rw [if_pos c5] at e
  by_cases c6 : s.length - (5 + K) < 4
  · rw [if_pos c6] at e; rw [e] at h; cases h
  rw [if_neg c6] at e
  rw [e] at h ⊢
  have hw := of_decide_eq_false ((whenE_zero (by decide)).1 h)
  have hn := number_bd 4 ((s.drop (5 + K)).take 4) (byTake (byDrop hb _) _) (by simp; omega)
  refine ⟨by omega, ?_, ?_, ?_⟩
  · show s.drop (5 + K + 4) = s.drop (hdAt s).toNat
    rw [hA]
    congr 1
    omega
  · show (bytesOf ((s.drop 5).take K)).length ≤ 255
    simp only [bytesOf, List.length_map, List.length_take]
    omega
  · exact ⟨hn.1, by dsimp only; omega⟩
theorem rdRec_zero {s l : List Int} (h : (rdRec s l).1 = 0) : 5 ≤ s.length ∧ ((rdRec s l).2.1 = false → l.length ≠ 256) ∧ (rdRec s l).2.2 = number ((s.drop 1).take 2) := by
  by_cases h1 : s.length < 1
  · rw [rdRec_none h1] at h; cases h
  by_cases he : recErr (s.getD 0 0) l.length = 0
  rotate_left
  · rw [rdRec_bad h1 he] at h; exact absurd h he
  by_cases h5 : s.length < 5
  · rw [rdRec_torn h1 he h5] at h; cases h
  rw [rdRec_full he h5]
  refine ⟨by omega, fun hk => ?_, rfl⟩
  rcases (recErr_zero he).2 with h6 | h6
  · have hk : (s.getD 0 0 == 69) = false := hk
    rw [h6] at hk; cases hk
  · exact h6
theorem rbAll_len (f : Int) : ∀ (n : Nat) (s l : List Int), (rbAll f n s l).length ≤ l.length + n
  | 0, _, l => Nat.le_refl _
  | n + 1, s, l => by
    rw [rbAll]
    split
    · have := rbAll_len f n (s.drop 5) (l ++ [(rdRec s l).2.2])
      simp only [List.length_append, List.length_cons, List.length_nil] at this
      omega
    · omega
theorem fn103 (n : Int) (hn : 0 ≤ n ∧ n ≤ 65535) : Fn P1 gl1 103 [iV n] (.val (.one (.frs (.int .u8) [n / 256 % 256, n % 256]))) true := by
  refine Fn.flat ?_ rfl
  refine fn_of false [] [] h0 0 Proofs.Tryz.f103 trivial trivial (by kernel_rfl) rfl (by kernel_rfl) rfl rfl rfl ?_
  rw [vc103]
  try simp only [splitB_iff, -eq_self]
  exact ⟨⟨by omega, by omega, by simp only [fits]; omega⟩, ⟨by omega, by omega⟩, by simp, trivial⟩
theorem so103_ : SpecOk P1 gl1 103 sp103 := by
  intro vs ps r h hp
  simp only [sp103] at h
  split at h
  · cases h; exact fn103 _ (hp _ (.head _))
  · cases h
theorem so103 : Sp1 103 sp103 := ⟨so103_, Proofs.Tryz.f103, _, by kernel_rfl, rfl, by kernel_rfl⟩
theorem fn104 (n c : Int) (hn : 0 ≤ n ∧ n ≤ 1000) (hc : 0 ≤ c ∧ c ≤ 65535) : Fn P1 gl1 104 [iV n, iV c] (.val (.one (.frs (.int .u8) (tframe n c)))) true := by
  refine Fn.flat ?_ rfl
  refine fn_of false [(103, sp103)] [] h0 0 Proofs.Tryz.f104 ⟨so103, trivial⟩ trivial (by kernel_rfl) rfl (by kernel_rfl) rfl rfl rfl ?_
  rw [vc104]
  try simp only [splitB_iff, -eq_self]
  exact ⟨hc, by simp [room], by simp only [fits]; omega, by simp only [fits]; omega, by simp only [fits]; omega, by simp only [fits]; omega, ⟨by omega, by omega⟩, ⟨by omega, by omega⟩, by simp [room], rfl, trivial⟩
theorem so104_ : SpecOk P1 gl1 104 sp104 := by
  intro vs ps r h hp
  simp only [sp104] at h
  split at h
  · cases h; exact fn104 _ _ (hp _ (.head _)) (hp _ (.tail _ (.head _)))
  · cases h
theorem so104 : Sp1 104 sp104 := ⟨so104_, Proofs.Tryz.f104, _, by kernel_rfl, rfl, by kernel_rfl⟩
theorem fn105 (l : List Int) (hl : l.length ≤ 65535) (hw : W16 l) : Fn P1 gl1 105 [.one (.sl (.int .i64) l)] (.val (.one (.frs (.int .u8) (tlast l)))) true := by
  refine Fn.flat ?_ rfl
  refine fn_of false [(103, sp103)] [] h105 0 Proofs.Tryz.f105 ⟨so103, trivial⟩ trivial (by kernel_rfl) rfl (by kernel_rfl) rfl rfl rfl ?_
  rw [vc105]
  try simp only [splitB_iff, -eq_self]
  have hi : ∀ g, g < l.length → isum (l.take (g + 1)) = isum (l.take g) + l.getD g 0 := fun g hg => by rw [isum_snoc l g hg, getD_of hg]
  refine ⟨⟨0, Nat.zero_le _, rfl, rfl, by trivial, trivial⟩, fun g hg => ⟨fun hlt => ?_, fun hge => ?_⟩⟩
  · have hlt' : g < l.length := by have := of_decide_eq_true hlt; omega
    have hx := hw _ (getD_mem (d := 0) hlt')
    refine ⟨by omega, by simp only [fits]; omega, ⟨by omega, by omega⟩, by simp only [fits]; omega, g + 1, hlt', by omega, by omega, ?_, by trivial, trivial⟩
    rw [hi g hlt', Int.emod_add_emod]
  · have hgl : g = l.length := by have := of_decide_eq_false hge; have : g ≤ l.length := hg; omega
    subst hgl
    rw [List.take_length]
    exact ⟨by omega, by simp [room], ⟨by omega, by omega⟩, by simp [room], rfl, trivial⟩
theorem so105_ : SpecOk P1 gl1 105 sp105 := by
  intro vs ps r h hp
  simp only [sp105] at h
  split at h
  · cases h; exact fn105 _ (hp _ (.head _)) (hp _ (.tail _ (.head _)))
  · cases h
theorem so105 : Sp1 105 sp105 := ⟨so105_, Proofs.Tryz.f105, _, by kernel_rfl, rfl, by kernel_rfl⟩
theorem fn119 (s : List Int) (a : Int) (nm : List UInt8) (f : Int) (l : List Int) (hl : s.length ≤ 1000000) (hb : Bytes s) (ha : 0 ≤ a ∧ a ≤ 1000000) (hll : l.length ≤ 256) (hw : W16 l) : Fn P1 gl1 119 [.one (.sl (.int .u8) s), iV a, rV nm f l] (.tup [iV (if (recS s a l).1 = 0 then (recS s a l).2.2 else 0), bV (if (recS s a l).1 = 0 then (recS s a l).2.1 else false), iV (recS s a l).1]) true := by
  refine Fn.flat ?_ rfl
  refine fn_of false [(104, sp104), (105, sp105)] [] h0 0 Proofs.Tryz.f119 ⟨so104, so105, trivial⟩ trivial (by kernel_rfl) rfl (by kernel_rfl) rfl rfl rfl ?_
  rw [vc119]
  try simp only [splitB_iff, -eq_self]
  have hcl : (s.drop a.toNat).length = s.length - a.toNat := List.length_drop
  have hcb : Bytes (s.drop a.toNat) := byDrop hb _
  have h0 := getD_drop s a.toNat 0
  have h1 := getD_drop s a.toNat 1
  have h2 := getD_drop s a.toNat 2
  rw [Nat.add_zero] at h0
  have e1 : (a + 1).toNat = a.toNat + 1 := by omega
  have e2 : (a + 2).toNat = a.toNat + 2 := by omega
  have e5 : (a + 5).toNat - a.toNat = 5 := by omega
  have b0 := byte_at hcb 0
  have b1 := byte_at hcb 1
  have b2 := byte_at hcb 2
  have hR : recS s a l = rdRec (s.drop a.toNat) l := rfl
  simp only [e1, e2, e5, hR, ← h0, ← h1, ← h2]
  generalize s.drop a.toNat = c at *
  have fail : ∀ {e : Int}, (rdRec c l).1 = e → e ≠ 0 → (0 = if (rdRec c l).1 = 0 then (rdRec c l).2.2 else 0) ∧ (false = if (rdRec c l).1 = 0 then (rdRec c l).2.1 else false) ∧ e = (rdRec c l).1 ∧ True := by
    intro e g1 g2
    rw [if_neg (by rw [g1]; exact g2), if_neg (by rw [g1]; exact g2)]
    exact ⟨rfl, rfl, g1.symm, trivial⟩
  refine ⟨fun h => fail (by rw [rdRec_none (by have := of_decide_eq_true h; omega)]) (by decide), fun h => ⟨by have := of_decide_eq_false h; omega, fun _ => by have := of_decide_eq_false h; omega, fun h3 => ?_, fun h3 => ⟨by have := of_decide_eq_false h; omega, fun h4 => ?_, fun h4 => ⟨by simp only [fits]; omega, fun h5 => ?_, fun h5 => ?_⟩⟩⟩⟩
  · simp only [bcond_r, Bool.and_eq_true, bne_iff_ne] at h3
    have he : recErr (c.getD 0 0) l.length = 1 := by
      unfold recErr
      rw [show (!(c.getD 0 0 == 69) && (c.getD 0 0 != 70)) = true by rw [show (c.getD 0 0 == 69) = false from beq_eq_false_iff_ne.2 h3.2, show (c.getD 0 0 != 70) = true from bne_iff_ne.2 h3.1]; rfl]; rfl
    exact fail (by rw [rdRec_bad (by have := of_decide_eq_false h; omega) (by rw [he]; decide), he]) (by decide)
  · simp only [bcond_r, Bool.and_eq_true, beq_iff_eq] at h4
    have he : recErr (c.getD 0 0) l.length = 5 := by
      unfold recErr
      rw [h4.1, h4.2]; rfl
    exact fail (by rw [rdRec_bad (by have := of_decide_eq_false h; omega) (by rw [he]; decide), he]) (by decide)
  all_goals
    have he : recErr (c.getD 0 0) l.length = 0 := by
      simp only [bcond_r, Bool.and_eq_false_iff, beq_eq_false_iff_ne, bne_eq_false_iff_eq] at h3 h4
      unfold recErr
      by_cases q : c.getD 0 0 = 69
      · rw [q]; rfl
      · have q70 : c.getD 0 0 = 70 := by rcases h3 with h3 | h3 <;> first | exact h3 | exact absurd h3 q
        have q256 : ((l.length : Int) == 256) = false := by
          rcases h4 with h4 | h4
          · exact absurd q70 h4
          · simpa using h4
        rw [q70, q256]; rfl
  · exact fail (by rw [rdRec_torn (by have := of_decide_eq_false h; omega) he (by have := of_decide_eq_true h5; omega)]) (by decide)
  · have h5' := of_decide_eq_false h5
    have hfull := rdRec_full he (show ¬ c.length < 5 by omega)
    have hn := num2 (s := c) (by omega)
    have hB5 : Bytes (c.take 5) := byTake hcb _
    rw [hn] at hfull
    have okk : ∀ {b : Bool}, rdRec c l = (0, b, 256 * c.getD 1 0 + c.getD 2 0) → (256 * c.getD 1 0 + c.getD 2 0 = if (rdRec c l).1 = 0 then (rdRec c l).2.2 else 0) ∧ (b = if (rdRec c l).1 = 0 then (rdRec c l).2.1 else false) ∧ 0 = (rdRec c l).1 ∧ True := by
      intro b g1
      rw [g1]
      exact ⟨rfl, rfl, rfl, trivial⟩
    refine ⟨by simp only [fits]; omega, by omega, by simp only [fits]; omega, by simp only [fits]; omega, by simp only [fits]; omega, by omega, by simp only [fits]; omega, by simp only [fits]; omega, by omega, by omega, by omega, fun h6 => ⟨by omega, hw, by simp only [fits]; omega, by omega, fun h7 => ?_, fun h7 => ⟨by omega, ?_⟩⟩, fun h6 => ⟨by simp only [fits]; omega, by omega, fun h7 => ?_, fun h7 => ⟨by omega, ?_⟩⟩⟩
    · rw [bytes_inj (x := tlast l) (rec_byt (by decide)) hB5] at h7
      have h7' : ¬ tlast l = c.take 5 := by simpa using h7
      rw [h6, if_pos rfl, show decide (c.take 5 = tlast l) = false from decide_eq_false fun e => h7' e.symm] at hfull
      exact fail (by rw [hfull]; rfl) (by decide)
    · rw [bytes_inj (x := tlast l) (rec_byt (by decide)) hB5] at h7
      have h7' : tlast l = c.take 5 := by simpa using h7
      rw [if_pos h6, show decide (c.take 5 = tlast l) = true from decide_eq_true h7'.symm] at hfull
      exact okk hfull
    · rw [bytes_inj (x := tframe l.length (256 * c.getD 1 0 + c.getD 2 0)) (rec_byt (by decide)) hB5] at h7
      have h7' : ¬ tframe l.length (256 * c.getD 1 0 + c.getD 2 0) = c.take 5 := by simpa using h7
      rw [h6, if_neg (by decide), show decide (c.take 5 = tframe l.length (256 * c.getD 1 0 + c.getD 2 0)) = false from decide_eq_false fun e => h7' e.symm] at hfull
      exact fail (by rw [hfull]; rfl) (by decide)
    · rw [bytes_inj (x := tframe l.length (256 * c.getD 1 0 + c.getD 2 0)) (rec_byt (by decide)) hB5] at h7
      have h7' : tframe l.length (256 * c.getD 1 0 + c.getD 2 0) = c.take 5 := by simpa using h7
      rw [if_neg (by rw [h6]; decide), show decide (c.take 5 = tframe l.length (256 * c.getD 1 0 + c.getD 2 0)) = true from decide_eq_true h7'.symm] at hfull
      exact okk hfull
theorem so119_ : SpecOk P1 gl1 119 sp119 := by
  intro vs ps r h hp
  simp only [sp119] at h
  split at h
  · cases h; exact fn119 _ _ _ _ _ (hp _ (.head _)) (hp _ (.tail _ (.head _))) (hp _ (.tail _ (.tail _ (.head _)))) (hp _ (.tail _ (.tail _ (.tail _ (.head _))))) (hp _ (.tail _ (.tail _ (.tail _ (.tail _ (.head _))))))
  · cases h
theorem so119 : Sp1 119 sp119 := ⟨so119_, Proofs.Tryz.f119, _, by kernel_rfl, rfl, by kernel_rfl⟩
theorem fn118 (s : List Int) (hl : s.length ≤ 1000000) (hb : Bytes s) : Fn P1 gl1 118 [.one (.sl (.int .u8) s)] (.tup [rnV (if (rdBegin s).1 = 0 then (rdBegin s).2.1 else []) (if (rdBegin s).1 = 0 then (rdBegin s).2.2.1 else 0), iV (if (rdBegin s).1 = 0 then hdAt s else 0), iV (rdBegin s).1]) true := by
  refine Fn.flat ?_ rfl
  refine fn_of false [(102, sp102)] [] h118 0 Proofs.Tryz.f118 ⟨so102, trivial⟩ trivial (by kernel_rfl) rfl (by kernel_rfl) rfl rfl rfl ?_
  rw [vc118]
  try simp only [splitB_iff, -eq_self]
  have h4 := byte_at hb 4
  obtain ⟨K, hK⟩ : ∃ K : Nat, s.getD 4 0 = (K : Int) := ⟨(s.getD 4 0).toNat, by omega⟩
  have hbg := begin_eq hK
  have hA : hdAt s = 9 + (K : Int) := by unfold hdAt; rw [hK]
  have hreel : (bytesOf (List.take 4 s) != Array.toList (ByteArray.data { data := #[82, 69, 69, 76] })) = !decide (List.take 4 s = [82, 69, 69, 76]) := bytes_inj (y := [82, 69, 69, 76]) (byTake hb 4) (by unfold Bytes; decide)
  have n0 : (5 + (K : Int)).toNat - 5 = K := by omega
  have n1 : (5 + (K : Int) + 0).toNat = 5 + K + 0 := by omega
  have n2 : (5 + (K : Int) + 1).toNat = 5 + K + 1 := by omega
  have n3 : (5 + (K : Int) + 2).toNat = 5 + K + 2 := by omega
  have n4 : (5 + (K : Int) + 3).toNat = 5 + K + 3 := by omega
  have g0 := byte_at hb (5 + K + 0)
  have g1 := byte_at hb (5 + K + 1)
  have g2 := byte_at hb (5 + K + 2)
  have g3 := byte_at hb (5 + K + 3)
  simp only [hK, hreel, n0, n1, n2, n3, n4]
  have fail : ∀ {e : Int}, (rdBegin s).1 = e → e ≠ 0 → ([] = if (rdBegin s).1 = 0 then (rdBegin s).2.1 else []) ∧ (0 = if (rdBegin s).1 = 0 then (rdBegin s).2.2.1 else 0) ∧ (0 = if (rdBegin s).1 = 0 then hdAt s else 0) ∧ e = (rdBegin s).1 ∧ True := by
    intro e h1 h2
    rw [if_neg (by rw [h1]; exact h2), if_neg (by rw [h1]; exact h2), if_neg (by rw [h1]; exact h2)]
    exact ⟨rfl, rfl, rfl, h1.symm, trivial⟩
  refine ⟨fun h => ?_, fun h => ⟨by have := of_decide_eq_false h; omega, fun h2 => ?_, fun h2 => ⟨fun h3 => ?_, fun h3 => by simp only [fits]; omega, fun h3 => by simp only [fits]; omega, fun h3 => ?_, fun h3 => ?_⟩⟩⟩
  · exact fail (by rw [hbg, if_pos (by have := of_decide_eq_true h; omega)]) (by decide)
  · have e : ¬ List.take 4 s = [82, 69, 69, 76] := by simpa using h2
    exact fail (by rw [hbg, if_neg (by have := of_decide_eq_false h; omega), if_neg e]) (by decide)
  · have := of_decide_eq_false h3; omega
  all_goals
    have c1 : ¬ s.length < 4 := by have := of_decide_eq_false h; omega
    have c2 : List.take 4 s = [82, 69, 69, 76] := by simpa using h2
    rw [if_neg c1, if_pos c2] at hbg
  · simp only [bcond_l, Bool.or_eq_true, decide_eq_true_eq] at h3
    by_cases c3 : s.length - 4 < 1
    · exact fail (by rw [hbg, if_pos c3]) (by decide)
    · exact fail (by rw [hbg, if_neg c3, if_pos (by omega)]) (by decide)
  · simp only [bcond_l, Bool.or_eq_false_iff, decide_eq_false_iff_not] at h3
    rw [if_neg (show ¬ s.length - 4 < 1 by omega), if_neg (show ¬ s.length - 5 < K by omega)] at hbg
    refine ⟨by omega, by simp only [fits]; omega, by simp only [fits]; omega, by omega, by simp only [bytesOf, List.length_map, List.length_take]; omega, fun h5 => ?_, fun h5 => ⟨by simp only [fits]; omega, fun h6 => ?_, fun h6 => ?_⟩⟩
    · have h5' : isName (bytesOf (List.take K (List.drop 5 s))) = false := by
        cases hq : isName (bytesOf (List.take K (List.drop 5 s)))
        · rfl
        · rw [hq] at h5; exact absurd h5 (by decide)
      exact fail (by rw [hbg, if_neg (by rw [h5', Bool.and_false]; decide)]) (by decide)
    all_goals
      have h5' : isName (bytesOf (List.take K (List.drop 5 s))) = true := by
        cases hq : isName (bytesOf (List.take K (List.drop 5 s)))
        · rw [hq] at h5; exact absurd h5 (by decide)
        · rfl
      rw [if_pos (by rw [h5', plain_name h5']; rfl)] at hbg
    · exact fail (by rw [hbg, if_pos (by have := of_decide_eq_true h6; omega)]) (by decide)
    · have h6' := of_decide_eq_false h6
      rw [if_neg (show ¬ s.length - (5 + K) < 4 by omega)] at hbg
      have hnum : number ((s.drop (5 + K)).take 4) = 256 * (256 * (256 * (0 + s.getD (5 + K + 0) 0) + s.getD (5 + K + 1) 0) + s.getD (5 + K + 2) 0) + s.getD (5 + K + 3) 0 := by
        rw [num4 (by rw [List.length_drop]; omega), getD_drop, getD_drop, getD_drop, getD_drop, Int.mul_zero]
      rw [hnum] at hbg
      generalize s.getD (5 + K + 0) 0 = x0 at *
      generalize s.getD (5 + K + 1) 0 = x1 at *
      generalize s.getD (5 + K + 2) 0 = x2 at *
      generalize s.getD (5 + K + 3) 0 = x3 at *
      and_intros
      any_goals first | omega | (simp only [fits]; omega)
      · intro h7
        exact fail (by rw [hbg, h7]; rfl) (by decide)
      · intro h7
        rw [h7] at hbg
        have hz : (rdBegin s).1 = 0 := by rw [hbg]; rfl
        refine ⟨by simp only [fits]; omega, ?_, ?_, ?_, hz.symm, trivial⟩
        · rw [if_pos hz, hbg]
        · rw [if_pos hz, hbg]
        · rw [if_pos hz, hA]; omega
theorem so118_ : SpecOk P1 gl1 118 sp118 := by
  intro vs ps r h hp
  simp only [sp118] at h
  split at h
  · cases h; exact fn118 _ (hp _ (.head _)) (hp _ (.tail _ (.head _)))
  · cases h
theorem so118 : Sp1 118 sp118 := ⟨so118_, Proofs.Tryz.f118, _, by kernel_rfl, rfl, by kernel_rfl⟩
theorem fn30 (s : List Int) (hl : s.length ≤ 100000) (hb : Bytes s) : Fn P1 gl1 30 [.one (.sl (.int .u8) s)] (.tup [rV (readS s).1.1 (readS s).1.2.1 (readS s).1.2.2, iV (readS s).2]) true := by
  refine fn_ofr false [(118, sp118), (119, sp119), (21, sp21)] [] h30 0 Proofs.Tryz.f30 ⟨so118, so119, so21, trivial⟩ trivial (by kernel_rfl) rfl (by kernel_rfl) rfl rfl rfl ?_
  rw [vc30]
  try simp only [splitB_iff, -eq_self]
  have hl' : s.length ≤ 1000000 := by omega
  by_cases hz : (rdBegin s).1 = 0
  rotate_left
  · have hz' : ((rdBegin s).1 != 0) = true := by simpa using hz
    refine ⟨hl', hb, fun _ => ?_, fun h => by rw [hz'] at h; cases h⟩
    rw [readS_begin hz]
    exact ⟨rfl, rfl, rfl, rfl, trivial⟩
  have hz' : ((rdBegin s).1 != 0) = false := by simpa using hz
  obtain ⟨hA, hr, hnl, hf⟩ := begin_ok hb hz
  have hbg : rdBegin s = (0, (rdBegin s).2.1, (rdBegin s).2.2.1, (rdBegin s).2.2.2) := Prod.ext hz rfl
  rw [hr] at hbg
  simp only [hz, if_true]
  generalize (rdBegin s).2.1 = nm at *
  generalize (rdBegin s).2.2.1 = f at *
  have hrl : (s.drop (hdAt s).toNat).length = s.length - (hdAt s).toNat := List.length_drop
  have hrb : Bytes (s.drop (hdAt s).toNat) := byDrop hb _
  have hrec : ∀ (g : Nat) (L : List Int), recS s (hdAt s + 5 * (g : Int)) L = rdRec ((s.drop (hdAt s).toNat).drop (5 * g)) L := fun g L => by
    unfold recS
    rw [List.drop_drop, show (hdAt s + 5 * (g : Int)).toNat = (hdAt s).toNat + 5 * g by omega]
  simp only [hrec]
  generalize hrr : s.drop (hdAt s).toNat = r at *
  refine ⟨hl', hb, fun h => (by cases h), fun _ => ⟨⟨0, ⟨by omega, by decide, fun n => rfl⟩, by omega, by trivial, by trivial, by trivial, by trivial, by trivial, rfl, trivial⟩, fun g hg => ?_⟩⟩
  obtain ⟨hg1, hg2, hg3⟩ := hg
  have hcl : (r.drop (5 * g)).length = r.length - 5 * g := List.length_drop
  have hsucc := chks_succ r g
  have hcw := chks_w hrb g
  have hclen := chks_len r g
  have hchk : chk r g = number (((r.drop (5 * g)).drop 1).take 2) := rfl
  have hd5 : (r.drop (5 * g)).drop 5 = r.drop (5 * (g + 1)) := by rw [List.drop_drop]; rfl
  obtain ⟨n, hn⟩ : ∃ n, s.length + 1 = (n + 1) + g := ⟨s.length - g, by omega⟩
  have hall : rdAll (s.length + 1) r [] = rdAll (n + 1) (r.drop (5 * g)) (chks r g) := by rw [hn]; exact hg3 (n + 1)
  have hcont : ∀ n, rdAll (n + (g + 1)) r [] = rdAll (n + 1) (r.drop (5 * g)) (chks r g) := fun n => by
    rw [show n + (g + 1) = (n + 1) + g by omega]
    exact hg3 (n + 1)
  rw [hchk] at hsucc
  generalize hcur : r.drop (5 * g) = cur at *
  generalize chks r g = L at *
  refine ⟨hl', hb, by omega, by omega, hcw, fun h => ?_, fun h => ⟨by simp only [fits]; omega, fun h2 => ⟨fun h3 => ?_, fun h3 => ⟨by omega, by omega, fun h4 => ?_, fun h4 => ?_⟩⟩, fun h2 => ?_⟩⟩
  · have h' : (rdRec cur L).1 ≠ 0 := by simpa using h
    rw [readS_err hbg (hall.trans (rdAll_stop h')) h']
    exact ⟨rfl, rfl, rfl, rfl, trivial⟩
  all_goals
    have h' : (rdRec cur L).1 = 0 := by simpa using h
    rw [if_pos h'] at h2
    have hq := rdRec_zero h'
  · have h3' := of_decide_eq_true h3
    have he : first [whenE (decide (0 < (cur.drop 5).length)) 23, checkReel nm f L] = 23 := by
      rw [decide_eq_true (show 0 < (cur.drop 5).length by rw [List.length_drop]; omega)]; rfl
    rw [readS_bad hbg (hall.trans (rdAll_last h' h2)) (by rw [he]; decide), he]
    exact ⟨rfl, rfl, rfl, rfl, trivial⟩
  · have h3' := of_decide_eq_false h3
    have he : first [whenE (decide (0 < (cur.drop 5).length)) 23, checkReel nm f L] = checkReel nm f L := by
      rw [decide_eq_false (show ¬ 0 < (cur.drop 5).length by rw [List.length_drop]; omega)]; simp [first, whenE]; exact Eq.symm
    have h4' : checkReel nm f L ≠ 0 := by simpa using h4
    rw [readS_bad hbg (hall.trans (rdAll_last h' h2)) (by rw [he]; exact h4'), he]
    exact ⟨rfl, rfl, rfl, rfl, trivial⟩
  · have h3' := of_decide_eq_false h3
    have he : first [whenE (decide (0 < (cur.drop 5).length)) 23, checkReel nm f L] = checkReel nm f L := by
      rw [decide_eq_false (show ¬ 0 < (cur.drop 5).length by rw [List.length_drop]; omega)]; simp [first, whenE]; exact Eq.symm
    have h4' : checkReel nm f L = 0 := by simpa using h4
    rw [readS_ok hbg (hall.trans (rdAll_last h' h2)) (by rw [he]; exact h4')]
    exact ⟨rfl, rfl, rfl, rfl, trivial⟩
  · have h256 := hq.2.1 h2
    refine ⟨by simp only [room]; omega, g + 1, ⟨by omega, by omega, fun n => ?_⟩, by omega, by omega, by trivial, by trivial, by trivial, by trivial, by trivial, ?_, trivial⟩
    · rw [hcont n, rdAll_more h' h2, hd5, hq.2.2, hsucc]
    · rw [if_pos h', hq.2.2, hsucc]
theorem so30_ : SpecOk P1 gl1 30 sp30 := by
  intro vs ps r h hp
  simp only [sp30] at h
  split at h
  · cases h; exact fn30 _ (hp _ (.head _)) (hp _ (.tail _ (.head _)))
  · cases h
theorem so30 : Sp1 30 sp30 := ⟨so30_, Proofs.Tryz.f30, _, by kernel_rfl, rfl, by kernel_rfl⟩
theorem fn31 (s : List Int) (hl : s.length ≤ 100000) (hb : Bytes s) : Fn P1 gl1 31 [.one (.sl (.int .u8) s)] (.tup [rV (rebuilt s).1.1 (rebuilt s).1.2.1 (rebuilt s).1.2.2, bV (rebuilt s).2.1, iV (rebuilt s).2.2]) true := by
  refine fn_ofr false [(118, sp118), (119, sp119), (30, sp30)] [] h31 0 Proofs.Tryz.f31 ⟨so118, so119, so30, trivial⟩ trivial (by kernel_rfl) rfl (by kernel_rfl) rfl rfl rfl ?_
  rw [vc31]
  try simp only [splitB_iff, -eq_self]
  have hl' : s.length ≤ 1000000 := by omega
  by_cases hz : (rdBegin s).1 = 0
  rotate_left
  · have hz' : ((rdBegin s).1 != 0) = true := by simpa using hz
    refine ⟨hl', hb, fun _ => ?_, fun h => by rw [hz'] at h; cases h⟩
    rw [rebuilt_begin hz]
    exact ⟨rfl, rfl, rfl, rfl, rfl, trivial⟩
  have hz' : ((rdBegin s).1 != 0) = false := by simpa using hz
  obtain ⟨hA, hr, hnl, hf⟩ := begin_ok hb hz
  have hbg : rdBegin s = (0, (rdBegin s).2.1, (rdBegin s).2.2.1, (rdBegin s).2.2.2) := Prod.ext hz rfl
  rw [hr] at hbg
  simp only [hz, if_true]
  generalize (rdBegin s).2.1 = nm at *
  generalize (rdBegin s).2.2.1 = f at *
  have hrl : (s.drop (hdAt s).toNat).length = s.length - (hdAt s).toNat := List.length_drop
  have hrb : Bytes (s.drop (hdAt s).toNat) := byDrop hb _
  have hrec : ∀ (g : Nat) (L : List Int), recS s (hdAt s + 5 * (g : Int)) L = rdRec ((s.drop (hdAt s).toNat).drop (5 * g)) L := fun g L => by
    unfold recS
    rw [List.drop_drop, show (hdAt s + 5 * (g : Int)).toNat = (hdAt s).toNat + 5 * g by omega]
  simp only [hrec]
  generalize hrr : s.drop (hdAt s).toNat = r at *
  refine ⟨hl', hb, fun h => (by cases h), fun _ => ⟨⟨0, ⟨by omega, by decide, fun n => rfl⟩, by omega, by trivial, by trivial, by trivial, by trivial, by trivial, rfl, trivial⟩, fun g hg => ?_⟩⟩
  obtain ⟨hg1, hg2, hg3⟩ := hg
  have hcl : (r.drop (5 * g)).length = r.length - 5 * g := List.length_drop
  have hsucc := chks_succ r g
  have hcw := chks_w hrb g
  have hclen := chks_len r g
  have hchk : chk r g = number (((r.drop (5 * g)).drop 1).take 2) := rfl
  have hd5 : (r.drop (5 * g)).drop 5 = r.drop (5 * (g + 1)) := by rw [List.drop_drop]; rfl
  obtain ⟨n, hn⟩ : ∃ n, s.length + 1 = (n + 1) + g := ⟨s.length - g, by omega⟩
  have hall : rbAll f (s.length + 1) r [] = rbAll f (n + 1) (r.drop (5 * g)) (chks r g) := by rw [hn]; exact hg3 (n + 1)
  have hcont : ∀ n, rbAll f (n + (g + 1)) r [] = rbAll f (n + 1) (r.drop (5 * g)) (chks r g) := fun n => by
    rw [show n + (g + 1) = (n + 1) + g by omega]
    exact hg3 (n + 1)
  rw [hchk] at hsucc
  generalize hcur : r.drop (5 * g) = cur at *
  generalize chks r g = L at *
  have none_ : ¬ ((rdRec cur L).1 = 0 ∧ (rdRec cur L).2.1 = false ∧ f + (L.length : Int) < 10000000) → ((L.length : Int) == 0) = true → [] = (rebuilt s).1.1 ∧ 0 = (rebuilt s).1.2.1 ∧ (rebuilt s).1.2.2 = [] ∧ false = (rebuilt s).2.1 ∧ 12 = (rebuilt s).2.2 ∧ True := fun h1 h2 => by
    rw [rebuilt_none hbg (hall.trans (rbAll_stop h1)) (by simpa using h2)]
    exact ⟨rfl, rfl, rfl, rfl, rfl, trivial⟩
  have some_ : ¬ ((rdRec cur L).1 = 0 ∧ (rdRec cur L).2.1 = false ∧ f + (L.length : Int) < 10000000) → ((L.length : Int) == 0) = false → nm = (rebuilt s).1.1 ∧ f = (rebuilt s).1.2.1 ∧ L = (rebuilt s).1.2.2 ∧ ((readS s).2 == 0) = (rebuilt s).2.1 ∧ 0 = (rebuilt s).2.2 ∧ True := fun h1 h2 => by
    rw [rebuilt_some hbg (hall.trans (rbAll_stop h1)) (by simpa using h2)]
    exact ⟨rfl, rfl, rfl, by rw [Bool.eq_iff_iff]; simp, rfl, trivial⟩
  refine ⟨by simp only [fits]; omega, fun h => ⟨hl', hb, by omega, by omega, hcw, fun h2 => ?_, fun h2 => ?_⟩, fun h => ?_⟩
  · have h1 : ¬ ((rdRec cur L).1 = 0 ∧ (rdRec cur L).2.1 = false ∧ f + (L.length : Int) < 10000000) := by
      rintro ⟨q1, q2, _⟩
      rw [q1, q2] at h2
      cases h2
    exact ⟨none_ h1, fun h3 => ⟨hl, hb, some_ h1 h3⟩⟩
  · have h' : (rdRec cur L).1 = 0 := by
      by_cases q : (rdRec cur L).1 = 0
      · exact q
      · rw [show ((rdRec cur L).1 != 0) = true by simpa using q] at h2; cases h2
    rw [if_pos h', h'] at h2
    have h2' : (rdRec cur L).2.1 = false := h2
    have hq := rdRec_zero h'
    have h256 := hq.2.1 h2'
    refine ⟨by simp only [room]; omega, by simp only [fits]; omega, g + 1, ⟨by omega, by omega, fun n => ?_⟩, by omega, by omega, by trivial, by trivial, by trivial, by trivial, by trivial, ?_, trivial⟩
    · rw [hcont n, rbAll_more ⟨h', h2', of_decide_eq_true h⟩, hd5, hq.2.2, hsucc]
    · rw [if_pos h', hq.2.2, hsucc]
  · have h1 : ¬ ((rdRec cur L).1 = 0 ∧ (rdRec cur L).2.1 = false ∧ f + (L.length : Int) < 10000000) := fun q => of_decide_eq_false h q.2.2
    exact ⟨none_ h1, fun h3 => ⟨hl, hb, some_ h1 h3⟩⟩
theorem so31_ : SpecOk P1 gl1 31 sp31 := by
  intro vs ps r h hp
  simp only [sp31] at h
  split at h
  · cases h; exact fn31 _ (hp _ (.head _)) (hp _ (.tail _ (.head _)))
  · cases h
theorem so31 : Sp1 31 sp31 := ⟨so31_, Proofs.Tryz.f31, _, by kernel_rfl, rfl, by kernel_rfl⟩
theorem fn4 (s : List Int) (hl : s.length ≤ 9223372036854775807) (hb : Bytes s) : Fn P1 gl1 4 [.one (.sl (.int .u8) s)] (.val (bV true)) true := by
  refine Fn.flat ?_ rfl
  refine fn_of false [(18, sp18), (28, sp28), (27, sp27), (29, sp29), (30, sp30), (31, sp31), (32, sp32)] [] h0 0 Proofs.Tryz.f4 ⟨so18, so28, so27, so29, so30, so31, so32, trivial⟩ trivial (by kernel_rfl) rfl (by kernel_rfl) rfl rfl rfl ?_
  rw [vc4]
  try simp only [splitB_iff, -eq_self]
  refine ⟨fun h => ⟨by trivial, trivial⟩, fun h => ?_⟩
  have h' : s.length ≤ 1500 := by have := of_decide_eq_false h; omega
  have l1 : (readS s).1.2.2.length ≤ 1000000 := by
    unfold readS
    split
    · split
      · split
        · rename_i hq
          have hz := (first_zero_iff _).1 hq
          have hc := (checkReel_zero.1 (hz _ (List.mem_cons_of_mem _ List.mem_cons_self))).len
          dsimp only
          omega
        · simp
      · simp
    · simp
  have l2 : (rebuilt s).1.2.2.length ≤ 1000000 := by
    unfold rebuilt
    split
    · split
      · simp
      · have := rbAll_len (rdBegin s).2.2.1 (s.length + 1) (rdBegin s).2.2.2 []
        simp only [List.length_nil] at this
        dsimp only
        omega
    · simp
  simp only [decide_true, beq_self_eq_true, cond_true]
  exact ⟨by omega, ⟨by omega, hb⟩, by omega, ⟨by omega, hb⟩, by omega, hb, by omega, hb, l1, fun _ => l2, by trivial, trivial⟩

end Go.Sx

/- Plain functions and hints. -/
namespace Go.Sx.U
end Go.Sx.U
namespace Go.Sx
open U
def h22 : Hints := ⟨fun f k s => match f, k with
  | 22, 5 => match rlAt s 1 with
    | some (nm, fr, l) => some ⟨Nat, fun i => ⟨[tI 4 i, (3, .val (.one (.own s.nx)))] ++ keepT [1] s.tm, (s.nx, some (.row (.int .u8) (head nm fr ++ recs l i))) :: lessO s [3], s.nx + 1, s.lr⟩, fun i => i ≤ List.length l, fun i => List.length l - i⟩
    | _ => none
  | _, _ => none, 0⟩
def sp19n : FSpec := ⟨fun vs => match vs with
  | [.agg [.one (.str nm), .one (.int .i64 f), .one (.sl (.int .i64) l)]] => some ([List.length l ≤ 1000000], .tup [.one (.frs (.int .u8) (bif checkReel nm f l == 0 then stream nm f l else [])), iV (checkReel nm f l)])
  | _ => none, true⟩
end Go.Sx
namespace Go.Sx
open U
def sp22 : FSpec := ⟨fun vs => match vs with
  | [.agg [.one (.str nm), .one (.int .i64 f), .one (.sl (.int .i64) l)]] => some ([ReelOk nm f l], .val (.one (.frs (.int .u8) (stream nm f l))))
  | _ => none, true⟩
end Go.Sx

/- What the engine asks, written out (printed by a program). -/
namespace Go.Sx
open U
theorem vc19e (nm : List UInt8) (f : Int) (l : List Int) : exF (env false [(23, sp23), (100, sp100), (101, sp101)] [fb99]) h19 3 19 Proofs.Tryz.f19 [rV nm f l] (.tup [.one (.frs (.int .u8) []), iV (checkReel nm f l)]) = (let q0 := (↑(List.length nm) : Int); let q1 := (16777216 : Int); let q9 := (List.length l); let q2 := (↑q9 : Int); let q3 := ((0 : Int) ≤ (0 : Int) ∧ (0 : Int) ≤ (5 : Int) ∧ (5 : Int) ≤ (5 : Int)); let q8 := (List.take (5 : Nat) (tlast l)); let q10 := ((0 : Int) ≤ (24 : Int) ∧ (24 : Nat) ≤ IntKind.bits IntKind.i64); let q11 := ((0 : Int) ≤ (16 : Int) ∧ (16 : Nat) ≤ IntKind.bits IntKind.i64); let q12 := ((0 : Int) ≤ (8 : Int) ∧ (8 : Nat) ≤ IntKind.bits IntKind.i64); List.length l ≤ (1000000 : Nat) ∧ splitB (checkReel nm f l != (0 : Int)) (nilI = [] ∧ checkReel nm f l = checkReel nm f l ∧ True) (((0 : Int) ≤ (0 : Int) ∧ (0 : Int) ≤ (4 : Int) ∧ (4 : Int) ≤ (4 : Int)) ∧ ∀ (b : Bool), (b = true → (4 : Nat) = (0 : Nat)) → splitB (b != false) (room (1 : Nat) (1 : Nat) ∧ room ((1 : Nat) + List.length nm) (1 : Nat) ∧ q10 ∧ q11 ∧ q12 ∧ room (List.length ([q0 % (256 : Int)] ++ strNs nm) + (4 : Nat)) (1 : Nat) ∧ (∃ (g : Nat), Nat.le g q9 ∧ (0 : Int) = (↑g : Int) ∧ q2 = q2 ∧ l = l ∧ [q0 % (256 : Int)] ++ strNs nm ++ [f / q1 % (256 : Int), f / (65536 : Int) % (256 : Int), f / (256 : Int) % (256 : Int), f % (256 : Int)] = [q0 % (256 : Int)] ++ strNs nm ++ [f / q1 % (256 : Int), f / (65536 : Int) % (256 : Int), f / (256 : Int) % (256 : Int), f % (256 : Int)] ++ recs l g ∧ [f / q1 % (256 : Int), f / (65536 : Int) % (256 : Int), f / (256 : Int) % (256 : Int), f % (256 : Int)] = [f / q1 % (256 : Int), f / (65536 : Int) % (256 : Int), f / (256 : Int) % (256 : Int), f % (256 : Int)] ∧ [q0 % (256 : Int)] = [q0 % (256 : Int)] ∧ nm = nm ∧ f = f ∧ l = l ∧ True) ∧ ∀ (g : Nat), let q5 := ([q0 % (256 : Int)] ++ strNs nm ++ [f / q1 % (256 : Int), f / (65536 : Int) % (256 : Int), f / (256 : Int) % (256 : Int), f % (256 : Int)] ++ recs l g); let q6 := (tframe (↑g : Int) (List.getD l g (0 : Int))); Nat.le g q9 → splitB (decide ((↑g : Int) < q2)) (((0 : Int) ≤ (↑g : Int) ∧ (↑g : Int) < q2) ∧ (((0 : Int) ≤ (↑g : Int) ∧ (↑g : Int) ≤ (1000000 : Int)) ∧ (0 : Int) ≤ List.getD l g (0 : Int) ∧ List.getD l g (0 : Int) ≤ (1000000 : Int)) ∧ q3 ∧ List.length (List.take (5 : Nat) q6) = (5 : Nat) ∧ room (List.length q5 + List.length (List.take (5 : Nat) q6)) (1 : Nat) ∧ fits IntKind.i64 ((↑g : Int) + (1 : Int)) ∧ ∃ (g' : Nat), Nat.le g' q9 ∧ List.length l - g' < List.length l - g ∧ (↑g : Int) + (1 : Int) = (↑g' : Int) ∧ q2 = q2 ∧ l = l ∧ [q0 % (256 : Int)] ++ strNs nm ++ [f / q1 % (256 : Int), f / (65536 : Int) % (256 : Int), f / (256 : Int) % (256 : Int), f % (256 : Int)] ++ recs l g ++ List.take (5 : Nat) q6 = [q0 % (256 : Int)] ++ strNs nm ++ [f / q1 % (256 : Int), f / (65536 : Int) % (256 : Int), f / (256 : Int) % (256 : Int), f % (256 : Int)] ++ recs l g' ∧ [f / q1 % (256 : Int), f / (65536 : Int) % (256 : Int), f / (256 : Int) % (256 : Int), f % (256 : Int)] = [f / q1 % (256 : Int), f / (65536 : Int) % (256 : Int), f / (256 : Int) % (256 : Int), f % (256 : Int)] ∧ [q0 % (256 : Int)] = [q0 % (256 : Int)] ∧ nm = nm ∧ f = f ∧ l = l ∧ True) ((List.length l ≤ (1000000 : Nat) ∧ ∀ (x : Int), x ∈ l → (0 : Int) ≤ x ∧ x ≤ (65535 : Int)) ∧ q3 ∧ List.length q8 = (5 : Nat) ∧ room (List.length q5 + List.length q8) (1 : Nat) ∧ [q0 % (256 : Int)] ++ strNs nm ++ [f / q1 % (256 : Int), f / (65536 : Int) % (256 : Int), f / (256 : Int) % (256 : Int), f % (256 : Int)] ++ recs l g ++ List.take (5 : Nat) (tlast l) = [] ∧ (0 : Int) = checkReel nm f l ∧ True)) (room (4 : Nat) (1 : Nat) ∧ room (5 : Nat) (1 : Nat) ∧ room (List.length ([(82 : Int), (69 : Int), (69 : Int), (76 : Int)] ++ [q0 % (256 : Int)]) + List.length nm) (1 : Nat) ∧ q10 ∧ q11 ∧ q12 ∧ room (List.length ([(82 : Int), (69 : Int), (69 : Int), (76 : Int)] ++ [q0 % (256 : Int)] ++ strNs nm) + (4 : Nat)) (1 : Nat) ∧ (∃ (g : Nat), Nat.le g q9 ∧ (0 : Int) = (↑g : Int) ∧ q2 = q2 ∧ l = l ∧ [(82 : Int), (69 : Int), (69 : Int), (76 : Int)] ++ [q0 % (256 : Int)] ++ strNs nm ++ [f / q1 % (256 : Int), f / (65536 : Int) % (256 : Int), f / (256 : Int) % (256 : Int), f % (256 : Int)] = [(82 : Int), (69 : Int), (69 : Int), (76 : Int)] ++ [q0 % (256 : Int)] ++ strNs nm ++ [f / q1 % (256 : Int), f / (65536 : Int) % (256 : Int), f / (256 : Int) % (256 : Int), f % (256 : Int)] ++ recs l g ∧ [f / q1 % (256 : Int), f / (65536 : Int) % (256 : Int), f / (256 : Int) % (256 : Int), f % (256 : Int)] = [f / q1 % (256 : Int), f / (65536 : Int) % (256 : Int), f / (256 : Int) % (256 : Int), f % (256 : Int)] ∧ [q0 % (256 : Int)] = [q0 % (256 : Int)] ∧ nm = nm ∧ f = f ∧ l = l ∧ True) ∧ ∀ (g : Nat), let q4 := ([(82 : Int), (69 : Int), (69 : Int), (76 : Int)] ++ [q0 % (256 : Int)] ++ strNs nm ++ [f / q1 % (256 : Int), f / (65536 : Int) % (256 : Int), f / (256 : Int) % (256 : Int), f % (256 : Int)] ++ recs l g); let q7 := (tframe (↑g : Int) (List.getD l g (0 : Int))); Nat.le g q9 → splitB (decide ((↑g : Int) < q2)) (((0 : Int) ≤ (↑g : Int) ∧ (↑g : Int) < q2) ∧ (((0 : Int) ≤ (↑g : Int) ∧ (↑g : Int) ≤ (1000000 : Int)) ∧ (0 : Int) ≤ List.getD l g (0 : Int) ∧ List.getD l g (0 : Int) ≤ (1000000 : Int)) ∧ q3 ∧ List.length (List.take (5 : Nat) q7) = (5 : Nat) ∧ room (List.length q4 + List.length (List.take (5 : Nat) q7)) (1 : Nat) ∧ fits IntKind.i64 ((↑g : Int) + (1 : Int)) ∧ ∃ (g' : Nat), Nat.le g' q9 ∧ List.length l - g' < List.length l - g ∧ (↑g : Int) + (1 : Int) = (↑g' : Int) ∧ q2 = q2 ∧ l = l ∧ [(82 : Int), (69 : Int), (69 : Int), (76 : Int)] ++ [q0 % (256 : Int)] ++ strNs nm ++ [f / q1 % (256 : Int), f / (65536 : Int) % (256 : Int), f / (256 : Int) % (256 : Int), f % (256 : Int)] ++ recs l g ++ List.take (5 : Nat) q7 = [(82 : Int), (69 : Int), (69 : Int), (76 : Int)] ++ [q0 % (256 : Int)] ++ strNs nm ++ [f / q1 % (256 : Int), f / (65536 : Int) % (256 : Int), f / (256 : Int) % (256 : Int), f % (256 : Int)] ++ recs l g' ∧ [f / q1 % (256 : Int), f / (65536 : Int) % (256 : Int), f / (256 : Int) % (256 : Int), f % (256 : Int)] = [f / q1 % (256 : Int), f / (65536 : Int) % (256 : Int), f / (256 : Int) % (256 : Int), f % (256 : Int)] ∧ [q0 % (256 : Int)] = [q0 % (256 : Int)] ∧ nm = nm ∧ f = f ∧ l = l ∧ True) ((List.length l ≤ (1000000 : Nat) ∧ ∀ (x : Int), x ∈ l → (0 : Int) ≤ x ∧ x ≤ (65535 : Int)) ∧ q3 ∧ List.length q8 = (5 : Nat) ∧ room (List.length q4 + List.length q8) (1 : Nat) ∧ [(82 : Int), (69 : Int), (69 : Int), (76 : Int)] ++ [q0 % (256 : Int)] ++ strNs nm ++ [f / q1 % (256 : Int), f / (65536 : Int) % (256 : Int), f / (256 : Int) % (256 : Int), f % (256 : Int)] ++ recs l g ++ List.take (5 : Nat) (tlast l) = [] ∧ (0 : Int) = checkReel nm f l ∧ True)))) := by
  kernel_rfl
theorem vc22 (nm : List UInt8) (f : Int) (l : List Int) : exF (env false [(103, sp103), (104, sp104), (105, sp105)] []) h22 0 22 Proofs.Tryz.f22 [rV nm f l] (.val (.one (.frs (.int .u8) (stream nm f l)))) = (let q0 := (↑(List.length nm) : Int); let q1 := (List.length l); (0 : Nat) < (4 : Nat) ∧ room (5 : Nat) (1 : Nat) ∧ room (List.length ([(82 : Int), (69 : Int), (69 : Int), (76 : Int)] ++ [q0 % (256 : Int)]) + List.length (strNs nm)) (1 : Nat) ∧ ((0 : Int) ≤ f ∧ (0 : Int) < (65536 : Int) ∧ fits IntKind.i64 (f / (65536 : Int))) ∧ ((0 : Int) ≤ f / (65536 : Int) ∧ f / (65536 : Int) ≤ (65535 : Int)) ∧ room (List.length ([(82 : Int), (69 : Int), (69 : Int), (76 : Int)] ++ [q0 % (256 : Int)] ++ strNs nm) + (2 : Nat)) (1 : Nat) ∧ ((0 : Int) ≤ f ∧ (0 : Int) < (65536 : Int)) ∧ ((0 : Int) ≤ f % (65536 : Int) ∧ f % (65536 : Int) ≤ (65535 : Int)) ∧ room (List.length ([(82 : Int), (69 : Int), (69 : Int), (76 : Int)] ++ [q0 % (256 : Int)] ++ strNs nm ++ [f / (65536 : Int) / (256 : Int) % (256 : Int), f / (65536 : Int) % (256 : Int)]) + (2 : Nat)) (1 : Nat) ∧ (∃ (g : Nat), Nat.le g q1 ∧ (0 : Int) = (↑g : Int) ∧ [(82 : Int), (69 : Int), (69 : Int), (76 : Int)] ++ [q0 % (256 : Int)] ++ strNs nm ++ [f / (65536 : Int) / (256 : Int) % (256 : Int), f / (65536 : Int) % (256 : Int)] ++ [f % (65536 : Int) / (256 : Int) % (256 : Int), f % (65536 : Int) % (256 : Int)] = head nm f ++ recs l g ∧ [f % (65536 : Int) / (256 : Int) % (256 : Int), f % (65536 : Int) % (256 : Int)] = [f % (65536 : Int) / (256 : Int) % (256 : Int), f % (65536 : Int) % (256 : Int)] ∧ [f / (65536 : Int) / (256 : Int) % (256 : Int), f / (65536 : Int) % (256 : Int)] = [f / (65536 : Int) / (256 : Int) % (256 : Int), f / (65536 : Int) % (256 : Int)] ∧ [q0 % (256 : Int)] = [q0 % (256 : Int)] ∧ nm = nm ∧ f = f ∧ l = l ∧ True) ∧ ∀ (g : Nat), Nat.le g q1 → splitB (decide ((↑g : Int) < (↑q1 : Int))) (((0 : Int) ≤ (↑g : Int) ∧ (↑g : Int) < (↑q1 : Int)) ∧ ((0 : Int) ≤ (↑g : Int) ∧ (↑g : Int) ≤ (1000 : Int)) ∧ ((0 : Int) ≤ List.getD l g (0 : Int) ∧ List.getD l g (0 : Int) ≤ (65535 : Int)) ∧ room (List.length (head nm f ++ recs l g) + List.length (tframe (↑g : Int) (List.getD l g (0 : Int)))) (1 : Nat) ∧ fits IntKind.i64 ((↑g : Int) + (1 : Int)) ∧ ∃ (g' : Nat), Nat.le g' q1 ∧ List.length l - g' < List.length l - g ∧ (↑g : Int) + (1 : Int) = (↑g' : Int) ∧ head nm f ++ recs l g ++ tframe (↑g : Int) (List.getD l g (0 : Int)) = head nm f ++ recs l g' ∧ [f % (65536 : Int) / (256 : Int) % (256 : Int), f % (65536 : Int) % (256 : Int)] = [f % (65536 : Int) / (256 : Int) % (256 : Int), f % (65536 : Int) % (256 : Int)] ∧ [f / (65536 : Int) / (256 : Int) % (256 : Int), f / (65536 : Int) % (256 : Int)] = [f / (65536 : Int) / (256 : Int) % (256 : Int), f / (65536 : Int) % (256 : Int)] ∧ [q0 % (256 : Int)] = [q0 % (256 : Int)] ∧ nm = nm ∧ f = f ∧ l = l ∧ True) (List.length l ≤ (65535 : Nat) ∧ (∀ (x : Int), x ∈ l → (0 : Int) ≤ x ∧ x ≤ (65535 : Int)) ∧ room (List.length (head nm f ++ recs l g) + List.length (tlast l)) (1 : Nat) ∧ head nm f ++ recs l g ++ tlast l = stream nm f l ∧ True)) := by
  kernel_rfl
theorem vc3 (nm : List UInt8) (f : Int) (l : List Int) (R : List Rl) : exF (env false [(16, sp16), (17, sp17), (18, sp18), (20, sp20), (19, sp19n), (21, sp21), (22, sp22), (23, sp23), (25, sp25), (24, sp24), (26, sp26)] []) h0 0 3 Proofs.Tryz.f3 [rV nm f l, .one (.sl rlT R)] (.val (bV true)) = (let q2 := (bif checkReel nm f l == (0 : Int) then stream nm f l else []); let q0 := (bif bif checkReel nm f l == checkReel nm f l then bytesOf q2 == bytesOf (stream nm f l) else false then checkReel nm f l == checkReel nm f l else false); let q1 := (bif bif checkReel nm f l == checkReel nm f l then bytesOf q2 == bytesOf [] else false then checkReel nm f l == checkReel nm f l else false); let q3 := (1000000 : Nat); let q4 := (1000000000 : Nat); ((!shortR (nm, f, l)) = false → List.length R ≤ (9223372036854775807 : Nat)) ∧ ((!shortR (nm, f, l)) = false → (0 : Nat) ≤ (9223372036854775807 : Nat)) ∧ splitB (bif !shortR (nm, f, l) then true else !shortB R []) (true = true ∧ True) (List.length l ≤ q3 ∧ List.length l ≤ q3 ∧ List.length nm ≤ q4 ∧ List.length l ≤ q3 ∧ splitB (checkReel nm f l == (0 : Int)) (ReelOk nm f l ∧ List.length l ≤ q3 ∧ List.length l ≤ q3 ∧ (q0 = true → List.length R ≤ q3) ∧ (q0 = true → ∀ (r : Rl), r ∈ R → List.length r.2.2 ≤ q3) ∧ (q0 = true → List.length R ≤ q4) ∧ (q0 = true → ∀ (r : Rl), r ∈ R → List.length r.2.2 ≤ q3) ∧ (q0 = true → List.length R ≤ q4) ∧ (q0 = true → ∀ (r : Rl), r ∈ R → List.length r.2.2 ≤ q3 ∧ List.length r.1 ≤ q4) ∧ (bif bif bif bif checkReel nm f l == checkReel nm f l then bytesOf q2 == bytesOf (stream nm f l) else false then checkReel nm f l == checkReel nm f l else false then chkRs R == chkRs R else false then true else false) = true ∧ True) (List.length l ≤ q3 ∧ List.length l ≤ q3 ∧ (q1 = true → List.length R ≤ q3) ∧ (q1 = true → ∀ (r : Rl), r ∈ R → List.length r.2.2 ≤ q3) ∧ (q1 = true → List.length R ≤ q4) ∧ (q1 = true → ∀ (r : Rl), r ∈ R → List.length r.2.2 ≤ q3) ∧ (q1 = true → List.length R ≤ q4) ∧ (q1 = true → ∀ (r : Rl), r ∈ R → List.length r.2.2 ≤ q3 ∧ List.length r.1 ≤ q4) ∧ (bif bif bif bif checkReel nm f l == checkReel nm f l then bytesOf q2 == bytesOf [] else false then checkReel nm f l == checkReel nm f l else false then chkRs R == chkRs R else false then true else false) = true ∧ True))) := by
  kernel_rfl
end Go.Sx

/- Contracts. -/
namespace Go.Sx
open U
theorem fn19e (nm : List UInt8) (f : Int) (l : List Int) (hl : l.length ≤ 1000000) (h : checkReel nm f l ≠ 0) : Fn P1 gl1 19 [rV nm f l] (.tup [.one (.frs (.int .u8) []), iV (checkReel nm f l)]) true := by
  refine Fn.flat ?_ rfl
  refine fn_of false [(23, sp23), (100, sp100), (101, sp101)] [fb99] h19 3 Proofs.Tryz.f19 ⟨so23, so100, so101, trivial⟩ ⟨⟨by kernel_rfl, by kernel_rfl, _, rfl, by kernel_rfl⟩, trivial⟩ (by kernel_rfl) rfl (by kernel_rfl) rfl rfl rfl ?_
  rw [vc19e]
  try simp only [splitB_iff, -eq_self]
  refine ⟨hl, fun _ => ⟨rfl, rfl, trivial⟩, fun h1 => ?_⟩
  exact absurd (by simpa using h1) h
theorem fn19n (nm : List UInt8) (f : Int) (l : List Int) (hl : l.length ≤ 1000000) : Fn P1 gl1 19 [rV nm f l] (.tup [.one (.frs (.int .u8) (bif checkReel nm f l == 0 then stream nm f l else [])), iV (checkReel nm f l)]) true := by
  by_cases h : checkReel nm f l = 0
  · have := fn19 nm f l (checkReel_zero.1 h)
    rw [h]
    exact this
  · have := fn19e nm f l hl h
    rw [show (checkReel nm f l == 0) = false from beq_eq_false_iff_ne.2 h]
    exact this
theorem so19n_ : SpecOk P1 gl1 19 sp19n := by
  intro vs ps r h hp
  simp only [sp19n] at h
  split at h
  · cases h
    exact fn19n _ _ _ (hp _ (.head _))
  · cases h
theorem so19n : Sp1 19 sp19n := ⟨so19n_, Proofs.Tryz.f19, _, by kernel_rfl, rfl, by kernel_rfl⟩
theorem fn22 (nm : List UInt8) (f : Int) (l : List Int) (h : ReelOk nm f l) : Fn P1 gl1 22 [rV nm f l] (.val (.one (.frs (.int .u8) (stream nm f l)))) true := by
  refine Fn.flat ?_ rfl
  refine fn_of false [(103, sp103), (104, sp104), (105, sp105)] [] h22 0 Proofs.Tryz.f22 ⟨so103, so104, so105, trivial⟩ trivial (by kernel_rfl) rfl (by kernel_rfl) rfl rfl rfl ?_
  rw [vc22]
  try simp only [splitB_iff, -eq_self]
  have hn := isName_len h.name
  have hs := h.start
  have hl := h.len
  have hw := h.w
  have hE : [82, 69, 69, 76] ++ [(nm.length : Int) % 256] ++ strNs nm ++ [f / 65536 / 256 % 256, f / 65536 % 256] ++ [f % 65536 / 256 % 256, f % 65536 % 256] = head nm f ++ recs l 0 := by
    have e1 : f / 65536 / 256 % 256 = f / 16777216 % 256 := by omega
    have e2 : f % 65536 / 256 % 256 = f / 256 % 256 := by omega
    have e3 : f % 65536 % 256 = f % 256 := by omega
    rw [e1, e2, e3]
    simp [head, four, recs]
  simp only [eq_self, and_true, and_self]
  refine ⟨by decide, by simp only [room]; decide, by simp only [room, List.length_append, strNs_len, List.length_cons, List.length_nil]; omega, ⟨by omega, by omega, by simp only [fits]; omega⟩, by omega, by simp only [room, List.length_append, strNs_len, List.length_cons, List.length_nil]; omega, by omega, by omega, by simp only [room, List.length_append, strNs_len, List.length_cons, List.length_nil]; omega, ⟨0, Nat.zero_le _, rfl, hE⟩, fun g hg => ⟨fun hlt => ?_, fun hge => ?_⟩⟩
  · have hlt' : g < l.length := by have := of_decide_eq_true hlt; omega
    have hx := hw _ (getD_mem (d := 0) hlt')
    exact ⟨by omega, by omega, hx, by simp only [room, List.length_append, head_len, recs_len, tframe_len]; omega, by simp only [fits]; omega, g + 1, hlt', by omega, by omega, by rw [List.append_assoc]; rfl⟩
  · have hge' : g = l.length := by have := of_decide_eq_false hge; have : g ≤ l.length := hg; omega
    rw [hge']
    exact ⟨by omega, hw, by simp only [room, List.length_append, head_len, recs_len, tlast_len]; omega, rfl⟩
theorem so22_ : SpecOk P1 gl1 22 sp22 := by
  intro vs ps r h hp
  simp only [sp22] at h
  split at h
  · cases h; exact fn22 _ _ _ (hp _ (.head _))
  · cases h
theorem so22 : Sp1 22 sp22 := ⟨so22_, Proofs.Tryz.f22, _, by kernel_rfl, rfl, by kernel_rfl⟩
theorem fn3 (nm : List UInt8) (f : Int) (l : List Int) (R : List Rl) (hR : R.length ≤ 9223372036854775807) : Fn P1 gl1 3 [rV nm f l, .one (.sl rlT R)] (.val (bV true)) true := by
  refine Fn.flat ?_ rfl
  refine fn_of false [(16, sp16), (17, sp17), (18, sp18), (20, sp20), (19, sp19n), (21, sp21), (22, sp22), (23, sp23), (25, sp25), (24, sp24), (26, sp26)] [] h0 0 Proofs.Tryz.f3 ⟨so16, so17, so18, so20, so19n, so21, so22, so23, so25, so24, so26, trivial⟩ trivial (by kernel_rfl) rfl (by kernel_rfl) rfl rfl rfl ?_
  rw [vc3]
  try simp only [splitB_iff, -eq_self]
  simp only [eq_self, and_true, and_self]
  refine ⟨fun _ => hR, fun _ => by decide, fun _ => trivial, fun h => ?_⟩
  have hsh : (R.length ≤ 9 ∧ ∀ r ∈ R, r.2.2.length ≤ 257 ∧ r.1.length ≤ 40) ∧ (nm.length ≤ 40 ∧ l.length ≤ 257) := by
    rw [bcond_l, Bool.or_eq_false_iff] at h
    obtain ⟨h1, h2⟩ := h
    simp only [Bool.not_eq_false', shortB, shortR, Bool.and_eq_true, Bool.or_eq_true, List.all_eq_true, decide_eq_true_eq] at h1 h2
    obtain ⟨h3, h4, _⟩ := h2
    exact ⟨⟨by omega, fun r hr => by have := h3 r hr; omega⟩, by omega, by omega⟩
  obtain ⟨⟨hR9, hRx⟩, hn, hl⟩ := hsh
  have hR2 : ∀ r ∈ R, r.2.2.length ≤ 1000000 := fun r hr => by have := hRx r hr; omega
  have hR3 : ∀ r ∈ R, r.2.2.length ≤ 1000000 ∧ r.1.length ≤ 1000000000 := fun r hr => by have := hRx r hr; omega
  clear h
  refine ⟨by omega, by omega, by omega, by omega, fun h0 => ?_, fun h0 => ?_⟩
  · have hE : checkReel nm f l = 0 := by simpa using h0
    refine ⟨checkReel_zero.1 hE, by omega, by omega, fun _ => by omega, fun _ => hR2, fun _ => by omega, fun _ => hR2, fun _ => by omega, fun _ => hR3, ?_⟩
    rw [h0]; simp
  · refine ⟨by omega, by omega, fun _ => by omega, fun _ => hR2, fun _ => by omega, fun _ => hR2, fun _ => by omega, fun _ => hR3, ?_⟩
    rw [h0]; simp

end Go.Sx
