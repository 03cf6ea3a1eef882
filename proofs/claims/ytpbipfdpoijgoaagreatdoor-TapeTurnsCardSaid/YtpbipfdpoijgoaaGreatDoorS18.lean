/- A verified symbolic run of functions, part 18: lemmas, no claim of their own. -/
import Derived.Test.YtpbipfdpoijgoaaGreatDoorS17
/- Contracts. -/
namespace Go.Sx
open U
theorem bothE_zero {R : List Rl} {A B : List Ed} : bothE R A B = 0 ↔ ListOk R A ∧ ListOk R B := by
  rw [← chkEds_zero, ← chkEds_zero]
  unfold bothE
  by_cases h : chkEds R A = 0 <;> by_cases h2 : chkEds R B = 0 <;> simp [first, h, h2]
theorem takes_len2 (p : List Pl) (fr : Int) : (takesN p fr).length ≤ 2 := by
  unfold takesN takesE
  split <;> simp
theorem sp_len (is : Int → Bool) (a : Int) : ∀ i, (spTo is a i).length ≤ i
  | 0 => Nat.le_refl _
  | i + 1 => by
    have ih := sp_len is a i
    have h : (addSp (spTo is a i) (a + (i : Int))).length ≤ (spTo is a i).length + 1 := by
      unfold addSp
      split
      · rw [List.length_set]; omega
      · simp
    simp only [spTo]
    split <;> omega
theorem eq_tk (x y : Tk) : eqT tkT x y = decide (x = y) := by
  rw [Bool.eq_iff_iff, decide_eq_true_eq]
  simp [eqT, Prod.ext_iff]
theorem bif_fl {a b : Bool} (h : (bif a then true else b) = false) : a = false := by
  cases a
  · rfl
  · cases h
theorem bnot_t {b : Bool} (h : (!b) = true) : b = false := by
  cases b
  · rfl
  · cases h
theorem bnot_f {b : Bool} (h : (!b) = false) : b = true := by
  cases b
  · cases h
  · rfl
theorem addSp_n {o : List (Int × Int)} {n : Int} (h : 0 < o.length → (o.getD (o.length - 1) sp0).2 ≠ n) : addSp o n = o ++ [(n, n + 1)] := by
  unfold addSp
  rw [if_neg (fun q => h q.1 q.2)]
theorem addSp_o {o : List (Int × Int)} {n : Int} (h0 : 0 < o.length) (h : (o.getD (o.length - 1) sp0).2 = n) : addSp o n = o.set (o.length - 1) ((o.getD (o.length - 1) sp0).1, n + 1) := by
  unfold addSp
  rw [if_pos ⟨h0, h⟩, h]
theorem spTo_h {is : Int → Bool} {a : Int} {j : Nat} (h : is (a + (j : Int)) = true) : spTo is a (j + 1) = addSp (spTo is a j) (a + (j : Int)) := by
  show (if _ then _ else _) = _
  rw [if_pos h]
theorem spTo_m {is : Int → Bool} {a : Int} {j : Nat} (h : is (a + (j : Int)) = false) : spTo is a (j + 1) = spTo is a j := by
  show (if _ then _ else _) = _
  rw [if_neg (by rw [h]; decide)]
theorem set_lastJ {α : Type} {d : α} (o : List α) (x y : α) : (o ++ [x]).set ((((o ++ [x]).length : Nat) : Int) - 1).toNat y = o ++ [y] ∧ (o ++ [x]).getD ((((o ++ [x]).length : Nat) : Int) - 1).toNat d = x := by
  have e : ((((o ++ [x]).length : Nat) : Int) - 1).toNat = o.length := by rw [List.length_append]; simp
  rw [e]
  constructor
  · rw [List.set_append_right _ _ (Nat.le_refl _), Nat.sub_self]; rfl
  · rw [List.getD_eq_getElem?_getD, List.getElem?_append_right (Nat.le_refl _), Nat.sub_self]; rfl
theorem fn154 (a b : List Tk) (hl : a.length ≤ 1000000) : Fn P1 gl1 154 [.one (.sl tkT a), .one (.sl tkT b)] (.val (bV (decide (a = b)))) true := by
  refine Fn.flat ?_ rfl
  refine fn_of false [] [] h154 0 Proofs.Tryz.f154 trivial trivial (by kernel_rfl) rfl (by kernel_rfl) rfl rfl rfl ?_
  rw [vc154]
  try simp only [splitB_iff, -eq_self]
  have heq : ∀ x y : Tk, eqT tkT x y = true ↔ x = y := fun x y => by simp [eqT, Prod.ext_iff]
  simp only [same_len]
  refine ⟨fun h => ⟨(decide_eq_false fun e => ?_).symm, trivial⟩, fun h => ?_⟩
  · rw [e] at h; simp at h
  · have h' : a.length = b.length := by simpa using h
    refine ⟨⟨0, ⟨Nat.zero_le _, fun j hj => absurd hj (Nat.not_lt_zero _)⟩, rfl, by trivial, by trivial, by trivial, trivial⟩, fun g hg => ⟨fun hlt => ?_, fun hge => ?_⟩⟩
    · have hlt' : g < a.length := by have := of_decide_eq_true hlt; omega
      refine ⟨by omega, by omega, fun hne => ⟨(decide_eq_false fun e => ?_).symm, trivial⟩, fun hq => ⟨by simp only [fits]; omega, g + 1, ⟨hlt', fun j hj => ?_⟩, by omega, by omega, by trivial, by trivial, by trivial, trivial⟩⟩
      · subst e
        have hne' : (!eqT tkT (a.getD g tk0) (a.getD g tk0)) = true := hne
        rw [(heq _ _).2 rfl] at hne'
        cases hne'
      · by_cases ej : j = g
        · subst ej
          have hq' : (!eqT tkT (a.getD j tk0) (b.getD j tk0)) = false := hq
          exact (heq _ _).1 (by simpa using hq')
        · exact hg.2 j (by omega)
    · exact ⟨(decide_eq_true (same_all tk0 h' fun j hj => hg.2 j (by have := of_decide_eq_false hge; omega))).symm, trivial⟩
theorem so154_ : SpecOk P1 gl1 154 sp154 := by
  intro vs ps r h hp
  simp only [sp154] at h
  split at h
  · cases h; exact fn154 _ _ (hp _ (.head _))
  · cases h
theorem so154 : Sp1 154 sp154 := ⟨so154_, Proofs.Tryz.f154, _, by kernel_rfl, rfl, by kernel_rfl⟩
theorem fn78 (R : List Rl) (A B : List Ed) (hl : R.length ≤ 1000000000) (hR : ∀ r ∈ R, r.2.2.length ≤ 1000000) (hA : A.length ≤ 1000000000) (hB : B.length ≤ 1000000000) : Fn P1 gl1 78 [.one (.sl rlT R), .one (.sl edT A), .one (.sl edT B)] (.tup [.one (.frs snT (diffN R A B)), iV (bothE R A B)]) true := by
  refine Fn.flat ?_ rfl
  refine fn_of false [(152, sp152), (120, sp120), (155, sp155n), (124, sp124), (154, sp154)] [fb148, fb153] h78 3 Proofs.Tryz.f78 ⟨so152, so120, so155n, so124, so154, trivial⟩ ⟨⟨by kernel_rfl, by kernel_rfl, _, rfl, by kernel_rfl⟩, ⟨by kernel_rfl, by kernel_rfl, _, rfl, by kernel_rfl⟩, trivial⟩ (by kernel_rfl) rfl (by kernel_rfl) rfl rfl rfl ?_
  rw [vc78]
  try simp only [splitB_iff, -eq_self]
  have hb : first [chkEds R A, chkEds R B] = bothE R A B := rfl
  have hN : ∀ L : List Ed, begN L L.length = lenL L := fun _ => rfl
  have hP : ∀ L : List Ed, plTo L L.length = ls L := fun _ => rfl
  simp only [eq_self, true_and, and_true, and_self, hb, hN, hP]
  refine ⟨hl, hR, hA, hB, fun h => ?_, fun h => ?_⟩
  · have h' : bothE R A B ≠ 0 := by simpa using h
    unfold diffN
    rw [if_neg h']
  have h' : bothE R A B = 0 := by simpa using h
  obtain ⟨hkA, hkB⟩ := bothE_zero.1 h'
  have hnA := lenL_nn hkA
  have hnB := lenL_nn hkB
  have hbA := hkA.big
  have hbB := hkB.big
  have hD : ∀ t, (bif bif decide (min (lenL A) (lenL B) ≤ t) then true else !eqT tkT (soundN (ls A) t) (soundN (ls B) t) then true else !decide (takesN (ls A) t = takesN (ls B) t)) = diffB (ls A) (ls B) (lenL A) (lenL B) t := fun t => by
    rw [bcond_l, bcond_l, Bool.or_assoc, eq_tk]; rfl
  refine ⟨hl, hkA.eds, hl, hkB.eds, ⟨0, Nat.zero_le _, rfl, rfl⟩, fun g hg => ⟨fun hlt => ?_, fun hge => ?_⟩⟩
  · have hlt' : (0 : Int) + (g : Int) < max (lenL A) (lenL B) := of_decide_eq_true hlt
    have p7 : decide (min (lenL A) (lenL B) ≤ 0 + (g : Int)) = false → (PlsOk (ls A) ∧ PlsOk (ls B)) ∧ (0 ≤ 0 + (g : Int) ∧ 0 + (g : Int) ≤ 100000) := fun h => by
      have h1 : ¬ min (lenL A) (lenL B) ≤ 0 + (g : Int) := of_decide_eq_false h
      exact ⟨⟨hkA.pls' (t := 0 + (g : Int)) (by omega) (by omega), hkB.pls' (t := 0 + (g : Int)) (by omega) (by omega)⟩, by omega, by omega⟩
    have ht := takes_len2 (ls A) (0 + (g : Int))
    have hg1 : g + 1 ≤ (max (lenL A) (lenL B) - 0).toNat := by omega
    refine ⟨fun h => (p7 h).1.1, fun h => (p7 h).2, fun h => (p7 h).1.2, fun h => (p7 h).2, fun h => (p7 (bif_fl h)).1.1, fun h => (p7 (bif_fl h)).2, fun h => (p7 (bif_fl h)).1.2, fun h => (p7 (bif_fl h)).2, fun _ => by omega, fun hno => ?_, fun hyes => ?_⟩
    · have hno' : diffB (ls A) (ls B) (lenL A) (lenL B) (0 + (g : Int)) = false := by rw [← hD]; exact bnot_t hno
      exact ⟨by simp only [fits]; omega, g + 1, hg1, by omega, by omega, (spTo_m hno').symm⟩
    · have hyes' : diffB (ls A) (ls B) (lenL A) (lenL B) (0 + (g : Int)) = true := by rw [← hD]; exact bnot_f hyes
      have hsl := sp_len (diffB (ls A) (ls B) (lenL A) (lenL B)) 0 g
      have hsucc := spTo_h hyes'
      generalize hM : (max (lenL A) (lenL B) - 0).toNat = M at *
      have hM2 : M ≤ 1024 := by omega
      clear hD p7 ht hyes hyes'
      generalize spTo (diffB (ls A) (ls B) (lenL A) (lenL B)) 0 g = o at *
      have hpos : ∀ h : decide ((0 : Int) < (o.length : Int)) = true, 0 < o.length := fun h => by have := of_decide_eq_true h; omega
      have hidx : 0 < o.length → ((o.length : Int) - 1).toNat = o.length - 1 := fun h => by omega
      refine ⟨fun h => by have := hpos h; simp only [fits]; omega, fun h => by have := hpos h; omega, fun h => by have := hpos h; omega, fun h => ?_, fun h => ?_⟩
      · cases h0 : decide ((0 : Int) < (o.length : Int)) with
        | false => rw [h0] at h; cases h
        | true =>
          rw [h0] at h
          have h1 := hpos h0
          rw [hidx h1] at h ⊢
          have h2 : (o.getD (o.length - 1) (0, 0)).2 = 0 + (g : Int) := by simpa using h
          refine ⟨by simp only [fits]; omega, by omega, by omega, by simp only [fits]; omega, by omega, by omega, by simp only [fits]; omega, g + 1, hg1, by omega, by omega, ?_⟩
          rw [hsucc, addSp_o h1 h2]
          exact congrArg (fun z => o.set (o.length - 1) ((o.getD (o.length - 1) sp0).1, z + 1)) h2
      · refine ⟨by simp only [fits]; omega, by simp only [room]; omega, by simp only [fits]; omega, g + 1, hg1, by omega, by omega, ?_⟩
        rw [hsucc, addSp_n]
        intro h1 h2
        have h0 : decide ((0 : Int) < (o.length : Int)) = true := decide_eq_true (by omega)
        rw [h0, hidx h1] at h
        have h2' : (o.getD (o.length - 1) (0, 0)).2 = 0 + (g : Int) := h2
        rw [h2'] at h
        simp at h
  · have hge' : ¬ (0 : Int) + (g : Int) < max (lenL A) (lenL B) := of_decide_eq_false hge
    have hgM : g = (max (lenL A) (lenL B)).toNat := by
      have h4 : g ≤ (max (lenL A) (lenL B) - 0).toNat := hg
      omega
    subst hgM
    rw [h']
    refine ⟨?_, rfl⟩
    unfold diffN diffTo
    rw [if_pos h']
theorem so78_ : SpecOk P1 gl1 78 sp78 := by
  intro vs ps r h hp
  simp only [sp78] at h
  split at h
  · cases h; exact fn78 _ _ _ (hp _ (.head _)) (hp _ (.tail _ (.head _))) (hp _ (.tail _ (.tail _ (.head _)))) (hp _ (.tail _ (.tail _ (.tail _ (.head _)))))
  · cases h
theorem so78 : Sp1 78 sp78 := ⟨so78_, Proofs.Tryz.f78, _, by kernel_rfl, rfl, by kernel_rfl⟩

end Go.Sx

/- Plain laws: changes of a list there and back. -/
namespace Go.Sx
open U

theorem trimL_get' (L : List Ed) (i : Nat) (b : Int) (j : Nat) (h : i < L.length) : (trimL L i b).getD j e0 = if i = j then ((L.getD i e0).1, (L.getD i e0).2.1, (L.getD i e0).2.2.1 + b, (L.getD i e0).2.2.2.1, (L.getD i e0).2.2.2.2) else L.getD j e0 := by
  unfold trimL
  rw [List.getD_eq_getElem?_getD, List.getElem?_set, if_pos h]
  split
  · rfl
  · rw [List.getD_eq_getElem?_getD]
theorem frontL_get' (L : List Ed) (i : Nat) (b : Int) (j : Nat) (h : i < L.length) : (frontL L i b).getD j e0 = if i = j then ((L.getD i e0).1, (L.getD i e0).2.1 + b, (L.getD i e0).2.2.1, (L.getD i e0).2.2.2.1, (L.getD i e0).2.2.2.2) else L.getD j e0 := by
  unfold frontL
  rw [List.getD_eq_getElem?_getD, List.getElem?_set, if_pos h]
  split
  · rfl
  · rw [List.getD_eq_getElem?_getD]
theorem trimL_length (L : List Ed) (i : Nat) (b : Int) : (trimL L i b).length = L.length := by simp [trimL]
theorem frontL_length (L : List Ed) (i : Nat) (b : Int) : (frontL L i b).length = L.length := by simp [frontL]
theorem rollL_length (L : List Ed) (i : Nat) (b : Int) : (rollL L i b).length = L.length := by simp [rollL, trimL_length, frontL_length]
theorem slipL_length (L : List Ed) (i : Nat) (b : Int) : (slipL L i b).length = L.length := by simp [slipL, trimL_length, frontL_length]
theorem set_self (L : List Ed) (i : Nat) (h : i < L.length) : L.set i (L.getD i e0) = L := by
  rw [getD_of h]; exact List.set_getElem_self h
theorem trim_back {L : List Ed} {i : Nat} (b : Int) (h : i < L.length) : trimL (trimL L i b) i (-b) = L := by
  have h1 := trimL_get' L i b i h
  rw [if_pos rfl] at h1
  have h2 : trimL (trimL L i b) i (-b) = (trimL L i b).set i (((trimL L i b).getD i e0).1, ((trimL L i b).getD i e0).2.1, ((trimL L i b).getD i e0).2.2.1 + -b, ((trimL L i b).getD i e0).2.2.2.1, ((trimL L i b).getD i e0).2.2.2.2) := rfl
  rw [h2, h1]
  dsimp only
  rw [Int.add_neg_cancel_right]
  show (L.set i _).set i _ = L
  rw [List.set_set]
  exact set_self L i h
theorem front_back {L : List Ed} {i : Nat} (b : Int) (h : i < L.length) : frontL (frontL L i b) i (-b) = L := by
  have h1 := frontL_get' L i b i h
  rw [if_pos rfl] at h1
  have h2 : frontL (frontL L i b) i (-b) = (frontL L i b).set i (((frontL L i b).getD i e0).1, ((frontL L i b).getD i e0).2.1 + -b, ((frontL L i b).getD i e0).2.2.1, ((frontL L i b).getD i e0).2.2.2.1, ((frontL L i b).getD i e0).2.2.2.2) := rfl
  rw [h2, h1]
  dsimp only
  rw [Int.add_neg_cancel_right]
  show (L.set i _).set i _ = L
  rw [List.set_set]
  exact set_self L i h
theorem trim_front {L : List Ed} {i j : Nat} (a b : Int) (hi : i < L.length) (hj : j < L.length) : trimL (frontL L i a) j b = frontL (trimL L j b) i a := by
  have hl : (frontL L i a).length = L.length := frontL_length _ _ _
  have hm : (trimL L j b).length = L.length := trimL_length _ _ _
  refine List.ext_getElem (by rw [trimL_length, frontL_length, frontL_length, trimL_length]) fun k h1 h2 => ?_
  have e1 := trimL_get' (frontL L i a) j b k (by omega)
  have e2 := frontL_get' (trimL L j b) i a k (by omega)
  rw [getD_of h1] at e1
  rw [getD_of h2] at e2
  rw [e1, e2, frontL_get' L i a j hi, frontL_get' L i a k hi, trimL_get' L j b i hj, trimL_get' L j b k hj]
  by_cases h3 : j = k
  · subst h3
    by_cases h4 : i = j
    · subst h4; simp
    · simp [h4]
  · by_cases h4 : i = k
    · subst h4; simp [h3]
    · simp [h3, h4]
theorem roll_back {L : List Ed} {i : Nat} (b : Int) (h : i < L.length) : rollL (rollL L i b) i (-b) = L := by
  unfold rollL
  rw [trim_front _ _ (by rw [trimL_length]; exact h) (by rw [trimL_length]; omega), trim_back b (by omega)]
  exact front_back b h
theorem slip_back {L : List Ed} {i : Nat} (b : Int) (h : i < L.length) : slipL (slipL L i b) i (-b) = L := by
  unfold slipL
  rw [trim_front b b h h, front_back b (by rw [trimL_length]; exact h)]
  exact trim_back b h
theorem beg_trim (L : List Ed) (i : Nat) (b : Int) (h : i < L.length) : ∀ k, begN (trimL L i b) k = begN L k + if i < k then b else 0
  | 0 => by simp [begN]
  | k + 1 => by
    have ih := beg_trim L i b h k
    simp only [begN, ih, trimL_get' L i b k h]
    by_cases e : i = k
    · subst e
      rw [if_pos rfl, if_neg (Nat.lt_irrefl _), if_pos (Nat.lt_succ_self _)]
      dsimp only
      omega
    · rw [if_neg e]
      by_cases hk : i < k
      · rw [if_pos hk, if_pos (by omega)]; omega
      · rw [if_neg hk, if_neg (by omega)]; omega
theorem beg_front (L : List Ed) (i : Nat) (b : Int) (h : i < L.length) : ∀ k, begN (frontL L i b) k = begN L k - if i < k then b else 0
  | 0 => by simp [begN]
  | k + 1 => by
    have ih := beg_front L i b h k
    simp only [begN, ih, frontL_get' L i b k h]
    by_cases e : i = k
    · subst e
      rw [if_pos rfl, if_neg (Nat.lt_irrefl _), if_pos (Nat.lt_succ_self _)]
      dsimp only
      omega
    · rw [if_neg e]
      by_cases hk : i < k
      · rw [if_pos hk, if_pos (by omega)]; omega
      · rw [if_neg hk, if_neg (by omega)]; omega
theorem len_trim {L : List Ed} {i : Nat} (b : Int) (h : i < L.length) : lenL (trimL L i b) = lenL L + b := by
  show begN _ _ = _
  rw [trimL_length, beg_trim L i b h, if_pos h]; rfl
theorem len_front {L : List Ed} {i : Nat} (b : Int) (h : i < L.length) : lenL (frontL L i b) = lenL L - b := by
  show begN _ _ = _
  rw [frontL_length, beg_front L i b h, if_pos h]; rfl
theorem len_roll {L : List Ed} {i : Nat} (b : Int) (h : i < L.length) : lenL (rollL L i b) = lenL L := by
  unfold rollL
  rw [len_front b (by rw [trimL_length]; exact h), len_trim b (by omega)]; omega
theorem len_slip {L : List Ed} {i : Nat} (b : Int) (h : i < L.length) : lenL (slipL L i b) = lenL L := by
  unfold slipL
  rw [len_trim b (by rw [frontL_length]; exact h), len_front b h]; omega
end Go.Sx

/- Plain functions and hints. -/
namespace Go.Sx.U
def I8 (b : List Int) : Prop := ∀ x ∈ b, -128 ≤ x ∧ x ≤ 127
end Go.Sx.U
namespace Go.Sx
open U
def h11 : Hints := ⟨fun _ _ _ => none, 5⟩
end Go.Sx
namespace Go.Sx
open U
def sp79 : FSpec := ⟨fun vs => match vs with
  | [.one (.sl (.pair .str (.pair (.int .i64) (.pair (.int .i64) (.pair (.int .i64) (.int .i64))))) L), .one (.int .i64 b), .one (.ref (.sl (.pair .str (.pair (.int .i64) (.sl (.int .i64))))) R), .one (.ref (.int .i64) k)] => some ([List.length (show List Rl from R) ≤ 1000000, ∀ r ∈ (show List Rl from R), List.length r.2.2 ≤ 1000000, List.length L ≤ 1000000000], .tup [.one (.frs edT (chgL R L k b 0 trimL)), iV (chgE R L k b 0 trimL)])
  | _ => none, true⟩
def sp80 : FSpec := ⟨fun vs => match vs with
  | [.one (.sl (.pair .str (.pair (.int .i64) (.pair (.int .i64) (.pair (.int .i64) (.int .i64))))) L), .one (.int .i64 b), .one (.ref (.sl (.pair .str (.pair (.int .i64) (.sl (.int .i64))))) R), .one (.ref (.int .i64) k)] => some ([List.length (show List Rl from R) ≤ 1000000, ∀ r ∈ (show List Rl from R), List.length r.2.2 ≤ 1000000, List.length L ≤ 1000000000], .tup [.one (.frs edT (chgL R L k b 1 rollL)), iV (chgE R L k b 1 rollL)])
  | _ => none, true⟩
def sp81 : FSpec := ⟨fun vs => match vs with
  | [.one (.sl (.pair .str (.pair (.int .i64) (.pair (.int .i64) (.pair (.int .i64) (.int .i64))))) L), .one (.int .i64 b), .one (.ref (.sl (.pair .str (.pair (.int .i64) (.sl (.int .i64))))) R), .one (.ref (.int .i64) k)] => some ([List.length (show List Rl from R) ≤ 1000000, ∀ r ∈ (show List Rl from R), List.length r.2.2 ≤ 1000000, List.length L ≤ 1000000000], .tup [.one (.frs edT (chgL R L k b 0 slipL)), iV (chgE R L k b 0 slipL)])
  | _ => none, true⟩
end Go.Sx

/- What the engine asks, written out (printed by a program). -/
namespace Go.Sx
open U
theorem vc79 (L : List Ed) (b : Int) (R : List Rl) (k : Int) : exF (env false [(25, sp25), (49, sp49)] []) h0 0 79 Proofs.Tryz.f79 [.one (.sl edT L), iV b, .one (.ref (.sl rlT) R), .one (.ref (.int .i64) k)] (.tup [.one (.frs edT (chgL R L k b 0 trimL)), iV (chgE R L k b 0 trimL)]) = (List.length R ≤ (1000000 : Nat) ∧ (∀ (r : Rl), r ∈ R → List.length (Prod.snd (Prod.snd r)) ≤ (1000000 : Nat)) ∧ List.length R ≤ (1000000000 : Nat) ∧ (∀ (r : Rl), r ∈ R → List.length (Prod.snd (Prod.snd r)) ≤ (1000000 : Nat)) ∧ List.length L ≤ (1000000000 : Nat) ∧ chgL R L k b (0 : Int) trimL = chgL R L k b (0 : Int) trimL ∧ chgE R L k b (0 : Int) trimL = chgE R L k b (0 : Int) trimL ∧ True) := by
  kernel_rfl
theorem vc80 (L : List Ed) (b : Int) (R : List Rl) (k : Int) : exF (env false [(25, sp25), (50, sp50)] []) h0 0 80 Proofs.Tryz.f80 [.one (.sl edT L), iV b, .one (.ref (.sl rlT) R), .one (.ref (.int .i64) k)] (.tup [.one (.frs edT (chgL R L k b 1 rollL)), iV (chgE R L k b 1 rollL)]) = (List.length R ≤ (1000000 : Nat) ∧ (∀ (r : Rl), r ∈ R → List.length (Prod.snd (Prod.snd r)) ≤ (1000000 : Nat)) ∧ List.length R ≤ (1000000000 : Nat) ∧ (∀ (r : Rl), r ∈ R → List.length (Prod.snd (Prod.snd r)) ≤ (1000000 : Nat)) ∧ List.length L ≤ (1000000000 : Nat) ∧ chgL R L k b (1 : Int) rollL = chgL R L k b (1 : Int) rollL ∧ chgE R L k b (1 : Int) rollL = chgE R L k b (1 : Int) rollL ∧ True) := by
  kernel_rfl
theorem vc81 (L : List Ed) (b : Int) (R : List Rl) (k : Int) : exF (env false [(25, sp25), (51, sp51)] []) h0 0 81 Proofs.Tryz.f81 [.one (.sl edT L), iV b, .one (.ref (.sl rlT) R), .one (.ref (.int .i64) k)] (.tup [.one (.frs edT (chgL R L k b 0 slipL)), iV (chgE R L k b 0 slipL)]) = (List.length R ≤ (1000000 : Nat) ∧ (∀ (r : Rl), r ∈ R → List.length (Prod.snd (Prod.snd r)) ≤ (1000000 : Nat)) ∧ List.length R ≤ (1000000000 : Nat) ∧ (∀ (r : Rl), r ∈ R → List.length (Prod.snd (Prod.snd r)) ≤ (1000000 : Nat)) ∧ List.length L ≤ (1000000000 : Nat) ∧ chgL R L k b (0 : Int) slipL = chgL R L k b (0 : Int) slipL ∧ chgE R L k b (0 : Int) slipL = chgE R L k b (0 : Int) slipL ∧ True) := by
  kernel_rfl
theorem vc11 (R : List Rl) (L : List Ed) (b : List Int) : exF (env true [(17, sp17), (18, sp18), (25, sp25), (34, sp34), (57, sp57), (38, sp38), (39, sp39), (78, sp78), (79, sp79), (80, sp80), (81, sp81), (56, sp56), (33, sp33)] []) h11 0 11 Proofs.Tryz.f11 [.one (.sl rlT R), .one (.sl edT L), .agg [.arr 2 (.int .i8) b]] (.val (bV true)) = (let q23 := (IntKind.wrap IntKind.i64 (List.getD b (0 : Nat) (0 : Int) + (128 : Int))); let q22 := (↑(List.length L) : Int); let q0 := (Int.tmod q23 q22); let q21 := (List.getD b (1 : Nat) (0 : Int)); let q1 := (Int.tmod q21 (13 : Int)); let q3 := (chgL R L q0 q1 (0 : Int) slipL); let q4 := (-Int.tmod q21 (13 : Int)); let q5 := (1000000 : Nat); let q2 := ((bif chgE R q3 q0 q4 (0 : Int) slipL != (0 : Int) then true else chkEds R q3 != (0 : Int)) = false → List.length (chgL R q3 q0 q4 (0 : Int) slipL) ≤ q5); let q6 := (chgL R L q0 q1 (1 : Int) rollL); let q7 := (1000000000 : Nat); let q8 := (bif bif bif chgE R q3 q0 q4 (0 : Int) slipL != (0 : Int) then true else chkEds R q3 != (0 : Int) then true else !decide (chgL R q3 q0 q4 (0 : Int) slipL = L) then true else lenN R q3 != lenL L); let q24 := (IntKind.wrap IntKind.i64 (1 : Int) + (1 : Int)); let q9 := ((0 : Int) ≤ IntKind.wrap IntKind.i64 q24 ∧ IntKind.wrap IntKind.i64 q24 < (3 : Int)); let q10 := (chgL R L q0 q1 (0 : Int) trimL); let q11 := ((bif chgE R q6 q0 q4 (1 : Int) rollL != (0 : Int) then true else chkEds R q6 != (0 : Int)) = false → List.length (chgL R q6 q0 q4 (1 : Int) rollL) ≤ q5); let q12 := (false = true ∧ True); let q13 := (chgE R L q0 q1 (0 : Int) slipL != (0 : Int)); let q14 := (bif !shortB R L then true else q22 == (0 : Int)); let q15 := (true = true ∧ True); let q16 := (bif bif bif chgE R q6 q0 q4 (1 : Int) rollL != (0 : Int) then true else chkEds R q6 != (0 : Int) then true else !decide (chgL R q6 q0 q4 (1 : Int) rollL = L) then true else lenN R q6 != lenL L); let q17 := (bif IntKind.wrap IntKind.i64 (1 : Int) == (1 : Int) then Int.tmod q23 q22 == (0 : Int) else false); let q18 := ((bif chgE R q10 q0 q4 (0 : Int) trimL != (0 : Int) then true else chkEds R q10 != (0 : Int)) = false → List.length (chgL R q10 q0 q4 (0 : Int) trimL) ≤ q5); let q19 := (chkEds R q3 != (0 : Int)); let q20 := ((0 : Int) ≤ IntKind.wrap IntKind.i64 (1 : Int) ∧ IntKind.wrap IntKind.i64 (1 : Int) < (3 : Int)); let q25 := (chgE R L q0 q1 (1 : Int) rollL != (21 : Int)); List.length R ≤ (9223372036854775807 : Nat) ∧ List.length L ≤ (9223372036854775807 : Nat) ∧ (q14 = false → List.length R ≤ q7) ∧ (q14 = false → ∀ (r : Rl), r ∈ R → List.length r.2.2 ≤ q5 ∧ List.length r.1 ≤ q7) ∧ (q14 = false → List.length L ≤ q7) ∧ (q14 = false → ∀ (x : Ed), x ∈ L → fits IntKind.i64 x.2.2.1) ∧ splitB (bif bif !shortB R L then true else q22 == (0 : Int) then true else chkEds R L != (0 : Int)) q15 (((0 : Int) ≤ (0 : Int) ∧ (0 : Int) < (2 : Int)) ∧ (0 : Nat) < List.length b ∧ fits IntKind.i64 (List.getD b (0 : Nat) (0 : Int)) ∧ q22 ≠ (0 : Int) ∧ ((0 : Int) ≤ (1 : Int) ∧ (1 : Int) < (2 : Int)) ∧ (1 : Nat) < List.length b ∧ fits IntKind.i64 q21 ∧ (13 : Int) ≠ (0 : Int) ∧ EdsIn L ∧ List.length R ≤ q5 ∧ (∀ (r : Rl), r ∈ R → List.length r.2.2 ≤ q5) ∧ List.length L ≤ q5 ∧ List.length L ≤ q5 ∧ List.length R ≤ q7 ∧ (∀ (r : Rl), r ∈ R → List.length r.2.2 ≤ q5) ∧ List.length L ≤ q7 ∧ List.length L ≤ q7 ∧ splitB (bif bothE R L L != (0 : Int) then true else (↑(List.length (diffN R L L)) : Int) != (0 : Int)) q12 (((0 : Int) ≤ (0 : Int) ∧ (0 : Int) < (3 : Int)) ∧ List.length L ≤ q5 ∧ List.length R ≤ q5 ∧ (∀ (r : Rl), r ∈ R → List.length r.2.2 ≤ q5) ∧ List.length L ≤ q7 ∧ splitB (chgE R L q0 q1 (0 : Int) trimL != (0 : Int)) (q20 ∧ List.length L ≤ q5 ∧ List.length R ≤ q5 ∧ (∀ (r : Rl), r ∈ R → List.length r.2.2 ≤ q5) ∧ List.length L ≤ q7 ∧ splitB q17 (splitB q25 q12 (q9 ∧ List.length L ≤ q5 ∧ List.length R ≤ q5 ∧ (∀ (r : Rl), r ∈ R → List.length r.2.2 ≤ q5) ∧ List.length L ≤ q7 ∧ splitB q13 q15 (List.length q3 ≤ q5 ∧ List.length R ≤ q7 ∧ (∀ (r : Rl), r ∈ R → List.length r.2.2 ≤ q5 ∧ List.length r.1 ≤ q7) ∧ List.length q3 ≤ q7 ∧ (∀ (x : Ed), x ∈ chgL R L q0 q1 (0 : Int) slipL → fits IntKind.i64 x.2.2.1) ∧ splitB q19 q12 (List.length q3 ≤ q5 ∧ List.length q3 ≤ q5 ∧ fits IntKind.i64 q4 ∧ List.length R ≤ q5 ∧ (∀ (r : Rl), r ∈ R → List.length r.2.2 ≤ q5) ∧ List.length q3 ≤ q7 ∧ List.length R ≤ q5 ∧ (∀ (r : Rl), r ∈ R → List.length r.2.2 ≤ q5) ∧ List.length q3 ≤ q5 ∧ List.length q3 ≤ q5 ∧ List.length R ≤ q7 ∧ (∀ (r : Rl), r ∈ R → List.length r.2.2 ≤ q5) ∧ List.length q3 ≤ q7 ∧ q2 ∧ q2 ∧ splitB q8 q12 q15)))) (splitB (chgE R L q0 q1 (1 : Int) rollL != (0 : Int)) (q9 ∧ List.length L ≤ q5 ∧ List.length R ≤ q5 ∧ (∀ (r : Rl), r ∈ R → List.length r.2.2 ≤ q5) ∧ List.length L ≤ q7 ∧ splitB q13 q15 (List.length q3 ≤ q5 ∧ List.length R ≤ q7 ∧ (∀ (r : Rl), r ∈ R → List.length r.2.2 ≤ q5 ∧ List.length r.1 ≤ q7) ∧ List.length q3 ≤ q7 ∧ (∀ (x : Ed), x ∈ chgL R L q0 q1 (0 : Int) slipL → fits IntKind.i64 x.2.2.1) ∧ splitB q19 q12 (List.length q3 ≤ q5 ∧ List.length q3 ≤ q5 ∧ fits IntKind.i64 q4 ∧ List.length R ≤ q5 ∧ (∀ (r : Rl), r ∈ R → List.length r.2.2 ≤ q5) ∧ List.length q3 ≤ q7 ∧ List.length R ≤ q5 ∧ (∀ (r : Rl), r ∈ R → List.length r.2.2 ≤ q5) ∧ List.length q3 ≤ q5 ∧ List.length q3 ≤ q5 ∧ List.length R ≤ q7 ∧ (∀ (r : Rl), r ∈ R → List.length r.2.2 ≤ q5) ∧ List.length q3 ≤ q7 ∧ q2 ∧ q2 ∧ splitB q8 q12 q15))) (List.length q6 ≤ q5 ∧ List.length R ≤ q7 ∧ (∀ (r : Rl), r ∈ R → List.length r.2.2 ≤ q5 ∧ List.length r.1 ≤ q7) ∧ List.length q6 ≤ q7 ∧ (∀ (x : Ed), x ∈ chgL R L q0 q1 (1 : Int) rollL → fits IntKind.i64 x.2.2.1) ∧ splitB (chkEds R q6 != (0 : Int)) q12 (List.length q6 ≤ q5 ∧ List.length q6 ≤ q5 ∧ fits IntKind.i64 q4 ∧ List.length R ≤ q5 ∧ (∀ (r : Rl), r ∈ R → List.length r.2.2 ≤ q5) ∧ List.length q6 ≤ q7 ∧ List.length R ≤ q5 ∧ (∀ (r : Rl), r ∈ R → List.length r.2.2 ≤ q5) ∧ List.length q6 ≤ q5 ∧ List.length q6 ≤ q5 ∧ List.length R ≤ q7 ∧ (∀ (r : Rl), r ∈ R → List.length r.2.2 ≤ q5) ∧ List.length q6 ≤ q7 ∧ q11 ∧ q11 ∧ splitB q16 q12 (q9 ∧ List.length L ≤ q5 ∧ List.length R ≤ q5 ∧ (∀ (r : Rl), r ∈ R → List.length r.2.2 ≤ q5) ∧ List.length L ≤ q7 ∧ splitB q13 q15 (List.length q3 ≤ q5 ∧ List.length R ≤ q7 ∧ (∀ (r : Rl), r ∈ R → List.length r.2.2 ≤ q5 ∧ List.length r.1 ≤ q7) ∧ List.length q3 ≤ q7 ∧ (∀ (x : Ed), x ∈ chgL R L q0 q1 (0 : Int) slipL → fits IntKind.i64 x.2.2.1) ∧ splitB q19 q12 (List.length q3 ≤ q5 ∧ List.length q3 ≤ q5 ∧ fits IntKind.i64 q4 ∧ List.length R ≤ q5 ∧ (∀ (r : Rl), r ∈ R → List.length r.2.2 ≤ q5) ∧ List.length q3 ≤ q7 ∧ List.length R ≤ q5 ∧ (∀ (r : Rl), r ∈ R → List.length r.2.2 ≤ q5) ∧ List.length q3 ≤ q5 ∧ List.length q3 ≤ q5 ∧ List.length R ≤ q7 ∧ (∀ (r : Rl), r ∈ R → List.length r.2.2 ≤ q5) ∧ List.length q3 ≤ q7 ∧ q2 ∧ q2 ∧ splitB q8 q12 q15))))))) (List.length q10 ≤ q5 ∧ List.length R ≤ q7 ∧ (∀ (r : Rl), r ∈ R → List.length r.2.2 ≤ q5 ∧ List.length r.1 ≤ q7) ∧ List.length q10 ≤ q7 ∧ (∀ (x : Ed), x ∈ chgL R L q0 q1 (0 : Int) trimL → fits IntKind.i64 x.2.2.1) ∧ splitB (chkEds R q10 != (0 : Int)) q12 (List.length q10 ≤ q5 ∧ List.length q10 ≤ q5 ∧ fits IntKind.i64 q4 ∧ List.length R ≤ q5 ∧ (∀ (r : Rl), r ∈ R → List.length r.2.2 ≤ q5) ∧ List.length q10 ≤ q7 ∧ List.length R ≤ q5 ∧ (∀ (r : Rl), r ∈ R → List.length r.2.2 ≤ q5) ∧ List.length q10 ≤ q5 ∧ List.length q10 ≤ q5 ∧ List.length R ≤ q7 ∧ (∀ (r : Rl), r ∈ R → List.length r.2.2 ≤ q5) ∧ List.length q10 ≤ q7 ∧ q18 ∧ q18 ∧ splitB (bif bif bif chgE R q10 q0 q4 (0 : Int) trimL != (0 : Int) then true else chkEds R q10 != (0 : Int) then true else !decide (chgL R q10 q0 q4 (0 : Int) trimL = L) then true else lenN R q10 != IntKind.wrap IntKind.i64 (lenL L + Int.tmod q21 (13 : Int))) q12 (q20 ∧ List.length L ≤ q5 ∧ List.length R ≤ q5 ∧ (∀ (r : Rl), r ∈ R → List.length r.2.2 ≤ q5) ∧ List.length L ≤ q7 ∧ splitB q17 (splitB q25 q12 (q9 ∧ List.length L ≤ q5 ∧ List.length R ≤ q5 ∧ (∀ (r : Rl), r ∈ R → List.length r.2.2 ≤ q5) ∧ List.length L ≤ q7 ∧ splitB q13 q15 (List.length q3 ≤ q5 ∧ List.length R ≤ q7 ∧ (∀ (r : Rl), r ∈ R → List.length r.2.2 ≤ q5 ∧ List.length r.1 ≤ q7) ∧ List.length q3 ≤ q7 ∧ (∀ (x : Ed), x ∈ chgL R L q0 q1 (0 : Int) slipL → fits IntKind.i64 x.2.2.1) ∧ splitB q19 q12 (List.length q3 ≤ q5 ∧ List.length q3 ≤ q5 ∧ fits IntKind.i64 q4 ∧ List.length R ≤ q5 ∧ (∀ (r : Rl), r ∈ R → List.length r.2.2 ≤ q5) ∧ List.length q3 ≤ q7 ∧ List.length R ≤ q5 ∧ (∀ (r : Rl), r ∈ R → List.length r.2.2 ≤ q5) ∧ List.length q3 ≤ q5 ∧ List.length q3 ≤ q5 ∧ List.length R ≤ q7 ∧ (∀ (r : Rl), r ∈ R → List.length r.2.2 ≤ q5) ∧ List.length q3 ≤ q7 ∧ q2 ∧ q2 ∧ splitB q8 q12 q15)))) (splitB (chgE R L q0 q1 (1 : Int) rollL != (0 : Int)) (q9 ∧ List.length L ≤ q5 ∧ List.length R ≤ q5 ∧ (∀ (r : Rl), r ∈ R → List.length r.2.2 ≤ q5) ∧ List.length L ≤ q7 ∧ splitB q13 q15 (List.length q3 ≤ q5 ∧ List.length R ≤ q7 ∧ (∀ (r : Rl), r ∈ R → List.length r.2.2 ≤ q5 ∧ List.length r.1 ≤ q7) ∧ List.length q3 ≤ q7 ∧ (∀ (x : Ed), x ∈ chgL R L q0 q1 (0 : Int) slipL → fits IntKind.i64 x.2.2.1) ∧ splitB q19 q12 (List.length q3 ≤ q5 ∧ List.length q3 ≤ q5 ∧ fits IntKind.i64 q4 ∧ List.length R ≤ q5 ∧ (∀ (r : Rl), r ∈ R → List.length r.2.2 ≤ q5) ∧ List.length q3 ≤ q7 ∧ List.length R ≤ q5 ∧ (∀ (r : Rl), r ∈ R → List.length r.2.2 ≤ q5) ∧ List.length q3 ≤ q5 ∧ List.length q3 ≤ q5 ∧ List.length R ≤ q7 ∧ (∀ (r : Rl), r ∈ R → List.length r.2.2 ≤ q5) ∧ List.length q3 ≤ q7 ∧ q2 ∧ q2 ∧ splitB q8 q12 q15))) (List.length q6 ≤ q5 ∧ List.length R ≤ q7 ∧ (∀ (r : Rl), r ∈ R → List.length r.2.2 ≤ q5 ∧ List.length r.1 ≤ q7) ∧ List.length q6 ≤ q7 ∧ (∀ (x : Ed), x ∈ chgL R L q0 q1 (1 : Int) rollL → fits IntKind.i64 x.2.2.1) ∧ splitB (chkEds R q6 != (0 : Int)) q12 (List.length q6 ≤ q5 ∧ List.length q6 ≤ q5 ∧ fits IntKind.i64 q4 ∧ List.length R ≤ q5 ∧ (∀ (r : Rl), r ∈ R → List.length r.2.2 ≤ q5) ∧ List.length q6 ≤ q7 ∧ List.length R ≤ q5 ∧ (∀ (r : Rl), r ∈ R → List.length r.2.2 ≤ q5) ∧ List.length q6 ≤ q5 ∧ List.length q6 ≤ q5 ∧ List.length R ≤ q7 ∧ (∀ (r : Rl), r ∈ R → List.length r.2.2 ≤ q5) ∧ List.length q6 ≤ q7 ∧ q11 ∧ q11 ∧ splitB q16 q12 (q9 ∧ List.length L ≤ q5 ∧ List.length R ≤ q5 ∧ (∀ (r : Rl), r ∈ R → List.length r.2.2 ≤ q5) ∧ List.length L ≤ q7 ∧ splitB q13 q15 (List.length q3 ≤ q5 ∧ List.length R ≤ q7 ∧ (∀ (r : Rl), r ∈ R → List.length r.2.2 ≤ q5 ∧ List.length r.1 ≤ q7) ∧ List.length q3 ≤ q7 ∧ (∀ (x : Ed), x ∈ chgL R L q0 q1 (0 : Int) slipL → fits IntKind.i64 x.2.2.1) ∧ splitB q19 q12 (List.length q3 ≤ q5 ∧ List.length q3 ≤ q5 ∧ fits IntKind.i64 q4 ∧ List.length R ≤ q5 ∧ (∀ (r : Rl), r ∈ R → List.length r.2.2 ≤ q5) ∧ List.length q3 ≤ q7 ∧ List.length R ≤ q5 ∧ (∀ (r : Rl), r ∈ R → List.length r.2.2 ≤ q5) ∧ List.length q3 ≤ q5 ∧ List.length q3 ≤ q5 ∧ List.length R ≤ q7 ∧ (∀ (r : Rl), r ∈ R → List.length r.2.2 ≤ q5) ∧ List.length q3 ≤ q7 ∧ q2 ∧ q2 ∧ splitB q8 q12 q15)))))))))))) := by
  kernel_rfl
end Go.Sx

/- Contracts. -/
namespace Go.Sx
open U
theorem turn {R : List Rl} {L : List Ed} {k B least : Int} {d : Int} {g : List Ed → Nat → Int → List Ed} (hg : ∀ M i b, (g M i b).length = M.length) (hb : ∀ {M : List Ed} {i : Nat} (b : Int), i < M.length → g (g M i b) i (-b) = M)
    (hd : lenL (g L k.toNat B) = lenL L + d) (hk : ListOk R L) (h0 : 0 ≤ k) (h1 : k < L.length) (hl : least ≤ k) (hB : -10000000 ≤ B ∧ B ≤ 10000000) (h : chgE R L k B least g = 0) :
    ListOk R (chgL R L k B least g) ∧ (chgL R L k B least g).length = L.length ∧ chgE R (chgL R L k B least g) k (-B) least g = 0 ∧ chgL R (chgL R L k B least g) k (-B) least g = L ∧ lenN R (chgL R L k B least g) = lenL L + d := by
  have hc : ∀ (M : List Ed) (b : Int), ListOk R M → M.length = L.length → -10000000 ≤ b ∧ b ≤ 10000000 → chkC R M k b = 0 := fun M b hM hl hb => by
    unfold chkC
    rw [if_neg (by rw [chkEds_zero.2 hM]; decide), if_neg (by omega)]
    exact within_zero.2 hb
  obtain ⟨e1, e2⟩ := chg_z g (hc L B hk rfl hB) hl
  rw [e2] at h
  have e3 : chgL R L k B least g = g L k.toNat B := by rw [e1]; unfold resL; rw [if_pos h]
  rw [e3]
  have hM := chkEds_zero.1 h
  obtain ⟨e4, e5⟩ := chg_z g (hc _ (-B) hM (hg _ _ _) (by omega)) hl
  have hbk := hb (M := L) (i := k.toNat) B (by omega)
  rw [hbk] at e4 e5
  refine ⟨hM, hg _ _ _, by rw [e5]; exact chkEds_zero.2 hk, ?_, ?_⟩
  · rw [e4]; unfold resL; rw [if_pos (chkEds_zero.2 hk)]
  · unfold lenN; rw [if_pos h]; exact hd
theorem turn2 {R : List Rl} {L : List Ed} {k B least : Int} {d : Int} {g : List Ed → Nat → Int → List Ed} (hg : ∀ M i b, (g M i b).length = M.length) (hb : ∀ {M : List Ed} {i : Nat} (b : Int), i < M.length → g (g M i b) i (-b) = M)
    (hd : lenL (g L k.toNat B) = lenL L + d) (hk : ListOk R L) (h0 : 0 ≤ k) (h1 : k < L.length) (hl : least ≤ k) (hB : -10000000 ≤ B ∧ B ≤ 10000000) (h17 : L.length ≤ 17) :
    chgE R L k B least g ≠ 0 ∨ (chgE R L k B least g = 0 ∧ (chgL R L k B least g).length ≤ 1000000 ∧ (chgL R L k B least g).length ≤ 1000000000 ∧ (∀ x : Ed, x ∈ chgL R L k B least g → fits .i64 x.2.2.1) ∧ chkEds R (chgL R L k B least g) = 0 ∧
      chgE R (chgL R L k B least g) k (-B) least g = 0 ∧ chgL R (chgL R L k B least g) k (-B) least g = L ∧ lenN R (chgL R L k B least g) = lenL L + d) := by
  by_cases h : chgE R L k B least g = 0
  · obtain ⟨f1, f2, f3⟩ := turn hg hb hd hk h0 h1 hl hB h
    exact .inr ⟨h, by omega, by omega, ed_fits (eds_bd f1.eds), chkEds_zero.2 f1, f3⟩
  · exact .inl h
theorem diff_self {R : List Rl} {L : List Ed} (h : ListOk R L) : diffN R L L = [] := by
  have key : ∀ i, i ≤ (lenL L).toNat → diffTo L L i = [] := by
    intro i
    induction i with
    | zero => intro _; rfl
    | succ i ih =>
      intro hi
      have h0 : diffB (ls L) (ls L) (lenL L) (lenL L) (0 + (i : Int)) = false := by
        unfold diffB
        rw [decide_eq_false (by omega)]
        simp
      exact (spTo_m h0).trans (ih (by omega))
  unfold diffN
  rw [if_pos (bothE_zero.2 ⟨h, h⟩)]
  exact key _ (by omega)
theorem fn79 (L : List Ed) (b : Int) (R : List Rl) (k : Int) (hl : R.length ≤ 1000000) (hR : ∀ r ∈ R, r.2.2.length ≤ 1000000) (hL : L.length ≤ 1000000000) : Fn P1 gl1 79 [.one (.sl edT L), iV b, .one (.ref (.sl rlT) R), .one (.ref (.int .i64) k)] (.tup [.one (.frs edT (chgL R L k b 0 trimL)), iV (chgE R L k b 0 trimL)]) true := by
  refine Fn.flat ?_ rfl
  refine fn_of false [(25, sp25), (49, sp49)] [] h0 0 Proofs.Tryz.f79 ⟨so25, so49, trivial⟩ trivial (by kernel_rfl) rfl (by kernel_rfl) rfl rfl rfl ?_
  rw [vc79]
  try simp only [splitB_iff, -eq_self]
  exact ⟨hl, hR, by omega, hR, by omega, by trivial, by trivial, trivial⟩
theorem so79_ : SpecOk P1 gl1 79 sp79 := by
  intro vs ps r h hp
  simp only [sp79] at h
  split at h
  · cases h; exact fn79 _ _ _ _ (hp _ (.head _)) (hp _ (.tail _ (.head _))) (hp _ (.tail _ (.tail _ (.head _))))
  · cases h
theorem so79 : Sp1 79 sp79 := ⟨so79_, Proofs.Tryz.f79, _, by kernel_rfl, rfl, by kernel_rfl⟩
theorem fn80 (L : List Ed) (b : Int) (R : List Rl) (k : Int) (hl : R.length ≤ 1000000) (hR : ∀ r ∈ R, r.2.2.length ≤ 1000000) (hL : L.length ≤ 1000000000) : Fn P1 gl1 80 [.one (.sl edT L), iV b, .one (.ref (.sl rlT) R), .one (.ref (.int .i64) k)] (.tup [.one (.frs edT (chgL R L k b 1 rollL)), iV (chgE R L k b 1 rollL)]) true := by
  refine Fn.flat ?_ rfl
  refine fn_of false [(25, sp25), (50, sp50)] [] h0 0 Proofs.Tryz.f80 ⟨so25, so50, trivial⟩ trivial (by kernel_rfl) rfl (by kernel_rfl) rfl rfl rfl ?_
  rw [vc80]
  try simp only [splitB_iff, -eq_self]
  exact ⟨hl, hR, by omega, hR, by omega, by trivial, by trivial, trivial⟩
theorem so80_ : SpecOk P1 gl1 80 sp80 := by
  intro vs ps r h hp
  simp only [sp80] at h
  split at h
  · cases h; exact fn80 _ _ _ _ (hp _ (.head _)) (hp _ (.tail _ (.head _))) (hp _ (.tail _ (.tail _ (.head _))))
  · cases h
theorem so80 : Sp1 80 sp80 := ⟨so80_, Proofs.Tryz.f80, _, by kernel_rfl, rfl, by kernel_rfl⟩
theorem fn81 (L : List Ed) (b : Int) (R : List Rl) (k : Int) (hl : R.length ≤ 1000000) (hR : ∀ r ∈ R, r.2.2.length ≤ 1000000) (hL : L.length ≤ 1000000000) : Fn P1 gl1 81 [.one (.sl edT L), iV b, .one (.ref (.sl rlT) R), .one (.ref (.int .i64) k)] (.tup [.one (.frs edT (chgL R L k b 0 slipL)), iV (chgE R L k b 0 slipL)]) true := by
  refine Fn.flat ?_ rfl
  refine fn_of false [(25, sp25), (51, sp51)] [] h0 0 Proofs.Tryz.f81 ⟨so25, so51, trivial⟩ trivial (by kernel_rfl) rfl (by kernel_rfl) rfl rfl rfl ?_
  rw [vc81]
  try simp only [splitB_iff, -eq_self]
  exact ⟨hl, hR, by omega, hR, by omega, by trivial, by trivial, trivial⟩
theorem so81_ : SpecOk P1 gl1 81 sp81 := by
  intro vs ps r h hp
  simp only [sp81] at h
  split at h
  · cases h; exact fn81 _ _ _ _ (hp _ (.head _)) (hp _ (.tail _ (.head _))) (hp _ (.tail _ (.tail _ (.head _))))
  · cases h
theorem so81 : Sp1 81 sp81 := ⟨so81_, Proofs.Tryz.f81, _, by kernel_rfl, rfl, by kernel_rfl⟩
theorem fn11 (R : List Rl) (L : List Ed) (b : List Int) (hl : R.length ≤ 9223372036854775807) (hL : L.length ≤ 9223372036854775807) (hF : ∀ x ∈ L, fits .i64 x.2.2.1) (hb : b.length = 2) (hw : I8 b) : Fn P1 gl1 11 [.one (.sl rlT R), .one (.sl edT L), .agg [.arr 2 (.int .i8) b]] (.val (bV true)) true := by
  refine Fn.flat ?_ rfl
  refine fn_of true [(17, sp17), (18, sp18), (25, sp25), (34, sp34), (57, sp57), (38, sp38), (39, sp39), (78, sp78), (79, sp79), (80, sp80), (81, sp81), (56, sp56), (33, sp33)] [] h11 0 Proofs.Tryz.f11 ⟨so17, so18, so25, so34, so57, so38, so39, so78, so79, so80, so81, so56, so33, trivial⟩ trivial (by kernel_rfl) rfl (by kernel_rfl) rfl rfl rfl ?_
  rw [vc11]
  try simp only [splitB_iff, -eq_self]
  simp only [eq_self, and_true, and_self]
  have hsh : ∀ {c : Bool}, (bif !shortB R L then true else c) = false → ((R.length ≤ 9 ∧ ∀ r ∈ R, r.2.2.length ≤ 257 ∧ r.1.length ≤ 40) ∧ L.length ≤ 17) ∧ c = false := fun {c} h => by
    rw [bcond_l, Bool.or_eq_false_iff] at h
    obtain ⟨h, hc⟩ := h
    simp only [Bool.not_eq_false', shortB, shortE, shortR, Bool.and_eq_true, Bool.or_eq_true, List.all_eq_true, decide_eq_true_eq] at h
    obtain ⟨h1, h2, h3, h4⟩ := h
    exact ⟨⟨⟨by omega, fun r hr => by have := h1 r hr; omega⟩, by omega⟩, hc⟩
  refine ⟨hl, hL, fun h => by have := (hsh h).1.1.1; omega, fun h r hr => by have := (hsh h).1.1.2 r hr; omega, fun h => by have := (hsh h).1.2; omega, fun _ => hF, fun _ => trivial, fun h => ?_⟩
  rw [bcond_l, Bool.or_eq_false_iff] at h
  obtain ⟨⟨⟨hR9, hRx⟩, hL17⟩, hne⟩ := hsh h.1
  have hE : chkEds R L = 0 := by simpa using h.2
  have hk := chkEds_zero.1 hE
  have hL0 : 0 < L.length := by
    rcases Nat.eq_zero_or_pos L.length with h0 | h0
    · rw [h0] at hne; cases hne
    · exact h0
  clear h hsh hne
  have hR2 : ∀ r ∈ R, r.2.2.length ≤ 1000000 := fun r hr => by have := hRx r hr; omega
  have hR3 : ∀ r ∈ R, r.2.2.length ≤ 1000000 ∧ r.1.length ≤ 1000000000 := fun r hr => by have := hRx r hr; omega
  have hb0 : -128 ≤ b.getD 0 0 ∧ b.getD 0 0 ≤ 127 := hw _ (getD_mem (by omega))
  have hb1 : -128 ≤ b.getD 1 0 ∧ b.getD 1 0 ≤ 127 := hw _ (getD_mem (by omega))
  have w1 : IntKind.wrap .i64 1 = 1 := by decide
  have w2 : IntKind.wrap .i64 (1 + 1) = 2 := by decide
  have w3 : IntKind.wrap .i64 (b.getD 0 0 + 128) = b.getD 0 0 + 128 := by rw [IntKind.wrap_i64]; omega
  have hK : Int.tmod (b.getD 0 0 + 128) (L.length : Int) = (b.getD 0 0 + 128) % (L.length : Int) := Int.tmod_eq_emod_of_nonneg (by omega)
  have hK1 : 0 ≤ (b.getD 0 0 + 128) % (L.length : Int) := Int.emod_nonneg _ (by omega)
  have hK2 : (b.getD 0 0 + 128) % (L.length : Int) < L.length := Int.emod_lt_of_pos _ (by omega)
  have hB1 : -13 < Int.tmod (b.getD 1 0) 13 ∧ Int.tmod (b.getD 1 0) 13 < 13 := by
    rcases Int.le_total 0 (b.getD 1 0) with h | h
    · rw [Int.tmod_eq_emod_of_nonneg h]; omega
    · have := Int.tmod_eq_emod_of_nonneg (a := -(b.getD 1 0)) (b := 13) (by omega)
      rw [Int.neg_tmod] at this
      omega
  have hbig := hk.big
  have hnn := lenL_nn hk
  have w4 : IntKind.wrap .i64 (lenL L + Int.tmod (b.getD 1 0) 13) = lenL L + Int.tmod (b.getD 1 0) 13 := by rw [IntKind.wrap_i64]; omega
  rw [w3, hK, w4]
  simp only [w1, w2]
  have hS := diff_self hk
  have hBE : bothE R L L = 0 := bothE_zero.2 ⟨hk, hk⟩
  rw [hS, hBE]
  generalize hKe : (b.getD 0 0 + 128) % (L.length : Int) = K at *
  generalize hBe : Int.tmod (b.getD 1 0) 13 = B at *
  have hBb : -10000000 ≤ B ∧ B ≤ 10000000 := by omega
  have hKn : K.toNat < L.length := by omega
  have fT := turn2 (least := 0) (B := B) (fun M i b => trimL_length M i b) (fun b h => trim_back b h) (len_trim B hKn) hk hK1 hK2 hK1 hBb hL17
  have fS := turn2 (least := 0) (B := B) (d := 0) (fun M i b => slipL_length M i b) (fun b h => slip_back b h) (by rw [len_slip B hKn, Int.add_zero]) hk hK1 hK2 hK1 hBb hL17
  have fR := fun h1 : 1 ≤ K => turn2 (least := 1) (B := B) (d := 0) (fun M i b => rollL_length M i b) (fun b h => roll_back b h) (by rw [len_roll B hKn, Int.add_zero]) hk hK1 hK2 h1 hBb hL17
  have fR0 : K = 0 → chgE R L K B 1 rollL = 21 := fun h => by
    have h1 : chkC R L K B = 0 := by
      unfold chkC
      rw [if_neg (by rw [hE]; decide), if_neg (by omega)]
      exact within_zero.2 hBb
    have h2 : chkCh R L K B 1 = 21 := by
      rw [chkCh_c, h1, decide_eq_true (show K < 1 by omega)]
      rfl
    unfold chgE
    rw [if_pos (by rw [h2]; decide), h2]
  have hLa : L.length ≤ 1000000 := by omega
  have hLb : L.length ≤ 1000000000 := by omega
  have hRa : R.length ≤ 1000000 := by omega
  have hRb : R.length ≤ 1000000000 := by omega
  have hfB : fits .i64 (-B) := by simp only [fits]; omega
  have hf0 : fits .i64 (b.getD 0 0) := by simp only [fits]; omega
  have hf1 : fits .i64 (b.getD 1 0) := by simp only [fits]; omega
  have hbl0 : 0 < b.length := by omega
  have hbl1 : 1 < b.length := by omega
  have hne : (L.length : Int) ≠ 0 := by omega
  have hEd := hk.eds
  have t1 := eq_true hR2
  have t2 := eq_true hR3
  have hLn : L ≠ [] := List.ne_nil_of_length_pos hL0
  generalize b.getD 0 0 = x0 at *
  generalize b.getD 1 0 = x1 at *
  rw [Int.add_zero] at fS
  by_cases cK : K = 0
  · have q := fR0 cK
    subst cK
    clear fR fR0
    rcases fT with T1 | ⟨T1, T2, T3, T4, T5, T6, T7, T8⟩ <;> rcases fS with S1 | ⟨S1, S2, S3, S4, S5, S6, S7, S8⟩
    · simp [-Prod.forall, q, T1, S1, hLn, t1, t2, hLa, hLb, hRa, hRb, hfB, hf0, hf1, hbl0, hbl1, hEd]
    · have v4 := eq_true S4
      simp [-Prod.forall, q, T1, S1, S2, S3, v4, S5, S6, S7, S8, hLn, t1, t2, hLa, hLb, hRa, hRb, hfB, hf0, hf1, hbl0, hbl1, hEd]
    · have u4 := eq_true T4
      simp [-Prod.forall, q, T1, T2, T3, u4, T5, T6, T7, T8, S1, hLn, t1, t2, hLa, hLb, hRa, hRb, hfB, hf0, hf1, hbl0, hbl1, hEd]
    · have v4 := eq_true S4
      have u4 := eq_true T4
      simp [-Prod.forall, q, T1, T2, T3, u4, T5, T6, T7, T8, S1, S2, S3, v4, S5, S6, S7, S8, hLn, t1, t2, hLa, hLb, hRa, hRb, hfB, hf0, hf1, hbl0, hbl1, hEd]
  · have fR := fR (by omega)
    rw [Int.add_zero] at fR
    clear fR0
    rcases fT with T1 | ⟨T1, T2, T3, T4, T5, T6, T7, T8⟩ <;> rcases fS with S1 | ⟨S1, S2, S3, S4, S5, S6, S7, S8⟩ <;> rcases fR with Q1 | ⟨Q1, Q2, Q3, Q4, Q5, Q6, Q7, Q8⟩
    · simp [-Prod.forall, cK, Q1, T1, S1, hLn, t1, t2, hLa, hLb, hRa, hRb, hfB, hf0, hf1, hbl0, hbl1, hEd]
    · have q4 := eq_true Q4
      simp [-Prod.forall, cK, Q1, Q2, Q3, q4, Q5, Q6, Q7, Q8, T1, S1, hLn, t1, t2, hLa, hLb, hRa, hRb, hfB, hf0, hf1, hbl0, hbl1, hEd]
    · have v4 := eq_true S4
      simp [-Prod.forall, cK, Q1, T1, S1, S2, S3, v4, S5, S6, S7, S8, hLn, t1, t2, hLa, hLb, hRa, hRb, hfB, hf0, hf1, hbl0, hbl1, hEd]
    · have v4 := eq_true S4
      have q4 := eq_true Q4
      simp [-Prod.forall, cK, Q1, Q2, Q3, q4, Q5, Q6, Q7, Q8, T1, S1, S2, S3, v4, S5, S6, S7, S8, hLn, t1, t2, hLa, hLb, hRa, hRb, hfB, hf0, hf1, hbl0, hbl1, hEd]
    · have u4 := eq_true T4
      simp [-Prod.forall, cK, Q1, T1, T2, T3, u4, T5, T6, T7, T8, S1, hLn, t1, t2, hLa, hLb, hRa, hRb, hfB, hf0, hf1, hbl0, hbl1, hEd]
    · have u4 := eq_true T4
      have q4 := eq_true Q4
      simp [-Prod.forall, cK, Q1, Q2, Q3, q4, Q5, Q6, Q7, Q8, T1, T2, T3, u4, T5, T6, T7, T8, S1, hLn, t1, t2, hLa, hLb, hRa, hRb, hfB, hf0, hf1, hbl0, hbl1, hEd]
    · have v4 := eq_true S4
      have u4 := eq_true T4
      simp [-Prod.forall, cK, Q1, T1, T2, T3, u4, T5, T6, T7, T8, S1, S2, S3, v4, S5, S6, S7, S8, hLn, t1, t2, hLa, hLb, hRa, hRb, hfB, hf0, hf1, hbl0, hbl1, hEd]
    · have v4 := eq_true S4
      have u4 := eq_true T4
      have q4 := eq_true Q4
      simp [-Prod.forall, cK, Q1, Q2, Q3, q4, Q5, Q6, Q7, Q8, T1, T2, T3, u4, T5, T6, T7, T8, S1, S2, S3, v4, S5, S6, S7, S8, hLn, t1, t2, hLa, hLb, hRa, hRb, hfB, hf0, hf1, hbl0, hbl1, hEd]

end Go.Sx
