/- A verified symbolic run of functions, part 18: lemmas, no claim of their own. -/
import Derived.Test.YtpbipfdpoijgoaaGreatDoorS17
/- What the engine asks, written out (printed by a program). -/
namespace Go.Sx
open U
theorem vc67 (a : List UInt8) (b : Int) (c : List Int) (w : Bool) (e k : Int) (r : Rl) : exF (env false [(44, sp44)] []) h0 0 67 Proofs.Tryz.f67 [rV a b c, bV w, iV e, iV k, .one (.ref rlT r)] (.val (bV (begB a b c w e k r.1 r.2.1 r.2.2))) = (let q0 := (bif bif bif e == (0 : Int) then !w else false then a == r.1 else false then b == r.2.1 else false); splitB (k == (0 : Int)) ((bif e == (12 : Int) then !w else false) = begB a b c w e k r.1 r.2.1 r.2.2 ∧ True) ((q0 = true → (0 : Int) ≤ (0 : Int) ∧ (0 : Int) ≤ k ∧ k ≤ (↑(List.length r.2.2) : Int)) ∧ (q0 = true → List.length c ≤ (1000000000 : Nat)) ∧ (bif bif bif bif e == (0 : Int) then !w else false then a == r.1 else false then b == r.2.1 else false then decide (c = List.take (Int.toNat k) r.2.2) else false) = begB a b c w e k r.1 r.2.1 r.2.2 ∧ True)) := by
  kernel_rfl
theorem vc8 (nm : List UInt8) (f : Int) (l : List Int) (b : List Int) : exF (env false [(16, sp16), (18, sp18), (20, sp20), (19, sp19), (21, sp21), (28, sp28), (27, sp27), (29, sp29), (32, sp32), (67, sp67)] []) h8 0 8 Proofs.Tryz.f8 [rV nm f l, .agg [.arr 2 (.int .u16) b]] (.val (bV true)) = (let q16 := ((1 : Int) + List.getD b (1 : Nat) (0 : Int) % (255 : Int)); let q1 := (stream nm f l); let q3 := (↑(List.length nm) : Int); let q2 := (↑(List.length l) : Int); let q12 := ((5 : Int) * q2); let q6 := ((9 : Int) + q3 + List.getD b (0 : Nat) (0 : Int) % q12); let q0 := (List.set q1 (Int.toNat q6) (bits BinOp.xor IntKind.u8 (List.getD q1 (Int.toNat q6) (0 : Int)) (q16 % (256 : Int)))); let q4 := (stream nm f l ++ [(0 : Int)]); let q14 := (((readS q1).1.1, (readS q1).1.2.1, (readS q1).1.2.2) = (nm, f, l)); let q5 := (bif (0 : Int) + (readS q1).2 != (0 : Int) then true else !decide q14); let q17 := (List.length q1); let q7 := (↑q17 : Int); let q8 := (1000000 : Nat); let q10 := ((0 : Int) ≤ (9 : Int) + q3 + List.getD b (0 : Nat) (0 : Int) % q12 ∧ (9 : Int) + q3 + List.getD b (0 : Nat) (0 : Int) % q12 < q7); let q13 := (false = true ∧ True); let q18 := (List.getD b (0 : Nat) (0 : Int) % q12 / (5 : Int)); ((!shortR (nm, f, l)) = false → List.length nm ≤ (1000000000 : Nat)) ∧ ((!shortR (nm, f, l)) = false → List.length l ≤ q8) ∧ splitB (bif !shortR (nm, f, l) then true else checkReel nm f l != (0 : Int)) (true = true ∧ True) (List.length l ≤ q8 ∧ ReelOk nm f l ∧ List.length q1 ≤ q8 ∧ (List.length q1 ≤ q8 ∧ Bytes q1) ∧ fits IntKind.i64 ((9 : Int) + q3) ∧ fits IntKind.i64 ((0 : Int) + (readS q1).2) ∧ (((0 : Int) + (readS q1).2 != (0 : Int)) = false → List.length (readS q1).1.2.2 ≤ q8) ∧ (q5 = false → fits IntKind.i64 q12) ∧ (q5 = false → fits IntKind.i64 ((9 : Int) + q3 + (5 : Int) * q2)) ∧ (q5 = false → fits IntKind.i64 ((9 : Int) + q3 + (5 : Int) * q2 + (5 : Int))) ∧ splitB (bif bif (0 : Int) + (readS q1).2 != (0 : Int) then true else !decide q14 then true else q7 != (9 : Int) + q3 + (5 : Int) * q2 + (5 : Int)) q13 ((∃ (g : Nat), Nat.le g q17 ∧ (0 : Int) = (↑g : Int) ∧ q7 = q7 ∧ (9 : Int) + q3 = (9 : Int) + q3 ∧ (readS q1).1.1 = (readS q1).1.1 ∧ (readS q1).1.2.1 = (readS q1).1.2.1 ∧ (readS q1).1.2.2 = (readS q1).1.2.2 ∧ stream nm f l = stream nm f l ∧ stream nm f l = stream nm f l ∧ b = b ∧ nm = nm ∧ f = f ∧ l = l ∧ True) ∧ ∀ (g : Nat), let q9 := (List.take g q1); let q11 := (((↑g : Int) - ((9 : Int) + q3)) / (5 : Int)); let q15 := ((0 : Int) ≤ (0 : Int) ∧ (0 : Int) ≤ (↑g : Int) ∧ (↑g : Int) ≤ q7); Nat.le g q17 → splitB (decide ((↑g : Int) < q7)) (q15 ∧ List.length q9 = g ∧ List.length q9 ≤ q8 ∧ (List.length q9 ≤ q8 ∧ Bytes q9) ∧ splitB ((readS q9).2 != (28 : Int)) q13 (q15 ∧ List.length q9 = g ∧ List.length q9 ≤ q8 ∧ (List.length q9 ≤ q8 ∧ Bytes q9) ∧ splitB (decide ((↑g : Int) < (9 : Int) + q3)) (splitB ((rebuilt q9).2.2 != (28 : Int)) q13 (fits IntKind.i64 ((↑g : Int) + (1 : Int)) ∧ ∃ (g' : Nat), Nat.le g' q17 ∧ List.length q1 - g' < List.length q1 - g ∧ (↑g : Int) + (1 : Int) = (↑g' : Int) ∧ q7 = q7 ∧ (9 : Int) + q3 = (9 : Int) + q3 ∧ (readS q1).1.1 = (readS q1).1.1 ∧ (readS q1).1.2.1 = (readS q1).1.2.1 ∧ (readS q1).1.2.2 = (readS q1).1.2.2 ∧ stream nm f l = stream nm f l ∧ stream nm f l = stream nm f l ∧ b = b ∧ nm = nm ∧ f = f ∧ l = l ∧ True)) (fits IntKind.i64 ((↑g : Int) - ((9 : Int) + q3)) ∧ ((0 : Int) ≤ (↑g : Int) - ((9 : Int) + q3) ∧ (0 : Int) < (5 : Int) ∧ fits IntKind.i64 q11) ∧ List.length (rebuilt q9).1.2.2 ≤ q8 ∧ ((0 : Int) ≤ min q2 q11 ∧ min q2 q11 ≤ q2) ∧ splitB (!begB (rebuilt q9).1.1 (rebuilt q9).1.2.1 (rebuilt q9).1.2.2 (rebuilt q9).2.1 (rebuilt q9).2.2 (min q2 q11) nm f l) q13 (fits IntKind.i64 ((↑g : Int) + (1 : Int)) ∧ ∃ (g' : Nat), Nat.le g' q17 ∧ List.length q1 - g' < List.length q1 - g ∧ (↑g : Int) + (1 : Int) = (↑g' : Int) ∧ q7 = q7 ∧ (9 : Int) + q3 = (9 : Int) + q3 ∧ (readS q1).1.1 = (readS q1).1.1 ∧ (readS q1).1.2.1 = (readS q1).1.2.1 ∧ (readS q1).1.2.2 = (readS q1).1.2.2 ∧ stream nm f l = stream nm f l ∧ stream nm f l = stream nm f l ∧ b = b ∧ nm = nm ∧ f = f ∧ l = l ∧ True)))) (((0 : Int) ≤ (0 : Int) ∧ (0 : Int) < (2 : Int)) ∧ (0 : Nat) < List.length b ∧ fits IntKind.i64 (List.getD b (0 : Nat) (0 : Int)) ∧ fits IntKind.i64 q12 ∧ ((0 : Int) ≤ List.getD b (0 : Nat) (0 : Int) ∧ (0 : Int) < (5 : Int) * q2) ∧ List.length q1 ≤ q8 ∧ fits IntKind.i64 q6 ∧ q10 ∧ Int.toNat q6 < List.length q1 ∧ ((0 : Int) ≤ (1 : Int) ∧ (1 : Int) < (2 : Int)) ∧ (1 : Nat) < List.length b ∧ ((0 : Int) ≤ List.getD b (1 : Nat) (0 : Int) ∧ (0 : Int) < (255 : Int)) ∧ fits IntKind.u16 q16 ∧ q10 ∧ Int.toNat q6 < List.length q1 ∧ List.length q0 ≤ q8 ∧ (List.length q0 ≤ q8 ∧ Bytes q0) ∧ splitB ((readS q0).2 == (0 : Int)) q13 ((List.length q0 ≤ q8 ∧ Bytes q0) ∧ ((0 : Int) ≤ List.getD b (0 : Nat) (0 : Int) % q12 ∧ (0 : Int) < (5 : Int) ∧ fits IntKind.i64 q18) ∧ List.length (rebuilt q0).1.2.2 ≤ q8 ∧ ((0 : Int) ≤ List.getD b (0 : Nat) (0 : Int) % q12 / (5 : Int) ∧ List.getD b (0 : Nat) (0 : Int) % q12 / (5 : Int) ≤ q2) ∧ splitB (!begB (rebuilt q0).1.1 (rebuilt q0).1.2.1 (rebuilt q0).1.2.2 (rebuilt q0).2.1 (rebuilt q0).2.2 q18 nm f l) q13 (List.length q1 ≤ q8 ∧ room (List.length q1 + (1 : Nat)) (1 : Nat) ∧ (List.length q4 ≤ q8 ∧ Bytes q4) ∧ List.length q1 ≤ q8 ∧ room (List.length q1 + (1 : Nat)) (1 : Nat) ∧ (List.length q4 ≤ q8 ∧ Bytes q4) ∧ (((readS q4).2 == (23 : Int)) = true → List.length (rebuilt q4).1.2.2 ≤ q8) ∧ (((readS q4).2 == (23 : Int)) = true → (0 : Int) ≤ q2 ∧ q2 ≤ q2) ∧ (bif bif (readS q4).2 == (23 : Int) then begB (rebuilt q4).1.1 (rebuilt q4).1.2.1 (rebuilt q4).1.2.2 (rebuilt q4).2.1 (rebuilt q4).2.2 q2 nm f l else false then true else false) = true ∧ True)))))) := by
  kernel_rfl
end Go.Sx

/- Contracts. -/
namespace Go.Sx
open U
theorem begB_zero (nm : List UInt8) (f : Int) (l : List Int) : begB [] 0 [] false 12 0 nm f l = true := rfl
theorem begB_ok {nm : List UInt8} {f : Int} {l : List Int} {k : Nat} (hk : 1 ≤ k) : begB nm f (l.take k) false 0 k nm f l = true := by
  unfold begB
  rw [if_neg (by omega), Int.toNat_natCast]
  simp
theorem fn67 (a : List UInt8) (b : Int) (c : List Int) (w : Bool) (e k : Int) (r : Rl) (hc : c.length ≤ 1000000) (hk : 0 ≤ k ∧ k ≤ (r.2.2.length : Int)) : Fn P1 gl1 67 [rV a b c, bV w, iV e, iV k, .one (.ref rlT r)] (.val (bV (begB a b c w e k r.1 r.2.1 r.2.2))) true := by
  refine Fn.flat ?_ rfl
  refine fn_of false [(44, sp44)] [] h0 0 Proofs.Tryz.f67 ⟨so44, trivial⟩ trivial (by kernel_rfl) rfl (by kernel_rfl) rfl rfl rfl ?_
  rw [vc67]
  try simp only [splitB_iff, -eq_self]
  refine ⟨fun h => ⟨?_, trivial⟩, fun h => ⟨fun _ => ⟨by omega, hk⟩, fun _ => by omega, ?_, trivial⟩⟩
  · have h' : k = 0 := by simpa using h
    unfold begB
    rw [if_pos h']
    cases e == 12 <;> rfl
  · have h' : k ≠ 0 := by simpa using h
    unfold begB
    rw [if_neg h']
    have hq : (c == r.2.2.take k.toNat) = decide (c = r.2.2.take k.toNat) := by rw [Bool.eq_iff_iff]; simp
    rw [hq]
    cases e == 0 <;> cases w <;> cases a == r.1 <;> cases b == r.2.1 <;> simp
theorem so67_ : SpecOk P1 gl1 67 sp67 := by
  intro vs ps r h hp
  simp only [sp67] at h
  split at h
  · cases h; exact fn67 _ _ _ _ _ _ _ (hp _ (.head _)) (hp _ (.tail _ (.head _)))
  · cases h
theorem so67 : Sp1 67 sp67 := ⟨so67_, Proofs.Tryz.f67, _, by kernel_rfl, rfl, by kernel_rfl⟩
theorem fn8 (nm : List UInt8) (f : Int) (l : List Int) (b : List Int) (hb : b.length = 2) (hw : W16 b) : Fn P1 gl1 8 [rV nm f l, .agg [.arr 2 (.int .u16) b]] (.val (bV true)) true := by
  refine Fn.flat ?_ rfl
  refine fn_of false [(16, sp16), (18, sp18), (20, sp20), (19, sp19), (21, sp21), (28, sp28), (27, sp27), (29, sp29), (32, sp32), (67, sp67)] [] h8 0 Proofs.Tryz.f8 ⟨so16, so18, so20, so19, so21, so28, so27, so29, so32, so67, trivial⟩ trivial (by kernel_rfl) rfl (by kernel_rfl) rfl rfl rfl ?_
  rw [vc8]
  try simp only [splitB_iff, -eq_self]
  have hsh : (!shortR (nm, f, l)) = false → nm.length ≤ 40 ∧ l.length ≤ 257 := fun h => by
    simp only [Bool.not_eq_false', shortR, Bool.and_eq_true, Bool.or_eq_true, decide_eq_true_eq] at h
    omega
  refine ⟨fun h => by have := hsh h; omega, fun h => by have := hsh h; omega, fun _ => ⟨rfl, trivial⟩, fun h => ?_⟩
  rw [bcond_l, Bool.or_eq_false_iff, bne_eq_false_iff_eq] at h
  have H := checkReel_zero.1 h.2
  obtain ⟨hn, _⟩ := hsh h.1
  clear h hsh
  have hl := H.len
  have hl0 : 0 < l.length := Nat.pos_of_ne_zero H.ne
  have hL := stream_length (nm := nm) (f := f) (l := l)
  have hB := stream_byte (nm := nm) (f := f) (l := l)
  have hr := read_allN H
  have hpre := read_pre H
  have hreb := rebuilt_pre H
  have hchg := changed H
  have hfur := further H
  simp only [hr]
  generalize hs : stream nm f l = s at *
  have hLi : (s.length : Int) = 9 + (nm.length : Int) + 5 * (l.length : Int) + 5 := by omega
  have no : ∀ {p q : Prop}, p → (p → q) → q := fun hp hq => hq hp
  refine ⟨by omega, H, by omega, ⟨by omega, hB⟩, by simp only [fits]; omega, by simp only [fits]; omega, fun _ => by omega, fun _ => by simp only [fits]; omega, fun _ => by simp only [fits]; omega, fun _ => by simp only [fits]; omega, fun h => ?_, fun _ => ⟨⟨0, Nat.zero_le _, rfl, by simp⟩, fun g hg => ⟨fun hlt => ?_, fun hge => ?_⟩⟩⟩
  · rw [hLi] at h
    simp at h
  · have hlt' : g < s.length := by simpa using hlt
    have hgl : (s.take g).length = g := by rw [List.length_take]; omega
    have hgb : Bytes (s.take g) := byTake hB g
    rw [hpre g hlt']
    refine ⟨⟨by omega, by omega, by omega⟩, hgl, by omega, ⟨by omega, hgb⟩, fun h => (by cases h), fun _ => ⟨⟨by omega, by omega, by omega⟩, hgl, by omega, ⟨by omega, hgb⟩, fun h => ?_, fun h => ?_⟩⟩
    · have h' : g < 9 + nm.length := by have := of_decide_eq_true h; omega
      rcases hreb g (by omega) with q | q | ⟨k, w, q⟩
      · rw [q.2]
        exact ⟨fun h => (by cases h), fun _ => ⟨by simp only [fits]; omega, g + 1, hlt', by omega, by omega, by simp⟩⟩
      · omega
      · omega
    · have h' : 9 + nm.length ≤ g := by have := of_decide_eq_false h; omega
      have hmin : min (l.length : Int) (((g : Int) - (9 + (nm.length : Int))) / 5) = ((min l.length ((g - (9 + nm.length)) / 5) : Nat) : Int) := by omega
      rw [hmin]
      have hk : min l.length ((g - (9 + nm.length)) / 5) ≤ l.length := by omega
      refine ⟨by simp only [fits]; omega, ⟨by omega, by omega, by simp only [fits]; omega⟩, ?_⟩
      rcases hreb g (by omega) with q | q | ⟨k, w, q⟩
      · omega
      · rw [q.2.2, q.2.1]
        refine ⟨by simp, ⟨by omega, by omega⟩, fun h => ?_, fun _ => ⟨by simp only [fits]; omega, g + 1, hlt', by omega, by omega, by simp⟩⟩
        rw [show begB [] 0 [] false 12 ((0 : Nat) : Int) nm f l = true from rfl] at h
        cases h
      · obtain ⟨q1, q2, q3, q4, q5, q6⟩ := q
        rw [q5, ← q1, q6 (by omega)]
        refine ⟨by simp only [List.length_take]; omega, ⟨by omega, by omega⟩, fun h => ?_, fun _ => ⟨by simp only [fits]; omega, g + 1, hlt', by omega, by omega, by simp⟩⟩
        rw [begB_ok q3] at h
        cases h
  · obtain ⟨n0, n1, rfl⟩ : ∃ n0 n1, b = [n0, n1] := by
      match b, hb with
      | [x, y], _ => exact ⟨x, y, rfl⟩
    have w0 := hw n0 (by simp)
    have w1 := hw n1 (by simp)
    have g0 : List.getD [n0, n1] 0 0 = n0 := rfl
    have g1 : List.getD [n0, n1] 1 0 = n1 := rfl
    have gl : List.length [n0, n1] = 2 := rfl
    simp only [g0, g1, gl]
    obtain ⟨K, hK⟩ : ∃ K : Nat, n0 % (5 * (l.length : Int)) = (K : Int) := ⟨(n0 % (5 * (l.length : Int))).toNat, by have := Int.emod_nonneg n0 (show 5 * (l.length : Int) ≠ 0 by omega); omega⟩
    have hKl : K < 5 * l.length := by have := Int.emod_lt_of_pos n0 (show 0 < 5 * (l.length : Int) by omega); omega
    rw [hK]
    have ei : (9 + (nm.length : Int) + (K : Int)).toNat = 9 + nm.length + K := by omega
    rw [ei]
    have hd : 1 ≤ (1 + n1 % 255) % 256 ∧ (1 + n1 % 255) % 256 ≤ 255 := by omega
    have hsb : 0 ≤ s.getD (9 + nm.length + K) 0 ∧ s.getD (9 + nm.length + K) 0 ≤ 255 := by
      rw [getD_of (show 9 + nm.length + K < s.length by omega)]
      exact hB _ (List.getElem_mem _)
    obtain ⟨x1, x2⟩ := xor_ne hsb hd
    obtain ⟨c1, c2⟩ := hchg K _ hKl x1 x2
    have hS : (s.set (9 + nm.length + K) (bits .xor .u8 (s.getD (9 + nm.length + K) 0) ((1 + n1 % 255) % 256))).length = s.length := List.length_set
    have hSb : Bytes (s.set (9 + nm.length + K) (bits .xor .u8 (s.getD (9 + nm.length + K) 0) ((1 + n1 % 255) % 256))) := fun y hy => by
      rcases List.mem_or_eq_of_mem_set hy with hy | hy
      · exact hB y hy
      · rw [hy]; exact x1
    generalize s.set (9 + nm.length + K) (bits .xor .u8 (s.getD (9 + nm.length + K) 0) ((1 + n1 % 255) % 256)) = q at *
    have hK5 : (K : Int) / 5 = ((K / 5 : Nat) : Int) := by omega
    rw [hK5]
    have hLb : (s ++ [0]).length = s.length + 1 := by simp
    have hBb : Bytes (s ++ [0]) := Bytes.app hB (fun y hy => by simp at hy; omega)
    refine ⟨⟨by omega, by omega⟩, by omega, by simp only [fits]; omega, by simp only [fits]; omega, ⟨by omega, by omega⟩, by omega, by simp only [fits]; omega, ⟨by omega, by omega⟩, by omega, ⟨by omega, by omega⟩, by omega, ⟨by omega, by omega⟩, by simp only [fits]; omega, ⟨by omega, by omega⟩, by omega, by omega, ⟨by omega, hSb⟩, fun h => absurd (by simpa using h) c1, fun _ => ⟨⟨by omega, hSb⟩, ⟨by omega, by omega, by simp only [fits]; omega⟩, ?_, ⟨by omega, by omega⟩, ?_, fun _ => ⟨by omega, by simp only [room]; omega, ⟨by omega, hBb⟩, by omega, by simp only [room]; omega, ⟨by omega, hBb⟩, fun _ => ?_, fun _ => ⟨by omega, by omega⟩, ?_, trivial⟩⟩⟩
    · rw [c2]
      split
      · simp
      · simp only [List.length_take]; omega
    · intro h
      rw [c2] at h
      split at h
      · rename_i hz
        rw [hz] at h
        rw [show begB [] 0 [] false 12 ((0 : Nat) : Int) nm f l = true from rfl] at h
        cases h
      · rw [begB_ok (by omega)] at h
        cases h
    · rw [hfur.2]; dsimp only; omega
    · rw [hfur.1, hfur.2]
      have := begB_ok (nm := nm) (f := f) (l := l) (k := l.length) (by omega)
      rw [List.take_length] at this
      simp only [this]
      rfl

end Go.Sx
