/- A verified symbolic run of functions, part 14: lemmas, no claim of their own. -/
import Derived.Test.YtpfngnmgipnmlaaDoorS13
/- What the engine asks, written out (printed by a program). -/
namespace Go.Sx
open U
theorem vc57 (k c : Int) (d : List Int) : exF (env false [(62, sp62), (60, sp60)] []) h0 0 57 Proofs.Tryd.f57 [pV k c d] (.val (iV (U.pcheck k c))) = ((2 : Nat) ≤ (1000000000 : Nat) ∧ first [within k (0 : Int) (255 : Int), within c (0 : Int) (255 : Int)] = pcheck k c ∧ True) := by
  kernel_rfl
theorem vc58 (k c : Int) (d : List Int) : exF (env false [(112, sp112)] [fb113]) h58 1 58 Proofs.Tryd.f58 [pV k c d] (.val (aV 16 (U.frame k c d))) = (((0 : Int) ≤ (0 : Int) ∧ (0 : Int) ≤ (10 : Int) ∧ (10 : Int) ≤ (10 : Int)) ∧ List.length (List.take (10 : Nat) d) = (10 : Nat) ∧ room ((3 : Nat) + List.length (List.take (10 : Nat) d)) (1 : Nat) ∧ ((0 : Int) ≤ (1 : Int) ∧ (1 : Int) ≤ (↑(List.length ([(171 : Int), k % (256 : Int), c % (256 : Int)] ++ List.take (10 : Nat) d)) : Int) ∧ (↑(List.length ([(171 : Int), k % (256 : Int), c % (256 : Int)] ++ List.take (10 : Nat) d)) : Int) ≤ (↑(List.length ([(171 : Int), k % (256 : Int), c % (256 : Int)] ++ List.take (10 : Nat) d)) : Int)) ∧ (∃ (g : Nat), Nat.le g (List.length (List.take (List.length ([(171 : Int), k % (256 : Int), c % (256 : Int)] ++ List.take (10 : Nat) d) - (1 : Nat)) (List.drop (1 : Nat) ([(171 : Int), k % (256 : Int), c % (256 : Int)] ++ List.take (10 : Nat) d)))) ∧ (0 : Int) = (↑g : Int) ∧ (0 : Int) = par (List.take g (List.take (List.length ([(171 : Int), k % (256 : Int), c % (256 : Int)] ++ List.take (10 : Nat) d) - (1 : Nat)) (List.drop (1 : Nat) ([(171 : Int), k % (256 : Int), c % (256 : Int)] ++ List.take (10 : Nat) d)))) ∧ (↑(List.length ([(171 : Int), k % (256 : Int), c % (256 : Int)] ++ List.take (10 : Nat) d) - (1 : Nat)) : Int) = (↑(List.length ([(171 : Int), k % (256 : Int), c % (256 : Int)] ++ List.take (10 : Nat) d) - (1 : Nat)) : Int) ∧ ((1 : Nat) = (1 : Nat) ∧ List.length ([(171 : Int), k % (256 : Int), c % (256 : Int)] ++ List.take (10 : Nat) d) - (1 : Nat) = List.length ([(171 : Int), k % (256 : Int), c % (256 : Int)] ++ List.take (10 : Nat) d) - (1 : Nat)) ∧ [(171 : Int), k % (256 : Int), c % (256 : Int)] ++ List.take (10 : Nat) d = [(171 : Int), k % (256 : Int), c % (256 : Int)] ++ List.take (10 : Nat) d ∧ List.replicate (16 : Nat) (0 : Int) = List.replicate (16 : Nat) (0 : Int) ∧ k = k ∧ c = c ∧ d = d ∧ True) ∧ ∀ (g : Nat), Nat.le g (List.length (List.take (List.length ([(171 : Int), k % (256 : Int), c % (256 : Int)] ++ List.take (10 : Nat) d) - (1 : Nat)) (List.drop (1 : Nat) ([(171 : Int), k % (256 : Int), c % (256 : Int)] ++ List.take (10 : Nat) d)))) → splitB (decide ((↑g : Int) < (↑(List.length ([(171 : Int), k % (256 : Int), c % (256 : Int)] ++ List.take (10 : Nat) d) - (1 : Nat)) : Int))) (((0 : Int) ≤ (↑g : Int) ∧ (↑g : Int) < (↑(List.length ([(171 : Int), k % (256 : Int), c % (256 : Int)] ++ List.take (10 : Nat) d) - (1 : Nat)) : Int)) ∧ (1 : Nat) + g < List.length ([(171 : Int), k % (256 : Int), c % (256 : Int)] ++ List.take (10 : Nat) d) ∧ fits IntKind.i64 ((↑g : Int) + (1 : Int)) ∧ ∃ (g' : Nat), Nat.le g' (List.length (List.take (List.length ([(171 : Int), k % (256 : Int), c % (256 : Int)] ++ List.take (10 : Nat) d) - (1 : Nat)) (List.drop (1 : Nat) ([(171 : Int), k % (256 : Int), c % (256 : Int)] ++ List.take (10 : Nat) d)))) ∧ List.length (List.take (List.length ([(171 : Int), k % (256 : Int), c % (256 : Int)] ++ List.take (10 : Nat) d) - (1 : Nat)) (List.drop (1 : Nat) ([(171 : Int), k % (256 : Int), c % (256 : Int)] ++ List.take (10 : Nat) d))) - g' < List.length (List.take (List.length ([(171 : Int), k % (256 : Int), c % (256 : Int)] ++ List.take (10 : Nat) d) - (1 : Nat)) (List.drop (1 : Nat) ([(171 : Int), k % (256 : Int), c % (256 : Int)] ++ List.take (10 : Nat) d))) - g ∧ (↑g : Int) + (1 : Int) = (↑g' : Int) ∧ bits BinOp.xor IntKind.u8 (par (List.take g (List.take (List.length ([(171 : Int), k % (256 : Int), c % (256 : Int)] ++ List.take (10 : Nat) d) - (1 : Nat)) (List.drop (1 : Nat) ([(171 : Int), k % (256 : Int), c % (256 : Int)] ++ List.take (10 : Nat) d))))) (List.getD ([(171 : Int), k % (256 : Int), c % (256 : Int)] ++ List.take (10 : Nat) d) ((1 : Nat) + g) (0 : Int)) = par (List.take g' (List.take (List.length ([(171 : Int), k % (256 : Int), c % (256 : Int)] ++ List.take (10 : Nat) d) - (1 : Nat)) (List.drop (1 : Nat) ([(171 : Int), k % (256 : Int), c % (256 : Int)] ++ List.take (10 : Nat) d)))) ∧ (↑(List.length ([(171 : Int), k % (256 : Int), c % (256 : Int)] ++ List.take (10 : Nat) d) - (1 : Nat)) : Int) = (↑(List.length ([(171 : Int), k % (256 : Int), c % (256 : Int)] ++ List.take (10 : Nat) d) - (1 : Nat)) : Int) ∧ ((1 : Nat) = (1 : Nat) ∧ List.length ([(171 : Int), k % (256 : Int), c % (256 : Int)] ++ List.take (10 : Nat) d) - (1 : Nat) = List.length ([(171 : Int), k % (256 : Int), c % (256 : Int)] ++ List.take (10 : Nat) d) - (1 : Nat)) ∧ [(171 : Int), k % (256 : Int), c % (256 : Int)] ++ List.take (10 : Nat) d = [(171 : Int), k % (256 : Int), c % (256 : Int)] ++ List.take (10 : Nat) d ∧ List.replicate (16 : Nat) (0 : Int) = List.replicate (16 : Nat) (0 : Int) ∧ k = k ∧ c = c ∧ d = d ∧ True) (room (List.length ([(171 : Int), k % (256 : Int), c % (256 : Int)] ++ List.take (10 : Nat) d) + (1 : Nat)) (1 : Nat) ∧ (List.length ([(171 : Int), k % (256 : Int), c % (256 : Int)] ++ List.take (10 : Nat) d ++ [par (List.take g (List.take (List.length ([(171 : Int), k % (256 : Int), c % (256 : Int)] ++ List.take (10 : Nat) d) - (1 : Nat)) (List.drop (1 : Nat) ([(171 : Int), k % (256 : Int), c % (256 : Int)] ++ List.take (10 : Nat) d))))]) ≤ (1000000000 : Nat) ∧ Bytes ([(171 : Int), k % (256 : Int), c % (256 : Int)] ++ List.take (10 : Nat) d ++ [par (List.take g (List.take (List.length ([(171 : Int), k % (256 : Int), c % (256 : Int)] ++ List.take (10 : Nat) d) - (1 : Nat)) (List.drop (1 : Nat) ([(171 : Int), k % (256 : Int), c % (256 : Int)] ++ List.take (10 : Nat) d))))]) ∧ ((0 : Int) ≤ (251 : Int) ∧ (251 : Int) ≤ (1000 : Int)) ∧ (1 : Int) < (65521 : Int) ∧ (65521 : Int) ≤ (1000000000 : Int)) ∧ ((0 : Int) ≤ (8 : Int) ∧ (8 : Nat) ≤ IntKind.bits IntKind.i64) ∧ room (List.length ([(171 : Int), k % (256 : Int), c % (256 : Int)] ++ List.take (10 : Nat) d ++ [par (List.take g (List.take (List.length ([(171 : Int), k % (256 : Int), c % (256 : Int)] ++ List.take (10 : Nat) d) - (1 : Nat)) (List.drop (1 : Nat) ([(171 : Int), k % (256 : Int), c % (256 : Int)] ++ List.take (10 : Nat) d))))]) + (2 : Nat)) (1 : Nat) ∧ (16 : Nat) ≤ List.length ([(171 : Int), k % (256 : Int), c % (256 : Int)] ++ List.take (10 : Nat) d ++ [par (List.take g (List.take (List.length ([(171 : Int), k % (256 : Int), c % (256 : Int)] ++ List.take (10 : Nat) d) - (1 : Nat)) (List.drop (1 : Nat) ([(171 : Int), k % (256 : Int), c % (256 : Int)] ++ List.take (10 : Nat) d))))] ++ [sum (251 : Int) (65521 : Int) ([(171 : Int), k % (256 : Int), c % (256 : Int)] ++ List.take (10 : Nat) d ++ [par (List.take g (List.take (List.length ([(171 : Int), k % (256 : Int), c % (256 : Int)] ++ List.take (10 : Nat) d) - (1 : Nat)) (List.drop (1 : Nat) ([(171 : Int), k % (256 : Int), c % (256 : Int)] ++ List.take (10 : Nat) d))))]) / (256 : Int) % (256 : Int), sum (251 : Int) (65521 : Int) ([(171 : Int), k % (256 : Int), c % (256 : Int)] ++ List.take (10 : Nat) d ++ [par (List.take g (List.take (List.length ([(171 : Int), k % (256 : Int), c % (256 : Int)] ++ List.take (10 : Nat) d) - (1 : Nat)) (List.drop (1 : Nat) ([(171 : Int), k % (256 : Int), c % (256 : Int)] ++ List.take (10 : Nat) d))))]) % (256 : Int)]) ∧ List.length (List.take (16 : Nat) ([(171 : Int), k % (256 : Int), c % (256 : Int)] ++ List.take (10 : Nat) d ++ [par (List.take g (List.take (List.length ([(171 : Int), k % (256 : Int), c % (256 : Int)] ++ List.take (10 : Nat) d) - (1 : Nat)) (List.drop (1 : Nat) ([(171 : Int), k % (256 : Int), c % (256 : Int)] ++ List.take (10 : Nat) d))))] ++ [sum (251 : Int) (65521 : Int) ([(171 : Int), k % (256 : Int), c % (256 : Int)] ++ List.take (10 : Nat) d ++ [par (List.take g (List.take (List.length ([(171 : Int), k % (256 : Int), c % (256 : Int)] ++ List.take (10 : Nat) d) - (1 : Nat)) (List.drop (1 : Nat) ([(171 : Int), k % (256 : Int), c % (256 : Int)] ++ List.take (10 : Nat) d))))]) / (256 : Int) % (256 : Int), sum (251 : Int) (65521 : Int) ([(171 : Int), k % (256 : Int), c % (256 : Int)] ++ List.take (10 : Nat) d ++ [par (List.take g (List.take (List.length ([(171 : Int), k % (256 : Int), c % (256 : Int)] ++ List.take (10 : Nat) d) - (1 : Nat)) (List.drop (1 : Nat) ([(171 : Int), k % (256 : Int), c % (256 : Int)] ++ List.take (10 : Nat) d))))]) % (256 : Int)])) = (16 : Nat) ∧ List.take (16 : Nat) ([(171 : Int), k % (256 : Int), c % (256 : Int)] ++ List.take (10 : Nat) d ++ [par (List.take g (List.take (List.length ([(171 : Int), k % (256 : Int), c % (256 : Int)] ++ List.take (10 : Nat) d) - (1 : Nat)) (List.drop (1 : Nat) ([(171 : Int), k % (256 : Int), c % (256 : Int)] ++ List.take (10 : Nat) d))))] ++ [sum (251 : Int) (65521 : Int) ([(171 : Int), k % (256 : Int), c % (256 : Int)] ++ List.take (10 : Nat) d ++ [par (List.take g (List.take (List.length ([(171 : Int), k % (256 : Int), c % (256 : Int)] ++ List.take (10 : Nat) d) - (1 : Nat)) (List.drop (1 : Nat) ([(171 : Int), k % (256 : Int), c % (256 : Int)] ++ List.take (10 : Nat) d))))]) / (256 : Int) % (256 : Int), sum (251 : Int) (65521 : Int) ([(171 : Int), k % (256 : Int), c % (256 : Int)] ++ List.take (10 : Nat) d ++ [par (List.take g (List.take (List.length ([(171 : Int), k % (256 : Int), c % (256 : Int)] ++ List.take (10 : Nat) d) - (1 : Nat)) (List.drop (1 : Nat) ([(171 : Int), k % (256 : Int), c % (256 : Int)] ++ List.take (10 : Nat) d))))]) % (256 : Int)]) = frame k c d ∧ True)) := by
  kernel_rfl
end Go.Sx

/- Contracts: a packet's check and its frame. -/
namespace Go.Sx
open U

theorem fn57 (k c : Int) (d : List Int) : Fn P1 gl1 57 [pV k c d] (.val (iV (pcheck k c))) true := by
  refine Fn.flat ?_ rfl
  refine fn_of false [(62, sp62), (60, sp60)] [] h0 0 Proofs.Tryd.f57 ⟨so62, so60, trivial⟩ trivial (by kernel_rfl) rfl (by kernel_rfl) rfl rfl rfl ?_
  rw [vc57]
  try simp only [splitB_iff, -eq_self]
  simp [pcheck]

theorem bxor_bd (a b : Int) : 0 ≤ bxor a b ∧ bxor a b ≤ 255 := by
  unfold bxor bits
  simp only [IntKind.wrap, IntKind.bits, IntKind.signed]
  simp
  omega

theorem par_bd (s : List Int) : 0 ≤ par s ∧ par s ≤ 255 := by
  have key : ∀ (s : List Int) (x : Int), 0 ≤ x ∧ x ≤ 255 → 0 ≤ s.foldl bxor x ∧ s.foldl bxor x ≤ 255 := by
    intro s
    induction s with
    | nil => intro x h; exact h
    | cons b s ih => intro x _; exact ih _ (bxor_bd _ _)
  exact key s 0 (by omega)

theorem par_snoc (xs : List Int) (g : Nat) (h : g < xs.length) : par (xs.take (g + 1)) = bxor (par (xs.take g)) xs[g] := by
  unfold par
  rw [List.take_succ_eq_append_getElem h, List.foldl_append]
  rfl

theorem Bytes.app {a b : List Int} (h : Bytes a) (k : Bytes b) : Bytes (a ++ b) := by
  intro x hx
  rcases List.mem_append.1 hx with h' | h'
  · exact h x h'
  · exact k x h'

theorem frame0_bytes (k c : Int) {d : List Int} (h : Bytes d) : Bytes (frame0 k c d) := by
  refine Bytes.app ?_ h
  intro x hx
  simp only [List.mem_cons, List.not_mem_nil, or_false] at hx
  rcases hx with rfl | rfl | rfl <;> omega

theorem frame0_len (k c : Int) (d : List Int) : (frame0 k c d).length = d.length + 3 := by simp [frame0]

theorem frame1_bytes (k c : Int) {d : List Int} (h : Bytes d) : Bytes (frame1 k c d) := by
  refine Bytes.app (frame0_bytes k c h) ?_
  intro x hx
  simp only [List.mem_singleton] at hx
  subst hx
  exact par_bd _

theorem fn58 (k c : Int) (d : List Int) (hd : d.length = 10) (hb : Bytes d) : Fn P1 gl1 58 [pV k c d] (.val (aV 16 (frame k c d))) true := by
  refine Fn.flat ?_ rfl
  refine fn_of false [(112, sp112)] [fb113] h58 1 Proofs.Tryd.f58 ⟨so112, trivial⟩ ⟨⟨by kernel_rfl, by kernel_rfl, _, rfl, by kernel_rfl⟩, trivial⟩ (by kernel_rfl) rfl (by kernel_rfl) rfl rfl rfl ?_
  rw [vc58]
  try simp only [splitB_iff, -eq_self]
  have ht : d.take 10 = d := List.take_of_length_le (by omega)
  rw [ht]
  have hr : [171, k % 256, c % 256] ++ d = frame0 k c d := rfl
  rw [hr]
  have hl := frame0_len k c d
  have hdr : (List.drop 1 (frame0 k c d)).length = 12 := by simp [hl, hd]
  have ht2 : List.take ((frame0 k c d).length - 1) (List.drop 1 (frame0 k c d)) = List.drop 1 (frame0 k c d) := List.take_of_length_le (by simp)
  rw [ht2]
  refine ⟨by omega, hd, by simp only [room]; omega, by omega, ⟨0, Nat.zero_le _, rfl, by simp [par], by simp⟩, fun g hg => ⟨fun hlt => ?_, fun hge => ?_⟩⟩
  · have hlt' : g < (List.drop 1 (frame0 k c d)).length := by simp at hlt ⊢; omega
    have hlt2 : 1 + g < (frame0 k c d).length := by omega
    refine ⟨by omega, hlt2, by simp only [fits]; omega, g + 1, hlt', by omega, by simp, ?_, by simp⟩
    rw [par_snoc _ g hlt', getD_of hlt2]
    simp only [bxor, List.getElem_drop]
  · have hge' : (List.drop 1 (frame0 k c d)).length ≤ g := by simp at hge ⊢; omega
    have ht3 : List.take g (List.drop 1 (frame0 k c d)) = List.drop 1 (frame0 k c d) := List.take_of_length_le hge'
    rw [ht3]
    have hr1 : frame0 k c d ++ [par (List.drop 1 (frame0 k c d))] = frame1 k c d := rfl
    rw [hr1]
    have hl1 : (frame1 k c d).length = 14 := by simp [frame1, hl, hd]
    have hr2 : frame1 k c d ++ [sum 251 65521 (frame1 k c d) / 256 % 256, sum 251 65521 (frame1 k c d) % 256] = frame k c d := rfl
    rw [hr2]
    have hl2 : (frame k c d).length = 16 := by simp [frame, word, hl1]
    have ht4 : List.take 16 (frame k c d) = frame k c d := List.take_of_length_le (by omega)
    rw [ht4]
    exact ⟨by simp only [room]; omega, ⟨by omega, frame1_bytes k c hb, by omega, by omega, by omega⟩, by simp [IntKind.bits], by simp only [room]; omega, by omega, hl2, rfl, trivial⟩

theorem frame_len (k c : Int) {d : List Int} (hd : d.length = 10) : (frame k c d).length = 16 := by simp [frame, word, frame1, frame0, hd]

theorem frame_bytes (k c : Int) {d : List Int} (h : Bytes d) : Bytes (frame k c d) := by
  refine Bytes.app (frame1_bytes k c h) ?_
  intro x hx
  simp only [word, List.mem_cons, List.not_mem_nil, or_false] at hx
  rcases hx with rfl | rfl <;> omega

def sp57 : FSpec := ⟨fun vs => match vs with
  | [.agg [.one (.int .i64 k), .one (.int .i64 c), .arr 10 (.int .u8) _]] => some ([], .val (iV (pcheck k c)))
  | _ => none, true⟩
theorem so57_ : SpecOk P1 gl1 57 sp57 := by
  intro vs ps r h hp
  simp only [sp57] at h
  split at h
  · cases h; exact fn57 _ _ _
  · cases h
theorem so57 : Sp1 57 sp57 := ⟨so57_, Proofs.Tryd.f57, _, by kernel_rfl, rfl, by kernel_rfl⟩
def sp58 : FSpec := ⟨fun vs => match vs with
  | [.agg [.one (.int .i64 k), .one (.int .i64 c), .arr 10 (.int .u8) d]] => some ([List.length d = 10 ∧ Bytes d], .val (aV 16 (frame k c d)))
  | _ => none, true⟩
theorem so58_ : SpecOk P1 gl1 58 sp58 := by
  intro vs ps r h hp
  simp only [sp58] at h
  split at h
  · cases h
    have := hp _ (List.mem_singleton.2 rfl)
    exact fn58 _ _ _ this.1 this.2
  · cases h
theorem so58 : Sp1 58 sp58 := ⟨so58_, Proofs.Tryd.f58, _, by kernel_rfl, rfl, by kernel_rfl⟩
end Go.Sx

/- What the engine asks, written out (printed by a program). -/
namespace Go.Sx
open U
theorem vc14 (k c : Int) (d : List Int) : exF (env false [(57, sp57), (58, sp58)] []) h0 0 14 Proofs.Tryd.f14 [pV k c d] (.tup [aV 16 (U.pkEnc k c d).1, iV (U.pkEnc k c d).2]) = (splitB (pcheck k c != (0 : Int)) (List.replicate (16 : Nat) (0 : Int) = Prod.fst (pkEnc k c d) ∧ pcheck k c = Prod.snd (pkEnc k c d) ∧ True) ((List.length d = (10 : Nat) ∧ Bytes d) ∧ frame k c d = Prod.fst (pkEnc k c d) ∧ (0 : Int) = Prod.snd (pkEnc k c d) ∧ True)) := by
  kernel_rfl
theorem vc47 (s : List Int) : exF (env false [(58, sp58)] []) h0 0 47 Proofs.Tryd.f47 [aV 16 s] (.tup [pV (U.pkDec s).1.1 (U.pkDec s).1.2.1 (U.pkDec s).1.2.2, iV (U.pkDec s).2]) = (((0 : Int) ≤ (0 : Int) ∧ (0 : Int) < (16 : Int)) ∧ (0 : Nat) < List.length s ∧ splitB (List.getD s (0 : Nat) (0 : Int) != (171 : Int)) ((0 : Int) = Prod.fst (Prod.fst (pkDec s)) ∧ (0 : Int) = Prod.fst (Prod.snd (Prod.fst (pkDec s))) ∧ List.replicate (10 : Nat) (0 : Int) = Prod.snd (Prod.snd (Prod.fst (pkDec s))) ∧ (1 : Int) = Prod.snd (pkDec s) ∧ True) (((0 : Int) ≤ (1 : Int) ∧ (1 : Int) < (16 : Int)) ∧ (1 : Nat) < List.length s ∧ fits IntKind.i64 (List.getD s (1 : Nat) (0 : Int)) ∧ ((0 : Int) ≤ (2 : Int) ∧ (2 : Int) < (16 : Int)) ∧ (2 : Nat) < List.length s ∧ fits IntKind.i64 (List.getD s (2 : Nat) (0 : Int)) ∧ ((0 : Int) ≤ (3 : Int) ∧ (3 : Int) ≤ (13 : Int) ∧ (13 : Int) ≤ (16 : Int)) ∧ (10 : Nat) ≤ (10 : Nat) ∧ List.length (List.take (10 : Nat) (List.drop (3 : Nat) s)) = (10 : Nat) ∧ (List.length (List.take (10 : Nat) (List.drop (3 : Nat) s)) = (10 : Nat) ∧ Bytes (List.take (10 : Nat) (List.drop (3 : Nat) s))) ∧ splitB (!eqT (Ty.arr (16 : Nat) (Ty.int IntKind.u8)) (frame (List.getD s (1 : Nat) (0 : Int)) (List.getD s (2 : Nat) (0 : Int)) (List.take (10 : Nat) (List.drop (3 : Nat) s))) s) ((0 : Int) = Prod.fst (Prod.fst (pkDec s)) ∧ (0 : Int) = Prod.fst (Prod.snd (Prod.fst (pkDec s))) ∧ List.replicate (10 : Nat) (0 : Int) = Prod.snd (Prod.snd (Prod.fst (pkDec s))) ∧ (27 : Int) = Prod.snd (pkDec s) ∧ True) (List.getD s (1 : Nat) (0 : Int) = Prod.fst (Prod.fst (pkDec s)) ∧ List.getD s (2 : Nat) (0 : Int) = Prod.fst (Prod.snd (Prod.fst (pkDec s))) ∧ List.take (10 : Nat) (List.drop (3 : Nat) s) = Prod.snd (Prod.snd (Prod.fst (pkDec s))) ∧ (0 : Int) = Prod.snd (pkDec s) ∧ True))) := by
  kernel_rfl
end Go.Sx

/- Contracts: Encode, Decode. -/
namespace Go.Sx
open U

theorem eqT_int (k : IntKind) (n : Nat) (a b : List Int) (ha : a.length = n) (hb : b.length = n) : eqT (.arr n (.int k)) a b = decide (a = b) := by
  have h : eqT (.arr n (.int k)) a b = (List.range n).all fun i => (List.getD a i 0 == List.getD b i 0) := rfl
  rw [h, Bool.eq_iff_iff]
  simp only [List.all_eq_true, List.mem_range, beq_iff_eq, decide_eq_true_eq]
  constructor
  · intro h
    refine List.ext_getElem (by omega) fun i h1 h2 => ?_
    have := h i (by omega)
    rwa [getD_of h1, getD_of h2] at this
  · rintro rfl i _; rfl

theorem fn14 (k c : Int) (d : List Int) (hd : d.length = 10) (hb : Bytes d) : Fn P1 gl1 14 [pV k c d] (.tup [aV 16 (pkEnc k c d).1, iV (pkEnc k c d).2]) true := by
  refine Fn.flat ?_ rfl
  refine fn_of false [(57, sp57), (58, sp58)] [] h0 0 Proofs.Tryd.f14 ⟨so57, so58, trivial⟩ trivial (by kernel_rfl) rfl (by kernel_rfl) rfl rfl rfl ?_
  rw [vc14]
  try simp only [splitB_iff, -eq_self]
  refine ⟨fun h => ?_, fun h => ?_⟩
  · have h' : ¬ pcheck k c = 0 := by simpa using h
    simp [pkEnc, h', zero16]
  · have h' : pcheck k c = 0 := by simpa using h
    simp [pkEnc, h', hd, hb]

theorem byTake {s : List Int} (h : Bytes s) (n : Nat) : Bytes (s.take n) := fun x hx => h x (List.mem_of_mem_take hx)
theorem byDrop {s : List Int} (h : Bytes s) (n : Nat) : Bytes (s.drop n) := fun x hx => h x (List.mem_of_mem_drop hx)
theorem byAt {s : List Int} (h : Bytes s) {i : Nat} (hi : i < s.length) : 0 ≤ List.getD s i 0 ∧ List.getD s i 0 ≤ 255 := by
  rw [getD_of hi]; exact h _ (List.getElem_mem hi)

theorem fn47 (s : List Int) (hs : s.length = 16) (hb : Bytes s) : Fn P1 gl1 47 [aV 16 s] (.tup [pV (pkDec s).1.1 (pkDec s).1.2.1 (pkDec s).1.2.2, iV (pkDec s).2]) true := by
  refine Fn.flat ?_ rfl
  refine fn_of false [(58, sp58)] [] h0 0 Proofs.Tryd.f47 ⟨so58, trivial⟩ trivial (by kernel_rfl) rfl (by kernel_rfl) rfl rfl rfl ?_
  rw [vc47]
  try simp only [splitB_iff, -eq_self]
  have h1 := byAt hb (i := 1) (by omega)
  have h2 := byAt hb (i := 2) (by omega)
  have hdl : (List.take 10 (List.drop 3 s)).length = 10 := by simp; omega
  have hdb : Bytes (List.take 10 (List.drop 3 s)) := byTake (byDrop hb 3) 10
  have hfl := frame_len (List.getD s 1 0) (List.getD s 2 0) hdl
  rw [eqT_int .u8 16 _ s hfl hs]
  refine ⟨by omega, by omega, fun h => ?_, fun h => ?_⟩
  · have h' : ¬ s.getD 0 0 = 171 := by simpa using h
    simp only [pkDec, if_neg h', zero10]
    simp
  · have h' : s.getD 0 0 = 171 := by simpa using h
    refine ⟨by omega, by omega, by simp only [fits]; omega, by omega, by omega, by simp only [fits]; omega, by omega, by omega, hdl, ⟨hdl, hdb⟩, fun hn => ?_, fun hy => ?_⟩
    · have hn' : ¬ frame (List.getD s 1 0) (List.getD s 2 0) (dat s) = s := by simpa [dat] using hn
      simp only [pkDec, if_pos h', if_neg hn', zero10]
      simp
    · have hy' : frame (List.getD s 1 0) (List.getD s 2 0) (dat s) = s := by simpa [dat] using hy
      have he : pkDec s = ((s.getD 1 0, s.getD 2 0, dat s), 0) := by unfold pkDec; rw [if_pos h', if_pos hy']
      rw [he]
      exact ⟨rfl, rfl, rfl, rfl, trivial⟩

def sp14 : FSpec := ⟨fun vs => match vs with
  | [.agg [.one (.int .i64 k), .one (.int .i64 c), .arr 10 (.int .u8) d]] => some ([List.length d = 10 ∧ Bytes d], .tup [aV 16 (pkEnc k c d).1, iV (pkEnc k c d).2])
  | _ => none, true⟩
theorem so14_ : SpecOk P1 gl1 14 sp14 := by
  intro vs ps r h hp
  simp only [sp14] at h
  split at h
  · cases h
    have := hp _ (List.mem_singleton.2 rfl)
    exact fn14 _ _ _ this.1 this.2
  · cases h
theorem so14 : Sp1 14 sp14 := ⟨so14_, Proofs.Tryd.f14, _, by kernel_rfl, rfl, by kernel_rfl⟩
def sp47 : FSpec := ⟨fun vs => match vs with
  | [.agg [.arr 16 (.int .u8) s]] => some ([List.length s = 16 ∧ Bytes s], .tup [pV (pkDec s).1.1 (pkDec s).1.2.1 (pkDec s).1.2.2, iV (pkDec s).2])
  | _ => none, true⟩
theorem so47_ : SpecOk P1 gl1 47 sp47 := by
  intro vs ps r h hp
  simp only [sp47] at h
  split at h
  · cases h
    have := hp _ (List.mem_singleton.2 rfl)
    exact fn47 _ this.1 this.2
  · cases h
theorem so47 : Sp1 47 sp47 := ⟨so47_, Proofs.Tryd.f47, _, by kernel_rfl, rfl, by kernel_rfl⟩
end Go.Sx
namespace Go.Sx.U
abbrev Pk := Int × Int × List Int
/-- The bytes of a stream that are skipped. -/
def skip (sk : List (Int × Int)) (i : Nat) : List (Int × Int) :=
  if 0 < sk.length ∧ (sk.getD (sk.length - 1) (0, 0)).2 = i then sk.set (sk.length - 1) ((sk.getD (sk.length - 1) (0, 0)).1, (i : Int) + 1) else sk ++ [((i : Int), (i : Int) + 1)]
def blk (s : List Int) (i : Nat) : List Int := (s.drop i).take 16
def rstep (s : List Int) (st : List Pk × List (Int × Int) × Int) (i : Nat) : List Pk × List (Int × Int) × Int :=
  if (i : Int) < st.2.2 then st
  else if (blk s i).length = 16 ∧ (pkDec (blk s i)).2 = 0 then (st.1 ++ [(pkDec (blk s i)).1], st.2.1, (i : Int) + 16)
  else (st.1, skip st.2.1 i, (i : Int) + 1)
def rst (s : List Int) (i : Nat) : List Pk × List (Int × Int) × Int := (List.range i).foldl (rstep s) ([], [], 0)
def received (s : List Int) : List Pk × List (Int × Int) × Int := if 16384 < s.length then ([], [], 26) else ((rst s s.length).1, (rst s s.length).2.1, 0)
end Go.Sx.U
namespace Go.Sx
open U
abbrev pT : Ty := .pair (.int .i64) (.pair (.int .i64) (.arr 10 (.int .u8)))
abbrev spT : Ty := .pair (.int .i64) (.int .i64)
def h15 : Hints := ⟨fun f k s => match f, k with
  | 114, 1 => match liveO [] s.ob with
    | [(a, some (.box [.one (.sl (.int .u8) xs)])), (b, _), (c, _), (d, _)] =>
      some ⟨Nat, fun i => ⟨tI 6 i :: keepT [0, 1, 5] s.tm, [(a, some (.box [.one (.sl (.int .u8) xs)])), (b, some (.box [.one (.int .i64 (rst xs i).2.2)])), (c, some (.box [.one (.own s.nx)])), (d, some (.box [.one (.own (s.nx + 1))])),
          (s.nx, some (.row spT (rst xs i).2.1)), (s.nx + 1, some (.row pT (rst xs i).1))], s.nx + 2, s.lr⟩, fun i => i ≤ List.length xs, fun i => List.length xs - i⟩
    | _ => none
  | _, _ => none, 0⟩
@[reducible] noncomputable def fb59 : Nat × Func := (59, Proofs.Tryd.f59)
@[reducible] noncomputable def fb114 : Nat × Func := (114, Proofs.Tryd.f114)
end Go.Sx

/- What the engine asks, written out (printed by a program). -/
namespace Go.Sx
open U
theorem vc15 (s : List Int) : exF (env false [(47, sp47)] [fb59, fb114]) h15 2 15 Proofs.Tryd.f15 [.one (.sl (.int .u8) s)] (.tup [.one (.frs pT (U.received s).1), .one (.frs spT (U.received s).2.1), iV (U.received s).2.2]) = (splitB (decide ((16384 : Int) < (↑(List.length s) : Int))) (Prod.fst (received s) = [] ∧ Prod.fst (Prod.snd (received s)) = [] ∧ (26 : Int) = Prod.snd (Prod.snd (received s)) ∧ True) ((∃ (g : Nat), Nat.le g (List.length s) ∧ (0 : Int) = (↑g : Int) ∧ (↑(List.length s) : Int) = (↑(List.length s) : Int) ∧ s = s ∧ (0 : Int) = Prod.snd (Prod.snd (rst s g)) ∧ Prod.fst (Prod.snd (rst s g)) = [] ∧ Prod.fst (rst s g) = [] ∧ True) ∧ ∀ (g : Nat), Nat.le g (List.length s) → splitB (decide ((↑g : Int) < (↑(List.length s) : Int))) (fits IntKind.i64 ((↑g : Int) + (16 : Int)) ∧ ((0 : Int) ≤ (↑g : Int) ∧ (↑g : Int) ≤ min (↑(List.length s) : Int) ((↑g : Int) + (16 : Int)) ∧ min (↑(List.length s) : Int) ((↑g : Int) + (16 : Int)) ≤ (↑(List.length s) : Int)) ∧ splitB (decide ((↑g : Int) < Prod.snd (Prod.snd (rst s g)))) (fits IntKind.i64 ((↑g : Int) + (1 : Int)) ∧ ∃ (g' : Nat), Nat.le g' (List.length s) ∧ List.length s - g' < List.length s - g ∧ (↑g : Int) + (1 : Int) = (↑g' : Int) ∧ (↑(List.length s) : Int) = (↑(List.length s) : Int) ∧ s = s ∧ Prod.snd (Prod.snd (rst s g)) = Prod.snd (Prod.snd (rst s g')) ∧ Prod.fst (Prod.snd (rst s g)) = Prod.fst (Prod.snd (rst s g')) ∧ Prod.fst (rst s g) = Prod.fst (rst s g') ∧ True) (splitB ((↑(List.length (List.take (Int.toNat (min (↑(List.length s) : Int) ((↑g : Int) + (16 : Int))) - g) (List.drop g s))) : Int) == (16 : Int)) ((16 : Nat) ≤ List.length (List.take (Int.toNat (min (↑(List.length s) : Int) ((↑g : Int) + (16 : Int))) - g) (List.drop g s)) ∧ (List.length (List.take (16 : Nat) (List.take (Int.toNat (min (↑(List.length s) : Int) ((↑g : Int) + (16 : Int))) - g) (List.drop g s))) = (16 : Nat) ∧ Bytes (List.take (16 : Nat) (List.take (Int.toNat (min (↑(List.length s) : Int) ((↑g : Int) + (16 : Int))) - g) (List.drop g s)))) ∧ splitB (Prod.snd (pkDec (List.take (16 : Nat) (List.take (Int.toNat (min (↑(List.length s) : Int) ((↑g : Int) + (16 : Int))) - g) (List.drop g s)))) == (0 : Int)) (room (List.length (Prod.fst (rst s g)) + (1 : Nat)) (32 : Nat) ∧ fits IntKind.i64 ((↑g : Int) + (16 : Int)) ∧ fits IntKind.i64 ((↑g : Int) + (1 : Int)) ∧ ∃ (g' : Nat), Nat.le g' (List.length s) ∧ List.length s - g' < List.length s - g ∧ (↑g : Int) + (1 : Int) = (↑g' : Int) ∧ (↑(List.length s) : Int) = (↑(List.length s) : Int) ∧ s = s ∧ (↑g : Int) + (16 : Int) = Prod.snd (Prod.snd (rst s g')) ∧ Prod.fst (Prod.snd (rst s g)) = Prod.fst (Prod.snd (rst s g')) ∧ Prod.fst (rst s g) ++ [(Prod.fst (Prod.fst (pkDec (List.take (16 : Nat) (List.take (Int.toNat (min (↑(List.length s) : Int) ((↑g : Int) + (16 : Int))) - g) (List.drop g s))))), Prod.fst (Prod.snd (Prod.fst (pkDec (List.take (16 : Nat) (List.take (Int.toNat (min (↑(List.length s) : Int) ((↑g : Int) + (16 : Int))) - g) (List.drop g s)))))), Prod.snd (Prod.snd (Prod.fst (pkDec (List.take (16 : Nat) (List.take (Int.toNat (min (↑(List.length s) : Int) ((↑g : Int) + (16 : Int))) - g) (List.drop g s)))))))] = Prod.fst (rst s g') ∧ True) (fits IntKind.i64 ((↑g : Int) + (1 : Int)) ∧ (decide ((0 : Int) < (↑(List.length (Prod.fst (Prod.snd (rst s g)))) : Int)) = true → fits IntKind.i64 ((↑(List.length (Prod.fst (Prod.snd (rst s g)))) : Int) - (1 : Int))) ∧ (decide ((0 : Int) < (↑(List.length (Prod.fst (Prod.snd (rst s g)))) : Int)) = true → (0 : Int) ≤ (↑(List.length (Prod.fst (Prod.snd (rst s g)))) : Int) - (1 : Int) ∧ (↑(List.length (Prod.fst (Prod.snd (rst s g)))) : Int) - (1 : Int) < (↑(List.length (Prod.fst (Prod.snd (rst s g)))) : Int)) ∧ (decide ((0 : Int) < (↑(List.length (Prod.fst (Prod.snd (rst s g)))) : Int)) = true → Int.toNat ((↑(List.length (Prod.fst (Prod.snd (rst s g)))) : Int) - (1 : Int)) < List.length (Prod.fst (Prod.snd (rst s g)))) ∧ splitB (bif decide ((0 : Int) < (↑(List.length (Prod.fst (Prod.snd (rst s g)))) : Int)) then Prod.snd (List.getD (Prod.fst (Prod.snd (rst s g))) (Int.toNat ((↑(List.length (Prod.fst (Prod.snd (rst s g)))) : Int) - (1 : Int))) ((0 : Int), (0 : Int))) == (↑g : Int) else false) (fits IntKind.i64 ((↑(List.length (Prod.fst (Prod.snd (rst s g)))) : Int) - (1 : Int)) ∧ ((0 : Int) ≤ (↑(List.length (Prod.fst (Prod.snd (rst s g)))) : Int) - (1 : Int) ∧ (↑(List.length (Prod.fst (Prod.snd (rst s g)))) : Int) - (1 : Int) < (↑(List.length (Prod.fst (Prod.snd (rst s g)))) : Int)) ∧ Int.toNat ((↑(List.length (Prod.fst (Prod.snd (rst s g)))) : Int) - (1 : Int)) < List.length (Prod.fst (Prod.snd (rst s g))) ∧ fits IntKind.i64 ((↑g : Int) + (1 : Int)) ∧ ∃ (g' : Nat), Nat.le g' (List.length s) ∧ List.length s - g' < List.length s - g ∧ (↑g : Int) + (1 : Int) = (↑g' : Int) ∧ (↑(List.length s) : Int) = (↑(List.length s) : Int) ∧ s = s ∧ (↑g : Int) + (1 : Int) = Prod.snd (Prod.snd (rst s g')) ∧ List.set (Prod.fst (Prod.snd (rst s g))) (Int.toNat ((↑(List.length (Prod.fst (Prod.snd (rst s g)))) : Int) - (1 : Int))) (Prod.fst (List.getD (Prod.fst (Prod.snd (rst s g))) (Int.toNat ((↑(List.length (Prod.fst (Prod.snd (rst s g)))) : Int) - (1 : Int))) ((0 : Int), (0 : Int))), (↑g : Int) + (1 : Int)) = Prod.fst (Prod.snd (rst s g')) ∧ Prod.fst (rst s g) = Prod.fst (rst s g') ∧ True) (room (List.length (Prod.fst (Prod.snd (rst s g))) + (1 : Nat)) (16 : Nat) ∧ fits IntKind.i64 ((↑g : Int) + (1 : Int)) ∧ ∃ (g' : Nat), Nat.le g' (List.length s) ∧ List.length s - g' < List.length s - g ∧ (↑g : Int) + (1 : Int) = (↑g' : Int) ∧ (↑(List.length s) : Int) = (↑(List.length s) : Int) ∧ s = s ∧ (↑g : Int) + (1 : Int) = Prod.snd (Prod.snd (rst s g')) ∧ Prod.fst (Prod.snd (rst s g)) ++ [((↑g : Int), (↑g : Int) + (1 : Int))] = Prod.fst (Prod.snd (rst s g')) ∧ Prod.fst (rst s g) = Prod.fst (rst s g') ∧ True))) (fits IntKind.i64 ((↑g : Int) + (1 : Int)) ∧ (decide ((0 : Int) < (↑(List.length (Prod.fst (Prod.snd (rst s g)))) : Int)) = true → fits IntKind.i64 ((↑(List.length (Prod.fst (Prod.snd (rst s g)))) : Int) - (1 : Int))) ∧ (decide ((0 : Int) < (↑(List.length (Prod.fst (Prod.snd (rst s g)))) : Int)) = true → (0 : Int) ≤ (↑(List.length (Prod.fst (Prod.snd (rst s g)))) : Int) - (1 : Int) ∧ (↑(List.length (Prod.fst (Prod.snd (rst s g)))) : Int) - (1 : Int) < (↑(List.length (Prod.fst (Prod.snd (rst s g)))) : Int)) ∧ (decide ((0 : Int) < (↑(List.length (Prod.fst (Prod.snd (rst s g)))) : Int)) = true → Int.toNat ((↑(List.length (Prod.fst (Prod.snd (rst s g)))) : Int) - (1 : Int)) < List.length (Prod.fst (Prod.snd (rst s g)))) ∧ splitB (bif decide ((0 : Int) < (↑(List.length (Prod.fst (Prod.snd (rst s g)))) : Int)) then Prod.snd (List.getD (Prod.fst (Prod.snd (rst s g))) (Int.toNat ((↑(List.length (Prod.fst (Prod.snd (rst s g)))) : Int) - (1 : Int))) ((0 : Int), (0 : Int))) == (↑g : Int) else false) (fits IntKind.i64 ((↑(List.length (Prod.fst (Prod.snd (rst s g)))) : Int) - (1 : Int)) ∧ ((0 : Int) ≤ (↑(List.length (Prod.fst (Prod.snd (rst s g)))) : Int) - (1 : Int) ∧ (↑(List.length (Prod.fst (Prod.snd (rst s g)))) : Int) - (1 : Int) < (↑(List.length (Prod.fst (Prod.snd (rst s g)))) : Int)) ∧ Int.toNat ((↑(List.length (Prod.fst (Prod.snd (rst s g)))) : Int) - (1 : Int)) < List.length (Prod.fst (Prod.snd (rst s g))) ∧ fits IntKind.i64 ((↑g : Int) + (1 : Int)) ∧ ∃ (g' : Nat), Nat.le g' (List.length s) ∧ List.length s - g' < List.length s - g ∧ (↑g : Int) + (1 : Int) = (↑g' : Int) ∧ (↑(List.length s) : Int) = (↑(List.length s) : Int) ∧ s = s ∧ (↑g : Int) + (1 : Int) = Prod.snd (Prod.snd (rst s g')) ∧ List.set (Prod.fst (Prod.snd (rst s g))) (Int.toNat ((↑(List.length (Prod.fst (Prod.snd (rst s g)))) : Int) - (1 : Int))) (Prod.fst (List.getD (Prod.fst (Prod.snd (rst s g))) (Int.toNat ((↑(List.length (Prod.fst (Prod.snd (rst s g)))) : Int) - (1 : Int))) ((0 : Int), (0 : Int))), (↑g : Int) + (1 : Int)) = Prod.fst (Prod.snd (rst s g')) ∧ Prod.fst (rst s g) = Prod.fst (rst s g') ∧ True) (room (List.length (Prod.fst (Prod.snd (rst s g))) + (1 : Nat)) (16 : Nat) ∧ fits IntKind.i64 ((↑g : Int) + (1 : Int)) ∧ ∃ (g' : Nat), Nat.le g' (List.length s) ∧ List.length s - g' < List.length s - g ∧ (↑g : Int) + (1 : Int) = (↑g' : Int) ∧ (↑(List.length s) : Int) = (↑(List.length s) : Int) ∧ s = s ∧ (↑g : Int) + (1 : Int) = Prod.snd (Prod.snd (rst s g')) ∧ Prod.fst (Prod.snd (rst s g)) ++ [((↑g : Int), (↑g : Int) + (1 : Int))] = Prod.fst (Prod.snd (rst s g')) ∧ Prod.fst (rst s g) = Prod.fst (rst s g') ∧ True)))) (Prod.fst (rst s g) = Prod.fst (received s) ∧ Prod.fst (Prod.snd (rst s g)) = Prod.fst (Prod.snd (received s)) ∧ (0 : Int) = Prod.snd (Prod.snd (received s)) ∧ True))) := by
  kernel_rfl
end Go.Sx

/- Contract: Received. -/
namespace Go.Sx
open U

theorem rst_succ (s : List Int) (g : Nat) : rst s (g + 1) = rstep s (rst s g) g := by
  unfold rst
  rw [List.range_succ, List.foldl_append]
  rfl

theorem skip_len (sk : List (Int × Int)) (i : Nat) : (skip sk i).length ≤ sk.length + 1 := by
  unfold skip
  split <;> simp

theorem rst_len (s : List Int) (g : Nat) : (rst s g).1.length ≤ g ∧ (rst s g).2.1.length ≤ g := by
  induction g with
  | zero => simp [rst]
  | succ g ih =>
    rw [rst_succ]
    unfold rstep
    split
    · omega
    · split
      · simp; omega
      · have := skip_len (rst s g).2.1 g
        simp; omega

theorem blk_eq (s : List Int) (g : Nat) (h : g ≤ s.length) : List.take (Int.toNat (min (s.length : Int) ((g : Int) + 16)) - g) (List.drop g s) = blk s g := by
  unfold blk
  have e : Int.toNat (min (s.length : Int) ((g : Int) + 16)) - g = min (s.length - g) 16 := by omega
  rw [e]
  rcases Nat.le_total (s.length - g) 16 with h1 | h1
  · rw [Nat.min_eq_left h1, List.take_of_length_le (by simp), List.take_of_length_le (by simp; omega)]
  · rw [Nat.min_eq_right h1]

theorem blk_take (s : List Int) (g : Nat) : List.take 16 (blk s g) = blk s g := by
  unfold blk
  rw [List.take_take]; simp

theorem toNat_sub1 (n : Nat) : Int.toNat ((n : Int) - 1) = n - 1 := by omega

theorem fn15 (s : List Int) (hb : Bytes s) (hl : s.length ≤ 1000000000) : Fn P1 gl1 15 [.one (.sl (.int .u8) s)] (.tup [.one (.frs pT (received s).1), .one (.frs spT (received s).2.1), iV (received s).2.2]) false := by
  refine fn_of false [(47, sp47)] [fb59, fb114] h15 2 Proofs.Tryd.f15 ⟨so47, trivial⟩ ⟨⟨by kernel_rfl, by kernel_rfl, _, rfl, by kernel_rfl⟩, ⟨by kernel_rfl, by kernel_rfl, _, rfl, by kernel_rfl⟩, trivial⟩ (by kernel_rfl) rfl (by kernel_rfl) rfl rfl rfl ?_
  rw [vc15]
  try simp only [splitB_iff, -eq_self]
  refine ⟨fun h => ?_, fun h => ?_⟩
  · have h' : 16384 < s.length := by simp at h; omega
    simp [received, h']
  · have hlen : ¬ 16384 < s.length := by simp at h; omega
    have hrec : received s = ((rst s s.length).1, (rst s s.length).2.1, 0) := by unfold received; rw [if_neg hlen]
    refine ⟨⟨0, Nat.zero_le _, by simp [rst]⟩, fun g hg => ⟨fun hlt => ?_, fun hge => ?_⟩⟩
    · have hlt' : g < s.length := by simpa using hlt
      have hrl := rst_len s g
      rw [blk_eq s g (by omega), blk_take]
      have hs := rst_succ s g
      generalize hR : rst s g = R at *
      obtain ⟨out, sk, nxt⟩ := R
      simp only [] at hrl hs ⊢
      simp only [toNat_sub1]
      refine ⟨by simp only [fits]; omega, by omega, fun h1 => ⟨by simp only [fits]; omega, g + 1, hlt', by omega, by simp, trivial, trivial, ?_⟩, fun h1 => ⟨fun h2 => ?_, fun h2 => ?_⟩⟩
      · have h1' : (g : Int) < nxt := by simpa using h1
        have : rst s (g + 1) = (out, sk, nxt) := by rw [hs]; unfold rstep; rw [if_pos h1']
        rw [this]
        exact ⟨rfl, rfl, rfl, trivial⟩
      · have h1' : ¬ (g : Int) < nxt := by simpa using h1
        have h2' : (blk s g).length = 16 := by simp at h2; omega
        refine ⟨by omega, ⟨h2', byTake (byDrop hb g) 16⟩, fun h3 => ?_, fun h3 => ?_⟩
        · have h3' : (pkDec (blk s g)).2 = 0 := by simpa using h3
          have : rst s (g + 1) = (out ++ [(pkDec (blk s g)).1], sk, (g : Int) + 16) := by rw [hs]; unfold rstep; rw [if_neg h1', if_pos ⟨h2', h3'⟩]
          refine ⟨by simp only [room]; omega, by simp only [fits]; omega, by simp only [fits]; omega, g + 1, hlt', by omega, by simp, trivial, trivial, ?_⟩
          rw [this]
          exact ⟨rfl, rfl, rfl, trivial⟩
        · have h3' : ¬ (pkDec (blk s g)).2 = 0 := by simpa using h3
          have hst : rst s (g + 1) = (out, skip sk g, (g : Int) + 1) := by rw [hs]; unfold rstep; rw [if_neg h1', if_neg (fun h => h3' h.2)]
          refine ⟨by simp only [fits]; omega, fun h => by simp only [fits]; simp at h; omega, fun h => by simp at h; omega, fun h => by simp at h; omega, fun h => ?_, fun h => ?_⟩
          · have hc : 0 < sk.length ∧ (sk.getD (sk.length - 1) (0, 0)).2 = g := by
              by_cases h0 : 0 < sk.length
              · have : decide ((0 : Int) < (sk.length : Int)) = true := decide_eq_true (by omega)
                rw [this, cond_true, beq_iff_eq] at h
                exact ⟨h0, h⟩
              · have : decide ((0 : Int) < (sk.length : Int)) = false := decide_eq_false (by omega)
                rw [this, cond_false] at h; cases h
            have hsk : skip sk g = sk.set (sk.length - 1) ((sk.getD (sk.length - 1) (0, 0)).1, (g : Int) + 1) := by unfold skip; rw [if_pos hc]
            refine ⟨by simp only [fits]; omega, by omega, by omega, by simp only [fits]; omega, g + 1, hlt', by omega, by simp, trivial, trivial, ?_⟩
            rw [hst, hsk]
            exact ⟨rfl, rfl, rfl, trivial⟩
          · have hc : ¬ (0 < sk.length ∧ (sk.getD (sk.length - 1) (0, 0)).2 = g) := by
              rintro ⟨h0, h1⟩
              have : decide ((0 : Int) < (sk.length : Int)) = true := decide_eq_true (by omega)
              rw [this, cond_true, h1] at h
              simp at h
            have hsk : skip sk g = sk ++ [((g : Int), (g : Int) + 1)] := by unfold skip; rw [if_neg hc]
            refine ⟨by simp only [room]; omega, by simp only [fits]; omega, g + 1, hlt', by omega, by simp, trivial, trivial, ?_⟩
            rw [hst, hsk]
            exact ⟨rfl, rfl, rfl, trivial⟩
      · have h1' : ¬ (g : Int) < nxt := by simpa using h1
        have h2' : ¬ (blk s g).length = 16 := by simp at h2; omega
        have hst : rst s (g + 1) = (out, skip sk g, (g : Int) + 1) := by rw [hs]; unfold rstep; rw [if_neg h1', if_neg (fun h => h2' h.1)]
        refine ⟨by simp only [fits]; omega, fun h => by simp only [fits]; simp at h; omega, fun h => by simp at h; omega, fun h => by simp at h; omega, fun h => ?_, fun h => ?_⟩
        · have hc : 0 < sk.length ∧ (sk.getD (sk.length - 1) (0, 0)).2 = g := by
            by_cases h0 : 0 < sk.length
            · have : decide ((0 : Int) < (sk.length : Int)) = true := decide_eq_true (by omega)
              rw [this, cond_true, beq_iff_eq] at h
              exact ⟨h0, h⟩
            · have : decide ((0 : Int) < (sk.length : Int)) = false := decide_eq_false (by omega)
              rw [this, cond_false] at h; cases h
          have hsk : skip sk g = sk.set (sk.length - 1) ((sk.getD (sk.length - 1) (0, 0)).1, (g : Int) + 1) := by unfold skip; rw [if_pos hc]
          refine ⟨by simp only [fits]; omega, by omega, by omega, by simp only [fits]; omega, g + 1, hlt', by omega, by simp, trivial, trivial, ?_⟩
          rw [hst, hsk]
          exact ⟨rfl, rfl, rfl, trivial⟩
        · have hc : ¬ (0 < sk.length ∧ (sk.getD (sk.length - 1) (0, 0)).2 = g) := by
            rintro ⟨h0, h1⟩
            have : decide ((0 : Int) < (sk.length : Int)) = true := decide_eq_true (by omega)
            rw [this, cond_true, h1] at h
            simp at h
          have hsk : skip sk g = sk ++ [((g : Int), (g : Int) + 1)] := by unfold skip; rw [if_neg hc]
          refine ⟨by simp only [room]; omega, by simp only [fits]; omega, g + 1, hlt', by omega, by simp, trivial, trivial, ?_⟩
          rw [hst, hsk]
          exact ⟨rfl, rfl, rfl, trivial⟩
    · have hge' : ¬ g < s.length := by simpa using hge
      have hg' : g ≤ s.length := hg
      have : g = s.length := by omega
      subst this
      rw [hrec]
      exact ⟨rfl, rfl, rfl, trivial⟩
end Go.Sx

/- Plain functions and hints: Lost, SameInts. -/
namespace Go.Sx.U
def d0 : Pk := (0, 0, List.replicate 10 0)
def cnt (l : List Pk) (i : Nat) : Int := (l.getD i d0).2.1
def gap (a b : Int) : List Int := (List.range ((b - a - 1) % 256).toNat).map fun (j : Nat) => (a + 1 + (j : Int)) % 256
/-- The counters that are lost ahead of an index. -/
def lostTo (l : List Pk) : Nat → List Int
  | 0 => []
  | i + 1 => lostTo l i ++ gap (cnt l i) (cnt l (i + 1))
end Go.Sx.U
namespace Go.Sx
open U
def listAs (s : St) (t : Nat) (u : Ty) : Option (List u.T) := match lookT s.tm t with
  | some (.val (.one c)) => rowAs (lookO s.ob) u c
  | _ => none
def intOfT (s : St) (t : Nat) : Option Int := match lookT s.tm t with
  | some (.val (.one (.int .i64 n))) => some n
  | _ => none
def ownOf (s : St) (t : Nat) : List Nat := match lookT s.tm t with
  | some (.val (.one (.own id))) => [id]
  | _ => []
/-- The objects but those that temporaries own. -/
def lessO (s : St) (ts : List Nat) : List (Nat × Option AObj) := (liveO [] s.ob).filter fun x => !(ts.flatMap (ownOf s)).contains x.1
def hMap57 : Hints := ⟨fun f k s => match f, k with
  | 61, 3 => match listAs s 8 pT with
    | some xs => some ⟨Nat, fun i => ⟨[tI 10 i, (5, .val (.one (.own s.nx)))] ++ keepT [1, 8, 9] s.tm, (s.nx, some (.row (.int .i64) ((List.take i xs).map fun p => pcheck p.1 p.2.1))) :: lessO s [5], s.nx + 1, s.lr⟩, fun i => i ≤ List.length xs, fun i => List.length xs - i⟩
    | _ => none
  | _, _ => none, 0⟩
def h16 : Hints := ⟨fun f k s => match f, k with
  | 116, 2 => match listAs s 6 pT with
    | some xs => some ⟨Nat, fun i => s.at [0, 1, 6, 7] [tI 8 i], fun i => i ≤ List.length xs, fun i => List.length xs - i⟩
    | _ => none
  | 16, 10 => match listAs s 7 pT with
    | some xs => some ⟨Nat, fun i => ⟨[tI 10 ((i : Int) + 1), (8, .val (.one (.own s.nx))), (9, .val (bV false))] ++ keepT [7] s.tm, (s.nx, some (.row (.int .i64) (lostTo xs i))) :: lessO s [8], s.nx + 1, s.lr⟩, fun i => i = 0 ∨ i < List.length xs, fun i => List.length xs - i⟩
    | _ => none
  | 16, 13 => match listAs s 7 pT, intOfT s 10, listAs s 8 (.int .i64) with
    | some xs, some i, some out => some ⟨Nat, fun j => ⟨[tI 11 ((cnt xs (i - 1).toNat + 1 + (j : Int)) % 256), (8, .val (.one (.own s.nx)))] ++ keepT [7, 9, 10] s.tm,
        (s.nx, some (.row (.int .i64) (out ++ List.take j (gap (cnt xs (i - 1).toNat) (cnt xs i.toNat))))) :: lessO s [8], s.nx + 1, s.lr⟩, fun j => j ≤ (gap (cnt xs (i - 1).toNat) (cnt xs i.toNat)).length, fun j => (gap (cnt xs (i - 1).toNat) (cnt xs i.toNat)).length - j⟩
    | _, _, _ => none
  | _, _ => none, 0⟩
def sp61 : FSpec := ⟨fun vs => match vs with
  | [.one (.sl (.pair (.int .i64) (.pair (.int .i64) (.arr 10 (.int .u8)))) l), .one (.fn 57 [] [])] => some ([List.length l ≤ 1000000], .val (.one (.frs (.int .i64) (List.map (fun (p : Pk) => pcheck p.1 p.2.1) l))))
  | _ => none, true⟩
@[reducible] noncomputable def fb64 : Nat × Func := (64, Proofs.Tryd.f64)
@[reducible] noncomputable def fb63 : Nat × Func := (63, Proofs.Tryd.f63)
@[reducible] noncomputable def fb116 : Nat × Func := (116, Proofs.Tryd.f116)
@[reducible] noncomputable def fb65 : Nat × Func := (65, Proofs.Tryd.f65)
end Go.Sx

/- What the engine asks, written out (printed by a program). -/
namespace Go.Sx
open U
theorem vc61 (l : List Pk) : exF (env false [(57, sp57)] []) hMap57 0 61 Proofs.Tryd.f61 [.one (.sl pT l), .one (.fn 57 [] [])] (.val (.one (.frs (.int .i64) (List.map (fun (p : Pk) => U.pcheck p.1 p.2.1) l)))) = ((∃ (g : Nat), Nat.le g (List.length l) ∧ (0 : Int) = (↑g : Int) ∧ (↑(List.length l) : Int) = (↑(List.length l) : Int) ∧ l = l ∧ List.map (fun (p : Int × Int × List Int) => pcheck (Prod.fst p) (Prod.fst (Prod.snd p))) (List.take g l) = [] ∧ True) ∧ ∀ (g : Nat), Nat.le g (List.length l) → splitB (decide ((↑g : Int) < (↑(List.length l) : Int))) (((0 : Int) ≤ (↑g : Int) ∧ (↑g : Int) < (↑(List.length l) : Int)) ∧ room (List.length (List.map (fun (p : Int × Int × List Int) => pcheck (Prod.fst p) (Prod.fst (Prod.snd p))) (List.take g l)) + (1 : Nat)) (8 : Nat) ∧ fits IntKind.i64 ((↑g : Int) + (1 : Int)) ∧ ∃ (g' : Nat), Nat.le g' (List.length l) ∧ List.length l - g' < List.length l - g ∧ (↑g : Int) + (1 : Int) = (↑g' : Int) ∧ (↑(List.length l) : Int) = (↑(List.length l) : Int) ∧ l = l ∧ List.map (fun (p : Int × Int × List Int) => pcheck (Prod.fst p) (Prod.fst (Prod.snd p))) (List.take g l) ++ [pcheck (Prod.fst (List.getD l g ((0 : Int), (0 : Int), List.replicate (10 : Nat) (0 : Int)))) (Prod.fst (Prod.snd (List.getD l g ((0 : Int), (0 : Int), List.replicate (10 : Nat) (0 : Int)))))] = List.map (fun (p : Int × Int × List Int) => pcheck (Prod.fst p) (Prod.fst (Prod.snd p))) (List.take g' l) ∧ True) (List.map (fun (p : Int × Int × List Int) => pcheck (Prod.fst p) (Prod.fst (Prod.snd p))) (List.take g l) = List.map (fun (p : Pk) => pcheck (Prod.fst p) (Prod.fst (Prod.snd p))) l ∧ True)) := by
  kernel_rfl
theorem vc16 (l : List Pk) (k : Int) : exF (env false [(57, sp57), (60, sp60), (62, sp62), (61, sp61)] [fb64, fb63, fb116, fb65]) h16 4 16 Proofs.Tryd.f16 [.one (.sl pT l), iV k] (.tup [.one (.frs (.int .i64) (U.lostTo l (l.length - 1))), iV 0]) = (splitB (decide ((1024 : Int) < (↑(List.length l) : Int))) (lostTo l (List.length l - (1 : Nat)) = [] ∧ (5 : Int) = (0 : Int) ∧ True) (List.length l ≤ (1000000 : Nat) ∧ List.length (List.map (fun (p : Pk) => pcheck (Prod.fst p) (Prod.fst (Prod.snd p))) l) ≤ (1000000000 : Nat) ∧ (2 : Nat) ≤ (1000000000 : Nat) ∧ splitB (first [first (List.map (fun (p : Pk) => pcheck (Prod.fst p) (Prod.fst (Prod.snd p))) l), within k (0 : Int) (255 : Int)] != (0 : Int)) (lostTo l (List.length l - (1 : Nat)) = [] ∧ first [first (List.map (fun (p : Pk) => pcheck (Prod.fst p) (Prod.fst (Prod.snd p))) l), within k (0 : Int) (255 : Int)] = (0 : Int) ∧ True) (∀ (b : Bool), (b = true → List.length l = (0 : Nat)) → splitB (b != false) ((∃ (g : Nat), Nat.le g (0 : Nat) ∧ (0 : Int) = (↑g : Int) ∧ (0 : Int) = (0 : Int) ∧ [first (List.map (fun (p : Pk) => pcheck (Prod.fst p) (Prod.fst (Prod.snd p))) l), within k (0 : Int) (255 : Int)] = [first (List.map (fun (p : Pk) => pcheck (Prod.fst p) (Prod.fst (Prod.snd p))) l), within k (0 : Int) (255 : Int)] ∧ List.map (fun (p : Pk) => pcheck (Prod.fst p) (Prod.fst (Prod.snd p))) l = List.map (fun (p : Pk) => pcheck (Prod.fst p) (Prod.fst (Prod.snd p))) l ∧ k = k ∧ True) ∧ ∀ (g : Nat), Nat.le g (0 : Nat) → (∃ (g : Nat), (g = (0 : Nat) ∨ g < (0 : Nat)) ∧ (1 : Int) = (↑g : Int) + (1 : Int) ∧ false = false ∧ lostTo [] g = [] ∧ [first (List.map (fun (p : Pk) => pcheck (Prod.fst p) (Prod.fst (Prod.snd p))) l), within k (0 : Int) (255 : Int)] = [first (List.map (fun (p : Pk) => pcheck (Prod.fst p) (Prod.fst (Prod.snd p))) l), within k (0 : Int) (255 : Int)] ∧ List.map (fun (p : Pk) => pcheck (Prod.fst p) (Prod.fst (Prod.snd p))) l = List.map (fun (p : Pk) => pcheck (Prod.fst p) (Prod.fst (Prod.snd p))) l ∧ k = k ∧ True) ∧ ∀ (g : Nat), g = (0 : Nat) ∨ g < (0 : Nat) → lostTo [] g = lostTo l (List.length l - (1 : Nat)) ∧ (0 : Int) = (0 : Int) ∧ True) (room ((0 : Nat) + List.length l) (32 : Nat) ∧ (∃ (g : Nat), Nat.le g (List.length l) ∧ (0 : Int) = (↑g : Int) ∧ (↑(List.length l) : Int) = (↑(List.length l) : Int) ∧ l = l ∧ [first (List.map (fun (p : Pk) => pcheck (Prod.fst p) (Prod.fst (Prod.snd p))) l), within k (0 : Int) (255 : Int)] = [first (List.map (fun (p : Pk) => pcheck (Prod.fst p) (Prod.fst (Prod.snd p))) l), within k (0 : Int) (255 : Int)] ∧ List.map (fun (p : Pk) => pcheck (Prod.fst p) (Prod.fst (Prod.snd p))) l = List.map (fun (p : Pk) => pcheck (Prod.fst p) (Prod.fst (Prod.snd p))) l ∧ k = k ∧ True) ∧ ∀ (g : Nat), Nat.le g (List.length l) → splitB (decide ((↑g : Int) < (↑(List.length l) : Int))) (((0 : Int) ≤ (↑g : Int) ∧ (↑g : Int) < (↑(List.length l) : Int)) ∧ g < List.length l ∧ splitB (!eqT (Ty.pair (Ty.int IntKind.i64) (Ty.pair (Ty.int IntKind.i64) (Ty.arr (10 : Nat) (Ty.int IntKind.u8)))) (Prod.fst (List.getD l g ((0 : Int), (0 : Int), List.replicate (10 : Nat) (0 : Int))), Prod.fst (Prod.snd (List.getD l g ((0 : Int), (0 : Int), List.replicate (10 : Nat) (0 : Int)))), Prod.snd (Prod.snd (List.getD l g ((0 : Int), (0 : Int), List.replicate (10 : Nat) (0 : Int))))) (k, Prod.fst (Prod.snd (List.getD l g ((0 : Int), (0 : Int), List.replicate (10 : Nat) (0 : Int)))), Prod.snd (Prod.snd (List.getD l g ((0 : Int), (0 : Int), List.replicate (10 : Nat) (0 : Int)))))) (fits IntKind.i64 ((↑g : Int) + (1 : Int)) ∧ False) (fits IntKind.i64 ((↑g : Int) + (1 : Int)) ∧ ∃ (g' : Nat), Nat.le g' (List.length l) ∧ List.length l - g' < List.length l - g ∧ (↑g : Int) + (1 : Int) = (↑g' : Int) ∧ (↑(List.length l) : Int) = (↑(List.length l) : Int) ∧ l = l ∧ [first (List.map (fun (p : Pk) => pcheck (Prod.fst p) (Prod.fst (Prod.snd p))) l), within k (0 : Int) (255 : Int)] = [first (List.map (fun (p : Pk) => pcheck (Prod.fst p) (Prod.fst (Prod.snd p))) l), within k (0 : Int) (255 : Int)] ∧ List.map (fun (p : Pk) => pcheck (Prod.fst p) (Prod.fst (Prod.snd p))) l = List.map (fun (p : Pk) => pcheck (Prod.fst p) (Prod.fst (Prod.snd p))) l ∧ k = k ∧ True)) ((∃ (g : Nat), (g = (0 : Nat) ∨ g < List.length l) ∧ (1 : Int) = (↑g : Int) + (1 : Int) ∧ false = false ∧ lostTo l g = [] ∧ l = l ∧ [first (List.map (fun (p : Pk) => pcheck (Prod.fst p) (Prod.fst (Prod.snd p))) l), within k (0 : Int) (255 : Int)] = [first (List.map (fun (p : Pk) => pcheck (Prod.fst p) (Prod.fst (Prod.snd p))) l), within k (0 : Int) (255 : Int)] ∧ List.map (fun (p : Pk) => pcheck (Prod.fst p) (Prod.fst (Prod.snd p))) l = List.map (fun (p : Pk) => pcheck (Prod.fst p) (Prod.fst (Prod.snd p))) l ∧ k = k ∧ True) ∧ ∀ (g : Nat), g = (0 : Nat) ∨ g < List.length l → splitB (decide ((↑g : Int) + (1 : Int) < (↑(List.length l) : Int))) (fits IntKind.i64 ((↑g : Int) + (1 : Int) - (1 : Int)) ∧ ((0 : Int) ≤ (↑g : Int) + (1 : Int) - (1 : Int) ∧ (↑g : Int) + (1 : Int) - (1 : Int) < (↑(List.length l) : Int)) ∧ Int.toNat ((↑g : Int) + (1 : Int) - (1 : Int)) < List.length l ∧ fits IntKind.i64 (Prod.fst (Prod.snd (List.getD l (Int.toNat ((↑g : Int) + (1 : Int) - (1 : Int))) ((0 : Int), (0 : Int), List.replicate (10 : Nat) (0 : Int)))) + (1 : Int)) ∧ (∃ (g_1 : Nat), Nat.le g_1 (List.length (gap (cnt l (Int.toNat ((↑g : Int) + (1 : Int) - (1 : Int)))) (cnt l (Int.toNat ((↑g : Int) + (1 : Int)))))) ∧ bits BinOp.and IntKind.i64 (Prod.fst (Prod.snd (List.getD l (Int.toNat ((↑g : Int) + (1 : Int) - (1 : Int))) ((0 : Int), (0 : Int), List.replicate (10 : Nat) (0 : Int)))) + (1 : Int)) (255 : Int) = (cnt l (Int.toNat ((↑g : Int) + (1 : Int) - (1 : Int))) + (1 : Int) + (↑g_1 : Int)) % (256 : Int) ∧ (↑g : Int) + (1 : Int) = (↑g : Int) + (1 : Int) ∧ false = false ∧ lostTo l g = lostTo l g ++ List.take g_1 (gap (cnt l (Int.toNat ((↑g : Int) + (1 : Int) - (1 : Int)))) (cnt l (Int.toNat ((↑g : Int) + (1 : Int))))) ∧ l = l ∧ [first (List.map (fun (p : Pk) => pcheck (Prod.fst p) (Prod.fst (Prod.snd p))) l), within k (0 : Int) (255 : Int)] = [first (List.map (fun (p : Pk) => pcheck (Prod.fst p) (Prod.fst (Prod.snd p))) l), within k (0 : Int) (255 : Int)] ∧ List.map (fun (p : Pk) => pcheck (Prod.fst p) (Prod.fst (Prod.snd p))) l = List.map (fun (p : Pk) => pcheck (Prod.fst p) (Prod.fst (Prod.snd p))) l ∧ k = k ∧ True) ∧ ∀ (g_1 : Nat), Nat.le g_1 (List.length (gap (cnt l (Int.toNat ((↑g : Int) + (1 : Int) - (1 : Int)))) (cnt l (Int.toNat ((↑g : Int) + (1 : Int)))))) → ((0 : Int) ≤ (↑g : Int) + (1 : Int) ∧ (↑g : Int) + (1 : Int) < (↑(List.length l) : Int)) ∧ Int.toNat ((↑g : Int) + (1 : Int)) < List.length l ∧ splitB ((cnt l (Int.toNat ((↑g : Int) + (1 : Int) - (1 : Int))) + (1 : Int) + (↑g_1 : Int)) % (256 : Int) != Prod.fst (Prod.snd (List.getD l (Int.toNat ((↑g : Int) + (1 : Int))) ((0 : Int), (0 : Int), List.replicate (10 : Nat) (0 : Int))))) (splitB ((↑(List.length (lostTo l g ++ List.take g_1 (gap (cnt l (Int.toNat ((↑g : Int) + (1 : Int) - (1 : Int)))) (cnt l (Int.toNat ((↑g : Int) + (1 : Int))))))) : Int) == (256 : Int)) (lostTo l (List.length l - (1 : Nat)) = [] ∧ (5 : Int) = (0 : Int) ∧ True) (room (List.length (lostTo l g ++ List.take g_1 (gap (cnt l (Int.toNat ((↑g : Int) + (1 : Int) - (1 : Int)))) (cnt l (Int.toNat ((↑g : Int) + (1 : Int)))))) + (1 : Nat)) (8 : Nat) ∧ fits IntKind.i64 ((cnt l (Int.toNat ((↑g : Int) + (1 : Int) - (1 : Int))) + (1 : Int) + (↑g_1 : Int)) % (256 : Int) + (1 : Int)) ∧ ∃ (g' : Nat), Nat.le g' (List.length (gap (cnt l (Int.toNat ((↑g : Int) + (1 : Int) - (1 : Int)))) (cnt l (Int.toNat ((↑g : Int) + (1 : Int)))))) ∧ List.length (gap (cnt l (Int.toNat ((↑g : Int) + (1 : Int) - (1 : Int)))) (cnt l (Int.toNat ((↑g : Int) + (1 : Int))))) - g' < List.length (gap (cnt l (Int.toNat ((↑g : Int) + (1 : Int) - (1 : Int)))) (cnt l (Int.toNat ((↑g : Int) + (1 : Int))))) - g_1 ∧ bits BinOp.and IntKind.i64 ((cnt l (Int.toNat ((↑g : Int) + (1 : Int) - (1 : Int))) + (1 : Int) + (↑g_1 : Int)) % (256 : Int) + (1 : Int)) (255 : Int) = (cnt l (Int.toNat ((↑g : Int) + (1 : Int) - (1 : Int))) + (1 : Int) + (↑g' : Int)) % (256 : Int) ∧ (↑g : Int) + (1 : Int) = (↑g : Int) + (1 : Int) ∧ false = false ∧ lostTo l g ++ List.take g_1 (gap (cnt l (Int.toNat ((↑g : Int) + (1 : Int) - (1 : Int)))) (cnt l (Int.toNat ((↑g : Int) + (1 : Int))))) ++ [(cnt l (Int.toNat ((↑g : Int) + (1 : Int) - (1 : Int))) + (1 : Int) + (↑g_1 : Int)) % (256 : Int)] = lostTo l g ++ List.take g' (gap (cnt l (Int.toNat ((↑g : Int) + (1 : Int) - (1 : Int)))) (cnt l (Int.toNat ((↑g : Int) + (1 : Int))))) ∧ l = l ∧ [first (List.map (fun (p : Pk) => pcheck (Prod.fst p) (Prod.fst (Prod.snd p))) l), within k (0 : Int) (255 : Int)] = [first (List.map (fun (p : Pk) => pcheck (Prod.fst p) (Prod.fst (Prod.snd p))) l), within k (0 : Int) (255 : Int)] ∧ List.map (fun (p : Pk) => pcheck (Prod.fst p) (Prod.fst (Prod.snd p))) l = List.map (fun (p : Pk) => pcheck (Prod.fst p) (Prod.fst (Prod.snd p))) l ∧ k = k ∧ True)) (fits IntKind.i64 ((↑g : Int) + (1 : Int) + (1 : Int)) ∧ ∃ (g' : Nat), (g' = (0 : Nat) ∨ g' < List.length l) ∧ List.length l - g' < List.length l - g ∧ (↑g : Int) + (1 : Int) + (1 : Int) = (↑g' : Int) + (1 : Int) ∧ false = false ∧ lostTo l g ++ List.take g_1 (gap (cnt l (Int.toNat ((↑g : Int) + (1 : Int) - (1 : Int)))) (cnt l (Int.toNat ((↑g : Int) + (1 : Int))))) = lostTo l g' ∧ l = l ∧ [first (List.map (fun (p : Pk) => pcheck (Prod.fst p) (Prod.fst (Prod.snd p))) l), within k (0 : Int) (255 : Int)] = [first (List.map (fun (p : Pk) => pcheck (Prod.fst p) (Prod.fst (Prod.snd p))) l), within k (0 : Int) (255 : Int)] ∧ List.map (fun (p : Pk) => pcheck (Prod.fst p) (Prod.fst (Prod.snd p))) l = List.map (fun (p : Pk) => pcheck (Prod.fst p) (Prod.fst (Prod.snd p))) l ∧ k = k ∧ True)) (lostTo l g = lostTo l (List.length l - (1 : Nat)) ∧ (0 : Int) = (0 : Int) ∧ True)))))) := by
  kernel_rfl
end Go.Sx
