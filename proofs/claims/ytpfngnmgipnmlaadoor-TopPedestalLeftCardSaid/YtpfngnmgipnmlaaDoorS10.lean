/- A verified symbolic run of functions, part 10: lemmas, no claim of their own. -/
import Derived.Test.YtpfngnmgipnmlaaDoorS9
/- What the engine asks, written out (printed by a program). -/
namespace Go.Sx
open U
theorem vc14 (k c : Int) (d : List Int) : exF (env false [(57, sp57), (58, sp58)] []) h0 0 14 Proofs.Tryd.f14 [pV k c d] (.tup [aV 16 (U.pkEnc k c d).1, iV (U.pkEnc k c d).2]) = (splitB (pcheck k c != (0 : Int)) (List.replicate (16 : Nat) (0 : Int) = Prod.fst (pkEnc k c d) ∧ pcheck k c = Prod.snd (pkEnc k c d) ∧ True) ((List.length d = (10 : Nat) ∧ Bytes d) ∧ frame k c d = Prod.fst (pkEnc k c d) ∧ (0 : Int) = Prod.snd (pkEnc k c d) ∧ True)) := by
  kernel_rfl
theorem vc47 (s : List Int) : exF (env false [(58, sp58)] []) h0 0 47 Proofs.Tryd.f47 [aV 16 s] (.tup [pV (U.pkDec s).1.1 (U.pkDec s).1.2.1 (U.pkDec s).1.2.2, iV (U.pkDec s).2]) = (let q0 := (List.take (10 : Nat) (List.drop (3 : Nat) s)); ((0 : Int) ≤ (0 : Int) ∧ (0 : Int) < (16 : Int)) ∧ (0 : Nat) < List.length s ∧ splitB (List.getD s (0 : Nat) (0 : Int) != (171 : Int)) ((0 : Int) = (pkDec s).1.1 ∧ (0 : Int) = (pkDec s).1.2.1 ∧ List.replicate (10 : Nat) (0 : Int) = (pkDec s).1.2.2 ∧ (1 : Int) = (pkDec s).2 ∧ True) (((0 : Int) ≤ (1 : Int) ∧ (1 : Int) < (16 : Int)) ∧ (1 : Nat) < List.length s ∧ fits IntKind.i64 (List.getD s (1 : Nat) (0 : Int)) ∧ ((0 : Int) ≤ (2 : Int) ∧ (2 : Int) < (16 : Int)) ∧ (2 : Nat) < List.length s ∧ fits IntKind.i64 (List.getD s (2 : Nat) (0 : Int)) ∧ ((0 : Int) ≤ (3 : Int) ∧ (3 : Int) ≤ (13 : Int) ∧ (13 : Int) ≤ (16 : Int)) ∧ (10 : Nat) ≤ (10 : Nat) ∧ List.length q0 = (10 : Nat) ∧ (List.length q0 = (10 : Nat) ∧ Bytes q0) ∧ splitB (!eqT (Ty.arr (16 : Nat) (Ty.int IntKind.u8)) (frame (List.getD s (1 : Nat) (0 : Int)) (List.getD s (2 : Nat) (0 : Int)) q0) s) ((0 : Int) = (pkDec s).1.1 ∧ (0 : Int) = (pkDec s).1.2.1 ∧ List.replicate (10 : Nat) (0 : Int) = (pkDec s).1.2.2 ∧ (27 : Int) = (pkDec s).2 ∧ True) (List.getD s (1 : Nat) (0 : Int) = (pkDec s).1.1 ∧ List.getD s (2 : Nat) (0 : Int) = (pkDec s).1.2.1 ∧ List.take (10 : Nat) (List.drop (3 : Nat) s) = (pkDec s).1.2.2 ∧ (0 : Int) = (pkDec s).2 ∧ True))) := by
  kernel_rfl
end Go.Sx

/- Contracts: Encode, Decode. -/
namespace Go.Sx
open U

theorem eqT_int (k : IntKind) (n : Nat) (a b : List Int) (ha : a.length = n) (hb : b.length = n) : eqT (.arr n (.int k)) a b = decide (a = b) := by
  have h : eqT (.arr n (.int k)) a b = (List.range n).all fun i => (List.getD a i 0 == List.getD b i 0) := rfl
  rw [h, Bool.eq_iff_iff]
  simp only [List.all_eq_true, List.mem_range, beq_iff_eq, decide_eq_true_eq]
  constructor
  · intro h
    refine List.ext_getElem (by omega) fun i h1 h2 => ?_
    have := h i (by omega)
    rwa [getD_of h1, getD_of h2] at this
  · rintro rfl i _; rfl

theorem fn14 (k c : Int) (d : List Int) (hd : d.length = 10) (hb : Bytes d) : Fn P1 gl1 14 [pV k c d] (.tup [aV 16 (pkEnc k c d).1, iV (pkEnc k c d).2]) true := by
  refine Fn.flat ?_ rfl
  refine fn_of false [(57, sp57), (58, sp58)] [] h0 0 Proofs.Tryd.f14 ⟨so57, so58, trivial⟩ trivial (by kernel_rfl) rfl (by kernel_rfl) rfl rfl rfl ?_
  rw [vc14]
  try simp only [splitB_iff, -eq_self]
  refine ⟨fun h => ?_, fun h => ?_⟩
  · have h' : ¬ pcheck k c = 0 := by simpa using h
    simp [pkEnc, h', zero16]
  · have h' : pcheck k c = 0 := by simpa using h
    simp [pkEnc, h', hd, hb]

theorem byTake {s : List Int} (h : Bytes s) (n : Nat) : Bytes (s.take n) := fun x hx => h x (List.mem_of_mem_take hx)
theorem byDrop {s : List Int} (h : Bytes s) (n : Nat) : Bytes (s.drop n) := fun x hx => h x (List.mem_of_mem_drop hx)
theorem byAt {s : List Int} (h : Bytes s) {i : Nat} (hi : i < s.length) : 0 ≤ List.getD s i 0 ∧ List.getD s i 0 ≤ 255 := by
  rw [getD_of hi]; exact h _ (List.getElem_mem hi)

theorem fn47 (s : List Int) (hs : s.length = 16) (hb : Bytes s) : Fn P1 gl1 47 [aV 16 s] (.tup [pV (pkDec s).1.1 (pkDec s).1.2.1 (pkDec s).1.2.2, iV (pkDec s).2]) true := by
  refine Fn.flat ?_ rfl
  refine fn_of false [(58, sp58)] [] h0 0 Proofs.Tryd.f47 ⟨so58, trivial⟩ trivial (by kernel_rfl) rfl (by kernel_rfl) rfl rfl rfl ?_
  rw [vc47]
  try simp only [splitB_iff, -eq_self]
  have h1 := byAt hb (i := 1) (by omega)
  have h2 := byAt hb (i := 2) (by omega)
  have hdl : (List.take 10 (List.drop 3 s)).length = 10 := by simp; omega
  have hdb : Bytes (List.take 10 (List.drop 3 s)) := byTake (byDrop hb 3) 10
  have hfl := frame_len (List.getD s 1 0) (List.getD s 2 0) hdl
  rw [eqT_int .u8 16 _ s hfl hs]
  refine ⟨by omega, by omega, fun h => ?_, fun h => ?_⟩
  · have h' : ¬ s.getD 0 0 = 171 := by simpa using h
    simp only [pkDec, if_neg h', zero10]
    simp
  · have h' : s.getD 0 0 = 171 := by simpa using h
    refine ⟨by omega, by omega, by simp only [fits]; omega, by omega, by omega, by simp only [fits]; omega, by omega, by omega, hdl, ⟨hdl, hdb⟩, fun hn => ?_, fun hy => ?_⟩
    · have hn' : ¬ frame (List.getD s 1 0) (List.getD s 2 0) (dat s) = s := by simpa [dat] using hn
      simp only [pkDec, if_pos h', if_neg hn', zero10]
      simp
    · have hy' : frame (List.getD s 1 0) (List.getD s 2 0) (dat s) = s := by simpa [dat] using hy
      have he : pkDec s = ((s.getD 1 0, s.getD 2 0, dat s), 0) := by unfold pkDec; rw [if_pos h', if_pos hy']
      rw [he]
      exact ⟨rfl, rfl, rfl, rfl, trivial⟩

def sp14 : FSpec := ⟨fun vs => match vs with
  | [.agg [.one (.int .i64 k), .one (.int .i64 c), .arr 10 (.int .u8) d]] => some ([List.length d = 10 ∧ Bytes d], .tup [aV 16 (pkEnc k c d).1, iV (pkEnc k c d).2])
  | _ => none, true⟩
theorem so14_ : SpecOk P1 gl1 14 sp14 := by
  intro vs ps r h hp
  simp only [sp14] at h
  split at h
  · cases h
    have := hp _ (List.mem_singleton.2 rfl)
    exact fn14 _ _ _ this.1 this.2
  · cases h
theorem so14 : Sp1 14 sp14 := ⟨so14_, Proofs.Tryd.f14, _, by kernel_rfl, rfl, by kernel_rfl⟩
def sp47 : FSpec := ⟨fun vs => match vs with
  | [.agg [.arr 16 (.int .u8) s]] => some ([List.length s = 16 ∧ Bytes s], .tup [pV (pkDec s).1.1 (pkDec s).1.2.1 (pkDec s).1.2.2, iV (pkDec s).2])
  | _ => none, true⟩
theorem so47_ : SpecOk P1 gl1 47 sp47 := by
  intro vs ps r h hp
  simp only [sp47] at h
  split at h
  · cases h
    have := hp _ (List.mem_singleton.2 rfl)
    exact fn47 _ this.1 this.2
  · cases h
theorem so47 : Sp1 47 sp47 := ⟨so47_, Proofs.Tryd.f47, _, by kernel_rfl, rfl, by kernel_rfl⟩
end Go.Sx
namespace Go.Sx.U
abbrev Pk := Int × Int × List Int
/-- The bytes of a stream that are skipped. -/
def skip (sk : List (Int × Int)) (i : Nat) : List (Int × Int) :=
  if 0 < sk.length ∧ (sk.getD (sk.length - 1) (0, 0)).2 = i then sk.set (sk.length - 1) ((sk.getD (sk.length - 1) (0, 0)).1, (i : Int) + 1) else sk ++ [((i : Int), (i : Int) + 1)]
def blk (s : List Int) (i : Nat) : List Int := (s.drop i).take 16
def rstep (s : List Int) (st : List Pk × List (Int × Int) × Int) (i : Nat) : List Pk × List (Int × Int) × Int :=
  if (i : Int) < st.2.2 then st
  else if (blk s i).length = 16 ∧ (pkDec (blk s i)).2 = 0 then (st.1 ++ [(pkDec (blk s i)).1], st.2.1, (i : Int) + 16)
  else (st.1, skip st.2.1 i, (i : Int) + 1)
def rst (s : List Int) (i : Nat) : List Pk × List (Int × Int) × Int := (List.range i).foldl (rstep s) ([], [], 0)
def received (s : List Int) : List Pk × List (Int × Int) × Int := if 16384 < s.length then ([], [], 26) else ((rst s s.length).1, (rst s s.length).2.1, 0)
end Go.Sx.U
namespace Go.Sx
open U
abbrev pT : Ty := .pair (.int .i64) (.pair (.int .i64) (.arr 10 (.int .u8)))
abbrev spT : Ty := .pair (.int .i64) (.int .i64)
def h15 : Hints := ⟨fun f k s => match f, k with
  | 114, 1 => match liveO [] s.ob with
    | [(a, some (.box [.one (.sl (.int .u8) xs)])), (b, _), (c, _), (d, _)] =>
      some ⟨Nat, fun i => ⟨tI 6 i :: keepT [0, 1, 5] s.tm, [(a, some (.box [.one (.sl (.int .u8) xs)])), (b, some (.box [.one (.int .i64 (rst xs i).2.2)])), (c, some (.box [.one (.own s.nx)])), (d, some (.box [.one (.own (s.nx + 1))])),
          (s.nx, some (.row spT (rst xs i).2.1)), (s.nx + 1, some (.row pT (rst xs i).1))], s.nx + 2, s.lr⟩, fun i => i ≤ List.length xs, fun i => List.length xs - i⟩
    | _ => none
  | _, _ => none, 0⟩
@[reducible] noncomputable def fb59 : Nat × Func := (59, Proofs.Tryd.f59)
@[reducible] noncomputable def fb114 : Nat × Func := (114, Proofs.Tryd.f114)
end Go.Sx

/- What the engine asks, written out (printed by a program). -/
namespace Go.Sx
open U
theorem vc15 (s : List Int) : exF (env false [(47, sp47)] [fb59, fb114]) h15 2 15 Proofs.Tryd.f15 [.one (.sl (.int .u8) s)] (.tup [.one (.frs pT (U.received s).1), .one (.frs spT (U.received s).2.1), iV (U.received s).2.2]) = (let q7 := (List.length s); let q2 := (↑q7 : Int); splitB (decide ((16384 : Int) < q2)) ((received s).1 = [] ∧ (received s).2.1 = [] ∧ (26 : Int) = (received s).2.2 ∧ True) ((∃ (g : Nat), Nat.le g q7 ∧ (0 : Int) = (↑g : Int) ∧ q2 = q2 ∧ s = s ∧ (0 : Int) = (rst s g).2.2 ∧ (rst s g).2.1 = [] ∧ (rst s g).1 = [] ∧ True) ∧ ∀ (g : Nat), let q0 := (↑(List.length (rst s g).2.1) : Int); let q8 := ((↑g : Int) + (16 : Int)); let q1 := (List.take (Int.toNat (min q2 q8) - g) (List.drop g s)); let q5 := (q0 - (1 : Int)); let q3 := (List.getD (rst s g).2.1 (Int.toNat q5) ((0 : Int), (0 : Int))); let q4 := ((↑g : Int) + (1 : Int)); let q6 := (List.take (16 : Nat) q1); let q9 := ((0 : Int) < q0); let q10 := (decide q9 = true → (0 : Int) ≤ q0 - (1 : Int) ∧ q0 - (1 : Int) < q0); let q11 := (decide q9 = true → Int.toNat q5 < List.length (rst s g).2.1); let q12 := (bif decide q9 then q3.2 == (↑g : Int) else false); let q13 := ((0 : Int) ≤ q0 - (1 : Int) ∧ q0 - (1 : Int) < q0); Nat.le g q7 → splitB (decide ((↑g : Int) < q2)) (fits IntKind.i64 q8 ∧ ((0 : Int) ≤ (↑g : Int) ∧ (↑g : Int) ≤ min q2 q8 ∧ min q2 q8 ≤ q2) ∧ splitB (decide ((↑g : Int) < (rst s g).2.2)) (fits IntKind.i64 q4 ∧ ∃ (g' : Nat), Nat.le g' q7 ∧ List.length s - g' < List.length s - g ∧ (↑g : Int) + (1 : Int) = (↑g' : Int) ∧ q2 = q2 ∧ s = s ∧ (rst s g).2.2 = (rst s g').2.2 ∧ (rst s g).2.1 = (rst s g').2.1 ∧ (rst s g).1 = (rst s g').1 ∧ True) (splitB ((↑(List.length q1) : Int) == (16 : Int)) ((16 : Nat) ≤ List.length q1 ∧ (List.length q6 = (16 : Nat) ∧ Bytes q6) ∧ splitB ((pkDec q6).2 == (0 : Int)) (room (List.length (rst s g).1 + (1 : Nat)) (32 : Nat) ∧ fits IntKind.i64 q8 ∧ fits IntKind.i64 q4 ∧ ∃ (g' : Nat), Nat.le g' q7 ∧ List.length s - g' < List.length s - g ∧ (↑g : Int) + (1 : Int) = (↑g' : Int) ∧ q2 = q2 ∧ s = s ∧ (↑g : Int) + (16 : Int) = (rst s g').2.2 ∧ (rst s g).2.1 = (rst s g').2.1 ∧ (rst s g).1 ++ [((pkDec q6).1.1, (pkDec q6).1.2.1, (pkDec q6).1.2.2)] = (rst s g').1 ∧ True) (fits IntKind.i64 q4 ∧ (decide q9 = true → fits IntKind.i64 q5) ∧ q10 ∧ q11 ∧ splitB q12 (fits IntKind.i64 q5 ∧ q13 ∧ Int.toNat q5 < List.length (rst s g).2.1 ∧ fits IntKind.i64 q4 ∧ ∃ (g' : Nat), Nat.le g' q7 ∧ List.length s - g' < List.length s - g ∧ (↑g : Int) + (1 : Int) = (↑g' : Int) ∧ q2 = q2 ∧ s = s ∧ (↑g : Int) + (1 : Int) = (rst s g').2.2 ∧ List.set (rst s g).2.1 (Int.toNat q5) (q3.1, (↑g : Int) + (1 : Int)) = (rst s g').2.1 ∧ (rst s g).1 = (rst s g').1 ∧ True) (room (List.length (rst s g).2.1 + (1 : Nat)) (16 : Nat) ∧ fits IntKind.i64 q4 ∧ ∃ (g' : Nat), Nat.le g' q7 ∧ List.length s - g' < List.length s - g ∧ (↑g : Int) + (1 : Int) = (↑g' : Int) ∧ q2 = q2 ∧ s = s ∧ (↑g : Int) + (1 : Int) = (rst s g').2.2 ∧ (rst s g).2.1 ++ [((↑g : Int), (↑g : Int) + (1 : Int))] = (rst s g').2.1 ∧ (rst s g).1 = (rst s g').1 ∧ True))) (fits IntKind.i64 q4 ∧ (decide q9 = true → fits IntKind.i64 q5) ∧ q10 ∧ q11 ∧ splitB q12 (fits IntKind.i64 q5 ∧ q13 ∧ Int.toNat q5 < List.length (rst s g).2.1 ∧ fits IntKind.i64 q4 ∧ ∃ (g' : Nat), Nat.le g' q7 ∧ List.length s - g' < List.length s - g ∧ (↑g : Int) + (1 : Int) = (↑g' : Int) ∧ q2 = q2 ∧ s = s ∧ (↑g : Int) + (1 : Int) = (rst s g').2.2 ∧ List.set (rst s g).2.1 (Int.toNat q5) (q3.1, (↑g : Int) + (1 : Int)) = (rst s g').2.1 ∧ (rst s g).1 = (rst s g').1 ∧ True) (room (List.length (rst s g).2.1 + (1 : Nat)) (16 : Nat) ∧ fits IntKind.i64 q4 ∧ ∃ (g' : Nat), Nat.le g' q7 ∧ List.length s - g' < List.length s - g ∧ (↑g : Int) + (1 : Int) = (↑g' : Int) ∧ q2 = q2 ∧ s = s ∧ (↑g : Int) + (1 : Int) = (rst s g').2.2 ∧ (rst s g).2.1 ++ [((↑g : Int), (↑g : Int) + (1 : Int))] = (rst s g').2.1 ∧ (rst s g).1 = (rst s g').1 ∧ True)))) ((rst s g).1 = (received s).1 ∧ (rst s g).2.1 = (received s).2.1 ∧ (0 : Int) = (received s).2.2 ∧ True))) := by
  kernel_rfl
end Go.Sx

/- Contract: Received. -/
namespace Go.Sx
open U

theorem rst_succ (s : List Int) (g : Nat) : rst s (g + 1) = rstep s (rst s g) g := by
  unfold rst
  rw [List.range_succ, List.foldl_append]
  rfl

theorem skip_len (sk : List (Int × Int)) (i : Nat) : (skip sk i).length ≤ sk.length + 1 := by
  unfold skip
  split <;> simp

theorem rst_len (s : List Int) (g : Nat) : (rst s g).1.length ≤ g ∧ (rst s g).2.1.length ≤ g := by
  induction g with
  | zero => simp [rst]
  | succ g ih =>
    rw [rst_succ]
    unfold rstep
    split
    · omega
    · split
      · simp; omega
      · have := skip_len (rst s g).2.1 g
        simp; omega

theorem blk_eq (s : List Int) (g : Nat) (h : g ≤ s.length) : List.take (Int.toNat (min (s.length : Int) ((g : Int) + 16)) - g) (List.drop g s) = blk s g := by
  unfold blk
  have e : Int.toNat (min (s.length : Int) ((g : Int) + 16)) - g = min (s.length - g) 16 := by omega
  rw [e]
  rcases Nat.le_total (s.length - g) 16 with h1 | h1
  · rw [Nat.min_eq_left h1, List.take_of_length_le (by simp), List.take_of_length_le (by simp; omega)]
  · rw [Nat.min_eq_right h1]

theorem blk_take (s : List Int) (g : Nat) : List.take 16 (blk s g) = blk s g := by
  unfold blk
  rw [List.take_take]; simp

theorem toNat_sub1 (n : Nat) : Int.toNat ((n : Int) - 1) = n - 1 := by omega

theorem fn15 (s : List Int) (hb : Bytes s) (hl : s.length ≤ 1000000000) : Fn P1 gl1 15 [.one (.sl (.int .u8) s)] (.tup [.one (.frs pT (received s).1), .one (.frs spT (received s).2.1), iV (received s).2.2]) false := by
  refine fn_of false [(47, sp47)] [fb59, fb114] h15 2 Proofs.Tryd.f15 ⟨so47, trivial⟩ ⟨⟨by kernel_rfl, by kernel_rfl, _, rfl, by kernel_rfl⟩, ⟨by kernel_rfl, by kernel_rfl, _, rfl, by kernel_rfl⟩, trivial⟩ (by kernel_rfl) rfl (by kernel_rfl) rfl rfl rfl ?_
  rw [vc15]
  try simp only [splitB_iff, -eq_self]
  refine ⟨fun h => ?_, fun h => ?_⟩
  · have h' : 16384 < s.length := by simp at h; omega
    simp [received, h']
  · have hlen : ¬ 16384 < s.length := by simp at h; omega
    have hrec : received s = ((rst s s.length).1, (rst s s.length).2.1, 0) := by unfold received; rw [if_neg hlen]
    refine ⟨⟨0, Nat.zero_le _, by simp [rst]⟩, fun g hg => ⟨fun hlt => ?_, fun hge => ?_⟩⟩
    · have hlt' : g < s.length := by simpa using hlt
      have hrl := rst_len s g
      rw [blk_eq s g (by omega), blk_take]
      have hs := rst_succ s g
      generalize hR : rst s g = R at *
      obtain ⟨out, sk, nxt⟩ := R
      simp only [] at hrl hs ⊢
      simp only [toNat_sub1]
      refine ⟨by simp only [fits]; omega, by omega, fun h1 => ⟨by simp only [fits]; omega, g + 1, hlt', by omega, by simp, trivial, trivial, ?_⟩, fun h1 => ⟨fun h2 => ?_, fun h2 => ?_⟩⟩
      · have h1' : (g : Int) < nxt := by simpa using h1
        have : rst s (g + 1) = (out, sk, nxt) := by rw [hs]; unfold rstep; rw [if_pos h1']
        rw [this]
        exact ⟨rfl, rfl, rfl, trivial⟩
      · have h1' : ¬ (g : Int) < nxt := by simpa using h1
        have h2' : (blk s g).length = 16 := by simp at h2; omega
        refine ⟨by omega, ⟨h2', byTake (byDrop hb g) 16⟩, fun h3 => ?_, fun h3 => ?_⟩
        · have h3' : (pkDec (blk s g)).2 = 0 := by simpa using h3
          have : rst s (g + 1) = (out ++ [(pkDec (blk s g)).1], sk, (g : Int) + 16) := by rw [hs]; unfold rstep; rw [if_neg h1', if_pos ⟨h2', h3'⟩]
          refine ⟨by simp only [room]; omega, by simp only [fits]; omega, by simp only [fits]; omega, g + 1, hlt', by omega, by simp, trivial, trivial, ?_⟩
          rw [this]
          exact ⟨rfl, rfl, rfl, trivial⟩
        · have h3' : ¬ (pkDec (blk s g)).2 = 0 := by simpa using h3
          have hst : rst s (g + 1) = (out, skip sk g, (g : Int) + 1) := by rw [hs]; unfold rstep; rw [if_neg h1', if_neg (fun h => h3' h.2)]
          refine ⟨by simp only [fits]; omega, fun h => by simp only [fits]; simp at h; omega, fun h => by simp at h; omega, fun h => by simp at h; omega, fun h => ?_, fun h => ?_⟩
          · have hc : 0 < sk.length ∧ (sk.getD (sk.length - 1) (0, 0)).2 = g := by
              by_cases h0 : 0 < sk.length
              · have : decide ((0 : Int) < (sk.length : Int)) = true := decide_eq_true (by omega)
                rw [this, cond_true, beq_iff_eq] at h
                exact ⟨h0, h⟩
              · have : decide ((0 : Int) < (sk.length : Int)) = false := decide_eq_false (by omega)
                rw [this, cond_false] at h; cases h
            have hsk : skip sk g = sk.set (sk.length - 1) ((sk.getD (sk.length - 1) (0, 0)).1, (g : Int) + 1) := by unfold skip; rw [if_pos hc]
            refine ⟨by simp only [fits]; omega, by omega, by omega, by simp only [fits]; omega, g + 1, hlt', by omega, by simp, trivial, trivial, ?_⟩
            rw [hst, hsk]
            exact ⟨rfl, rfl, rfl, trivial⟩
          · have hc : ¬ (0 < sk.length ∧ (sk.getD (sk.length - 1) (0, 0)).2 = g) := by
              rintro ⟨h0, h1⟩
              have : decide ((0 : Int) < (sk.length : Int)) = true := decide_eq_true (by omega)
              rw [this, cond_true, h1] at h
              simp at h
            have hsk : skip sk g = sk ++ [((g : Int), (g : Int) + 1)] := by unfold skip; rw [if_neg hc]
            refine ⟨by simp only [room]; omega, by simp only [fits]; omega, g + 1, hlt', by omega, by simp, trivial, trivial, ?_⟩
            rw [hst, hsk]
            exact ⟨rfl, rfl, rfl, trivial⟩
      · have h1' : ¬ (g : Int) < nxt := by simpa using h1
        have h2' : ¬ (blk s g).length = 16 := by simp at h2; omega
        have hst : rst s (g + 1) = (out, skip sk g, (g : Int) + 1) := by rw [hs]; unfold rstep; rw [if_neg h1', if_neg (fun h => h2' h.1)]
        refine ⟨by simp only [fits]; omega, fun h => by simp only [fits]; simp at h; omega, fun h => by simp at h; omega, fun h => by simp at h; omega, fun h => ?_, fun h => ?_⟩
        · have hc : 0 < sk.length ∧ (sk.getD (sk.length - 1) (0, 0)).2 = g := by
            by_cases h0 : 0 < sk.length
            · have : decide ((0 : Int) < (sk.length : Int)) = true := decide_eq_true (by omega)
              rw [this, cond_true, beq_iff_eq] at h
              exact ⟨h0, h⟩
            · have : decide ((0 : Int) < (sk.length : Int)) = false := decide_eq_false (by omega)
              rw [this, cond_false] at h; cases h
          have hsk : skip sk g = sk.set (sk.length - 1) ((sk.getD (sk.length - 1) (0, 0)).1, (g : Int) + 1) := by unfold skip; rw [if_pos hc]
          refine ⟨by simp only [fits]; omega, by omega, by omega, by simp only [fits]; omega, g + 1, hlt', by omega, by simp, trivial, trivial, ?_⟩
          rw [hst, hsk]
          exact ⟨rfl, rfl, rfl, trivial⟩
        · have hc : ¬ (0 < sk.length ∧ (sk.getD (sk.length - 1) (0, 0)).2 = g) := by
            rintro ⟨h0, h1⟩
            have : decide ((0 : Int) < (sk.length : Int)) = true := decide_eq_true (by omega)
            rw [this, cond_true, h1] at h
            simp at h
          have hsk : skip sk g = sk ++ [((g : Int), (g : Int) + 1)] := by unfold skip; rw [if_neg hc]
          refine ⟨by simp only [room]; omega, by simp only [fits]; omega, g + 1, hlt', by omega, by simp, trivial, trivial, ?_⟩
          rw [hst, hsk]
          exact ⟨rfl, rfl, rfl, trivial⟩
    · have hge' : ¬ g < s.length := by simpa using hge
      have hg' : g ≤ s.length := hg
      have : g = s.length := by omega
      subst this
      rw [hrec]
      exact ⟨rfl, rfl, rfl, trivial⟩
end Go.Sx

/- Plain functions and hints: Lost, SameInts. -/
namespace Go.Sx.U
def d0 : Pk := (0, 0, List.replicate 10 0)
def cnt (l : List Pk) (i : Nat) : Int := (l.getD i d0).2.1
def gap (a b : Int) : List Int := (List.range ((b - a - 1) % 256).toNat).map fun (j : Nat) => (a + 1 + (j : Int)) % 256
/-- The counters that are lost ahead of an index. -/
def lostTo (l : List Pk) : Nat → List Int
  | 0 => []
  | i + 1 => lostTo l i ++ gap (cnt l i) (cnt l (i + 1))
end Go.Sx.U
namespace Go.Sx
open U
def listAs (s : St) (t : Nat) (u : Ty) : Option (List u.T) := match lookT s.tm t with
  | some (.val (.one c)) => rowAs (lookO s.ob) u c
  | _ => none
def intOfT (s : St) (t : Nat) : Option Int := match lookT s.tm t with
  | some (.val (.one (.int .i64 n))) => some n
  | _ => none
def ownOf (s : St) (t : Nat) : List Nat := match lookT s.tm t with
  | some (.val (.one (.own id))) => [id]
  | _ => []
/-- The objects but those that temporaries own. -/
def lessO (s : St) (ts : List Nat) : List (Nat × Option AObj) := (liveO [] s.ob).filter fun x => !(ts.flatMap (ownOf s)).contains x.1
def hMap57 : Hints := ⟨fun f k s => match f, k with
  | 61, 3 => match listAs s 8 pT with
    | some xs => some ⟨Nat, fun i => ⟨[tI 10 i, (5, .val (.one (.own s.nx)))] ++ keepT [1, 8, 9] s.tm, (s.nx, some (.row (.int .i64) ((List.take i xs).map fun p => pcheck p.1 p.2.1))) :: lessO s [5], s.nx + 1, s.lr⟩, fun i => i ≤ List.length xs, fun i => List.length xs - i⟩
    | _ => none
  | _, _ => none, 0⟩
def h16 : Hints := ⟨fun f k s => match f, k with
  | 116, 2 => match listAs s 6 pT with
    | some xs => some ⟨Nat, fun i => s.at [0, 1, 6, 7] [tI 8 i], fun i => i ≤ List.length xs, fun i => List.length xs - i⟩
    | _ => none
  | 16, 10 => match listAs s 7 pT with
    | some xs => some ⟨Nat, fun i => ⟨[tI 10 ((i : Int) + 1), (8, .val (.one (.own s.nx))), (9, .val (bV false))] ++ keepT [7] s.tm, (s.nx, some (.row (.int .i64) (lostTo xs i))) :: lessO s [8], s.nx + 1, s.lr⟩, fun i => i = 0 ∨ i < List.length xs, fun i => List.length xs - i⟩
    | _ => none
  | 16, 13 => match listAs s 7 pT, intOfT s 10, listAs s 8 (.int .i64) with
    | some xs, some i, some out => some ⟨Nat, fun j => ⟨[tI 11 ((cnt xs (i - 1).toNat + 1 + (j : Int)) % 256), (8, .val (.one (.own s.nx)))] ++ keepT [7, 9, 10] s.tm,
        (s.nx, some (.row (.int .i64) (out ++ List.take j (gap (cnt xs (i - 1).toNat) (cnt xs i.toNat))))) :: lessO s [8], s.nx + 1, s.lr⟩, fun j => j ≤ (gap (cnt xs (i - 1).toNat) (cnt xs i.toNat)).length, fun j => (gap (cnt xs (i - 1).toNat) (cnt xs i.toNat)).length - j⟩
    | _, _, _ => none
  | _, _ => none, 0⟩
def sp61 : FSpec := ⟨fun vs => match vs with
  | [.one (.sl (.pair (.int .i64) (.pair (.int .i64) (.arr 10 (.int .u8)))) l), .one (.fn 57 [] [])] => some ([List.length l ≤ 1000000], .val (.one (.frs (.int .i64) (List.map (fun (p : Pk) => pcheck p.1 p.2.1) l))))
  | _ => none, true⟩
@[reducible] noncomputable def fb64 : Nat × Func := (64, Proofs.Tryd.f64)
@[reducible] noncomputable def fb63 : Nat × Func := (63, Proofs.Tryd.f63)
@[reducible] noncomputable def fb116 : Nat × Func := (116, Proofs.Tryd.f116)
@[reducible] noncomputable def fb65 : Nat × Func := (65, Proofs.Tryd.f65)
end Go.Sx

/- What the engine asks, written out (printed by a program). -/
namespace Go.Sx
open U
theorem vc61 (l : List Pk) : exF (env false [(57, sp57)] []) hMap57 0 61 Proofs.Tryd.f61 [.one (.sl pT l), .one (.fn 57 [] [])] (.val (.one (.frs (.int .i64) (List.map (fun (p : Pk) => U.pcheck p.1 p.2.1) l)))) = (let q0 := (↑(List.length l) : Int); (∃ (g : Nat), Nat.le g (List.length l) ∧ (0 : Int) = (↑g : Int) ∧ q0 = q0 ∧ l = l ∧ List.map (fun (p : Int × Int × List Int) => pcheck p.1 p.2.1) (List.take g l) = [] ∧ True) ∧ ∀ (g : Nat), let q1 := (List.getD l g ((0 : Int), (0 : Int), List.replicate (10 : Nat) (0 : Int))); Nat.le g (List.length l) → splitB (decide ((↑g : Int) < q0)) (((0 : Int) ≤ (↑g : Int) ∧ (↑g : Int) < q0) ∧ room (List.length (List.map (fun (p : Int × Int × List Int) => pcheck p.1 p.2.1) (List.take g l)) + (1 : Nat)) (8 : Nat) ∧ fits IntKind.i64 ((↑g : Int) + (1 : Int)) ∧ ∃ (g' : Nat), Nat.le g' (List.length l) ∧ List.length l - g' < List.length l - g ∧ (↑g : Int) + (1 : Int) = (↑g' : Int) ∧ q0 = q0 ∧ l = l ∧ List.map (fun (p : Int × Int × List Int) => pcheck p.1 p.2.1) (List.take g l) ++ [pcheck q1.1 q1.2.1] = List.map (fun (p : Int × Int × List Int) => pcheck p.1 p.2.1) (List.take g' l) ∧ True) (List.map (fun (p : Int × Int × List Int) => pcheck p.1 p.2.1) (List.take g l) = List.map (fun (p : Pk) => pcheck p.1 p.2.1) l ∧ True)) := by
  kernel_rfl
theorem vc16 (l : List Pk) (k : Int) : exF (env false [(57, sp57), (60, sp60), (62, sp62), (61, sp61)] [fb64, fb63, fb116, fb65]) h16 4 16 Proofs.Tryd.f16 [.one (.sl pT l), iV k] (.tup [.one (.frs (.int .i64) (U.lostTo l (l.length - 1))), iV 0]) = (let q1 := ((0 : Int), (0 : Int), List.replicate (10 : Nat) (0 : Int)); let q3 := (↑(List.length l) : Int); let q5 := (List.length l - (1 : Nat)); let q8 := (lostTo l q5 = [] ∧ (5 : Int) = (0 : Int) ∧ True); splitB (decide ((1024 : Int) < q3)) q8 (List.length l ≤ (1000000 : Nat) ∧ List.length (List.map (fun (p : Pk) => pcheck p.1 p.2.1) l) ≤ (1000000000 : Nat) ∧ (2 : Nat) ≤ (1000000000 : Nat) ∧ splitB (first [first (List.map (fun (p : Pk) => pcheck p.1 p.2.1) l), within k (0 : Int) (255 : Int)] != (0 : Int)) (lostTo l q5 = [] ∧ first [first (List.map (fun (p : Pk) => pcheck p.1 p.2.1) l), within k (0 : Int) (255 : Int)] = (0 : Int) ∧ True) (∀ (b : Bool), (b = true → List.length l = (0 : Nat)) → splitB (b != false) ((∃ (g : Nat), Nat.le g (0 : Nat) ∧ (0 : Int) = (↑g : Int) ∧ (0 : Int) = (0 : Int) ∧ [first (List.map (fun (p : Pk) => pcheck p.1 p.2.1) l), within k (0 : Int) (255 : Int)] = [first (List.map (fun (p : Pk) => pcheck p.1 p.2.1) l), within k (0 : Int) (255 : Int)] ∧ List.map (fun (p : Pk) => pcheck p.1 p.2.1) l = List.map (fun (p : Pk) => pcheck p.1 p.2.1) l ∧ k = k ∧ True) ∧ ∀ (g : Nat), Nat.le g (0 : Nat) → (∃ (g : Nat), (g = (0 : Nat) ∨ g < (0 : Nat)) ∧ (1 : Int) = (↑g : Int) + (1 : Int) ∧ false = false ∧ lostTo [] g = [] ∧ [first (List.map (fun (p : Pk) => pcheck p.1 p.2.1) l), within k (0 : Int) (255 : Int)] = [first (List.map (fun (p : Pk) => pcheck p.1 p.2.1) l), within k (0 : Int) (255 : Int)] ∧ List.map (fun (p : Pk) => pcheck p.1 p.2.1) l = List.map (fun (p : Pk) => pcheck p.1 p.2.1) l ∧ k = k ∧ True) ∧ ∀ (g : Nat), g = (0 : Nat) ∨ g < (0 : Nat) → lostTo [] g = lostTo l q5 ∧ (0 : Int) = (0 : Int) ∧ True) (room ((0 : Nat) + List.length l) (32 : Nat) ∧ (∃ (g : Nat), Nat.le g (List.length l) ∧ (0 : Int) = (↑g : Int) ∧ q3 = q3 ∧ l = l ∧ [first (List.map (fun (p : Pk) => pcheck p.1 p.2.1) l), within k (0 : Int) (255 : Int)] = [first (List.map (fun (p : Pk) => pcheck p.1 p.2.1) l), within k (0 : Int) (255 : Int)] ∧ List.map (fun (p : Pk) => pcheck p.1 p.2.1) l = List.map (fun (p : Pk) => pcheck p.1 p.2.1) l ∧ k = k ∧ True) ∧ ∀ (g : Nat), let q7 := (List.getD l g q1); Nat.le g (List.length l) → splitB (decide ((↑g : Int) < q3)) (((0 : Int) ≤ (↑g : Int) ∧ (↑g : Int) < q3) ∧ g < List.length l ∧ splitB (!eqT (Ty.pair (Ty.int IntKind.i64) (Ty.pair (Ty.int IntKind.i64) (Ty.arr (10 : Nat) (Ty.int IntKind.u8)))) (q7.1, q7.2.1, q7.2.2) (k, q7.2.1, q7.2.2)) (fits IntKind.i64 ((↑g : Int) + (1 : Int)) ∧ False) (fits IntKind.i64 ((↑g : Int) + (1 : Int)) ∧ ∃ (g' : Nat), Nat.le g' (List.length l) ∧ List.length l - g' < List.length l - g ∧ (↑g : Int) + (1 : Int) = (↑g' : Int) ∧ q3 = q3 ∧ l = l ∧ [first (List.map (fun (p : Pk) => pcheck p.1 p.2.1) l), within k (0 : Int) (255 : Int)] = [first (List.map (fun (p : Pk) => pcheck p.1 p.2.1) l), within k (0 : Int) (255 : Int)] ∧ List.map (fun (p : Pk) => pcheck p.1 p.2.1) l = List.map (fun (p : Pk) => pcheck p.1 p.2.1) l ∧ k = k ∧ True)) ((∃ (g : Nat), (g = (0 : Nat) ∨ g < List.length l) ∧ (1 : Int) = (↑g : Int) + (1 : Int) ∧ false = false ∧ lostTo l g = [] ∧ l = l ∧ [first (List.map (fun (p : Pk) => pcheck p.1 p.2.1) l), within k (0 : Int) (255 : Int)] = [first (List.map (fun (p : Pk) => pcheck p.1 p.2.1) l), within k (0 : Int) (255 : Int)] ∧ List.map (fun (p : Pk) => pcheck p.1 p.2.1) l = List.map (fun (p : Pk) => pcheck p.1 p.2.1) l ∧ k = k ∧ True) ∧ ∀ (g : Nat), let q6 := ((↑g : Int) + (1 : Int) - (1 : Int)); let q2 := (Int.toNat q6); let q0 := (gap (cnt l q2) (cnt l (Int.toNat ((↑g : Int) + (1 : Int))))); g = (0 : Nat) ∨ g < List.length l → splitB (decide ((↑g : Int) + (1 : Int) < q3)) (fits IntKind.i64 q6 ∧ ((0 : Int) ≤ (↑g : Int) + (1 : Int) - (1 : Int) ∧ (↑g : Int) + (1 : Int) - (1 : Int) < q3) ∧ Int.toNat q6 < List.length l ∧ fits IntKind.i64 ((List.getD l q2 q1).2.1 + (1 : Int)) ∧ (∃ (g_1 : Nat), Nat.le g_1 (List.length q0) ∧ bits BinOp.and IntKind.i64 ((List.getD l q2 q1).2.1 + (1 : Int)) (255 : Int) = (cnt l q2 + (1 : Int) + (↑g_1 : Int)) % (256 : Int) ∧ (↑g : Int) + (1 : Int) = (↑g : Int) + (1 : Int) ∧ false = false ∧ lostTo l g = lostTo l g ++ List.take g_1 q0 ∧ l = l ∧ [first (List.map (fun (p : Pk) => pcheck p.1 p.2.1) l), within k (0 : Int) (255 : Int)] = [first (List.map (fun (p : Pk) => pcheck p.1 p.2.1) l), within k (0 : Int) (255 : Int)] ∧ List.map (fun (p : Pk) => pcheck p.1 p.2.1) l = List.map (fun (p : Pk) => pcheck p.1 p.2.1) l ∧ k = k ∧ True) ∧ ∀ (g_1 : Nat), let q4 := (cnt l q2 + (1 : Int) + (↑g_1 : Int)); Nat.le g_1 (List.length q0) → ((0 : Int) ≤ (↑g : Int) + (1 : Int) ∧ (↑g : Int) + (1 : Int) < q3) ∧ Int.toNat ((↑g : Int) + (1 : Int)) < List.length l ∧ splitB (q4 % (256 : Int) != (List.getD l (Int.toNat ((↑g : Int) + (1 : Int))) q1).2.1) (splitB ((↑(List.length (lostTo l g ++ List.take g_1 q0)) : Int) == (256 : Int)) q8 (room (List.length (lostTo l g ++ List.take g_1 q0) + (1 : Nat)) (8 : Nat) ∧ fits IntKind.i64 (q4 % (256 : Int) + (1 : Int)) ∧ ∃ (g' : Nat), Nat.le g' (List.length q0) ∧ List.length q0 - g' < List.length q0 - g_1 ∧ bits BinOp.and IntKind.i64 (q4 % (256 : Int) + (1 : Int)) (255 : Int) = (cnt l q2 + (1 : Int) + (↑g' : Int)) % (256 : Int) ∧ (↑g : Int) + (1 : Int) = (↑g : Int) + (1 : Int) ∧ false = false ∧ lostTo l g ++ List.take g_1 q0 ++ [q4 % (256 : Int)] = lostTo l g ++ List.take g' q0 ∧ l = l ∧ [first (List.map (fun (p : Pk) => pcheck p.1 p.2.1) l), within k (0 : Int) (255 : Int)] = [first (List.map (fun (p : Pk) => pcheck p.1 p.2.1) l), within k (0 : Int) (255 : Int)] ∧ List.map (fun (p : Pk) => pcheck p.1 p.2.1) l = List.map (fun (p : Pk) => pcheck p.1 p.2.1) l ∧ k = k ∧ True)) (fits IntKind.i64 ((↑g : Int) + (1 : Int) + (1 : Int)) ∧ ∃ (g' : Nat), (g' = (0 : Nat) ∨ g' < List.length l) ∧ List.length l - g' < List.length l - g ∧ (↑g : Int) + (1 : Int) + (1 : Int) = (↑g' : Int) + (1 : Int) ∧ false = false ∧ lostTo l g ++ List.take g_1 q0 = lostTo l g' ∧ l = l ∧ [first (List.map (fun (p : Pk) => pcheck p.1 p.2.1) l), within k (0 : Int) (255 : Int)] = [first (List.map (fun (p : Pk) => pcheck p.1 p.2.1) l), within k (0 : Int) (255 : Int)] ∧ List.map (fun (p : Pk) => pcheck p.1 p.2.1) l = List.map (fun (p : Pk) => pcheck p.1 p.2.1) l ∧ k = k ∧ True)) (lostTo l g = lostTo l q5 ∧ (0 : Int) = (0 : Int) ∧ True)))))) := by
  kernel_rfl
end Go.Sx

/- Contracts: Lost. -/
namespace Go.Sx
open U

theorem fn61 (l : List Pk) (hl : l.length ≤ 1000000) : Fn P1 gl1 61 [.one (.sl pT l), .one (.fn 57 [] [])] (.val (.one (.frs (.int .i64) (List.map (fun (p : Pk) => pcheck p.1 p.2.1) l)))) true := by
  refine Fn.flat ?_ rfl
  refine fn_of false [(57, sp57)] [] hMap57 0 Proofs.Tryd.f61 ⟨so57, trivial⟩ trivial (by kernel_rfl) rfl (by kernel_rfl) rfl rfl rfl ?_
  rw [vc61]
  try simp only [splitB_iff, -eq_self]
  refine ⟨⟨0, Nat.zero_le _, by simp⟩, fun g hg => ⟨fun hlt => ?_, fun hge => ?_⟩⟩
  · have hlt' : g < l.length := by simpa using hlt
    refine ⟨by omega, by simp only [room, List.length_map, List.length_take]; omega, by simp only [fits]; omega, g + 1, hlt', by omega, by simp, rfl, rfl, ?_, trivial⟩
    rw [getD_of hlt', List.take_succ_eq_append_getElem hlt', List.map_append]
    rfl
  · have hge' : ¬ g < l.length := by simpa using hge
    rw [List.take_of_length_le (by omega)]
    exact ⟨rfl, trivial⟩
theorem so61_ : SpecOk P1 gl1 61 sp61 := by
  intro vs ps r h hp
  simp only [sp61] at h
  split at h
  · cases h
    exact fn61 _ (hp _ (List.mem_singleton.2 rfl))
  · cases h
theorem so61 : Sp1 61 sp61 := ⟨so61_, Proofs.Tryd.f61, _, by kernel_rfl, rfl, by kernel_rfl⟩

theorem first_zero : ∀ (l : List Int), (∀ x ∈ l, x = 0) → first l = 0
  | [], _ => rfl
  | x :: r, h => by
    have hx := h x (by simp)
    simp only [first, hx, if_true]
    exact first_zero r (fun y hy => h y (by simp [hy]))

theorem band255 (x : Int) (h0 : 0 ≤ x) (h1 : x < 9223372036854775808) : bits .and .i64 x 255 = x % 256 := by
  obtain ⟨n, rfl⟩ := Int.eq_ofNat_of_zero_le h0
  show IntKind.wrap .i64 (((BitVec.ofInt 64 (n : Int) &&& BitVec.ofInt 64 255).toNat : Nat) : Int) = _
  have e1 : (BitVec.ofInt 64 (n : Int) &&& BitVec.ofInt 64 255).toNat = n % 256 := by
    rw [BitVec.toNat_and]
    have h2 : (BitVec.ofInt 64 (n : Int)).toNat = n := by
      rw [BitVec.toNat_ofInt]; omega
    have h3 : (BitVec.ofInt 64 255).toNat = 2 ^ 8 - 1 := rfl
    rw [h2, h3, Nat.and_two_pow_sub_one_eq_mod]
  rw [e1]
  have : IntKind.wrap .i64 ((n % 256 : Nat) : Int) = ((n % 256 : Nat) : Int) := fits_wrap (by simp only [fits]; omega)
  rw [this]
  omega

theorem eqT_pk (k a b : Int) (d : List Int) : eqT pT (a, b, d) (k, b, d) = decide (a = k) := by
  have h : eqT pT (a, b, d) (k, b, d) = ((a == k) && ((b == b) && (List.range 10).all fun i => (List.getD d i 0 == List.getD d i 0))) := rfl
  rw [h]
  by_cases e : a = k <;> simp [e]

theorem gap_len (a b : Int) : (gap a b).length = ((b - a - 1) % 256).toNat := by simp [gap]

theorem gap_at (a b : Int) (j : Nat) (h : j < (gap a b).length) : (gap a b)[j] = (a + 1 + j) % 256 := by simp [gap]

theorem cnt_bd {l : List Pk} (h : ∀ p ∈ l, pcheck p.1 p.2.1 = 0) (i : Nat) (hi : i < l.length) : 0 ≤ cnt l i ∧ cnt l i ≤ 255 := by
  unfold cnt
  rw [getD_of hi]
  have := h _ (List.getElem_mem hi)
  unfold pcheck at this
  simp only [first] at this
  split at this
  · split at this
    · rename_i h1 h2
      unfold within at h2
      split at h2 <;> omega
    · omega
  · omega

theorem lostTo_mono (l : List Pk) (i j : Nat) (h : i ≤ j) : (lostTo l i).length ≤ (lostTo l j).length := by
  induction j with
  | zero => have : i = 0 := by omega
            subst this; exact Nat.le_refl _
  | succ j ih =>
    by_cases e : i = j + 1
    · subst e; exact Nat.le_refl _
    · have := ih (by omega)
      simp only [lostTo, List.length_append]
      omega

theorem fn16 (l : List Pk) (k : Int) (h1 : l.length ≤ 1024) (h2 : ∀ p ∈ l, p.1 = k ∧ pcheck p.1 p.2.1 = 0) (hk : within k 0 255 = 0) (h3 : (lostTo l (l.length - 1)).length ≤ 256) :
    Fn P1 gl1 16 [.one (.sl pT l), iV k] (.tup [.one (.frs (.int .i64) (lostTo l (l.length - 1))), iV 0]) true := by
  refine Fn.flat ?_ rfl
  refine fn_of false [(57, sp57), (60, sp60), (62, sp62), (61, sp61)] [fb64, fb63, fb116, fb65] h16 4 Proofs.Tryd.f16 ⟨so57, so60, so62, so61, trivial⟩
    ⟨⟨by kernel_rfl, by kernel_rfl, _, rfl, by kernel_rfl⟩, ⟨by kernel_rfl, by kernel_rfl, _, rfl, by kernel_rfl⟩, ⟨by kernel_rfl, by kernel_rfl, _, rfl, by kernel_rfl⟩, ⟨by kernel_rfl, by kernel_rfl, _, rfl, by kernel_rfl⟩, trivial⟩ (by kernel_rfl) rfl (by kernel_rfl) rfl rfl rfl ?_
  rw [vc16]
  try simp only [splitB_iff, -eq_self]
  have hf : first [first (List.map (fun (p : Pk) => pcheck (Prod.fst p) (Prod.fst (Prod.snd p))) l), within k (0 : Int) (255 : Int)] = 0 := by
    rw [first_zero (List.map _ l) (by intro x hx; obtain ⟨p, hp, rfl⟩ := List.mem_map.1 hx; exact (h2 p hp).2), hk]
    rfl
  rw [hf]
  simp only [eq_self, and_true, true_and, bne_self_eq_false, Bool.false_eq_true, false_implies, Bool.bne_false, decide_eq_true_eq, decide_eq_false_iff_not, List.length_map, forall_const]
  have hcb := fun i hi => cnt_bd (l := l) (fun p hp => (h2 p hp).2) i hi
  refine ⟨fun h => by omega, fun _ => ⟨by omega, by omega, by omega, fun b hb => ⟨fun hbt => ?_, fun hbf => ?_⟩⟩⟩
  · have hl0 : l = [] := List.length_eq_zero_iff.1 (hb hbt)
    subst hl0
    refine ⟨⟨0, Nat.zero_le _, rfl⟩, fun g hg => ⟨⟨0, .inl rfl, rfl, rfl⟩, fun g hg => ?_⟩⟩
    have : g = 0 := by omega
    subst this; rfl
  · refine ⟨by simp only [room]; omega, ⟨0, Nat.zero_le _, rfl⟩, fun g hg => ⟨fun hlt => ⟨by omega, by omega, fun he => ?_, fun he => ?_⟩, fun hge => ⟨⟨0, .inl rfl, rfl, rfl⟩, fun g hg => ⟨fun hlt => ?_, fun hge => ?_⟩⟩⟩⟩
    · have hg' : g < l.length := by omega
      rw [eqT_pk, getD_of hg', (h2 _ (List.getElem_mem hg')).1] at he
      simp at he
    · exact ⟨by simp only [fits]; omega, g + 1, by show g + 1 ≤ _; omega, by omega, by simp⟩
    · have e1 : ((g : Int) + 1 - 1).toNat = g := by omega
      have e2 : ((g : Int) + 1).toNat = g + 1 := by omega
      rw [e1, e2]
      have hlt' : g + 1 < l.length := by omega
      have c1 := hcb g (by omega)
      have c2 := hcb (g + 1) hlt'
      have d1 : (l.getD g (0, 0, List.replicate 10 0)).2.1 = cnt l g := rfl
      have d2 : (l.getD (g + 1) (0, 0, List.replicate 10 0)).2.1 = cnt l (g + 1) := rfl
      rw [d1, d2]
      have hgl := gap_len (cnt l g) (cnt l (g + 1))
      have hlm := lostTo_mono l (g + 1) (l.length - 1) (by omega)
      simp only [lostTo, List.length_append] at hlm
      refine ⟨by simp only [fits]; omega, by omega, by omega, by simp only [fits]; omega, ⟨0, Nat.zero_le _, ?_, by simp⟩, fun j hj => ⟨by omega, hlt', fun hne => ⟨fun h256 => ?_, fun h256 => ?_⟩, fun heq => ?_⟩⟩
      · rw [band255 _ (by omega) (by omega)]
        simp
      · have hj' : j ≤ (gap (cnt l g) (cnt l (g + 1))).length := hj
        have hne' : ¬ (cnt l g + 1 + (j : Int)) % 256 = cnt l (g + 1) := by simpa using hne
        have hjl : ¬ j = (gap (cnt l g) (cnt l (g + 1))).length := by
          intro e
          apply hne'
          omega
        have : (lostTo l g ++ List.take j (gap (cnt l g) (cnt l (g + 1)))).length = 256 := by
          have := beq_iff_eq.1 h256
          omega
        rw [List.length_append, List.length_take] at this
        omega
      · have hj' : j ≤ (gap (cnt l g) (cnt l (g + 1))).length := hj
        have hne' : ¬ (cnt l g + 1 + (j : Int)) % 256 = cnt l (g + 1) := by simpa using hne
        have hjl : j < (gap (cnt l g) (cnt l (g + 1))).length := by
          rcases Nat.lt_or_ge j (gap (cnt l g) (cnt l (g + 1))).length with h | h
          · exact h
          · exact absurd (by omega) hne'
        refine ⟨by simp only [room, List.length_append, List.length_take]; omega, by simp only [fits]; omega, j + 1, hjl, by omega, ?_, ?_⟩
        · rw [band255 _ (by omega) (by omega)]
          omega
        · rw [List.take_succ_eq_append_getElem hjl, gap_at, List.append_assoc]
      · have hj' : j ≤ (gap (cnt l g) (cnt l (g + 1))).length := hj
        have heq' : (cnt l g + 1 + (j : Int)) % 256 = cnt l (g + 1) := by simpa using heq
        have hjl : j = (gap (cnt l g) (cnt l (g + 1))).length := by omega
        refine ⟨by simp only [fits]; omega, g + 1, .inr hlt', by omega, by simp, ?_⟩
        rw [hjl, List.take_length]
        rfl
    · have : l.length - 1 = g := by omega
      rw [this]
def sp16 : FSpec := ⟨fun vs => match vs with
  | [.one (.sl (.pair (.int .i64) (.pair (.int .i64) (.arr 10 (.int .u8)))) l), .one (.int .i64 k)] =>
    some ([List.length l ≤ 1024 ∧ (∀ p ∈ (show List Pk from l), p.1 = k ∧ pcheck p.1 p.2.1 = 0) ∧ within k 0 255 = 0 ∧ (lostTo l (List.length l - 1)).length ≤ 256], .tup [.one (.frs (.int .i64) (lostTo l (List.length l - 1))), iV 0])
  | _ => none, true⟩
theorem so16_ : SpecOk P1 gl1 16 sp16 := by
  intro vs ps r h hp
  simp only [sp16] at h
  split at h
  · cases h
    have := hp _ (List.mem_singleton.2 rfl)
    exact fn16 _ _ this.1 this.2.1 this.2.2.1 this.2.2.2
  · cases h
theorem so16 : Sp1 16 sp16 := ⟨so16_, Proofs.Tryd.f16, _, by kernel_rfl, rfl, by kernel_rfl⟩
def sp15 : FSpec := ⟨fun vs => match vs with
  | [.one (.sl (.int .u8) s)] => some ([Bytes s ∧ List.length s ≤ 1000000000], .tup [.one (.frs pT (received s).1), .one (.frs spT (received s).2.1), iV (received s).2.2])
  | _ => none, true⟩
theorem so15_ : SpecOk P1 gl1 15 sp15 := by
  intro vs ps r h hp
  simp only [sp15] at h
  split at h
  · cases h
    have := hp _ (List.mem_singleton.2 rfl)
    exact Fn.flat (fn15 _ this.1 this.2) rfl
  · cases h
theorem so15 : Sp1 15 sp15 := ⟨so15_, Proofs.Tryd.f15, _, by kernel_rfl, rfl, by kernel_rfl⟩
end Go.Sx

/- Plain functions and hints: tape, the small functions. -/
namespace Go.Sx.U
/-- A byte that a name may have at a place. -/
def nameAt (l : List UInt8) (i : Nat) : Bool :=
  ((65 ≤ (l.getD i 0).toNat && (l.getD i 0).toNat ≤ 90) || (97 ≤ (l.getD i 0).toNat && (l.getD i 0).toNat ≤ 122)) || (i != 0 && ((48 ≤ (l.getD i 0).toNat && (l.getD i 0).toNat ≤ 57) || (l.getD i 0).toNat == 95))
def isName (l : List UInt8) : Bool := (List.range l.length).all (nameAt l) && (decide (l ≠ []) && decide (l.length ≤ 24))
def plain (l : List UInt8) : Bool := l.all fun b => decide (b.toNat < 128)
def wf16 (l : List Int) : List Int := l.map fun n => within n 0 65535
def checkReel (nm : List UInt8) (f : Int) (l : List Int) : Int :=
  if first [whenE (!isName nm) 8, within f 0 10000000, whenE (decide (l.length = 0)) 12, whenE (decide (256 < l.length)) 5] = 0 then
    if first (wf16 l) = 0 then whenE (decide (10000000 < f + (l.length : Int))) 4 else first (wf16 l)
  else first [whenE (!isName nm) 8, within f 0 10000000, whenE (decide (l.length = 0)) 12, whenE (decide (256 < l.length)) 5]
def record (k a b : Int) : List Int := [k, a / 256 % 256, a % 256, b / 256 % 256, b % 256]
def tframe (i c : Int) : List Int := record 70 c ((263 * (263 * i + c) + 97) % 65521)
def isum (l : List Int) : Int := l.foldl (· + ·) 0
def tlast (l : List Int) : List Int := record 69 (l.length : Int) (isum l % 65521)
def number (s : List Int) : Int := s.foldl (fun x b => 256 * x + b) 0
end Go.Sx.U
namespace Go.Sx
open U
def h78 : Hints := ⟨fun f k s => match f, k with
  | 78, 2 => hFirst 5 6 7 s
  | _, _ => none, 0⟩
def h123 : Hints := ⟨fun f k s => match f, k with
  | 123, 3 => match listAs s 8 (.int .i64) with
    | some xs => some ⟨Nat, fun i => ⟨[tI 10 i, (5, .val (.one (.own s.nx)))] ++ keepT [1, 8, 9] s.tm, (s.nx, some (.row (.int .i64) ((List.take i xs).map fun n => within n 0 65535))) :: lessO s [5], s.nx + 1, s.lr⟩, fun i => i ≤ List.length xs, fun i => List.length xs - i⟩
    | _ => none
  | _, _ => none, 0⟩
/-- The loop over a string. -/
def hStr (t : Nat) (keep : List Nat) (q : List UInt8 → Nat → Prop) (s : St) : Option LInv := match lookT s.tm t with
  | some (.val (.one (.ptr id 0))) => match lookO s.ob id with
    | some (.sit l _) => some ⟨Nat, fun i => ⟨keepT (t :: keep) s.tm, [(id, some (.sit l i))], s.nx, s.lr⟩, fun i => i ≤ List.length l ∧ q l i, fun i => List.length l - i⟩
    | _ => none
  | _ => none
def nameTo (l : List UInt8) (i : Nat) : Prop := ∀ j, j < i → nameAt l j = true
def plainTo (l : List UInt8) (i : Nat) : Prop := ∀ j, j < i → (l.getD j 0).toNat < 128
def h121 : Hints := ⟨fun f k s => match f, k with
  | 121, 2 => hStr 7 [0] nameTo s
  | _, _ => none, 0⟩
def h127 : Hints := ⟨fun f k s => match f, k with
  | 127, 2 => hStr 6 [0] plainTo s
  | _, _ => none, 0⟩
def h74 : Hints := ⟨fun f k s => match f, k with
  | 74, 3 => match listAs s 6 (.int .i64) with
    | some xs => some ⟨Nat, fun i => s.at [0, 2, 6, 7] [tI 8 i, tI 3 (isum (List.take i xs))], fun i => i ≤ List.length xs, fun i => List.length xs - i⟩
    | _ => none
  | _, _ => none, 0⟩
def h128 : Hints := ⟨fun f k s => match f, k with
  | 128, 3 => match listAs s 6 (.int .u8) with
    | some xs => some ⟨Nat, fun i => s.at [6, 7] [tI 8 i, tI 3 (number (List.take i xs))], fun i => i ≤ List.length xs, fun i => List.length xs - i⟩
    | _ => none
  | _, _ => none, 0⟩
def h17 : Hints := ⟨fun f k s => match f, k with
  | 17, 4 => match listAs s 0 (.int .i64), listAs s 1 (.int .i64) with
    | some xs, some ys => some ⟨Nat, fun i => s.at [0, 1] [tI 5 i], fun i => i ≤ List.length xs ∧ List.take i xs = List.take i ys, fun i => List.length xs - i⟩
    | _, _ => none
  | _, _ => none, 0⟩
@[reducible] noncomputable def fb79 : Nat × Func := (79, Proofs.Tryd.f79)
@[reducible] noncomputable def fb122 : Nat × Func := (122, Proofs.Tryd.f122)
@[reducible] noncomputable def fb124 : Nat × Func := (124, Proofs.Tryd.f124)
@[reducible] noncomputable def fb125 : Nat × Func := (125, Proofs.Tryd.f125)
end Go.Sx

/- What the engine asks, written out (printed by a program). -/
namespace Go.Sx
open U
theorem vc79 (b : Bool) (e : Int) : exF (env false [] []) h0 0 79 Proofs.Tryd.f79 [bV b, iV e] (.val (iV (U.whenE b e))) = (splitB b (e = whenE b e ∧ True) ((0 : Int) = whenE b e ∧ True)) := by
  kernel_rfl
theorem vc122 (n lo hi : Int) : exF (env false [] [fb79]) h0 1 122 Proofs.Tryd.f122 [iV n, iV lo, iV hi] (.val (iV (U.within n lo hi))) = (splitB (bif decide (n < lo) then true else decide (hi < n)) ((3 : Int) = within n lo hi ∧ True) ((0 : Int) = within n lo hi ∧ True)) := by
  kernel_rfl
theorem vc78 (xs : List Int) : exF (env false [] []) h78 0 78 Proofs.Tryd.f78 [.one (.sl (.int .i64) xs)] (.val (iV (U.first xs))) = (let q0 := (↑(List.length xs) : Int); (∃ (g : Nat), (g ≤ List.length xs ∧ first xs = first (List.drop g xs)) ∧ (0 : Int) = (↑g : Int) ∧ q0 = q0 ∧ xs = xs ∧ True) ∧ ∀ (g : Nat), g ≤ List.length xs ∧ first xs = first (List.drop g xs) → splitB (decide ((↑g : Int) < q0)) (((0 : Int) ≤ (↑g : Int) ∧ (↑g : Int) < q0) ∧ splitB (List.getD xs g (0 : Int) != (0 : Int)) (List.getD xs g (0 : Int) = first xs ∧ True) (fits IntKind.i64 ((↑g : Int) + (1 : Int)) ∧ ∃ (g' : Nat), (g' ≤ List.length xs ∧ first xs = first (List.drop g' xs)) ∧ List.length xs - g' < List.length xs - g ∧ (↑g : Int) + (1 : Int) = (↑g' : Int) ∧ q0 = q0 ∧ xs = xs ∧ True)) ((0 : Int) = first xs ∧ True)) := by
  kernel_rfl
theorem vc121 (l : List UInt8) : exF (env false [] []) h121 0 121 Proofs.Tryd.f121 [sV l] (.val (bV (U.isName l))) = ((∃ (g : Nat), (g ≤ List.length l ∧ ∀ (j : Nat), j < g → nameAt l j = true) ∧ l = l ∧ (l = l ∧ (0 : Nat) = g) ∧ True) ∧ ∀ (g : Nat), let q0 := (List.getD l g (0 : UInt8)); (g ≤ List.length l ∧ ∀ (j : Nat), j < g → nameAt l j = true) → (List.length l ≤ g → (bif l != Array.toList (ByteArray.data { data := #[] }) then decide ((↑(List.length l) : Int) ≤ (24 : Int)) else false) = isName l ∧ True) ∧ ∀ (c w : Nat), g < List.length l ∧ (UInt8.toNat q0 < (128 : Nat) → c = UInt8.toNat q0 ∧ w = (1 : Nat)) ∧ ((128 : Nat) ≤ UInt8.toNat q0 → (128 : Nat) ≤ c ∧ (1 : Nat) ≤ w) → splitB (bif !bif bif decide ((65 : Int) ≤ (↑c : Int)) then decide ((↑c : Int) ≤ (90 : Int)) else false then true else bif decide ((97 : Int) ≤ (↑c : Int)) then decide ((↑c : Int) ≤ (122 : Int)) else false then bif (↑g : Int) == (0 : Int) then true else bif bif decide ((↑c : Int) < (48 : Int)) then true else decide ((57 : Int) < (↑c : Int)) then (↑c : Int) != (95 : Int) else false else false) (false = isName l ∧ True) (∃ (g' : Nat), (g' ≤ List.length l ∧ ∀ (j : Nat), j < g' → nameAt l j = true) ∧ List.length l - g' < List.length l - g ∧ l = l ∧ (l = l ∧ g + w = g') ∧ True)) := by
  kernel_rfl
theorem vc127 (l : List UInt8) : exF (env false [] []) h127 0 127 Proofs.Tryd.f127 [sV l] (.val (bV (U.plain l))) = ((∃ (g : Nat), (g ≤ List.length l ∧ ∀ (j : Nat), j < g → UInt8.toNat (List.getD l j (0 : UInt8)) < (128 : Nat)) ∧ l = l ∧ (l = l ∧ (0 : Nat) = g) ∧ True) ∧ ∀ (g : Nat), let q0 := (List.getD l g (0 : UInt8)); (g ≤ List.length l ∧ ∀ (j : Nat), j < g → UInt8.toNat (List.getD l j (0 : UInt8)) < (128 : Nat)) → (List.length l ≤ g → true = plain l ∧ True) ∧ ∀ (c w : Nat), g < List.length l ∧ (UInt8.toNat q0 < (128 : Nat) → c = UInt8.toNat q0 ∧ w = (1 : Nat)) ∧ ((128 : Nat) ≤ UInt8.toNat q0 → (128 : Nat) ≤ c ∧ (1 : Nat) ≤ w) → splitB (decide ((127 : Int) < (↑c : Int))) (false = plain l ∧ True) (∃ (g' : Nat), (g' ≤ List.length l ∧ ∀ (j : Nat), j < g' → UInt8.toNat (List.getD l j (0 : UInt8)) < (128 : Nat)) ∧ List.length l - g' < List.length l - g ∧ l = l ∧ (l = l ∧ g + w = g') ∧ True)) := by
  kernel_rfl
theorem vc125 (k a b : Int) : exF (env false [] []) h0 0 125 Proofs.Tryd.f125 [uV k, iV a, iV b] (.val (aV 5 (U.record k a b))) = (((0 : Int) ≤ (8 : Int) ∧ (8 : Nat) ≤ IntKind.bits IntKind.i64) ∧ ((0 : Int) ≤ (8 : Int) ∧ (8 : Nat) ≤ IntKind.bits IntKind.i64) ∧ [k, a / (256 : Int) % (256 : Int), a % (256 : Int), b / (256 : Int) % (256 : Int), b % (256 : Int)] = record k a b ∧ True) := by
  kernel_rfl
theorem vc74 (l : List Int) : exF (env false [] [fb125]) h74 1 74 Proofs.Tryd.f74 [.one (.sl (.int .i64) l)] (.val (aV 5 (U.tlast l))) = (let q0 := (↑(List.length l) : Int); let q1 := ((0 : Int) ≤ (8 : Int) ∧ (8 : Nat) ≤ IntKind.bits IntKind.i64); (∃ (g : Nat), Nat.le g (List.length l) ∧ (0 : Int) = (↑g : Int) ∧ (0 : Int) = isum (List.take g l) ∧ q0 = q0 ∧ l = l ∧ l = l ∧ List.replicate (5 : Nat) (0 : Int) = List.replicate (5 : Nat) (0 : Int) ∧ True) ∧ ∀ (g : Nat), let q2 := (List.take g l); Nat.le g (List.length l) → splitB (decide ((↑g : Int) < q0)) (((0 : Int) ≤ (↑g : Int) ∧ (↑g : Int) < q0) ∧ fits IntKind.i64 (isum q2 + List.getD l g (0 : Int)) ∧ fits IntKind.i64 ((↑g : Int) + (1 : Int)) ∧ ∃ (g' : Nat), Nat.le g' (List.length l) ∧ List.length l - g' < List.length l - g ∧ (↑g : Int) + (1 : Int) = (↑g' : Int) ∧ isum q2 + List.getD l g (0 : Int) = isum (List.take g' l) ∧ q0 = q0 ∧ l = l ∧ l = l ∧ List.replicate (5 : Nat) (0 : Int) = List.replicate (5 : Nat) (0 : Int) ∧ True) (((0 : Int) ≤ isum q2 ∧ (0 : Int) < (65521 : Int)) ∧ q1 ∧ q1 ∧ [(69 : Int), q0 / (256 : Int) % (256 : Int), q0 % (256 : Int), isum q2 % (65521 : Int) / (256 : Int) % (256 : Int), isum q2 % (65521 : Int) % (256 : Int)] = tlast l ∧ True)) := by
  kernel_rfl
theorem vc73 (i c : Int) : exF (env false [] [fb125]) h0 1 73 Proofs.Tryd.f73 [iV i, iV c] (.val (aV 5 (U.tframe i c))) = (let q2 := ((263 : Int) * i + c); let q0 := ((263 : Int) * q2 + (97 : Int)); let q1 := ((0 : Int) ≤ (8 : Int) ∧ (8 : Nat) ≤ IntKind.bits IntKind.i64); fits IntKind.i64 ((263 : Int) * i) ∧ fits IntKind.i64 q2 ∧ fits IntKind.i64 ((263 : Int) * q2) ∧ fits IntKind.i64 q0 ∧ ((0 : Int) ≤ (263 : Int) * q2 + (97 : Int) ∧ (0 : Int) < (65521 : Int)) ∧ q1 ∧ q1 ∧ [(70 : Int), c / (256 : Int) % (256 : Int), c % (256 : Int), q0 % (65521 : Int) / (256 : Int) % (256 : Int), q0 % (65521 : Int) % (256 : Int)] = tframe i c ∧ True) := by
  kernel_rfl
theorem vc128 (s : List Int) : exF (env false [] []) h128 0 128 Proofs.Tryd.f128 [.one (.sl (.int .u8) s)] (.val (iV (U.number s))) = (let q0 := (↑(List.length s) : Int); (∃ (g : Nat), Nat.le g (List.length s) ∧ (0 : Int) = (↑g : Int) ∧ (0 : Int) = number (List.take g s) ∧ q0 = q0 ∧ s = s ∧ True) ∧ ∀ (g : Nat), Nat.le g (List.length s) → splitB (decide ((↑g : Int) < q0)) (((0 : Int) ≤ (↑g : Int) ∧ (↑g : Int) < q0) ∧ ((0 : Int) ≤ (8 : Int) ∧ (8 : Nat) ≤ IntKind.bits IntKind.i64 ∧ fits IntKind.i64 (number (List.take g s) * (256 : Int))) ∧ fits IntKind.i64 (List.getD s g (0 : Int)) ∧ fits IntKind.i64 ((↑g : Int) + (1 : Int)) ∧ ∃ (g' : Nat), Nat.le g' (List.length s) ∧ List.length s - g' < List.length s - g ∧ (↑g : Int) + (1 : Int) = (↑g' : Int) ∧ bits BinOp.or IntKind.i64 (number (List.take g s) * (256 : Int)) (List.getD s g (0 : Int)) = number (List.take g' s) ∧ q0 = q0 ∧ s = s ∧ True) (number (List.take g s) = number s ∧ True)) := by
  kernel_rfl
theorem vc17 (xs ys : List Int) : exF (env false [] []) h17 0 17 Proofs.Tryd.f17 [.one (.sl (.int .i64) xs), .one (.sl (.int .i64) ys)] (.val (bV (decide (xs = ys)))) = (let q0 := (↑(List.length xs) : Int); splitB (q0 != (↑(List.length ys) : Int)) (false = decide (xs = ys) ∧ True) ((∃ (g : Nat), (g ≤ List.length xs ∧ List.take g xs = List.take g ys) ∧ (0 : Int) = (↑g : Int) ∧ xs = xs ∧ ys = ys ∧ True) ∧ ∀ (g : Nat), g ≤ List.length xs ∧ List.take g xs = List.take g ys → splitB (decide ((↑g : Int) < q0)) (((0 : Int) ≤ (↑g : Int) ∧ (↑g : Int) < q0) ∧ ((0 : Int) ≤ (↑g : Int) ∧ (↑g : Int) < (↑(List.length ys) : Int)) ∧ splitB (List.getD xs g (0 : Int) != List.getD ys g (0 : Int)) (false = decide (xs = ys) ∧ True) (fits IntKind.i64 ((↑g : Int) + (1 : Int)) ∧ ∃ (g' : Nat), (g' ≤ List.length xs ∧ List.take g' xs = List.take g' ys) ∧ List.length xs - g' < List.length xs - g ∧ (↑g : Int) + (1 : Int) = (↑g' : Int) ∧ xs = xs ∧ ys = ys ∧ True)) (true = decide (xs = ys) ∧ True))) := by
  kernel_rfl
end Go.Sx

/- Contracts: tape, the small functions. -/
namespace Go.Sx
open U

theorem fn79 (b : Bool) (e : Int) : Fn P1 gl1 79 [bV b, iV e] (.val (iV (whenE b e))) true := by
  refine Fn.flat ?_ rfl
  refine fn_of false [] [] h0 0 Proofs.Tryd.f79 trivial trivial (by kernel_rfl) rfl (by kernel_rfl) rfl rfl rfl ?_
  rw [vc79]
  try simp only [splitB_iff, -eq_self]
  cases b <;> simp [whenE]

theorem fn122 (n lo hi : Int) : Fn P1 gl1 122 [iV n, iV lo, iV hi] (.val (iV (within n lo hi))) true := by
  refine Fn.flat ?_ rfl
  refine fn_of false [] [fb79] h0 1 Proofs.Tryd.f122 trivial ⟨⟨by kernel_rfl, by kernel_rfl, _, rfl, by kernel_rfl⟩, trivial⟩ (by kernel_rfl) rfl (by kernel_rfl) rfl rfl rfl ?_
  rw [vc122]
  try simp only [splitB_iff, -eq_self]
  unfold within
  by_cases h1 : n < lo <;> by_cases h2 : hi < n <;> simp [h1, h2]

theorem fn78 (xs : List Int) (hl : xs.length ≤ 1000000000) : Fn P1 gl1 78 [.one (.sl (.int .i64) xs)] (.val (iV (first xs))) true := by
  refine Fn.flat ?_ rfl
  refine fn_of false [] [] h78 0 Proofs.Tryd.f78 trivial trivial (by kernel_rfl) rfl (by kernel_rfl) rfl rfl rfl ?_
  rw [vc78]
  try simp only [splitB_iff, -eq_self]
  refine ⟨⟨0, by simp, by simp⟩, fun g hg => ⟨fun hlt => ?_, fun hge => ?_⟩⟩
  · have hlt' : g < xs.length := by simpa using hlt
    rw [getD_of hlt', hg.2, first_drop xs g hlt']
    refine ⟨by omega, fun h => ?_, fun h => ⟨by simp only [fits]; omega, g + 1, ⟨by omega, ?_⟩, by omega, by simp⟩⟩
    · rw [if_neg (by simpa using h)]; simp
    · rw [if_pos (by simpa using h)]
  · have hge' : ¬ g < xs.length := by simpa using hge
    rw [hg.2, List.drop_of_length_le (by omega)]
    simp [first]

theorem isName_of {l : List UInt8} (h : ∀ j, j < l.length → nameAt l j = true) : isName l = (decide (l ≠ []) && decide (l.length ≤ 24)) := by
  unfold isName
  have : (List.range l.length).all (nameAt l) = true := by
    rw [List.all_eq_true]
    intro j hj
    exact h j (List.mem_range.1 hj)
  rw [this]; rfl

theorem isName_not {l : List UInt8} {j : Nat} (hj : j < l.length) (h : nameAt l j = false) : isName l = false := by
  unfold isName
  have : (List.range l.length).all (nameAt l) = false := by
    rw [List.all_eq_false]
    exact ⟨j, List.mem_range.2 hj, by simp [h]⟩
  rw [this]; rfl

/-- The rune at a place of a name. -/
theorem rune_name {l : List UInt8} {g c w : Nat} (h : (UInt8.toNat (List.getD l g (0 : UInt8)) < 128 → c = UInt8.toNat (List.getD l g (0 : UInt8)) ∧ w = 1) ∧ (128 ≤ UInt8.toNat (List.getD l g (0 : UInt8)) → 128 ≤ c ∧ 1 ≤ w)) :
    (bif !bif bif decide ((65 : Int) ≤ (c : Int)) then decide ((c : Int) ≤ (90 : Int)) else false then true else bif decide ((97 : Int) ≤ (c : Int)) then decide ((c : Int) ≤ (122 : Int)) else false then bif (g : Int) == (0 : Int) then true else bif bif decide ((c : Int) < (48 : Int)) then true else decide ((57 : Int) < (c : Int)) then (c : Int) != (95 : Int) else false else false) = !nameAt l g := by
  unfold nameAt
  generalize UInt8.toNat (List.getD l g 0) = b at *
  have e0 : ((g : Int) == 0) = decide (g = 0) := by
    by_cases hg : g = 0 <;> simp [hg]
  have e95 : ((c : Int) != 95) = decide (c ≠ 95) := by
    by_cases hg : c = 95
    · subst hg; rfl
    · simp [hg]; omega
  rw [e0, e95]
  have key : ∀ (p1 p2 p3 p4 p5 p6 p7 p8 : Bool), (bif !bif bif p1 then p2 else false then true else bif p3 then p4 else false then bif p5 then true else bif bif p6 then true else p7 then p8 else false else false) = !((p1 && p2) || (p3 && p4) || (!p5 && ((!p6 && !p7) || !p8))) := by decide
  rw [key]
  congr 1
  have hb : (bne g 0) = !decide (g = 0) := by by_cases hg : g = 0 <;> simp [hg]
  rw [hb]
  by_cases hlt : b < 128
  · obtain ⟨rfl, _⟩ := h.1 hlt
    have f1 : decide ((65 : Int) ≤ (c : Int)) = decide (65 ≤ c) := decide_eq_decide.2 (by omega)
    have f2 : decide ((c : Int) ≤ 90) = decide (c ≤ 90) := decide_eq_decide.2 (by omega)
    have f3 : decide ((97 : Int) ≤ (c : Int)) = decide (97 ≤ c) := decide_eq_decide.2 (by omega)
    have f4 : decide ((c : Int) ≤ 122) = decide (c ≤ 122) := decide_eq_decide.2 (by omega)
    have f5 : (!decide ((c : Int) < 48)) = decide (48 ≤ c) := by rw [← decide_not]; exact decide_eq_decide.2 (by omega)
    have f6 : (!decide ((57 : Int) < (c : Int))) = decide (c ≤ 57) := by rw [← decide_not]; exact decide_eq_decide.2 (by omega)
    have f7 : (!decide (c ≠ 95)) = (c == 95) := by by_cases h95 : c = 95 <;> simp [h95]
    rw [f1, f2, f3, f4, f5, f6, f7]
  · obtain ⟨hc, _⟩ := h.2 (by omega)
    have f1 : decide ((c : Int) ≤ 90) = false := by simp; omega
    have f2 : decide ((c : Int) ≤ 122) = false := by simp; omega
    have f3 : decide ((57 : Int) < (c : Int)) = true := by simp; omega
    have f4 : decide (c ≠ 95) = true := by simp; omega
    have f5 : decide (b ≤ 90) = false := by simp; omega
    have f6 : decide (b ≤ 122) = false := by simp; omega
    have f7 : decide (b ≤ 57) = false := by simp; omega
    have f8 : (b == 95) = false := by simp; omega
    rw [f1, f2, f3, f4, f5, f6, f7, f8]
    simp

theorem fn121 (l : List UInt8) : Fn P1 gl1 121 [sV l] (.val (bV (isName l))) true := by
  refine Fn.flat ?_ rfl
  refine fn_of false [] [] h121 0 Proofs.Tryd.f121 trivial trivial (by kernel_rfl) rfl (by kernel_rfl) rfl rfl rfl ?_
  rw [vc121]
  try simp only [splitB_iff, -eq_self]
  refine ⟨⟨0, ⟨Nat.zero_le _, fun j hj => absurd hj (Nat.not_lt_zero _)⟩, rfl, ⟨rfl, rfl⟩, trivial⟩, fun g hg => ⟨fun hge => ⟨?_, trivial⟩, fun c w hc => ⟨fun h => ⟨?_, trivial⟩, fun h => ?_⟩⟩⟩
  · have e : g = l.length := by omega
    subst e
    rw [isName_of hg.2]
    show (bif l != [] then _ else _) = _
    cases l with
    | nil => rfl
    | cons a t =>
      have : ((((a :: t).length : Nat) : Int) ≤ 24) = ((a :: t).length ≤ 24) := by simp only [eq_iff_iff]; omega
      simp only [this]
      rfl
  · rw [rune_name hc.2] at h
    rw [isName_not hc.1 (by simpa using h)]
  · rw [rune_name hc.2] at h
    have hn : nameAt l g = true := by simpa using h
    have hw : w = 1 := by
      by_cases hlt : UInt8.toNat (List.getD l g 0) < 128
      · exact (hc.2.1 hlt).2
      · exfalso
        have h9 := hn
        unfold nameAt at h9
        generalize UInt8.toNat (List.getD l g 0) = b at *
        simp only [Bool.or_eq_true, Bool.and_eq_true, decide_eq_true_eq, beq_iff_eq] at h9
        omega
    subst hw
    refine ⟨g + 1, ⟨hc.1, fun j hj => ?_⟩, by omega, rfl, ⟨rfl, rfl⟩, trivial⟩
    rcases Nat.lt_succ_iff_lt_or_eq.1 hj with h1 | rfl
    · exact hg.2 j h1
    · exact hn

theorem fn127 (l : List UInt8) : Fn P1 gl1 127 [sV l] (.val (bV (plain l))) true := by
  refine Fn.flat ?_ rfl
  refine fn_of false [] [] h127 0 Proofs.Tryd.f127 trivial trivial (by kernel_rfl) rfl (by kernel_rfl) rfl rfl rfl ?_
  rw [vc127]
  try simp only [splitB_iff, -eq_self]
  refine ⟨⟨0, ⟨Nat.zero_le _, fun j hj => absurd hj (Nat.not_lt_zero _)⟩, rfl, ⟨rfl, rfl⟩, trivial⟩, fun g hg => ⟨fun hge => ⟨?_, trivial⟩, fun c w hc => ⟨fun h => ⟨?_, trivial⟩, fun h => ?_⟩⟩⟩
  · have e : g = l.length := by omega
    subst e
    symm
    unfold plain
    rw [List.all_eq_true]
    intro b hb
    obtain ⟨j, hj, rfl⟩ := List.mem_iff_getElem.1 hb
    have := hg.2 j hj
    rw [getD_of hj] at this
    simpa using this
  · have h' : 127 < c := by simp at h; omega
    symm
    unfold plain
    rw [List.all_eq_false]
    refine ⟨l[g], List.getElem_mem hc.1, ?_⟩
    rw [getD_of hc.1] at hc
    by_cases hlt : UInt8.toNat l[g] < 128
    · have := hc.2.1 hlt; omega
    · simp [hlt]
  · have h' : ¬ 127 < c := by simp at h; omega
    have hlt : UInt8.toNat (List.getD l g 0) < 128 := by
      by_cases hlt : UInt8.toNat (List.getD l g 0) < 128
      · exact hlt
      · have := hc.2.2 (by omega); omega
    obtain ⟨_, rfl⟩ := hc.2.1 hlt
    refine ⟨g + 1, ⟨hc.1, fun j hj => ?_⟩, by omega, rfl, ⟨rfl, rfl⟩, trivial⟩
    rcases Nat.lt_succ_iff_lt_or_eq.1 hj with h1 | rfl
    · exact hg.2 j h1
    · exact hlt

/-- Numbers of 16 bits. -/
def W16 (l : List Int) : Prop := ∀ x ∈ l, 0 ≤ x ∧ x ≤ 65535

theorem isum_bd {l : List Int} (h : W16 l) : 0 ≤ isum l ∧ isum l ≤ 65535 * l.length := by
  have key : ∀ (l : List Int) (x : Int), W16 l → 0 ≤ x → x ≤ l.foldl (· + ·) x ∧ l.foldl (· + ·) x ≤ x + 65535 * l.length := by
    intro l
    induction l with
    | nil => intro x _ _; simp
    | cons a l ih =>
      intro x h hx
      have ha := h a (by simp)
      have := ih (x + a) (fun y hy => h y (by simp [hy])) (by omega)
      simp only [List.foldl_cons, List.length_cons]
      omega
  have := key l 0 h (by omega)
  unfold isum
  omega

theorem isum_snoc (xs : List Int) (g : Nat) (h : g < xs.length) : isum (xs.take (g + 1)) = isum (xs.take g) + xs[g] := by
  unfold isum
  rw [List.take_succ_eq_append_getElem h, List.foldl_append]
  rfl

theorem W16.take {l : List Int} (h : W16 l) (n : Nat) : W16 (l.take n) := fun x hx => h x (List.mem_of_mem_take hx)

theorem fn74 (l : List Int) (hl : l.length ≤ 1000000) (h : W16 l) : Fn P1 gl1 74 [.one (.sl (.int .i64) l)] (.val (aV 5 (tlast l))) true := by
  refine Fn.flat ?_ rfl
  refine fn_of false [] [fb125] h74 1 Proofs.Tryd.f74 trivial ⟨⟨by kernel_rfl, by kernel_rfl, _, rfl, by kernel_rfl⟩, trivial⟩ (by kernel_rfl) rfl (by kernel_rfl) rfl rfl rfl ?_
  rw [vc74]
  try simp only [splitB_iff, -eq_self]
  refine ⟨⟨0, Nat.zero_le _, rfl, rfl, rfl, rfl, rfl, rfl, trivial⟩, fun g hg => ⟨fun hlt => ?_, fun hge => ?_⟩⟩
  · have hlt' : g < l.length := by simpa using hlt
    rw [getD_of hlt']
    have h1 := isum_bd (h.take g)
    have h2 := h _ (List.getElem_mem hlt')
    simp only [List.length_take] at h1
    refine ⟨by omega, by simp only [fits]; omega, by simp only [fits]; omega, g + 1, hlt', by omega, by simp, (isum_snoc l g hlt').symm, rfl, rfl, rfl, rfl, trivial⟩
  · have hge' : ¬ g < l.length := by simpa using hge
    rw [List.take_of_length_le (by omega)]
    have h1 := isum_bd h
    exact ⟨by omega, by decide, by decide, rfl, trivial⟩

theorem fn73 (i c : Int) (hi : 0 ≤ i ∧ i ≤ 1000000) (hc : 0 ≤ c ∧ c ≤ 1000000) : Fn P1 gl1 73 [iV i, iV c] (.val (aV 5 (tframe i c))) true := by
  refine Fn.flat ?_ rfl
  refine fn_of false [] [fb125] h0 1 Proofs.Tryd.f73 trivial ⟨⟨by kernel_rfl, by kernel_rfl, _, rfl, by kernel_rfl⟩, trivial⟩ (by kernel_rfl) rfl (by kernel_rfl) rfl rfl rfl ?_
  rw [vc73]
  try simp only [-eq_self]
  exact ⟨by simp only [fits]; omega, by simp only [fits]; omega, by simp only [fits]; omega, by simp only [fits]; omega, by omega, by decide, by decide, rfl, trivial⟩

theorem bor256 (x b : Int) (h0 : 0 ≤ x) (h1 : x * 256 + 255 ≤ 9223372036854775807) (hb : 0 ≤ b ∧ b ≤ 255) : bits .or .i64 (x * 256) b = 256 * x + b := by
  obtain ⟨n, rfl⟩ := Int.eq_ofNat_of_zero_le h0
  obtain ⟨m, rfl⟩ := Int.eq_ofNat_of_zero_le hb.1
  have hm : m < 256 := by omega
  show IntKind.wrap .i64 (((BitVec.ofInt 64 ((n : Int) * 256) ||| BitVec.ofInt 64 (m : Int)).toNat : Nat) : Int) = _
  have e1 : (BitVec.ofInt 64 ((n : Int) * 256) ||| BitVec.ofInt 64 (m : Int)).toNat = n * 256 + m := by
    rw [BitVec.toNat_or]
    have h2 : (BitVec.ofInt 64 ((n : Int) * 256)).toNat = n * 256 := by
      rw [BitVec.toNat_ofInt]; omega
    have h3 : (BitVec.ofInt 64 (m : Int)).toNat = m := by
      rw [BitVec.toNat_ofInt]; omega
    rw [h2, h3]
    have := Nat.two_pow_add_eq_or_of_lt (i := 8) (b := m) (by omega) n
    rw [show (2 : Nat) ^ 8 = 256 from rfl] at this
    rw [Nat.mul_comm n 256]
    exact this.symm
  rw [e1]
  have : IntKind.wrap .i64 ((n * 256 + m : Nat) : Int) = ((n * 256 + m : Nat) : Int) := fits_wrap (by simp only [fits]; omega)
  rw [this]
  omega

theorem number_bd : ∀ (n : Nat) (s : List Int), Bytes s → s.length ≤ n → 0 ≤ number s ∧ number s < 256 ^ n := by
  have key : ∀ (s : List Int) (x : Int) (n m : Nat), Bytes s → 0 ≤ x → x < 256 ^ m → s.length + m ≤ n → 0 ≤ s.foldl (fun x b => 256 * x + b) x ∧ s.foldl (fun x b => 256 * x + b) x < 256 ^ n := by
    intro s
    induction s with
    | nil =>
      intro x n m _ h0 h1 h2
      refine ⟨h0, Int.lt_of_lt_of_le h1 ?_⟩
      have e : ∀ k : Nat, (256 : Int) ^ k = ((256 ^ k : Nat) : Int) := fun k => by simp
      rw [e, e]
      exact Int.ofNat_le.2 (Nat.pow_le_pow_right (by decide) (by simpa using h2))
    | cons b s ih =>
      intro x n m hb h0 h1 h2
      have hb0 := hb b (by simp)
      refine ih (256 * x + b) n (m + 1) (fun y hy => hb y (by simp [hy])) (by omega) ?_ (by simp at h2; omega)
      rw [Int.pow_succ]
      omega
  intro n s hb hl
  exact key s 0 n 0 hb (by omega) (by decide) (by omega)

theorem number_snoc (xs : List Int) (g : Nat) (h : g < xs.length) : number (xs.take (g + 1)) = 256 * number (xs.take g) + xs[g] := by
  unfold number
  rw [List.take_succ_eq_append_getElem h, List.foldl_append]
  rfl

theorem fn128 (s : List Int) (hl : s.length ≤ 4) (hb : Bytes s) : Fn P1 gl1 128 [.one (.sl (.int .u8) s)] (.val (iV (number s))) true := by
  refine Fn.flat ?_ rfl
  refine fn_of false [] [] h128 0 Proofs.Tryd.f128 trivial trivial (by kernel_rfl) rfl (by kernel_rfl) rfl rfl rfl ?_
  rw [vc128]
  try simp only [splitB_iff, -eq_self]
  refine ⟨⟨0, Nat.zero_le _, rfl, rfl, rfl, rfl, trivial⟩, fun g hg => ⟨fun hlt => ?_, fun hge => ?_⟩⟩
  · have hlt' : g < s.length := by simpa using hlt
    rw [getD_of hlt']
    have h1 := number_bd 4 (s.take g) (fun y hy => hb y (List.mem_of_mem_take hy)) (by simp; omega)
    have h2 := hb _ (List.getElem_mem hlt')
    have e4 : (256 : Int) ^ 4 = 4294967296 := by decide
    rw [e4] at h1
    refine ⟨by omega, ⟨by decide, by decide, by simp only [fits]; omega⟩, by simp only [fits]; omega, by simp only [fits]; omega, g + 1, hlt', by omega, by simp, ?_, rfl, rfl, trivial⟩
    rw [bor256 _ _ h1.1 (by omega) h2, number_snoc s g hlt']
  · have hge' : ¬ g < s.length := by simpa using hge
    rw [List.take_of_length_le (by omega)]
    exact ⟨rfl, trivial⟩

theorem fn17 (xs ys : List Int) (hl : xs.length ≤ 1000000000) : Fn P1 gl1 17 [.one (.sl (.int .i64) xs), .one (.sl (.int .i64) ys)] (.val (bV (decide (xs = ys)))) true := by
  refine Fn.flat ?_ rfl
  refine fn_of false [] [] h17 0 Proofs.Tryd.f17 trivial trivial (by kernel_rfl) rfl (by kernel_rfl) rfl rfl rfl ?_
  rw [vc17]
  try simp only [splitB_iff, -eq_self]
  refine ⟨fun h => ⟨?_, trivial⟩, fun h => ⟨⟨0, ⟨Nat.zero_le _, rfl⟩, rfl, rfl, rfl, trivial⟩, fun g hg => ⟨fun hlt => ?_, fun hge => ⟨?_, trivial⟩⟩⟩⟩
  · symm
    rw [decide_eq_false_iff_not]
    rintro rfl
    simp at h
  · have hlt' : g < xs.length := by simpa using hlt
    have he : xs.length = ys.length := by simp at h; omega
    have hlt2 : g < ys.length := by omega
    rw [getD_of hlt', getD_of hlt2]
    refine ⟨by omega, by omega, fun h => ⟨?_, trivial⟩, fun h => ⟨by simp only [fits]; omega, g + 1, ⟨hlt', ?_⟩, by omega, by simp, rfl, rfl, trivial⟩⟩
    · symm
      rw [decide_eq_false_iff_not]
      rintro rfl
      simp at h
    · rw [List.take_succ_eq_append_getElem hlt', List.take_succ_eq_append_getElem hlt2, hg.2]
      simp at h
      rw [h]
  · have he : xs.length = ys.length := by simp at h; omega
    have hge' : ¬ g < xs.length := by simpa using hge
    have := hg.2
    rw [List.take_of_length_le (by omega), List.take_of_length_le (by omega)] at this
    simp [this]
end Go.Sx

/- Contracts as the engine uses them: tape. -/
namespace Go.Sx.U
def four (f : Int) : List Int := [f / 16777216 % 256, f / 65536 % 256, f / 256 % 256, f % 256]
def head (nm : List UInt8) (f : Int) : List Int := [82, 69, 69, 76] ++ [(nm.length : Int) % 256] ++ strNs nm ++ four f
/-- The records of the frames ahead of an index. -/
def recs (l : List Int) : Nat → List Int
  | 0 => []
  | i + 1 => recs l i ++ tframe i (l.getD i 0)
def stream (nm : List UInt8) (f : Int) (l : List Int) : List Int := head nm f ++ recs l l.length ++ tlast l
end Go.Sx.U
namespace Go.Sx
open U
@[reducible] def rV (nm : List UInt8) (f : Int) (l : List Int) : V := .agg [.one (.str nm), .one (.int .i64 f), .one (.sl (.int .i64) l)]
def sp79 : FSpec := ⟨fun vs => match vs with
  | [.one (.bool b), .one (.int .i64 e)] => some ([], .val (iV (whenE b e)))
  | _ => none, true⟩
def sp122 : FSpec := ⟨fun vs => match vs with
  | [.one (.int .i64 n), .one (.int .i64 lo), .one (.int .i64 hi)] => some ([], .val (iV (within n lo hi)))
  | _ => none, true⟩
def sp78 : FSpec := ⟨fun vs => match vs with
  | [.one (.sl (.int .i64) xs)] => some ([List.length xs ≤ 1000000000], .val (iV (first xs)))
  | _ => none, true⟩
def sp121 : FSpec := ⟨fun vs => match vs with
  | [.one (.str l)] => some ([], .val (bV (isName l)))
  | _ => none, true⟩
def sp127 : FSpec := ⟨fun vs => match vs with
  | [.one (.str l)] => some ([], .val (bV (plain l)))
  | _ => none, true⟩
def sp73 : FSpec := ⟨fun vs => match vs with
  | [.one (.int .i64 i), .one (.int .i64 c)] => some ([(0 ≤ i ∧ i ≤ 1000000) ∧ (0 ≤ c ∧ c ≤ 1000000)], .val (aV 5 (tframe i c)))
  | _ => none, true⟩
def sp74 : FSpec := ⟨fun vs => match vs with
  | [.one (.sl (.int .i64) l)] => some ([List.length l ≤ 1000000 ∧ W16 l], .val (aV 5 (tlast l)))
  | _ => none, true⟩
def sp128 : FSpec := ⟨fun vs => match vs with
  | [.one (.sl (.int .u8) s)] => some ([List.length s ≤ 4 ∧ Bytes s], .val (iV (number s)))
  | _ => none, true⟩
def sp17 : FSpec := ⟨fun vs => match vs with
  | [.one (.sl (.int .i64) xs), .one (.sl (.int .i64) ys)] => some ([List.length xs ≤ 1000000000], .val (bV (decide (xs = ys))))
  | _ => none, true⟩
theorem so79_ : SpecOk P1 gl1 79 sp79 := by
  intro vs ps r h _
  simp only [sp79] at h
  split at h
  · cases h; exact fn79 _ _
  · cases h
theorem so79 : Sp1 79 sp79 := ⟨so79_, Proofs.Tryd.f79, _, by kernel_rfl, rfl, by kernel_rfl⟩
theorem so122_ : SpecOk P1 gl1 122 sp122 := by
  intro vs ps r h _
  simp only [sp122] at h
  split at h
  · cases h; exact fn122 _ _ _
  · cases h
theorem so122 : Sp1 122 sp122 := ⟨so122_, Proofs.Tryd.f122, _, by kernel_rfl, rfl, by kernel_rfl⟩
theorem so78_ : SpecOk P1 gl1 78 sp78 := by
  intro vs ps r h hp
  simp only [sp78] at h
  split at h
  · cases h; exact fn78 _ (hp _ (List.mem_singleton.2 rfl))
  · cases h
theorem so78 : Sp1 78 sp78 := ⟨so78_, Proofs.Tryd.f78, _, by kernel_rfl, rfl, by kernel_rfl⟩
theorem so121_ : SpecOk P1 gl1 121 sp121 := by
  intro vs ps r h _
  simp only [sp121] at h
  split at h
  · cases h; exact fn121 _
  · cases h
theorem so121 : Sp1 121 sp121 := ⟨so121_, Proofs.Tryd.f121, _, by kernel_rfl, rfl, by kernel_rfl⟩
theorem so127_ : SpecOk P1 gl1 127 sp127 := by
  intro vs ps r h _
  simp only [sp127] at h
  split at h
  · cases h; exact fn127 _
  · cases h
theorem so127 : Sp1 127 sp127 := ⟨so127_, Proofs.Tryd.f127, _, by kernel_rfl, rfl, by kernel_rfl⟩
theorem so73_ : SpecOk P1 gl1 73 sp73 := by
  intro vs ps r h hp
  simp only [sp73] at h
  split at h
  · cases h
    have := hp _ (List.mem_singleton.2 rfl)
    exact fn73 _ _ this.1 this.2
  · cases h
theorem so73 : Sp1 73 sp73 := ⟨so73_, Proofs.Tryd.f73, _, by kernel_rfl, rfl, by kernel_rfl⟩
theorem so74_ : SpecOk P1 gl1 74 sp74 := by
  intro vs ps r h hp
  simp only [sp74] at h
  split at h
  · cases h
    have := hp _ (List.mem_singleton.2 rfl)
    exact fn74 _ this.1 this.2
  · cases h
theorem so74 : Sp1 74 sp74 := ⟨so74_, Proofs.Tryd.f74, _, by kernel_rfl, rfl, by kernel_rfl⟩
theorem so128_ : SpecOk P1 gl1 128 sp128 := by
  intro vs ps r h hp
  simp only [sp128] at h
  split at h
  · cases h
    have := hp _ (List.mem_singleton.2 rfl)
    exact fn128 _ this.1 this.2
  · cases h
theorem so128 : Sp1 128 sp128 := ⟨so128_, Proofs.Tryd.f128, _, by kernel_rfl, rfl, by kernel_rfl⟩
theorem so17_ : SpecOk P1 gl1 17 sp17 := by
  intro vs ps r h hp
  simp only [sp17] at h
  split at h
  · cases h
    exact fn17 _ _ (hp _ (List.mem_singleton.2 rfl))
  · cases h
theorem so17 : Sp1 17 sp17 := ⟨so17_, Proofs.Tryd.f17, _, by kernel_rfl, rfl, by kernel_rfl⟩
@[reducible] noncomputable def fb77 : Nat × Func := (77, Proofs.Tryd.f77)
@[reducible] noncomputable def fb72 : Nat × Func := (72, Proofs.Tryd.f72)
@[reducible] noncomputable def fb123 : Nat × Func := (123, Proofs.Tryd.f123)
end Go.Sx

/- What the engine asks, written out (printed by a program). -/
namespace Go.Sx
open U
theorem vc71 (nm : List UInt8) (f : Int) (l : List Int) : exF (env false [(79, sp79), (122, sp122), (78, sp78), (121, sp121)] [fb77, fb123, fb124]) h123 3 71 Proofs.Tryd.f71 [rV nm f l] (.val (iV (U.checkReel nm f l))) = (let q0 := (↑(List.length l) : Int); let q1 := (decide ((256 : Int) < q0)); let q2 := (10000000 : Int); let q3 := (q0 == (0 : Int)); (4 : Nat) ≤ (1000000000 : Nat) ∧ splitB (first [whenE (!isName nm) (8 : Int), within f (0 : Int) q2, whenE q3 (12 : Int), whenE q1 (5 : Int)] != (0 : Int)) (first [whenE (!isName nm) (8 : Int), within f (0 : Int) q2, whenE q3 (12 : Int), whenE q1 (5 : Int)] = checkReel nm f l ∧ True) ((∃ (g : Nat), Nat.le g (List.length l) ∧ (0 : Int) = (↑g : Int) ∧ q0 = q0 ∧ l = l ∧ List.map (fun (n : Int) => within n (0 : Int) (65535 : Int)) (List.take g l) = [] ∧ [whenE (!isName nm) (8 : Int), within f (0 : Int) q2, whenE q3 (12 : Int), whenE q1 (5 : Int)] = [whenE (!isName nm) (8 : Int), within f (0 : Int) q2, whenE q3 (12 : Int), whenE q1 (5 : Int)] ∧ nm = nm ∧ f = f ∧ l = l ∧ True) ∧ ∀ (g : Nat), let q4 := (List.take g l); Nat.le g (List.length l) → splitB (decide ((↑g : Int) < q0)) (((0 : Int) ≤ (↑g : Int) ∧ (↑g : Int) < q0) ∧ room (List.length (List.map (fun (n : Int) => within n (0 : Int) (65535 : Int)) q4) + (1 : Nat)) (8 : Nat) ∧ fits IntKind.i64 ((↑g : Int) + (1 : Int)) ∧ ∃ (g' : Nat), Nat.le g' (List.length l) ∧ List.length l - g' < List.length l - g ∧ (↑g : Int) + (1 : Int) = (↑g' : Int) ∧ q0 = q0 ∧ l = l ∧ List.map (fun (n : Int) => within n (0 : Int) (65535 : Int)) q4 ++ [within (List.getD l g (0 : Int)) (0 : Int) (65535 : Int)] = List.map (fun (n : Int) => within n (0 : Int) (65535 : Int)) (List.take g' l) ∧ [whenE (!isName nm) (8 : Int), within f (0 : Int) q2, whenE q3 (12 : Int), whenE q1 (5 : Int)] = [whenE (!isName nm) (8 : Int), within f (0 : Int) q2, whenE q3 (12 : Int), whenE q1 (5 : Int)] ∧ nm = nm ∧ f = f ∧ l = l ∧ True) (List.length (List.map (fun (n : Int) => within n (0 : Int) (65535 : Int)) q4) ≤ (1000000000 : Nat) ∧ splitB (first (List.map (fun (n : Int) => within n (0 : Int) (65535 : Int)) q4) != (0 : Int)) (first (List.map (fun (n : Int) => within n (0 : Int) (65535 : Int)) q4) = checkReel nm f l ∧ True) (fits IntKind.i64 (f + q0) ∧ whenE (decide (q2 < f + q0)) (4 : Int) = checkReel nm f l ∧ True)))) := by
  kernel_rfl
end Go.Sx

/- Contracts: CheckReel. -/
namespace Go.Sx
open U

theorem first_zero_iff : ∀ (l : List Int), first l = 0 ↔ ∀ x ∈ l, x = 0
  | [] => by simp [first]
  | x :: r => by
    have := first_zero_iff r
    by_cases h : x = 0 <;> simp [first, h, this]

theorem len_beq (l : List Int) : ((l.length : Int) == 0) = decide (l.length = 0) := by
  by_cases h : l.length = 0
  · simp [h]
  · simp only [h, decide_false]
    simp
    intro e
    simp [e] at h

theorem len_256 (l : List Int) : decide ((256 : Int) < (l.length : Int)) = decide (256 < l.length) := decide_eq_decide.2 (by omega)

theorem within_zero {n lo hi : Int} : within n lo hi = 0 ↔ lo ≤ n ∧ n ≤ hi := by
  unfold within
  split <;> constructor <;> intro h <;> first | omega | rfl

theorem whenE_zero {b : Bool} {e : Int} (he : e ≠ 0) : whenE b e = 0 ↔ b = false := by
  cases b <;> simp [whenE, he]

theorem fn71 (nm : List UInt8) (f : Int) (l : List Int) (hl : l.length ≤ 1000000) : Fn P1 gl1 71 [rV nm f l] (.val (iV (checkReel nm f l))) true := by
  refine Fn.flat ?_ rfl
  refine fn_of false [(79, sp79), (122, sp122), (78, sp78), (121, sp121)] [fb77, fb123, fb124] h123 3 Proofs.Tryd.f71 ⟨so79, so122, so78, so121, trivial⟩
    ⟨⟨by kernel_rfl, by kernel_rfl, _, rfl, by kernel_rfl⟩, ⟨by kernel_rfl, by kernel_rfl, _, rfl, by kernel_rfl⟩, ⟨by kernel_rfl, by kernel_rfl, _, rfl, by kernel_rfl⟩, trivial⟩ (by kernel_rfl) rfl (by kernel_rfl) rfl rfl rfl ?_
  rw [vc71]
  try simp only [splitB_iff, -eq_self]
  rw [len_beq, len_256]
  refine ⟨by decide, fun h => ?_, fun h => ?_⟩
  · have h' := h
    simp only [bne_iff_ne, ne_eq] at h'
    unfold checkReel
    rw [if_neg h']
    exact ⟨rfl, trivial⟩
  · have h' := h
    simp only [bne_eq_false_iff_eq] at h'
    refine ⟨⟨0, Nat.zero_le _, rfl, rfl, rfl, rfl, rfl, rfl, rfl, rfl, trivial⟩, fun g hg => ⟨fun hlt => ?_, fun hge => ?_⟩⟩
    · have hlt' : g < l.length := by simpa using hlt
      refine ⟨by omega, by simp only [room, List.length_map, List.length_take]; omega, by simp only [fits]; omega, g + 1, hlt', by omega, by simp, rfl, rfl, ?_, rfl, rfl, rfl, rfl, trivial⟩
      rw [getD_of hlt', List.take_succ_eq_append_getElem hlt', List.map_append]
      rfl
    · have hge' : ¬ g < l.length := by simpa using hge
      rw [List.take_of_length_le (by omega)]
      unfold checkReel
      rw [if_pos h']
      have hz := (first_zero_iff _).1 h'
      have hf := within_zero.1 (hz (within f 0 10000000) (by simp))
      refine ⟨by simp only [List.length_map]; omega, fun h2 => ?_, fun h2 => ?_⟩
      · have h2' : ¬ first (wf16 l) = 0 := by simpa [wf16] using h2
        rw [if_neg h2']
        exact ⟨rfl, trivial⟩
      · have h2' : first (wf16 l) = 0 := by simpa [wf16] using h2
        rw [if_pos h2']
        exact ⟨by simp only [fits]; omega, rfl, trivial⟩
def sp71 : FSpec := ⟨fun vs => match vs with
  | [.agg [.one (.str nm), .one (.int .i64 f), .one (.sl (.int .i64) l)]] => some ([List.length l ≤ 1000000], .val (iV (checkReel nm f l)))
  | _ => none, true⟩
theorem so71_ : SpecOk P1 gl1 71 sp71 := by
  intro vs ps r h hp
  simp only [sp71] at h
  split at h
  · cases h
    exact fn71 _ _ _ (hp _ (List.mem_singleton.2 rfl))
  · cases h
theorem so71 : Sp1 71 sp71 := ⟨so71_, Proofs.Tryd.f71, _, by kernel_rfl, rfl, by kernel_rfl⟩
/-- A reel as it is checked. -/
structure ReelOk (nm : List UInt8) (f : Int) (l : List Int) : Prop where
  name : isName nm = true
  start : 0 ≤ f ∧ f ≤ 10000000
  ne : l.length ≠ 0
  len : l.length ≤ 256
  w : W16 l
  fin : f + (l.length : Int) ≤ 10000000
theorem checkReel_zero {nm : List UInt8} {f : Int} {l : List Int} : checkReel nm f l = 0 ↔ ReelOk nm f l := by
  unfold checkReel
  constructor
  · intro h
    split at h
    · rename_i h1
      split at h
      · rename_i h2
        have hz := (first_zero_iff _).1 h1
        have hw := (first_zero_iff _).1 h2
        refine ⟨by simpa using (whenE_zero (e := 8) (by decide)).1 (hz (whenE (!isName nm) 8) (by simp)), within_zero.1 (hz (within f 0 10000000) (by simp)), ?_, ?_, fun x hx => ?_, ?_⟩
        · simpa using (whenE_zero (e := 12) (by decide)).1 (hz (whenE (decide (l.length = 0)) 12) (by simp))
        · simpa using (whenE_zero (e := 5) (by decide)).1 (hz (whenE (decide (256 < l.length)) 5) (by simp))
        · exact within_zero.1 (hw _ (List.mem_map.2 ⟨x, hx, rfl⟩))
        · simpa using (whenE_zero (e := 4) (by decide)).1 h
      · rename_i h2; exact absurd h h2
    · rename_i h1; exact absurd h h1
  · rintro ⟨h1, h2, h3, h4, h5, h6⟩
    have e1 : whenE (!isName nm) 8 = 0 := by rw [h1]; rfl
    have e2 : within f 0 10000000 = 0 := within_zero.2 h2
    have e3 : whenE (decide (l.length = 0)) 12 = 0 := by rw [decide_eq_false h3]; rfl
    have e4 : whenE (decide (256 < l.length)) 5 = 0 := by rw [decide_eq_false (by omega)]; rfl
    have e5 : first (wf16 l) = 0 := (first_zero_iff _).2 fun x hx => by
      obtain ⟨y, hy, rfl⟩ := List.mem_map.1 hx
      exact within_zero.2 (h5 y hy)
    have e6 : whenE (decide (10000000 < f + (l.length : Int))) 4 = 0 := by rw [decide_eq_false (by omega)]; rfl
    rw [e1, e2, e3, e4, e5, e6]
    rfl
/-- The loop that writes the frames' records. -/
def h21 : Hints := ⟨fun f k s => match f, k with
  | 21, 9 => match listAs s 47 (.int .i64), listAs s 5 (.int .u8) with
    | some xs, some out => some ⟨Nat, fun i => ⟨[tI 49 i, (5, .val (.one (.own s.nx)))] ++ keepT [1, 47, 48] s.tm, (s.nx, some (.row (.int .u8) (out ++ recs xs i))) :: lessO s [5], s.nx + 1, s.lr⟩, fun i => i ≤ List.length xs, fun i => List.length xs - i⟩
    | _, _ => none
  | _, _ => none, 0⟩
end Go.Sx

/- What the engine asks, written out (printed by a program). -/
namespace Go.Sx
open U
theorem vc77 (nm : List UInt8) (f : Int) (l : List Int) : exF (env false [] []) h0 0 77 Proofs.Tryd.f77 [rV nm f l] (.val (iV (f + (l.length : Int)))) = (fits IntKind.i64 (f + (↑(List.length l) : Int)) ∧ f + (↑(List.length l) : Int) = f + (↑(List.length l) : Int) ∧ True) := by
  kernel_rfl
end Go.Sx

/- Contracts: the end of a reel. -/
namespace Go.Sx
open U
theorem fn77 (nm : List UInt8) (f : Int) (l : List Int) (h : fits .i64 (f + (l.length : Int))) : Fn P1 gl1 77 [rV nm f l] (.val (iV (f + (l.length : Int)))) true := by
  refine Fn.flat ?_ rfl
  refine fn_of false [] [] h0 0 Proofs.Tryd.f77 trivial trivial (by kernel_rfl) rfl (by kernel_rfl) rfl rfl rfl ?_
  rw [vc77]
  exact ⟨h, rfl, trivial⟩
def sp77 : FSpec := ⟨fun vs => match vs with
  | [.agg [.one (.str _), .one (.int .i64 f), .one (.sl (.int .i64) l)]] => some ([fits .i64 (f + (List.length l : Int))], .val (iV (f + (List.length l : Int))))
  | _ => none, true⟩
theorem so77_ : SpecOk P1 gl1 77 sp77 := by
  intro vs ps r h hp
  simp only [sp77] at h
  split at h
  · cases h
    exact fn77 _ _ _ (hp _ (List.mem_singleton.2 rfl))
  · cases h
theorem so77 : Sp1 77 sp77 := ⟨so77_, Proofs.Tryd.f77, _, by kernel_rfl, rfl, by kernel_rfl⟩
end Go.Sx
