/- A verified symbolic run of functions, part 19: lemmas, no claim of their own. -/
import Derived.Test.YtpfngnmgipnmlaaDoorS18
import Derived.OpenShut
import Derived.ProofKit
import Derived.Carry
import Derived.OpenVars
import Derived.Lib.LaidTab
import Derived.ChangeSame
import Derived.WalkKit
import Derived.Deep.DeepHandedRow
/- The plain law: streams of reels. -/
namespace Go.Sx
open U

theorem rdRec_frame {l t : List Int} {c : Int} (hl : l.length < 256) (hc : 0 ≤ c ∧ c ≤ 65535) : rdRec (tframe l.length c ++ t) l = (0, false, c) := by
  have hn : number (((tframe l.length c ++ t).drop 1).take 2) = c := by
    show 256 * (256 * 0 + c / 256 % 256) + c % 256 = c
    omega
  have h0 : (tframe l.length c ++ t).getD 0 0 = 70 := rfl
  have he : recErr ((tframe l.length c ++ t).getD 0 0) l.length = 0 := by
    rw [h0]
    have : (((l.length : Nat) : Int) == 256) = false := by simp; omega
    unfold recErr
    rw [this]
    rfl
  rw [rdRec_full he (by simp [tframe_len]), hn, h0]
  have ht : List.take 5 (tframe l.length c ++ t) = tframe l.length c := rfl
  rw [ht]
  rw [if_neg (by decide)]
  simp [whenE]

theorem rdRec_last {l t : List Int} (hl : l.length ≤ 256) : rdRec (tlast l ++ t) l = (0, true, (l.length : Int)) := by
  have hn : number (((tlast l ++ t).drop 1).take 2) = l.length := by
    show 256 * (256 * 0 + (l.length : Int) / 256 % 256) + (l.length : Int) % 256 = l.length
    omega
  have h0 : (tlast l ++ t).getD 0 0 = 69 := rfl
  have he : recErr ((tlast l ++ t).getD 0 0) l.length = 0 := by rw [h0]; rfl
  rw [rdRec_full he (by simp [tlast_len]), hn, h0]
  have ht : List.take 5 (tlast l ++ t) = tlast l := rfl
  rw [ht, if_pos (by decide)]
  simp [whenE]

theorem rdRec_part {l t : List Int} (hl : t.length = 0 ∨ l.length < 256 ∨ t.getD 0 0 = 69) (ht : t.length < 5) (h0 : t.length = 0 ∨ t.getD 0 0 = 69 ∨ t.getD 0 0 = 70) : rdRec t l = (28, false, 0) := by
  by_cases h1 : t.length < 1
  · exact rdRec_none h1
  · refine rdRec_torn h1 ?_ ht
    rcases h0 with h0 | h0 | h0
    · omega
    · rw [h0]; rfl
    · rw [h0] at hl ⊢
      have hl' : l.length < 256 := by
        rcases hl with h | h | h
        · omega
        · exact h
        · cases h
      have : (((l.length : Nat) : Int) == 256) = false := by simp; omega
      unfold recErr
      rw [this]
      rfl

/-- Some frames' records. -/
def recsF (l : List Int) : Nat → Nat → List Int
  | _, 0 => []
  | i, k + 1 => tframe i (l.getD i 0) ++ recsF l (i + 1) k

theorem recs_recsF (l : List Int) : ∀ k i, recs l i ++ recsF l i k = recs l (i + k)
  | 0, i => by simp [recsF]
  | k + 1, i => by
    have := recs_recsF l k (i + 1)
    rw [show i + (k + 1) = (i + 1) + k by omega, ← this]
    simp [recsF, recs]

theorem recsF_len (l : List Int) : ∀ k i, (recsF l i k).length = 5 * k
  | 0, _ => rfl
  | k + 1, i => by simp only [recsF, List.length_append, recsF_len l k, tframe_len]; omega

theorem take_succ' {l : List Int} {i : Nat} (h : i < l.length) : l.take i ++ [l.getD i 0] = l.take (i + 1) := by
  rw [getD_of h, List.take_succ_eq_append_getElem h]

theorem rdAll_recs {l : List Int} (hw : W16 l) (h256 : l.length ≤ 256) (t : List Int) (m : Nat) : ∀ k i, i + k ≤ l.length → rdAll (m + k) (recsF l i k ++ t) (l.take i) = rdAll m t (l.take (i + k))
  | 0, i, _ => rfl
  | k + 1, i, h => by
    have hi : i < l.length := by omega
    have hlen : (l.take i).length = i := by rw [List.length_take]; omega
    have hc := hw _ (List.getElem_mem hi)
    have hr := rdRec_frame (l := l.take i) (t := recsF l (i + 1) k ++ t) (c := l.getD i 0) (by omega) (by rw [getD_of hi]; exact hc)
    rw [hlen] at hr
    have e : recsF l i (k + 1) ++ t = tframe i (l.getD i 0) ++ (recsF l (i + 1) k ++ t) := by simp [recsF]
    rw [e, show m + (k + 1) = (m + k) + 1 by omega, rdAll_more (by rw [hr]) (by rw [hr]), hr]
    have hd : List.drop 5 (tframe i (l.getD i 0) ++ (recsF l (i + 1) k ++ t)) = recsF l (i + 1) k ++ t := rfl
    rw [hd]
    simp only []
    rw [take_succ' hi, rdAll_recs hw h256 t m k (i + 1) (by omega)]
    congr 1
    congr 1
    omega

theorem rbAll_recs {f : Int} {l : List Int} (hw : W16 l) (h256 : l.length ≤ 256) (hf : f + (l.length : Int) ≤ 10000000) (t : List Int) (m : Nat) : ∀ k i, i + k ≤ l.length → rbAll f (m + k) (recsF l i k ++ t) (l.take i) = rbAll f m t (l.take (i + k))
  | 0, i, _ => rfl
  | k + 1, i, h => by
    have hi : i < l.length := by omega
    have hlen : (l.take i).length = i := by rw [List.length_take]; omega
    have hc := hw _ (List.getElem_mem hi)
    have hr := rdRec_frame (l := l.take i) (t := recsF l (i + 1) k ++ t) (c := l.getD i 0) (by omega) (by rw [getD_of hi]; exact hc)
    rw [hlen] at hr
    have e : recsF l i (k + 1) ++ t = tframe i (l.getD i 0) ++ (recsF l (i + 1) k ++ t) := by simp [recsF]
    rw [e, show m + (k + 1) = (m + k) + 1 by omega, rbAll_more (by rw [hr]; exact ⟨rfl, rfl, by rw [hlen]; omega⟩), hr]
    have hd : List.drop 5 (tframe i (l.getD i 0) ++ (recsF l (i + 1) k ++ t)) = recsF l (i + 1) k ++ t := rfl
    rw [hd]
    simp only []
    rw [take_succ' hi, rbAll_recs hw h256 hf t m k (i + 1) (by omega)]
    congr 1
    congr 1
    omega

theorem begin_day {f : Int} (hf : 0 ≤ f ∧ f ≤ 10000000) (r : List Int) : rdBegin (head day f ++ r) = (0, day, f, r) := by
  have e : head day f ++ r = [82, 69, 69, 76, 3, 100, 97, 121, f / 16777216 % 256, f / 65536 % 256, f / 256 % 256, f % 256] ++ r := rfl
  have hnum : number [f / 16777216 % 256, f / 65536 % 256, f / 256 % 256, f % 256] = f := by
    show 256 * (256 * (256 * (256 * 0 + f / 16777216 % 256) + f / 65536 % 256) + f / 256 % 256) + f % 256 = f
    omega
  rw [e]
  unfold rdBegin
  have h1 : ¬ ([82, 69, 69, 76, 3, 100, 97, 121, f / 16777216 % 256, f / 65536 % 256, f / 256 % 256, f % 256] ++ r).length < 4 := by simp
  have d4 : List.drop 4 ([82, 69, 69, 76, 3, 100, 97, 121, f / 16777216 % 256, f / 65536 % 256, f / 256 % 256, f % 256] ++ r) = [3, 100, 97, 121, f / 16777216 % 256, f / 65536 % 256, f / 256 % 256, f % 256] ++ r := rfl
  have t4 : List.take 4 ([82, 69, 69, 76, 3, 100, 97, 121, f / 16777216 % 256, f / 65536 % 256, f / 256 % 256, f % 256] ++ r) = [82, 69, 69, 76] := rfl
  rw [if_neg h1, d4, t4, if_pos rfl]
  have g0 : (([3, 100, 97, 121, f / 16777216 % 256, f / 65536 % 256, f / 256 % 256, f % 256] ++ r).getD 0 0).toNat = 3 := rfl
  have d1 : List.drop 1 ([3, 100, 97, 121, f / 16777216 % 256, f / 65536 % 256, f / 256 % 256, f % 256] ++ r) = [100, 97, 121, f / 16777216 % 256, f / 65536 % 256, f / 256 % 256, f % 256] ++ r := rfl
  rw [g0, d1]
  have t3 : List.take 3 ([100, 97, 121, f / 16777216 % 256, f / 65536 % 256, f / 256 % 256, f % 256] ++ r) = [100, 97, 121] := rfl
  have d3' : List.drop 3 ([100, 97, 121, f / 16777216 % 256, f / 65536 % 256, f / 256 % 256, f % 256] ++ r) = [f / 16777216 % 256, f / 65536 % 256, f / 256 % 256, f % 256] ++ r := rfl
  rw [t3, d3']
  have t5 : List.take 4 ([f / 16777216 % 256, f / 65536 % 256, f / 256 % 256, f % 256] ++ r) = [f / 16777216 % 256, f / 65536 % 256, f / 256 % 256, f % 256] := rfl
  have d5 : List.drop 4 ([f / 16777216 % 256, f / 65536 % 256, f / 256 % 256, f % 256] ++ r) = r := rfl
  rw [t5, d5, hnum, if_neg (by simp), if_neg (by simp), if_pos (by decide), if_neg (by simp), decide_eq_false (by omega)]
  rfl

/-- What is left of a record that is cut off. -/
theorem tail_head {l : List Int} {k n q : Nat} (hn : k + n = l.length) : ((recsF l k n ++ tlast l).take q).length = 0 ∨ ((recsF l k n ++ tlast l).take q).getD 0 0 = 69 ∧ n = 0 ∨ ((recsF l k n ++ tlast l).take q).getD 0 0 = 70 ∧ n ≠ 0 := by
  cases q with
  | zero => exact .inl rfl
  | succ q =>
    cases n with
    | zero => exact .inr (.inl ⟨rfl, rfl⟩)
    | succ n => exact .inr (.inr ⟨rfl, by omega⟩)

section
variable {f : Int} {l : List Int} (h : ReelOk day f l)
include h

omit h in
theorem cut_eq (k q : Nat) (hk : k ≤ l.length) : (stream day f l).take (12 + 5 * k + q) = head day f ++ (recsF l 0 k ++ (recsF l k (l.length - k) ++ tlast l).take q) := by
  have e1 : recs l l.length = recsF l 0 k ++ recsF l k (l.length - k) := by
    have a := recs_recsF l k 0
    have b := recs_recsF l (l.length - k) k
    rw [show k + (l.length - k) = l.length by omega] at b
    rw [← b]
    have : recs l k = recsF l 0 k := by rw [Nat.zero_add] at a; rw [← a]; rfl
    rw [this]
  have e2 : stream day f l = (head day f ++ recsF l 0 k) ++ (recsF l k (l.length - k) ++ tlast l) := by
    unfold stream
    rw [e1]
    simp only [List.append_assoc]
  have hl : (head day f ++ recsF l 0 k).length = 12 + 5 * k := by rw [List.length_append, recsF_len]; rfl
  rw [e2, List.take_append, List.take_of_length_le (by omega), hl, show 12 + 5 * k + q - (12 + 5 * k) = q by omega, List.append_assoc]

omit h in
theorem cut_len (k q : Nat) (hk : k ≤ l.length) (hq : q < 5) : ((stream day f l).take (12 + 5 * k + q)).length = 12 + 5 * k + q := by
  rw [cut_eq k q hk]
  simp only [List.length_append, recsF_len, List.length_take, tlast_len]
  have : (head day f).length = 12 := rfl
  omega

theorem tail_rec (k q : Nat) (hk : k ≤ l.length) (hq : q < 5) : rdRec ((recsF l k (l.length - k) ++ tlast l).take q) (l.take k) = (28, false, 0) := by
  have ht := tail_head (l := l) (k := k) (n := l.length - k) (q := q) (by omega)
  have hlt : (l.take k).length = k := by rw [List.length_take]; omega
  have h2 := h.len
  refine rdRec_part ?_ (by rw [List.length_take]; omega) ?_
  · rcases ht with ht | ht | ht
    · exact .inl ht
    · exact .inr (.inr ht.1)
    · exact .inr (.inl (by omega))
  · rcases ht with ht | ht | ht
    · exact .inl ht
    · exact .inr (.inl ht.1)
    · exact .inr (.inr ht.1)

theorem read_cut (k q : Nat) (hk : k ≤ l.length) (hq : q < 5) : readS ((stream day f l).take (12 + 5 * k + q)) = (([], 0, []), 28) := by
  have hlen := cut_len (f := f) k q hk hq
  rw [cut_eq k q hk] at *
  have hb := begin_day h.start (recsF l 0 k ++ (recsF l k (l.length - k) ++ tlast l).take q)
  refine readS_err hb (l := l.take k) (q := (recsF l k (l.length - k) ++ tlast l).take q) ?_ (by decide)
  rw [hlen, show 12 + 5 * k + q + 1 = (12 + 4 * k + q + 1) + k by omega]
  have := rdAll_recs h.w h.len ((recsF l k (l.length - k) ++ tlast l).take q) (12 + 4 * k + q + 1) k 0 (by omega)
  rw [Nat.zero_add, List.take_zero] at this
  rw [this]
  have hp := tail_rec h k q hk hq
  rw [rdAll_stop (by rw [hp]; decide), hp]

theorem rebuilt_cut (k q : Nat) (h1 : 1 ≤ k) (hk : k ≤ l.length) (hq : q < 5) : rebuilt ((stream day f l).take (12 + 5 * k + q)) = ((day, f, l.take k), false, 0) := by
  have hlen := cut_len (f := f) k q hk hq
  have hrd := read_cut h k q hk hq
  rw [cut_eq k q hk] at *
  have hb := begin_day h.start (recsF l 0 k ++ (recsF l k (l.length - k) ++ tlast l).take q)
  have hlt : (l.take k).length = k := by rw [List.length_take]; omega
  have hx := rebuilt_some hb (l := l.take k) ?_ (by omega)
  · rw [hx, hrd]; rfl
  rw [hlen, show 12 + 5 * k + q + 1 = (12 + 4 * k + q + 1) + k by omega]
  have := rbAll_recs h.w h.len h.fin ((recsF l k (l.length - k) ++ tlast l).take q) (12 + 4 * k + q + 1) k 0 (by omega)
  rw [Nat.zero_add, List.take_zero] at this
  rw [this]
  have hp := tail_rec h k q hk hq
  exact rbAll_stop (by rw [hp]; simp)

theorem read_all : readS (stream day f l) = ((day, f, l), 0) := by
  have e2 : stream day f l = head day f ++ (recsF l 0 l.length ++ tlast l) := by
    unfold stream
    have a := recs_recsF l l.length 0
    rw [Nat.zero_add] at a
    rw [← a, List.append_assoc]
    rfl
  have hlen : (stream day f l).length = 12 + 5 * l.length + 5 := by
    rw [e2]
    simp only [List.length_append, recsF_len, tlast_len]
    have : (head day f).length = 12 := rfl
    omega
  have hb := begin_day h.start (recsF l 0 l.length ++ tlast l)
  rw [← e2] at hb
  refine readS_ok hb (l := l) (q := []) ?_ ?_
  · rw [hlen, show 12 + 5 * l.length + 5 + 1 = (12 + 4 * l.length + 5 + 1) + l.length by omega]
    have := rdAll_recs h.w h.len (tlast l) (12 + 4 * l.length + 5 + 1) l.length 0 (by omega)
    rw [Nat.zero_add, List.take_zero, List.take_length] at this
    rw [this]
    have hr := rdRec_last (l := l) (t := []) h.len
    rw [List.append_nil] at hr
    rw [rdAll_last (by rw [hr]) (by rw [hr])]
    rfl
  · rw [checkReel_zero.2 h]; rfl

omit h in
theorem stream_len : (stream day f l).length = 12 + 5 * l.length + 5 := by
  unfold stream
  simp only [List.length_append, recs_len, tlast_len]
  have : (head day f).length = 12 := rfl
  omega

omit h in
theorem record_bytes {k a b : Int} (hk : 0 ≤ k ∧ k ≤ 255) : Bytes (record k a b) := by
  intro x hx
  simp only [record, List.mem_cons, List.not_mem_nil, or_false] at hx
  rcases hx with rfl | rfl | rfl | rfl | rfl <;> omega

omit h in
theorem stream_bytes : Bytes (stream day f l) := by
  unfold stream
  refine Bytes.app (Bytes.app ?_ ?_) ?_
  · have e : head day f = [82, 69, 69, 76, 3, 100, 97, 121, f / 16777216 % 256, f / 65536 % 256, f / 256 % 256, f % 256] := rfl
    rw [e]
    intro x hx
    simp only [List.mem_cons, List.not_mem_nil, or_false] at hx
    rcases hx with rfl | rfl | rfl | rfl | rfl | rfl | rfl | rfl | rfl | rfl | rfl | rfl <;> omega
  · generalize l.length = n
    induction n with
    | zero => intro x hx; simp [recs] at hx
    | succ n ih => exact Bytes.app ih (record_bytes (by omega))
  · exact record_bytes (by omega)
end
end Go.Sx

/- The plain law: packets that are sent and received. -/
namespace Go.Sx
open U

theorem and7_bd (x : Int) : 0 ≤ and7 x ∧ and7 x ≤ 255 := by
  unfold and7
  have : ∃ n : Nat, bits .and .u8 x 127 = IntKind.wrap .u8 (n : Int) := ⟨_, rfl⟩
  obtain ⟨n, hn⟩ := this
  rw [hn]
  have : IntKind.wrap .u8 (n : Int) = (n : Int) % 256 := rfl
  rw [this]
  omega

theorem dat3_len (d : List Int) : (dat3 d).length = 10 := rfl
theorem dat3_bytes (d : List Int) : Bytes (dat3 d) := by
  intro x hx
  simp only [dat3, List.mem_cons, List.not_mem_nil, or_false] at hx
  have h0 := and7_bd (d.getD 0 0)
  have h1 := and7_bd (d.getD 1 0)
  have h2 := and7_bd (d.getD 2 0)
  rcases hx with rfl | rfl | rfl | rfl | rfl | rfl | rfl | rfl | rfl | rfl <;> omega

theorem pcheck_ok {i : Nat} (h : i ≤ 255) : pcheck 1 i = 0 := by
  unfold pcheck
  rw [within_zero.2 ⟨by omega, by omega⟩, within_zero.2 ⟨by omega, by omega⟩]
  rfl

theorem enc_ok {i : Nat} (h : i ≤ 255) (d : List Int) : pkEnc 1 i d = (frame 1 i d, 0) := by
  unfold pkEnc
  rw [if_pos (pcheck_ok h)]

theorem frame1_len (k c : Int) {d : List Int} (hd : d.length = 10) : (frame1 k c d).length = 14 := by simp [frame1, frame0, hd]

/-- The last two bytes of a frame are its check. -/
theorem frame_word (k c : Int) {d : List Int} (hd : d.length = 10) : (frame k c d).getD 14 0 = sum 251 65521 (frame1 k c d) / 256 % 256 ∧ (frame k c d).getD 15 0 = sum 251 65521 (frame1 k c d) % 256 := by
  have hl := frame1_len k c hd
  unfold frame word
  generalize sum 251 65521 (frame1 k c d) = x
  generalize frame1 k c d = a at *
  constructor
  · rw [List.getD_eq_getElem?_getD, List.getElem?_append_right (by omega), hl]; rfl
  · rw [List.getD_eq_getElem?_getD, List.getElem?_append_right (by omega), hl]; rfl

theorem frame_check (k c : Int) {d : List Int} (hd : d.length = 10) : bits .or .i64 ((frame k c d).getD 14 0 * 256) ((frame k c d).getD 15 0) = sum 251 65521 (frame1 k c d) := by
  obtain ⟨h1, h2⟩ := frame_word k c hd
  have hb := sum_bd (f := 251) (d := 65521) (by decide) (frame1 k c d)
  rw [h1, h2, bor256 _ _ (by omega) (by omega) (by omega)]
  omega

theorem dec_frame {i : Nat} (h : i ≤ 255) {d : List Int} (hd : d.length = 10) : pkDec (frame 1 i d) = ((1, (i : Int), d), 0) := by
  have e : frame 1 i d = 171 :: (1 % 256) :: ((i : Int) % 256) :: (d ++ ([par ((frame0 1 i d).drop 1)] ++ word (sum 251 65521 (frame1 1 i d)))) := by
    simp [frame, frame1, frame0]
  have g0 : (frame 1 i d).getD 0 0 = 171 := by rw [e]; rfl
  have g1 : (frame 1 i d).getD 1 0 = 1 := by rw [e]; rfl
  have g2 : (frame 1 i d).getD 2 0 = i := by
    rw [e]
    show (i : Int) % 256 = i
    omega
  have g3 : dat (frame 1 i d) = d := by
    unfold dat
    rw [e]
    show List.take 10 (d ++ _) = d
    rw [List.take_append, List.take_of_length_le (by omega), hd]
    simp
  unfold pkDec
  rw [if_pos g0, g1, g2, g3, if_pos rfl]

section
variable (ds : List (List Int))

def pkAt (i : Nat) : Pk := (1, (i : Int), dat3 (ds.getD i d3))
def pks (i : Nat) : List Pk := (List.range i).map (pkAt ds)

theorem pks_len (i : Nat) : (pks ds i).length = i := by simp [pks]
theorem pks_succ (i : Nat) : pks ds (i + 1) = pks ds i ++ [pkAt ds i] := by simp [pks, List.range_succ]
theorem pfr_len (i : Nat) : (pfr ds i).length = 16 := frame_len _ _ (dat3_len _)
theorem sent_len : ∀ i, (sent ds i).length = 16 * i
  | 0 => rfl
  | i + 1 => by simp only [sent, List.length_append, sent_len i, pfr_len]; omega
theorem sent_bytes : ∀ i, Bytes (sent ds i)
  | 0 => by intro x hx; simp [sent] at hx
  | i + 1 => Bytes.app (sent_bytes i) (frame_bytes _ _ (dat3_bytes _))
theorem pcks_len (i : Nat) : (pcks ds i).length = i := by simp [pcks]
theorem pcks_succ (i : Nat) : pcks ds (i + 1) = pcks ds i ++ [pck ds i] := by simp [pcks, List.range_succ]
theorem pcks_w (i : Nat) : W16 (pcks ds i) := by
  intro x hx
  obtain ⟨j, _, rfl⟩ := List.mem_map.1 hx
  have := sum_bd (f := 251) (d := 65521) (by decide) (frame1 1 j (dat3 (ds.getD j d3)))
  unfold pck
  omega

/-- The first packets' frames, and what is behind them. -/
theorem sent_take {k n : Nat} (h : k ≤ n) : ∃ t, sent ds n = sent ds k ++ t := by
  induction n with
  | zero => exact ⟨[], by have : k = 0 := by omega
                          subst this; rfl⟩
  | succ n ih =>
    by_cases e : k = n + 1
    · subst e; exact ⟨[], by simp⟩
    · obtain ⟨t, ht⟩ := ih (by omega)
      exact ⟨t ++ pfr ds n, by rw [sent, ht, List.append_assoc]⟩

theorem blk_sent {j k : Nat} (h : j < k) (p : List Int) : blk (sent ds k ++ p) (16 * j) = pfr ds j := by
  obtain ⟨t, ht⟩ := sent_take ds (k := j + 1) (n := k) h
  have e : sent ds k ++ p = sent ds j ++ (pfr ds j ++ (t ++ p)) := by rw [ht, sent]; simp only [List.append_assoc]
  unfold blk
  rw [e, List.drop_append, List.drop_of_length_le (by rw [sent_len]; omega), sent_len, show 16 * j - 16 * j = 0 by omega, List.drop_zero, List.nil_append, List.take_append, List.take_of_length_le (by rw [pfr_len]; omega), pfr_len]
  simp

/-- What is known while packets are read one after the other. -/
theorem rst_sent {k : Nat} (hk : k ≤ 256) (p : List Int) : ∀ j, j ≤ k → rst (sent ds k ++ p) (16 * j) = (pks ds j, [], ((16 * j : Nat) : Int))
  | 0, _ => rfl
  | j + 1, h => by
    have ih := rst_sent hk p j (by omega)
    have step : ∀ t, t < 16 → rst (sent ds k ++ p) (16 * j + 1 + t) = (pks ds (j + 1), [], ((16 * (j + 1) : Nat) : Int)) := by
      intro t
      induction t with
      | zero =>
        intro _
        rw [Nat.add_zero, rst_succ, ih]
        unfold rstep
        rw [if_neg (by simp), blk_sent ds (by omega) p]
        have hd : pkDec (pfr ds j) = ((1, (j : Int), dat3 (ds.getD j d3)), 0) := dec_frame (by omega) (dat3_len _)
        rw [if_pos ⟨pfr_len ds j, by rw [hd]⟩, hd, pks_succ]
        simp only [pkAt, Prod.mk.injEq, true_and]
        omega
      | succ t iht =>
        intro ht
        rw [← Nat.add_assoc, rst_succ, iht (by omega)]
        unfold rstep
        rw [if_pos (by simp only []; omega)]
    have := step 15 (by omega)
    rw [show 16 * (j + 1) = 16 * j + 1 + 15 by omega, this]
    simp only [Prod.mk.injEq, true_and]
    omega

theorem rst_part {k : Nat} (hk : k ≤ 256) (p : List Int) (hp : p.length < 16) : ∀ t, t ≤ p.length → rst (sent ds k ++ p) (16 * k + t) = (pks ds k, (if t = 0 then [] else [(((16 * k : Nat) : Int), ((16 * k + t : Nat) : Int))]), ((16 * k + t : Nat) : Int))
  | 0, _ => rst_sent ds hk p k (Nat.le_refl _)
  | t + 1, h => by
    have ih := rst_part hk p hp t (by omega)
    rw [← Nat.add_assoc, rst_succ, ih]
    unfold rstep
    have hb : ¬ (blk (sent ds k ++ p) (16 * k + t)).length = 16 := by
      unfold blk
      simp only [List.length_take, List.length_drop, List.length_append, sent_len]
      omega
    rw [if_neg (by simp only []; omega), if_neg (fun h => hb h.1)]
    simp only [Prod.mk.injEq, true_and]
    refine ⟨?_, by omega⟩
    by_cases ht : t = 0
    · subst ht
      simp [skip]
    · simp [skip, ht]

theorem received_part {k : Nat} (hk : k ≤ 256) (p : List Int) (hp : p.length < 16) : received (sent ds k ++ p) = (pks ds k, (if p.length = 0 then [] else [(((16 * k : Nat) : Int), ((16 * k + p.length : Nat) : Int))]), 0) := by
  unfold received
  have hl : (sent ds k ++ p).length = 16 * k + p.length := by rw [List.length_append, sent_len]
  rw [if_neg (by omega), hl, rst_part ds hk p hp p.length (Nat.le_refl _)]

theorem lost_none {k : Nat} : ∀ i, i < k → lostTo (pks ds k) i = []
  | 0, _ => rfl
  | i + 1, h => by
    rw [lostTo, lost_none i (by omega)]
    have hc : ∀ j, j < k → cnt (pks ds k) j = j := by
      intro j hj
      unfold cnt
      rw [getD_of (by rw [pks_len]; exact hj)]
      simp [pks, pkAt]
    rw [hc i (by omega), hc (i + 1) h]
    unfold gap
    have : ((((i + 1 : Nat) : Int) - (i : Int) - 1) % 256).toNat = 0 := by omega
    rw [this]
    rfl
end
end Go.Sx

/- The law. -/
namespace Go.Sx
open U

theorem rb20 : rebuilt (List.take 19 (stream [114] 7 [1, 2])) = (([114], 7, [1]), false, 0) := by kernel_rfl
theorem by20 : Bytes (List.take 19 (stream [114] 7 [1, 2])) := by unfold Bytes; decide +kernel
theorem ok20 : ReelOk [114] 7 [1, 2] := checkReel_zero.1 (by kernel_rfl)

theorem fn20 : Fn P1 gl1 20 [] (.val (bV true)) true := by
  refine Fn.flat ?_ rfl
  refine fn_of false [(17, sp17), (21, sp21), (22, sp22)] [] h0 0 Proofs.Tryd.f20 ⟨so17, so21, so22, trivial⟩ trivial (by kernel_rfl) rfl (by kernel_rfl) rfl rfl rfl ?_
  rw [vc20 ()]
  have e : Array.toList (ByteArray.data { data := #[(114 : UInt8)] }) = [114] := rfl
  rw [e, rb20]
  exact ⟨ok20, by decide, rfl, ⟨by decide, by20⟩, fun _ => by decide, rfl, trivial⟩
theorem so20_ : SpecOk P1 gl1 20 sp20 := by
  intro vs ps r h hp
  simp only [sp20] at h
  split at h
  · cases h; exact fn20
  · cases h
theorem so20 : Sp1 20 sp20 := ⟨so20_, Proofs.Tryd.f20, _, by kernel_rfl, rfl, by kernel_rfl⟩

theorem fn4 (ds : List (List Int)) (fr : Int) (cut : List Int) (hds : ∀ d ∈ ds, List.length d = 3) (hfr : 0 ≤ fr ∧ fr ≤ 65535) (hc : cut.length = 2) (hcb : Bytes cut) :
    Fn P1 gl1 4 [.one (.sl (.arr 3 (.int .u8)) ds), .one (.int .u16 fr), aV 2 cut] (.val (bV true)) true := by
  refine Fn.flat ?_ rfl
  refine fn_of false [(14, sp14h), (15, sp15h), (16, sp16h), (17, sp17), (20, sp20), (21, sp21h), (22, sp22h), (23, sp23h)] [] h4 0 Proofs.Tryd.f4 ⟨so14h, so15h, so16h, so17, so20, so21h, so22h, so23h, trivial⟩ trivial (by kernel_rfl) rfl (by kernel_rfl) rfl rfl rfl ?_
  rw [vc4]
  simp only [splitB_iff, hid_eq, -eq_self]
  refine ⟨fun _ => ⟨rfl, trivial⟩, fun h => ?_⟩
  have hn : 1 ≤ ds.length ∧ ds.length ≤ 12 := by
    by_cases h1 : ((ds.length : Nat) : Int) < 1
    · rw [decide_eq_true h1] at h; cases h
    · rw [decide_eq_false h1] at h
      simp at h
      omega
  clear h
  refine ⟨by simp only [fits]; omega, ⟨0, Nat.zero_le _, rfl, rfl, rfl, rfl, rfl, rfl, rfl, rfl, rfl, trivial⟩, fun g hg => ⟨fun hlt => ?_, fun hge => ?_⟩⟩
  · have hlt' : g < ds.length := by simpa using hlt
    have hd : (List.getD ds g (List.replicate 3 0)).length = 3 := by rw [getD_of hlt']; exact hds _ (List.getElem_mem hlt')
    have hdat : [bits .and .u8 (List.getD (List.getD ds g (List.replicate 3 0)) 0 0) 127, bits .and .u8 (List.getD (List.getD ds g (List.replicate 3 0)) 1 0) 127, bits .and .u8 (List.getD (List.getD ds g (List.replicate 3 0)) 2 0) 127, 0, 0, 0, 0, 0, 0, 0] = dat3 (ds.getD g d3) := rfl
    have henc := enc_ok (i := g) (by omega) (dat3 (ds.getD g d3))
    simp only [hdat, henc, -eq_self]
    have hfl : (frame 1 (g : Int) (dat3 (ds.getD g d3))).length = 16 := frame_len _ _ (dat3_len _)
    have hfb : Bytes (frame 1 (g : Int) (dat3 (ds.getD g d3))) := frame_bytes _ _ (dat3_bytes _)
    have h14 := byAt hfb (i := 14) (by omega)
    have h15 := byAt hfb (i := 15) (by omega)
    refine ⟨by omega, by decide, by omega, by decide, by omega, by decide, by omega, ⟨rfl, dat3_bytes _⟩, fun h => Bool.noConfusion h, fun _ => ⟨by decide, by rw [List.length_take]; omega, ?_, by decide, by omega, by simp only [fits]; omega, ⟨by decide, by decide, by simp only [fits]; omega⟩, by decide, by omega, by simp only [fits]; omega, by simp only [room, pcks_len]; omega, by simp only [fits]; omega, g + 1, hlt', by omega, by simp, rfl, rfl, rfl, ?_, rfl, rfl, ?_, rfl, trivial⟩⟩
    · simp only [room, sent_len, List.length_take]; omega
    · rw [List.take_of_length_le (by omega)]; rfl
    · rw [frame_check _ _ (dat3_len _), pcks_succ]; rfl
  · have hge' : ¬ g < ds.length := by simpa using hge
    have hgn : g = ds.length := by have : g ≤ ds.length := hg; omega
    subst hgn
    have hday : ([100, 97, 121] : List UInt8) = day := rfl
    rw [hday]
    have hok : ReelOk day fr (pcks ds ds.length) := ⟨by decide, by omega, by rw [pcks_len]; omega, by rw [pcks_len]; omega, pcks_w ds _, by rw [pcks_len]; omega⟩
    have hsl : (stream day fr (pcks ds ds.length)).length = 12 + 5 * ds.length + 5 := by rw [stream_len, pcks_len]
    have hsb := stream_bytes (f := fr) (l := pcks ds ds.length)
    have c0 := byAt hcb (i := 0) (by omega)
    have c1 := byAt hcb (i := 1) (by omega)
    have hkb : 0 ≤ cut.getD 0 0 % (ds.length : Int) ∧ cut.getD 0 0 % (ds.length : Int) < ds.length := ⟨Int.emod_nonneg _ (by omega), Int.emod_lt_of_pos _ (by omega)⟩
    have hqb : 0 ≤ cut.getD 1 0 % 5 ∧ cut.getD 1 0 % 5 < 5 := by omega
    obtain ⟨k, hk⟩ : ∃ k : Nat, 1 + cut.getD 0 0 % (ds.length : Int) = (k : Int) := ⟨(1 + cut.getD 0 0 % (ds.length : Int)).toNat, by omega⟩
    obtain ⟨q, hq⟩ : ∃ q : Nat, cut.getD 1 0 % 5 = (q : Int) := ⟨(cut.getD 1 0 % 5).toNat, by omega⟩
    rw [hk, hq]
    have hat : (12 : Int) + 5 * (k : Int) + (q : Int) = ((12 + 5 * k + q : Nat) : Int) := by omega
    rw [hat]
    have hmin : min ((stream day fr (pcks ds ds.length)).length : Int) ((12 + 5 * k + q : Nat) : Int) = ((12 + 5 * k + q : Nat) : Int) := by omega
    rw [hmin]
    have hkn : 1 ≤ k ∧ k ≤ ds.length := by omega
    have hq5 : q < 5 := by omega
    have hpl := pcks_len ds ds.length
    have hrb := rebuilt_cut hok k q hkn.1 (by omega) hq5
    have hrc := read_cut hok k q (by omega) hq5
    have hra := read_all hok
    have hcl := cut_len (f := fr) (l := pcks ds ds.length) k q (by omega) hq5
    obtain ⟨u, hu⟩ : ∃ u : Nat, u = min (16 * ds.length) (16 * k + 3 * q) := ⟨_, rfl⟩
    have hup : min ((sent ds ds.length).length : Int) (16 * (k : Int) + 3 * (q : Int)) = (u : Int) := by rw [sent_len]; omega
    obtain ⟨t, ht⟩ := sent_take ds hkn.2
    have hst : List.take u (sent ds ds.length) = sent ds k ++ List.take (u - 16 * k) t := by
      rw [ht, List.take_append, List.take_of_length_le (by rw [sent_len]; omega), sent_len]
    have htl : t.length = 16 * ds.length - 16 * k := by
      have := congrArg List.length ht
      rw [List.length_append, sent_len, sent_len] at this
      omega
    have hpt : (List.take (u - 16 * k) t).length = u - 16 * k := by rw [List.length_take]; omega
    have hrv := received_part ds (k := k) (by omega) (List.take (u - 16 * k) t) (by omega)
    rw [← hst, hpt] at hrv
    obtain ⟨sk, hsk⟩ : ∃ sk : List (Int × Int), sk = (if u - 16 * k = 0 then [] else [(((16 * k : Nat) : Int), ((16 * k + (u - 16 * k) : Nat) : Int))]) := ⟨_, rfl⟩
    rw [← hsk] at hrv
    have hB : (bif bif (u : Int) == 16 * (k : Int) then decide ((0 : Int) < (sk.length : Int)) else false then true else bif decide (16 * (k : Int) < (u : Int)) then bif (sk.length : Int) != 1 then true else !eqT (.pair (.int .i64) (.int .i64)) ((List.getD sk 0 (0, 0)).1, (List.getD sk 0 (0, 0)).2) (16 * (k : Int), (u : Int)) else false) = false := by
      by_cases hu0 : u = 16 * k
      · have : sk = [] := by rw [hsk, if_pos (by omega)]
        subst this
        have e1 : ((u : Int) == 16 * (k : Int)) = true := by simp; omega
        have e2 : decide (16 * (k : Int) < (u : Int)) = false := decide_eq_false (by omega)
        rw [e1, e2]
        rfl
      · have : sk = [(16 * (k : Int), (u : Int))] := by
          rw [hsk, if_neg (by omega)]
          congr 2 <;> omega
        subst this
        have e1 : ((u : Int) == 16 * (k : Int)) = false := by simp; omega
        have e2 : decide (16 * (k : Int) < (u : Int)) = true := decide_eq_true (by omega)
        have e3 : eqT (.pair (.int .i64) (.int .i64)) ((List.getD [(16 * (k : Int), (u : Int))] 0 (0, 0)).1, (List.getD [(16 * (k : Int), (u : Int))] 0 (0, 0)).2) (16 * (k : Int), (u : Int)) = true := by
          show ((16 * (k : Int) == 16 * (k : Int)) && ((u : Int) == (u : Int))) = true
          simp
        rw [e1, e2, e3]
        rfl
    have hsk1 : decide (16 * (k : Int) < (u : Int)) = true → 0 < sk.length := by
      intro h
      have h' : 16 * (k : Int) < (u : Int) := by simpa using h
      rw [hsk, if_neg (by omega)]
      exact Nat.zero_lt_one
    have hsl2 : (List.take u (sent ds ds.length)).length = u := by rw [List.length_take, sent_len]; omega
    have hsb2 : Bytes (List.take u (sent ds ds.length)) := byTake (sent_bytes ds _) _
    have hks := pks_len ds k
    have hlost := lost_none ds (k := k) (k - 1) (by omega)
    simp only [hup, Int.toNat_natCast, hrb, hrc, hra, hrv, hcl, hsl, hsl2, hpl, hks, hlost, -eq_self]
    have hne : ((12 + 5 * ds.length + 5 : Nat) : Int) = 12 + 5 * (ds.length : Int) + 5 := by omega
    simp only [hne, bne_self_eq_false, cond_false, decide_true, Bool.not_true, Bool.false_eq_true, false_implies, true_and, and_true, forall_const, eq_self]
    have hf : ∀ x : Int, -1000000 ≤ x → x ≤ 1000000 → fits .i64 x := by intro x h1 h2; simp only [fits]; omega
    have hlt : (List.take k (pcks ds ds.length)).length = k := by rw [List.length_take]; omega
    refine ⟨hok, hf _ (by omega) (by omega), hf _ (by omega) (by omega), hf _ (by omega) (by omega), by decide, by omega, hf _ (by omega) (by omega), by omega, hf _ (by omega) (by omega), by decide, by omega, hf _ (by omega) (by omega), by omega, hf _ (by omega) (by omega), hf _ (by omega) (by omega), hf _ (by omega) (by omega), by omega, by simp only [room]; omega, ⟨by omega, byTake hsb _⟩, by omega, hlt, by omega, by omega, ⟨by omega, byTake hsb _⟩, by simp only [room]; omega, ⟨by omega, hsb⟩, by omega, hf _ (by omega) (by omega), hf _ (by omega) (by omega), hf _ (by omega) (by omega), by rw [sent_len]; omega, by simp only [room]; omega, ⟨hsb2, by omega⟩, ⟨by omega, fun p hp => ?_, by decide, by decide⟩, fun h => ?_, fun _ => ⟨hf _ (by omega) (by omega), fun _ => hf _ (by omega) (by omega), fun _ h _ => ⟨by decide, Int.ofNat_lt.2 (hsk1 h)⟩, fun _ h _ => hsk1 h, fun _ _ _ => hf _ (by omega) (by omega), fun h => ?_, fun _ => ⟨⟨(0, pks ds k, day, fr, List.take k (pcks ds ds.length)), ?_⟩, ?_⟩⟩⟩
    · obtain ⟨j, hj, rfl⟩ := List.mem_map.1 hp
      have := List.mem_range.1 hj
      exact ⟨rfl, pcheck_ok (by omega)⟩
    · exact absurd h (by decide)
    · rw [hB] at h; cases h
    · exact ⟨⟨Nat.zero_le _, rfl⟩, rfl, by rw [hks], rfl, rfl, rfl, rfl⟩
    · rintro ⟨i, r⟩ ⟨hi, rfl⟩
      simp only [] at hi ⊢
      refine ⟨fun hlt => ?_, fun _ => trivial⟩
      have hlt' : i < k := by
        have : (i : Int) < ((pks ds k).length : Int) := by simpa using hlt
        omega
      have hp : List.getD (pks ds k) i (0, 0, List.replicate 10 0) = (1, (i : Int), dat3 (ds.getD i d3)) := by
        rw [getD_of (by omega)]
        simp [pks, pkAt]
      have henc := enc_ok (i := i) (by omega) (dat3 (ds.getD i d3))
      have hfl : (frame 1 (i : Int) (dat3 (ds.getD i d3))).length = 16 := frame_len _ _ (dat3_len _)
      have hfb : Bytes (frame 1 (i : Int) (dat3 (ds.getD i d3))) := frame_bytes _ _ (dat3_bytes _)
      have h14 := byAt hfb (i := 14) (by omega)
      have h15 := byAt hfb (i := 15) (by omega)
      have hgc : List.getD (List.take k (pcks ds ds.length)) i 0 = pck ds i := by
        rw [getD_of (by omega)]
        simp [pcks]
      simp only [hp, henc, hgc, frame_check _ _ (dat3_len _), bne_self_eq_false, cond_false, forall_const, hks]
      have hpc : (sum 251 65521 (frame1 1 (i : Int) (dat3 (ds.getD i d3))) != pck ds i) = false := by simp [pck]
      refine ⟨by omega, hlt', ⟨dat3_len _, dat3_bytes _⟩, by decide, by omega, hf _ (by omega) (by omega), ⟨by decide, by decide, hf _ (by omega) (by omega)⟩, by decide, by omega, hf _ (by omega) (by omega), by omega, fun h => ?_, fun _ => ⟨hf _ (by omega) (by omega), (i + 1, pks ds k, day, fr, List.take k (pcks ds ds.length)), ⟨?_, rfl⟩, ?_, ?_, ?_, rfl, rfl, rfl, rfl⟩⟩
      · rw [hpc] at h; cases h
      · show i + 1 ≤ (pks ds k).length; omega
      · show (pks ds k).length - (i + 1) < k - i; omega
      · show (i : Int) + 1 = ((i + 1 : Nat) : Int); omega
      · show (k : Int) = ((pks ds k).length : Int); omega
end Go.Sx

/- From readings of arguments to pure data. -/
namespace Go.Sx
open Go.RowKit

/-- What a reading gives beside the cells: numbers fit their kinds, lengths are those of machines. -/
def WF : (t : Ty) → t.T → Prop
  | .int k, n => (Lit.int k n).wf = true
  | .bool, _ => True
  | .str, l => List.length l ≤ maxLen
  | .flt k, n => (Lit.float k n).wf = true
  | .cpx _, _ => True
  | .sl t, xs => List.length xs ≤ maxLen ∧ ∀ i (h : i < List.length xs), WF t (xs[i]'h)
  | .arr n t, xs => List.length xs = n ∧ ∀ i (h : i < List.length xs), WF t (xs[i]'h)
  | .pair a b, x => WF a x.1 ∧ WF b x.2

mutual
def rdChk (P : Program) : Nat → TypeId → Ty → Bool
  | 0, _, _ => false
  | n + 1, t, u => match P.underlying t with
      | some (.int k) => decide (u = .int k)
      | some .bool => decide (u = .bool)
      | some .string => decide (u = .str)
      | some (.float k) => decide (u = .flt k)
      | some (.slice e) => match u with
        | .sl v => decide (P.cellsOf e = v.sz) && decide (v.sz ≠ 0) && rdChk P n e v
        | _ => false
      | some (.array m e) => match u with
        | .arr m' v => decide (m = m') && decide (P.cellsOf e = v.sz) && decide (P.cellsOf t = m * v.sz) && rdChk P n e v
        | _ => false
      | some (.struct fs) => decide (P.cellsOf t = u.sz) && rdFs P n 0 fs.toList u
      | _ => false
def rdFs (P : Program) : Nat → Nat → List Field → Ty → Bool
  | 0, _, _, _ => false
  | n + 1, off, [f], u => decide (f.offset = off) && decide (P.cellsOf f.type = u.sz) && rdChk P n f.type u
  | n + 1, off, f :: r, .pair a b => decide (f.offset = off) && decide (P.cellsOf f.type = a.sz) && rdChk P n f.type a && rdFs P n (off + a.sz) r b
  | _, _, _, _ => false
end

def HW (w : World) : IH := fun b => w.heap[b]?

theorem addp (b off i : Nat) : (Addr.mk b off none).add i = ⟨b, off + i, none⟩ := by
  unfold Addr.add; split <;> simp_all
theorem cells_seg {w : World} {base : Nat} {a : Addr} {n : Nat} {cs : List Value} (h : w.cells? base a n = some cs) (hn : 0 < n) :
    ∃ b off c e fr, a = ⟨b, off, none⟩ ∧ w.heap[b]? = some (.cells c e fr) ∧ seg c off n = cs := by
  obtain ⟨_, hl, hc⟩ := World.cells?_some h
  obtain ⟨b, off, sp⟩ := a
  have h0 := hc 0 hn
  rw [List.getElem?_eq_getElem (by omega)] at h0
  have hs : sp = none := by
    have := World.cell?_spot h0
    simp only [Addr.add] at this
    cases sp with
    | none => rfl
    | some x => simp at this
  subst hs
  have hb : ∃ c e fr, w.heap[b]? = some (.cells c e fr) := by
    simp only [World.cell?, Addr.add] at h0
    split at h0
    · exact ⟨_, _, _, ‹_›⟩
    · cases h0
  obtain ⟨c, e, fr, hb⟩ := hb
  refine ⟨b, off, c, e, fr, rfl, hb, ?_⟩
  have hi : ∀ i, i < n → c[off + i]? = cs[i]? := by
    intro i hi
    have := hc i hi
    rw [addp] at this
    simpa [World.cell?, hb] using this
  apply List.ext_getElem?
  intro i
  simp only [seg, List.getElem?_take, List.getElem?_drop]
  split
  · rename_i h1
    rw [← hi i h1]; simp
  · rename_i h1
    rw [List.getElem?_eq_none (by omega)]

theorem choose_list {α : Type} (n : Nat) (p : Nat → α → Prop) (h : ∀ i, i < n → ∃ y, p i y) : ∃ ys : List α, ys.length = n ∧ ∀ i (hi : i < ys.length), p i (ys[i]'hi) := by
  induction n with
  | zero => exact ⟨[], rfl, fun i hi => by simp at hi⟩
  | succ n ih =>
    obtain ⟨ys, h1, h2⟩ := ih fun i hi => h i (by omega)
    obtain ⟨y, hy⟩ := h n (by omega)
    refine ⟨ys ++ [y], by simp [h1], fun i hi => ?_⟩
    by_cases hlt : i < ys.length
    · rw [List.getElem_append_left hlt]; exact h2 i hlt
    · simp at hi
      have : i = ys.length := by omega
      subst this
      simp
      rw [h1]; exact hy

theorem trod_rd_all {X : Type} {enc : TypeId × Value → X} {P : Program} {w : World} {base : Nat} {spare : Nat → Bool} {held : Bool} : ∀ (n : Nat),
    (∀ (t : TypeId) (u : Ty) (fuel : Nat) (cs : List Value) (x : DataW X × List MemPlace), rdChk P n t u = true → DataW.trod enc P w base spare held fuel t cs = some x → ∃ y : u.T, Rd (HW w) u y cs ∧ WF u y) ∧
    (∀ (off : Nat) (fs : List Field) (u : Ty) (fuel : Nat) (cs : List Value), rdFs P n off fs u = true → cs.length = off + u.sz →
      (∀ f ∈ fs, ∃ x, DataW.trod enc P w base spare held fuel f.type ((cs.drop f.offset).take (P.cellsOf f.type)) = some x) → ∃ y : u.T, Rd (HW w) u y (cs.drop off) ∧ WF u y) := by
  intro n
  induction n with
  | zero => exact ⟨fun _ _ _ _ _ h => by simp [rdChk] at h, fun _ _ _ _ _ h => by simp [rdFs] at h⟩
  | succ n ih =>
    refine ⟨?_, ?_⟩
    · intro t u fuel cs x h hx
      unfold rdChk at h
      split at h
      · rename_i k hu
        simp at h; subst h
        obtain ⟨m, rfl, _, hw⟩ := DataW.trod_int hu hx
        exact ⟨m, rfl, hw⟩
      · rename_i hu
        simp at h; subst h
        obtain ⟨m, rfl, _⟩ := DataW.trod_bool hu hx
        exact ⟨m, rfl, trivial⟩
      · rename_i hu
        simp at h; subst h
        obtain ⟨s, rfl, _, hw⟩ := DataW.trod_string hu hx
        refine ⟨s.data.toList, rfl, ?_⟩
        show s.data.toList.length ≤ maxLen
        rw [Array.length_toList]; exact hw
      · rename_i k hu
        simp at h; subst h
        cases fuel with
        | zero => simp [DataW.trod] at hx
        | succ m =>
          unfold DataW.trod at hx
          rw [hu] at hx
          have : ∃ b, cs = [.float k b] ∧ (Lit.float k b).wf = true := by split at hx <;> simp_all
          obtain ⟨b, rfl, hw⟩ := this
          exact ⟨b, rfl, hw⟩
      · rename_i e hu
        split at h
        · rename_i v
          simp only [Bool.and_eq_true, decide_eq_true_eq] at h
          obtain ⟨⟨h1, h2⟩, h3⟩ := h
          rcases DataW.trod_slice hu hx with ⟨rfl, _⟩ | ⟨a, len, cap, elems, rest, m, _, rfl, _, _, hlc, hm, hel, hei, _, _⟩
          · exact ⟨[], ⟨none, 0, rfl, Nat.le_refl _, .inl rfl⟩, by simp [WF]⟩
          · have hone : ∀ i, i < len → ∃ cs', w.cells? base (a.add (i * P.cellsOf e)) (P.cellsOf e) = some cs' ∧ ∃ y : v.T, Rd (HW w) v y cs' ∧ WF v y := by
              intro i hi
              have := hei i hi
              rw [List.getElem?_eq_getElem (by omega)] at this
              obtain ⟨cs', hc1, hc2⟩ := Option.bind_eq_some_iff.1 this
              exact ⟨cs', hc1, ih.1 _ _ _ _ _ h3 hc2⟩
            obtain ⟨ys, hy1, hy2⟩ := choose_list len (fun i (y : v.T) => ∃ cs', w.cells? base (a.add (i * P.cellsOf e)) (P.cellsOf e) = some cs' ∧ Rd (HW w) v y cs' ∧ WF v y)
              (fun i hi => by obtain ⟨cs', h1, y, h2⟩ := hone i hi; exact ⟨y, cs', h1, h2⟩)
            refine ⟨ys, ⟨some a, cap, by rw [hy1], by rw [hy1]; exact hlc, ?_⟩, by rw [hy1]; omega, fun i hi => ?_⟩
            · rcases Nat.eq_zero_or_pos ys.length with h0 | h0
              · exact .inl h0
              · right
                obtain ⟨cs0, hc0, _⟩ := hy2 0 h0
                obtain ⟨b, off, c, e', fr, ha, hb, _⟩ := cells_seg hc0 (by omega)
                have ha' : a = ⟨b, off, none⟩ := by rw [← ha]; simp [Addr.add]
                refine ⟨b, off, c, e', fr, by rw [ha'], hb, fun i hi => ?_⟩
                obtain ⟨cs', hc', hr, _⟩ := hy2 i hi
                obtain ⟨b', off', c', e'', fr', hab, hb', hsg⟩ := cells_seg hc' (by omega)
                rw [ha', addp] at hab
                simp only [Addr.mk.injEq] at hab
                obtain ⟨rfl, rfl, _⟩ := hab
                rw [hb] at hb'
                cases hb'
                rw [h1] at hsg
                rw [hsg]; exact hr
            · obtain ⟨_, _, _, hwf⟩ := hy2 i hi
              exact hwf
        · cases h
      · rename_i m e hu
        split at h
        · rename_i m' v
          simp only [Bool.and_eq_true, decide_eq_true_eq] at h
          obtain ⟨⟨⟨rfl, h1⟩, h2⟩, h3⟩ := h
          obtain ⟨xs, k, _, _, hl, hxl, hxi⟩ := DataW.trod_array hu hx
          obtain ⟨ys, hy1, hy2⟩ := choose_list m (fun i (y : v.T) => Rd (HW w) v y ((cs.drop (i * P.cellsOf e)).take (P.cellsOf e)) ∧ WF v y)
            (fun i hi => by
              have := hxi i hi
              rw [List.getElem?_eq_getElem (by omega)] at this
              exact ih.1 _ _ _ _ _ h3 this)
          refine ⟨ys, ⟨hy1, by rw [hl, h2], fun i hi => ?_⟩, hy1, fun i hi => (hy2 i hi).2⟩
          have := (hy2 i hi).1
          rw [h1] at this
          exact this
        · cases h
      · rename_i fs hu
        simp only [Bool.and_eq_true, decide_eq_true_eq] at h
        obtain ⟨xs, k, _, _, hl, hxl, hxi⟩ := DataW.trod_struct hu hx
        have := ih.2 0 fs.toList u k cs h.2 (by rw [hl, h.1]; omega) (fun f hf => by
          obtain ⟨i, hi, rfl⟩ := List.mem_iff_getElem.1 hf
          simp at hi
          have := hxi i fs[i] (by simp [hi])
          rw [List.getElem?_eq_getElem (by omega)] at this
          exact ⟨_, by simpa using this⟩)
        simpa using this
      · cases h
    · intro off fs u fuel cs h hl hf
      match fs, u, h, hl, hf with
      | [], u, h, _, _ => simp [rdFs] at h
      | [f], u, h, hl, hf =>
        simp only [rdFs, Bool.and_eq_true, decide_eq_true_eq] at h
        obtain ⟨⟨rfl, h1⟩, h2⟩ := h
        obtain ⟨x, hx⟩ := hf f (by simp)
        rw [h1, List.take_of_length_le (by simp; omega)] at hx
        exact ih.1 _ _ _ _ _ h2 hx
      | f :: g :: r, .pair a b, h, hl, hf =>
        simp only [rdFs, Bool.and_eq_true, decide_eq_true_eq] at h
        obtain ⟨⟨⟨rfl, h1⟩, h2⟩, h3⟩ := h
        simp only [Ty.sz] at hl
        obtain ⟨x, hx⟩ := hf f (by simp)
        rw [h1] at hx
        obtain ⟨y1, hy1, hw1⟩ := ih.1 _ _ _ _ _ h2 hx
        obtain ⟨y2, hy2, hw2⟩ := ih.2 _ _ _ fuel cs h3 (by omega) (fun g' hg => hf g' (List.mem_cons_of_mem _ hg))
        refine ⟨(y1, y2), ⟨hy1, ?_⟩, hw1, hw2⟩
        rw [List.drop_drop]; exact hy2
      | _ :: _ :: _, .int _, h, _, _ => simp [rdFs] at h
      | _ :: _ :: _, .bool, h, _, _ => simp [rdFs] at h
      | _ :: _ :: _, .str, h, _, _ => simp [rdFs] at h
      | _ :: _ :: _, .flt _, h, _, _ => simp [rdFs] at h
      | _ :: _ :: _, .cpx _, h, _, _ => simp [rdFs] at h
      | _ :: _ :: _, .sl _, h, _, _ => simp [rdFs] at h
      | _ :: _ :: _, .arr _ _, h, _, _ => simp [rdFs] at h

theorem trod_rd {X : Type} {enc : TypeId × Value → X} {P : Program} {w : World} {base : Nat} {spare : Nat → Bool} {held : Bool} (n : Nat)
    {t : TypeId} {u : Ty} (h : rdChk P n t u = true) {fuel : Nat} {cs : List Value} {x : DataW X × List MemPlace} (hx : DataW.trod enc P w base spare held fuel t cs = some x) : ∃ y : u.T, Rd (HW w) u y cs ∧ WF u y :=
  (trod_rd_all n).1 t u fuel cs x h hx
end Go.Sx

/- From readings of arguments to pure data: arguments, variables, what is left behind. -/
namespace Go.Sx
open Go.RowKit Go.ChangeShapes Go.WideShapes Go.ChangeAt

section
variable {X : Type} {enc : TypeId × Value → X} {P : Program} {w : World} {base base' : Nat} {spare : Nat → Bool} {held : Bool} {n : Nat} {t : TypeId} {u : Ty} {v : Value} {d : DataW X} {ps : List MemPlace}

theorem cells_one (hv : ∀ cs, v ≠ .agg cs) : v.cells.toList = [v] := by
  cases v <;> simp_all [Value.cells]

theorem okWide_one (ha : aggOf P t = false) (hok : Value.okWide P w .any base' t v) : ∀ cs, v ≠ .agg cs := by
  intro cs hv
  subst hv
  unfold aggOf at ha
  unfold Value.okWide at hok
  split at hok
  · rename_i h; rw [h] at ha; cases ha
  · rename_i h; rw [h] at ha; cases ha
  · unfold Cell.okWide at hok
    split at hok <;> try (rename_i h; cases h; done)
    all_goals first | (rename_i h _; cases h; done) | skip
    all_goals first | (unfold Cell.ok at hok; split at hok <;> first | (exact hok) | (rename_i h; cases h; done) | (rename_i h _; cases h; done) | simp_all; done) | simp_all

theorem arg_one (h : rdChk P n t u = true) (ha : aggOf P t = false) (hok : Value.okWide P w .any base' t v) (hT : DataW.Trod enc P w base spare held t v d ps) : ∃ y : u.T, Rd (HW w) u y [v] ∧ WF u y := by
  obtain ⟨fuel, hT⟩ := hT
  rw [cells_one (okWide_one ha hok)] at hT
  exact trod_rd n h hT

theorem arg_agg (h : rdChk P n t u = true) (ha : aggOf P t = true) (hok : Value.okWide P w .any base' t v) (hT : DataW.Trod enc P w base spare held t v d ps) : ∃ (vs : List Value) (y : u.T), v = .agg ⟨vs⟩ ∧ Rd (HW w) u y vs ∧ WF u y := by
  obtain ⟨fuel, hT⟩ := hT
  have hv : ∃ cs, v = .agg cs := by
    unfold aggOf at ha
    unfold Value.okWide at hok
    split at hok
    · exact ⟨_, hok.choose_spec.1⟩
    · exact ⟨_, hok.choose_spec.1⟩
    · rename_i h1 h2
      split at ha
      · exact absurd ‹_› (h1 _)
      · exact absurd ‹_› (h2 _ _)
      · cases ha
  obtain ⟨cs, rfl⟩ := hv
  obtain ⟨y, h1, h2⟩ := trod_rd n h hT
  exact ⟨cs.toList, y, rfl, h1, h2⟩
end

theorem trodAll_below {X : Type} {enc : TypeId × Value → X} {P : Program} (hl : laidOutB P = true) {W W' : World} (hb : Below W.heap.size W W') : ∀ {ts : List TypeId} {vs : List Value} {ds : List (DataW X)} {ps : List MemPlace},
    (ts.all fun t => P.readableRec t && decide (t < P.types.size)) = true → DataW.TrodAll enc P W 0 (fun _ => true) true ts vs ds ps → (∀ x ∈ ps, x.block < W.heap.size) → DataW.TrodAll enc P W' 0 (fun b => decide (b < W.heap.size)) true ts vs ds ps
  | [], vs, ds, ps, _, h, _ => by
    cases vs <;> cases ds <;> simp_all [DataW.TrodAll]
  | t :: ts, vs, ds, ps, ht, h, hlt => by
    obtain ⟨v, vs', d, ds', p, q, rfl, rfl, rfl, h1, h2⟩ := trodAll_cons h
    simp only [List.all_cons, Bool.and_eq_true, decide_eq_true_eq] at ht
    refine trodAll_cons_mk (Below.trod hl ht.1.1 ht.1.2 h1 hb fun x hx => hlt x (by simp [hx])) (trodAll_below hl hb ht.2 h2 fun x hx => hlt x (by simp [hx]))

/-- What a law leaves behind: true, and the arguments as they were. -/
theorem law_post {X : Type} {enc : TypeId × Value → X} {P : Program} (hl : laidOutB P = true) {s : ChangeSpec} {f : Func} {tb : TypeId} {W W' : World} {args : Array Value} {ds gs : List (DataW X)} {before : List MemPlace} {r : Value}
    (hvars : s.vars = []) (hts : (f.params.toList.all fun t => P.readableRec t && decide (t < P.types.size)) = true) (hres : f.resultTypes = #[tb]) (htb : P.underlying tb = some .bool)
    (hfn : s.fn X ds = { results := [.lit (.bool true)], args := ds })
    (hW : DataW.Whole enc P f.params.toList s.vars false W args.toList ds gs before) (hb : Below W.heap.size W W') (hr : r = .bool true) :
    s.post enc P f false true false false W args r W' := by
  subst hr
  have hW' := hW
  obtain ⟨p, q, hA, hV, rfl, hfz, hnd⟩ := hW
  rw [hvars] at hV
  obtain ⟨rfl, rfl⟩ := trodVars_none hV
  have hlt : ∀ x ∈ p, x.block < W.heap.size := fun x hx => hW'.lt x (by simp [hx])
  refine ⟨ds, [], p ++ [], [], p, [], hW', ?_, ?_, ?_, hb.frame _, fun h => by cases h⟩
  · rw [List.append_nil, hfn, hres]
    exact trodAll_cons_mk (shut_bool htb _) trodAll_mk0
  · rw [List.append_nil, hfn]
    exact trodAll_below hl hb hts hA hlt
  · rw [List.append_nil, hfn, hvars]
    rfl

theorem law_calls {X : Type} {enc : TypeId × Value → X} {P : Program} (hl : laidOutB P = true) {s : ChangeSpec} {f : Func} {tb : TypeId} {fid : FuncId} {W : World} {args : Array Value} {ds gs : List (DataW X)} {before : List MemPlace}
    (hvars : s.vars = []) (hts : (f.params.toList.all fun t => P.readableRec t && decide (t < P.types.size)) = true) (hres : f.resultTypes = #[tb]) (htb : P.underlying tb = some .bool)
    (hfn : s.fn X ds = { results := [.lit (.bool true)], args := ds })
    (hW : DataW.Whole enc P f.params.toList s.vars false W args.toList ds gs before)
    {gl : Nat → Option ((t : Ty) × t.T)} {avs : List V} (hF : Fn P gl fid avs (.val (.one (.bool true))) true) (hg : GlobOk gl (HW W)) (ha : DenVs ρ0 (HW W) avs args.toList) :
    Calls P fid args W fun e W' => ∃ v, e = .returned v ∧ s.post enc P f false true false false W args v W' := by
  refine (hF W (HW W) args.toList (fun b o h => h) hg ha).mono fun e W' h => ?_
  obtain ⟨v, H', rfl, hb, _, _, hd⟩ := h
  exact ⟨v, rfl, law_post hl hvars hts hres htb hfn hW hb hd.2⟩

theorem glob_tab {P : Program} {W : World} {name : String} {k : IntKind} {zs : List Int} {g : Nat} (h : Lib.TabIs P W name k zs) (hg : P.globalNamed name = some g) :
    ∃ c e fr, HW W g = some (.cells c e fr) ∧ Rd (HW W) (.arr zs.length (.int k)) zs (seg c 0 (zs.length * 1)) := by
  unfold Lib.TabIs at h
  simp only [World.var?, hg, Option.bind_some] at h
  split at h
  · rename_i cs e fr hh
    cases h
    refine ⟨_, _, _, hh, ?_⟩
    have e1 : seg (zs.map fun z => Value.int k z).toArray 0 (zs.length * 1) = zs.map fun z => Value.int k z := by
      simp [seg, List.take_of_length_le]
    rw [e1]
    refine ⟨rfl, by simp [Ty.sz], fun i hi => ?_⟩
    show List.take 1 (List.drop (i * 1) (List.map (fun z => Value.int k z) zs)) = [Value.int k zs[i]]
    simp only [Nat.mul_one]
    rw [List.drop_eq_getElem_cons (by simpa using hi)]
    simp
  · cases h
end Go.Sx
