/- A verified symbolic run of functions, part 17: lemmas, no claim of their own. -/
import Derived.Test.YtpbipfdpoijgoaaGreatDoorS16
import Derived.OpenShut
import Derived.ProofKit
import Derived.Carry
import Derived.OpenVars
import Derived.Lib.LaidTab
import Derived.ChangeSame
import Derived.WalkKit
import Derived.Deep.DeepHandedRow
import Derived.JoinedCond
import Derived.KernelRfl
import Derived.Test.YtpbipfdpoijgoaaGreatDoorProg
import Derived.Test.YtpbipfdpoijgoaaGreatDoorCards
/- The plain law: streams of reels, whatever the name. -/
namespace Go.Sx
open U

theorem Bytes.app {a b : List Int} (h : Bytes a) (k : Bytes b) : Bytes (a ++ b) := by
  intro x hx
  rcases List.mem_append.1 hx with h' | h'
  · exact h x h'
  · exact k x h'

theorem rdRec_frame {l t : List Int} {c : Int} (hl : l.length < 256) (hc : 0 ≤ c ∧ c ≤ 65535) : rdRec (tframe l.length c ++ t) l = (0, false, c) := by
  have hn : number (((tframe l.length c ++ t).drop 1).take 2) = c := by
    show 256 * (256 * 0 + c / 256 % 256) + c % 256 = c
    omega
  have h0 : (tframe l.length c ++ t).getD 0 0 = 70 := rfl
  have he : recErr ((tframe l.length c ++ t).getD 0 0) l.length = 0 := by
    rw [h0]
    have : (((l.length : Nat) : Int) == 256) = false := by simp; omega
    unfold recErr
    rw [this]
    rfl
  rw [rdRec_full he (by simp [tframe_len]), hn, h0]
  have ht : List.take 5 (tframe l.length c ++ t) = tframe l.length c := rfl
  rw [ht]
  rw [if_neg (by decide)]
  simp [whenE]

theorem rdRec_last {l t : List Int} (hl : l.length ≤ 256) : rdRec (tlast l ++ t) l = (0, true, (l.length : Int)) := by
  have hn : number (((tlast l ++ t).drop 1).take 2) = l.length := by
    show 256 * (256 * 0 + (l.length : Int) / 256 % 256) + (l.length : Int) % 256 = l.length
    omega
  have h0 : (tlast l ++ t).getD 0 0 = 69 := rfl
  have he : recErr ((tlast l ++ t).getD 0 0) l.length = 0 := by rw [h0]; rfl
  rw [rdRec_full he (by simp [tlast_len]), hn, h0]
  have ht : List.take 5 (tlast l ++ t) = tlast l := rfl
  rw [ht, if_pos (by decide)]
  simp [whenE]

theorem rdRec_part {l t : List Int} (hl : t.length = 0 ∨ l.length < 256 ∨ t.getD 0 0 = 69) (ht : t.length < 5) (h0 : t.length = 0 ∨ t.getD 0 0 = 69 ∨ t.getD 0 0 = 70) : rdRec t l = (28, false, 0) := by
  by_cases h1 : t.length < 1
  · exact rdRec_none h1
  · refine rdRec_torn h1 ?_ ht
    rcases h0 with h0 | h0 | h0
    · omega
    · rw [h0]; rfl
    · rw [h0] at hl ⊢
      have hl' : l.length < 256 := by
        rcases hl with h | h | h
        · omega
        · exact h
        · cases h
      have : (((l.length : Nat) : Int) == 256) = false := by simp; omega
      unfold recErr
      rw [this]
      rfl

/-- Some frames' records. -/
def recsF (l : List Int) : Nat → Nat → List Int
  | _, 0 => []
  | i, k + 1 => tframe i (l.getD i 0) ++ recsF l (i + 1) k

theorem recs_recsF (l : List Int) : ∀ k i, recs l i ++ recsF l i k = recs l (i + k)
  | 0, i => by simp [recsF]
  | k + 1, i => by
    have := recs_recsF l k (i + 1)
    rw [show i + (k + 1) = (i + 1) + k by omega, ← this]
    simp [recsF, recs]

theorem recsF_len (l : List Int) : ∀ k i, (recsF l i k).length = 5 * k
  | 0, _ => rfl
  | k + 1, i => by simp only [recsF, List.length_append, recsF_len l k, tframe_len]; omega

theorem take_succ' {l : List Int} {i : Nat} (h : i < l.length) : l.take i ++ [l.getD i 0] = l.take (i + 1) := by
  rw [getD_of h, List.take_succ_eq_append_getElem h]

theorem rdAll_recs {l : List Int} (hw : W16 l) (h256 : l.length ≤ 256) (t : List Int) (m : Nat) : ∀ k i, i + k ≤ l.length → rdAll (m + k) (recsF l i k ++ t) (l.take i) = rdAll m t (l.take (i + k))
  | 0, i, _ => rfl
  | k + 1, i, h => by
    have hi : i < l.length := by omega
    have hlen : (l.take i).length = i := by rw [List.length_take]; omega
    have hc := hw _ (List.getElem_mem hi)
    have hr := rdRec_frame (l := l.take i) (t := recsF l (i + 1) k ++ t) (c := l.getD i 0) (by omega) (by rw [getD_of hi]; exact hc)
    rw [hlen] at hr
    have e : recsF l i (k + 1) ++ t = tframe i (l.getD i 0) ++ (recsF l (i + 1) k ++ t) := by simp [recsF]
    rw [e, show m + (k + 1) = (m + k) + 1 by omega, rdAll_more (by rw [hr]) (by rw [hr]), hr]
    have hd : List.drop 5 (tframe i (l.getD i 0) ++ (recsF l (i + 1) k ++ t)) = recsF l (i + 1) k ++ t := rfl
    rw [hd]
    simp only []
    rw [take_succ' hi, rdAll_recs hw h256 t m k (i + 1) (by omega)]
    congr 1
    congr 1
    omega

theorem rbAll_recs {f : Int} {l : List Int} (hw : W16 l) (h256 : l.length ≤ 256) (hf : f + (l.length : Int) ≤ 10000000) (t : List Int) (m : Nat) : ∀ k i, i + k ≤ l.length → rbAll f (m + k) (recsF l i k ++ t) (l.take i) = rbAll f m t (l.take (i + k))
  | 0, i, _ => rfl
  | k + 1, i, h => by
    have hi : i < l.length := by omega
    have hlen : (l.take i).length = i := by rw [List.length_take]; omega
    have hc := hw _ (List.getElem_mem hi)
    have hr := rdRec_frame (l := l.take i) (t := recsF l (i + 1) k ++ t) (c := l.getD i 0) (by omega) (by rw [getD_of hi]; exact hc)
    rw [hlen] at hr
    have e : recsF l i (k + 1) ++ t = tframe i (l.getD i 0) ++ (recsF l (i + 1) k ++ t) := by simp [recsF]
    rw [e, show m + (k + 1) = (m + k) + 1 by omega, rbAll_more (by rw [hr]; exact ⟨rfl, rfl, by rw [hlen]; omega⟩), hr]
    have hd : List.drop 5 (tframe i (l.getD i 0) ++ (recsF l (i + 1) k ++ t)) = recsF l (i + 1) k ++ t := rfl
    rw [hd]
    simp only []
    rw [take_succ' hi, rbAll_recs hw h256 hf t m k (i + 1) (by omega)]
    congr 1
    congr 1
    omega

/-- What is left of a record that is cut off. -/
theorem tail_head {l : List Int} {k n q : Nat} (hn : k + n = l.length) : ((recsF l k n ++ tlast l).take q).length = 0 ∨ ((recsF l k n ++ tlast l).take q).getD 0 0 = 69 ∧ n = 0 ∨ ((recsF l k n ++ tlast l).take q).getD 0 0 = 70 ∧ n ≠ 0 := by
  cases q with
  | zero => exact .inl rfl
  | succ q =>
    cases n with
    | zero => exact .inr (.inl ⟨rfl, rfl⟩)
    | succ n => exact .inr (.inr ⟨rfl, by omega⟩)

theorem record_bytes {k a b : Int} (hk : 0 ≤ k ∧ k ≤ 255) : Bytes (record k a b) := by
  intro x hx
  simp only [record, List.mem_cons, List.not_mem_nil, or_false] at hx
  rcases hx with rfl | rfl | rfl | rfl | rfl <;> omega


theorem isName_byte {nm : List UInt8} (h : isName nm = true) : ∀ b ∈ nm, b.toNat < 128 := by
  unfold isName at h
  simp only [Bool.and_eq_true, List.all_eq_true] at h
  intro b hb
  obtain ⟨i, hi, rfl⟩ := List.mem_iff_getElem.1 hb
  have := h.1 i (List.mem_range.2 hi)
  unfold nameAt at this
  rw [getD_of hi] at this
  simp only [Bool.or_eq_true, Bool.and_eq_true, decide_eq_true_eq, beq_iff_eq] at this
  omega
theorem plain_name {nm : List UInt8} (h : isName nm = true) : plain nm = true := by
  unfold plain
  rw [List.all_eq_true]
  exact fun b hb => decide_eq_true (isName_byte h b hb)
theorem bytesOf_strNs (nm : List UInt8) : bytesOf (strNs nm) = nm := by
  unfold bytesOf strNs
  rw [List.map_map]
  have : ((fun n : Int => UInt8.ofNat n.toNat) ∘ fun c : UInt8 => (c.toNat : Int)) = id := by
    funext c
    simp
  rw [this, List.map_id]
theorem head_len (nm : List UInt8) (f : Int) : (head nm f).length = 9 + nm.length := by
  simp only [head, List.length_append, strNs_len, four, List.length_cons, List.length_nil]; omega
theorem four_num {f : Int} (hf : 0 ≤ f ∧ f ≤ 10000000) : number (four f) = f := by
  show 256 * (256 * (256 * (256 * 0 + f / 16777216 % 256) + f / 65536 % 256) + f / 256 % 256) + f % 256 = f
  omega

theorem begin_nm {nm : List UInt8} {f : Int} (hn : isName nm = true) (hf : 0 ≤ f ∧ f ≤ 10000000) (r : List Int) : rdBegin (head nm f ++ r) = (0, nm, f, r) := by
  obtain ⟨l1, l2⟩ := isName_len hn
  have e : head nm f ++ r = [82, 69, 69, 76] ++ ([((nm.length : Int)) % 256] ++ (strNs nm ++ (four f ++ r))) := by
    simp only [head, List.append_assoc]
  rw [e]
  have d4 : List.drop 4 ([82, 69, 69, 76] ++ ([((nm.length : Int)) % 256] ++ (strNs nm ++ (four f ++ r)))) = [((nm.length : Int)) % 256] ++ (strNs nm ++ (four f ++ r)) := rfl
  have t4 : List.take 4 ([82, 69, 69, 76] ++ ([((nm.length : Int)) % 256] ++ (strNs nm ++ (four f ++ r)))) = [82, 69, 69, 76] := rfl
  have g0 : (([((nm.length : Int)) % 256] ++ (strNs nm ++ (four f ++ r))).getD 0 0).toNat = nm.length := by
    show ((nm.length : Int) % 256).toNat = nm.length
    omega
  have d1 : List.drop 1 ([((nm.length : Int)) % 256] ++ (strNs nm ++ (four f ++ r))) = strNs nm ++ (four f ++ r) := rfl
  have tk : List.take nm.length (strNs nm ++ (four f ++ r)) = strNs nm := by rw [List.take_append_of_le_length (by rw [strNs_len]; exact Nat.le_refl _), List.take_of_length_le (by rw [strNs_len]; exact Nat.le_refl _)]
  have dk : List.drop nm.length (strNs nm ++ (four f ++ r)) = four f ++ r := by rw [List.drop_append_of_le_length (by rw [strNs_len]; exact Nat.le_refl _), List.drop_of_length_le (by rw [strNs_len]; exact Nat.le_refl _)]; rfl
  have t5 : List.take 4 (four f ++ r) = four f := rfl
  have d5 : List.drop 4 (four f ++ r) = r := rfl
  unfold rdBegin
  rw [if_neg (by simp), t4, if_pos rfl, d4, g0, d1, tk, dk, t5, d5, bytesOf_strNs, plain_name hn, hn, four_num hf, if_neg (by simp), if_neg (by simp [strNs_len]), if_pos (show (true && true) = true from rfl), if_neg (by simp [four]), decide_eq_false (by omega)]
  rfl

section
variable {nm : List UInt8} {f : Int} {l : List Int}

theorem stream_eq : stream nm f l = head nm f ++ (recsF l 0 l.length ++ tlast l) := by
  unfold stream
  have a := recs_recsF l l.length 0
  rw [Nat.zero_add] at a
  rw [← a, List.append_assoc]
  rfl
theorem stream_length : (stream nm f l).length = 9 + nm.length + 5 * l.length + 5 := by
  rw [stream_eq]
  simp only [List.length_append, recsF_len, tlast_len, head_len]; omega

theorem cut_eqN (k q : Nat) (hk : k ≤ l.length) : (stream nm f l).take (9 + nm.length + 5 * k + q) = head nm f ++ (recsF l 0 k ++ (recsF l k (l.length - k) ++ tlast l).take q) := by
  have e1 : recsF l 0 l.length = recsF l 0 k ++ recsF l k (l.length - k) := by
    have a := recs_recsF l k 0
    have b := recs_recsF l (l.length - k) k
    have c := recs_recsF l l.length 0
    rw [show k + (l.length - k) = l.length by omega] at b
    have e0 : recs l 0 = [] := rfl
    rw [e0, List.nil_append, Nat.zero_add] at a c
    rw [c, ← b, a]
  have e2 : stream nm f l = (head nm f ++ recsF l 0 k) ++ (recsF l k (l.length - k) ++ tlast l) := by
    rw [stream_eq, e1]
    simp only [List.append_assoc]
  have hl : (head nm f ++ recsF l 0 k).length = 9 + nm.length + 5 * k := by rw [List.length_append, recsF_len, head_len]
  rw [e2, List.take_append, List.take_of_length_le (by omega), hl, show 9 + nm.length + 5 * k + q - (9 + nm.length + 5 * k) = q by omega, List.append_assoc]

theorem cut_lenN (k q : Nat) (hk : k ≤ l.length) (hq : q < 5) : ((stream nm f l).take (9 + nm.length + 5 * k + q)).length = 9 + nm.length + 5 * k + q := by
  rw [List.length_take, stream_length]; omega

variable (h : ReelOk nm f l)
include h
theorem tail_recN (k q : Nat) (hk : k ≤ l.length) (hq : q < 5) : rdRec ((recsF l k (l.length - k) ++ tlast l).take q) (l.take k) = (28, false, 0) := by
  have ht := tail_head (l := l) (k := k) (n := l.length - k) (q := q) (by omega)
  have hlt : (l.take k).length = k := by rw [List.length_take]; omega
  have h2 := h.len
  refine rdRec_part ?_ (by rw [List.length_take]; omega) ?_
  · rcases ht with ht | ht | ht
    · exact .inl ht
    · exact .inr (.inr ht.1)
    · exact .inr (.inl (by omega))
  · rcases ht with ht | ht | ht
    · exact .inl ht
    · exact .inr (.inl ht.1)
    · exact .inr (.inr ht.1)

theorem read_cutN (k q : Nat) (hk : k ≤ l.length) (hq : q < 5) : readS ((stream nm f l).take (9 + nm.length + 5 * k + q)) = (([], 0, []), 28) := by
  have hlen := cut_lenN (nm := nm) (f := f) k q hk hq
  rw [cut_eqN k q hk] at *
  have hb := begin_nm h.name h.start (recsF l 0 k ++ (recsF l k (l.length - k) ++ tlast l).take q)
  refine readS_err hb (l := l.take k) (q := (recsF l k (l.length - k) ++ tlast l).take q) ?_ (by decide)
  rw [hlen, show 9 + nm.length + 5 * k + q + 1 = (9 + nm.length + 4 * k + q + 1) + k by omega]
  have := rdAll_recs h.w h.len ((recsF l k (l.length - k) ++ tlast l).take q) (9 + nm.length + 4 * k + q + 1) k 0 (by omega)
  rw [Nat.zero_add, List.take_zero] at this
  rw [this]
  have hp := tail_recN h k q hk hq
  rw [rdAll_stop (by rw [hp]; decide), hp]

theorem rebuilt_cutN (k q : Nat) (h1 : 1 ≤ k) (hk : k ≤ l.length) (hq : q < 5) : rebuilt ((stream nm f l).take (9 + nm.length + 5 * k + q)) = ((nm, f, l.take k), false, 0) := by
  have hlen := cut_lenN (nm := nm) (f := f) k q hk hq
  have hrd := read_cutN h k q hk hq
  rw [cut_eqN k q hk] at *
  have hb := begin_nm h.name h.start (recsF l 0 k ++ (recsF l k (l.length - k) ++ tlast l).take q)
  have hlt : (l.take k).length = k := by rw [List.length_take]; omega
  have hx := rebuilt_some hb (l := l.take k) ?_ (by omega)
  · rw [hx, hrd]; rfl
  rw [hlen, show 9 + nm.length + 5 * k + q + 1 = (9 + nm.length + 4 * k + q + 1) + k by omega]
  have := rbAll_recs h.w h.len h.fin ((recsF l k (l.length - k) ++ tlast l).take q) (9 + nm.length + 4 * k + q + 1) k 0 (by omega)
  rw [Nat.zero_add, List.take_zero] at this
  rw [this]
  have hp := tail_recN h k q hk hq
  exact rbAll_stop (by rw [hp]; simp)

theorem read_allN : readS (stream nm f l) = ((nm, f, l), 0) := by
  have hb := begin_nm h.name h.start (recsF l 0 l.length ++ tlast l)
  rw [← stream_eq] at hb
  refine readS_ok hb (l := l) (q := []) ?_ ?_
  · rw [stream_length, show 9 + nm.length + 5 * l.length + 5 + 1 = (9 + nm.length + 4 * l.length + 5 + 1) + l.length by omega]
    have := rdAll_recs h.w h.len (tlast l) (9 + nm.length + 4 * l.length + 5 + 1) l.length 0 (by omega)
    rw [Nat.zero_add, List.take_zero, List.take_length] at this
    rw [this]
    have hr := rdRec_last (l := l) (t := []) h.len
    rw [List.append_nil] at hr
    rw [rdAll_last (by rw [hr]) (by rw [hr])]
    rfl
  · rw [checkReel_zero.2 h]; rfl

omit h in
theorem stream_byte : Bytes (stream nm f l) := by
  unfold stream
  refine Bytes.app (Bytes.app ?_ ?_) ?_
  · intro x hx
    simp only [head, four, List.mem_append, List.mem_cons, List.not_mem_nil, or_false] at hx
    rcases hx with ((hx | hx) | hx) | hx
    · rcases hx with rfl | rfl | rfl | rfl <;> omega
    · omega
    · unfold strNs at hx
      obtain ⟨c, _, rfl⟩ := List.mem_map.1 hx
      have := c.toNat_lt
      omega
    · rcases hx with rfl | rfl | rfl | rfl <;> omega
  · have key : ∀ i, Bytes (recs l i) := by
      intro i
      induction i with
      | zero => intro x hx; cases hx
      | succ i ih => exact Bytes.app ih (record_bytes (by omega))
    exact key _
  · exact record_bytes (by omega)
end
end Go.Sx

/- Contracts. -/
namespace Go.Sx
open U
theorem ns_bytes {x : List Int} (h : Bytes x) : strNs (bytesOf x) = x := by
  unfold strNs bytesOf
  rw [List.map_map]
  conv => rhs; rw [← List.map_id x]
  refine List.map_congr_left fun b hb => ?_
  have := h b hb
  show ((UInt8.ofNat b.toNat).toNat : Int) = b
  rw [UInt8.toNat_ofNat']
  omega
theorem bytes_inj {x y : List Int} (hx : Bytes x) (hy : Bytes y) : (bytesOf x != bytesOf y) = !decide (x = y) := by
  by_cases h : x = y
  · simp [h]
  · have : bytesOf x ≠ bytesOf y := fun e => h (by rw [← ns_bytes hx, ← ns_bytes hy, e])
    simp [h, this]
theorem rec_byt {k a b : Int} (hk : 0 ≤ k ∧ k ≤ 255) : Bytes (U.record k a b) := fun x hx => by
  simp only [U.record, List.mem_cons, List.not_mem_nil, or_false] at hx
  omega
theorem getD_drop (s : List Int) (a i : Nat) : (s.drop a).getD i 0 = s.getD (a + i) 0 := by
  simp only [List.getD_eq_getElem?_getD, List.getElem?_drop]
theorem byte_at {s : List Int} (hb : Bytes s) (i : Nat) : 0 ≤ s.getD i 0 ∧ s.getD i 0 ≤ 255 := by
  by_cases h : i < s.length
  · exact hb _ (getD_mem h)
  · rw [List.getD_eq_getElem?_getD, List.getElem?_eq_none (by omega)]; decide
theorem num2 {s : List Int} (h : 3 ≤ s.length) : number ((s.drop 1).take 2) = 256 * s.getD 1 0 + s.getD 2 0 := by
  match s, h with
  | [], h => simp at h
  | [_], h => simp at h
  | [_, _], h => simp at h
  | x :: y :: z :: r, _ => show 256 * (256 * 0 + y) + z = _; simp
theorem num4 {s : List Int} (h : 4 ≤ s.length) : number (s.take 4) = 256 * (256 * (256 * (256 * 0 + s.getD 0 0) + s.getD 1 0) + s.getD 2 0) + s.getD 3 0 := by
  match s, h with
  | [], h => simp at h
  | [_], h => simp at h
  | [_, _], h => simp at h
  | [_, _, _], h => simp at h
  | x :: y :: z :: w :: r, _ => rfl
theorem begin_eq {s : List Int} {K : Nat} (hK : s.getD 4 0 = (K : Int)) : rdBegin s =
    if s.length < 4 then (28, [], 0, []) else if s.take 4 = [82, 69, 69, 76] then
      if s.length - 4 < 1 then (28, [], 0, []) else if s.length - 5 < K then (28, [], 0, []) else
      if plain (bytesOf ((s.drop 5).take K)) && isName (bytesOf ((s.drop 5).take K)) then
        if s.length - (5 + K) < 4 then (28, [], 0, []) else
        (whenE (decide (10000000 < number ((s.drop (5 + K)).take 4))) 1, bytesOf ((s.drop 5).take K), number ((s.drop (5 + K)).take 4), s.drop (5 + K + 4))
      else (1, [], 0, []) else (1, [], 0, []) := by
  have d0 : (s.drop 4).getD 0 0 = (K : Int) := by rw [getD_drop, hK]
  have d1 : (s.drop 4).drop 1 = s.drop 5 := List.drop_drop
  have d2 : (s.drop 5).drop K = s.drop (5 + K) := List.drop_drop
  have d3 : (s.drop (5 + K)).drop 4 = s.drop (5 + K + 4) := List.drop_drop
  unfold rdBegin
  simp only [d0, d1, d2, d3, Int.toNat_natCast, List.length_drop]
/-- What a beginning that is right says. -/
theorem begin_ok {s : List Int} (hb : Bytes s) (h : (rdBegin s).1 = 0) : (0 ≤ hdAt s ∧ hdAt s ≤ s.length) ∧ (rdBegin s).2.2.2 = s.drop (hdAt s).toNat ∧ (rdBegin s).2.1.length ≤ 255 ∧ (0 ≤ (rdBegin s).2.2.1 ∧ (rdBegin s).2.2.1 ≤ 10000000) := by
  have h4 := byte_at hb 4
  obtain ⟨K, hK⟩ : ∃ K : Nat, s.getD 4 0 = (K : Int) := ⟨(s.getD 4 0).toNat, by omega⟩
  have hA : hdAt s = 9 + (K : Int) := by unfold hdAt; rw [hK]
  have e := begin_eq hK
  by_cases c1 : s.length < 4
  · rw [if_pos c1] at e; rw [e] at h; cases h
  rw [if_neg c1] at e
  by_cases c2 : s.take 4 = [82, 69, 69, 76]
  rotate_left
  · rw [if_neg c2] at e; rw [e] at h; cases h
  rw [if_pos c2] at e
  by_cases c3 : s.length - 4 < 1
  · rw [if_pos c3] at e; rw [e] at h; cases h
  rw [if_neg c3] at e
  by_cases c4 : s.length - 5 < K
  · rw [if_pos c4] at e; rw [e] at h; cases h
  rw [if_neg c4] at e
  by_cases c5 : (plain (bytesOf ((s.drop 5).take K)) && isName (bytesOf ((s.drop 5).take K))) = true
  rotate_left
  · rw [if_neg c5] at e; rw [e] at h; cases h
  rw [if_pos c5] at e
  by_cases c6 : s.length - (5 + K) < 4
  · rw [if_pos c6] at e; rw [e] at h; cases h
  rw [if_neg c6] at e
  rw [e] at h ⊢
  have hw := of_decide_eq_false ((whenE_zero (by decide)).1 h)
  have hn := number_bd 4 ((s.drop (5 + K)).take 4) (byTake (byDrop hb _) _) (by simp; omega)
  refine ⟨by omega, ?_, ?_, ?_⟩
  · show s.drop (5 + K + 4) = s.drop (hdAt s).toNat
    rw [hA]
    congr 1
    omega
  · show (bytesOf ((s.drop 5).take K)).length ≤ 255
    simp only [bytesOf, List.length_map, List.length_take]
    omega
  · exact ⟨hn.1, by dsimp only; omega⟩
theorem rdRec_zero {s l : List Int} (h : (rdRec s l).1 = 0) : 5 ≤ s.length ∧ ((rdRec s l).2.1 = false → l.length ≠ 256) ∧ (rdRec s l).2.2 = number ((s.drop 1).take 2) := by
  by_cases h1 : s.length < 1
  · rw [rdRec_none h1] at h; cases h
  by_cases he : recErr (s.getD 0 0) l.length = 0
  rotate_left
  · rw [rdRec_bad h1 he] at h; exact absurd h he
  by_cases h5 : s.length < 5
  · rw [rdRec_torn h1 he h5] at h; cases h
  rw [rdRec_full he h5]
  refine ⟨by omega, fun hk => ?_, rfl⟩
  rcases (recErr_zero he).2 with h6 | h6
  · have hk : (s.getD 0 0 == 69) = false := hk
    rw [h6] at hk; cases hk
  · exact h6
theorem rbAll_len (f : Int) : ∀ (n : Nat) (s l : List Int), (rbAll f n s l).length ≤ l.length + n
  | 0, _, l => Nat.le_refl _
  | n + 1, s, l => by
    rw [rbAll]
    split
    · have := rbAll_len f n (s.drop 5) (l ++ [(rdRec s l).2.2])
      simp only [List.length_append, List.length_cons, List.length_nil] at this
      omega
    · omega
theorem fn103 (n : Int) (hn : 0 ≤ n ∧ n ≤ 65535) : Fn P1 gl1 103 [iV n] (.val (.one (.frs (.int .u8) [n / 256 % 256, n % 256]))) true := by
  refine Fn.flat ?_ rfl
  refine fn_of false [] [] h0 0 Proofs.Tryz.f103 trivial trivial (by kernel_rfl) rfl (by kernel_rfl) rfl rfl rfl ?_
  rw [vc103]
  try simp only [splitB_iff, -eq_self]
  exact ⟨⟨by omega, by omega, by simp only [fits]; omega⟩, ⟨by omega, by omega⟩, by simp, trivial⟩
theorem so103_ : SpecOk P1 gl1 103 sp103 := by
  intro vs ps r h hp
  simp only [sp103] at h
  split at h
  · cases h; exact fn103 _ (hp _ (.head _))
  · cases h
theorem so103 : Sp1 103 sp103 := ⟨so103_, Proofs.Tryz.f103, _, by kernel_rfl, rfl, by kernel_rfl⟩
theorem fn104 (n c : Int) (hn : 0 ≤ n ∧ n ≤ 1000) (hc : 0 ≤ c ∧ c ≤ 65535) : Fn P1 gl1 104 [iV n, iV c] (.val (.one (.frs (.int .u8) (tframe n c)))) true := by
  refine Fn.flat ?_ rfl
  refine fn_of false [(103, sp103)] [] h0 0 Proofs.Tryz.f104 ⟨so103, trivial⟩ trivial (by kernel_rfl) rfl (by kernel_rfl) rfl rfl rfl ?_
  rw [vc104]
  try simp only [splitB_iff, -eq_self]
  exact ⟨hc, by simp [room], by simp only [fits]; omega, by simp only [fits]; omega, by simp only [fits]; omega, by simp only [fits]; omega, ⟨by omega, by omega⟩, ⟨by omega, by omega⟩, by simp [room], rfl, trivial⟩
theorem so104_ : SpecOk P1 gl1 104 sp104 := by
  intro vs ps r h hp
  simp only [sp104] at h
  split at h
  · cases h; exact fn104 _ _ (hp _ (.head _)) (hp _ (.tail _ (.head _)))
  · cases h
theorem so104 : Sp1 104 sp104 := ⟨so104_, Proofs.Tryz.f104, _, by kernel_rfl, rfl, by kernel_rfl⟩
theorem fn105 (l : List Int) (hl : l.length ≤ 65535) (hw : W16 l) : Fn P1 gl1 105 [.one (.sl (.int .i64) l)] (.val (.one (.frs (.int .u8) (tlast l)))) true := by
  refine Fn.flat ?_ rfl
  refine fn_of false [(103, sp103)] [] h105 0 Proofs.Tryz.f105 ⟨so103, trivial⟩ trivial (by kernel_rfl) rfl (by kernel_rfl) rfl rfl rfl ?_
  rw [vc105]
  try simp only [splitB_iff, -eq_self]
  have hi : ∀ g, g < l.length → isum (l.take (g + 1)) = isum (l.take g) + l.getD g 0 := fun g hg => by rw [isum_snoc l g hg, getD_of hg]
  refine ⟨⟨0, Nat.zero_le _, rfl, rfl, by trivial, trivial⟩, fun g hg => ⟨fun hlt => ?_, fun hge => ?_⟩⟩
  · have hlt' : g < l.length := by have := of_decide_eq_true hlt; omega
    have hx := hw _ (getD_mem (d := 0) hlt')
    refine ⟨by omega, by simp only [fits]; omega, ⟨by omega, by omega⟩, by simp only [fits]; omega, g + 1, hlt', by omega, by omega, ?_, by trivial, trivial⟩
    rw [hi g hlt', Int.emod_add_emod]
  · have hgl : g = l.length := by have := of_decide_eq_false hge; have : g ≤ l.length := hg; omega
    subst hgl
    rw [List.take_length]
    exact ⟨by omega, by simp [room], ⟨by omega, by omega⟩, by simp [room], rfl, trivial⟩
theorem so105_ : SpecOk P1 gl1 105 sp105 := by
  intro vs ps r h hp
  simp only [sp105] at h
  split at h
  · cases h; exact fn105 _ (hp _ (.head _)) (hp _ (.tail _ (.head _)))
  · cases h
theorem so105 : Sp1 105 sp105 := ⟨so105_, Proofs.Tryz.f105, _, by kernel_rfl, rfl, by kernel_rfl⟩
theorem fn119 (s : List Int) (a : Int) (nm : List UInt8) (f : Int) (l : List Int) (hl : s.length ≤ 1000000) (hb : Bytes s) (ha : 0 ≤ a ∧ a ≤ 1000000) (hll : l.length ≤ 256) (hw : W16 l) : Fn P1 gl1 119 [.one (.sl (.int .u8) s), iV a, rV nm f l] (.tup [iV (if (recS s a l).1 = 0 then (recS s a l).2.2 else 0), bV (if (recS s a l).1 = 0 then (recS s a l).2.1 else false), iV (recS s a l).1]) true := by
  refine Fn.flat ?_ rfl
  refine fn_of false [(104, sp104), (105, sp105)] [] h0 0 Proofs.Tryz.f119 ⟨so104, so105, trivial⟩ trivial (by kernel_rfl) rfl (by kernel_rfl) rfl rfl rfl ?_
  rw [vc119]
  try simp only [splitB_iff, -eq_self]
  have hcl : (s.drop a.toNat).length = s.length - a.toNat := List.length_drop
  have hcb : Bytes (s.drop a.toNat) := byDrop hb _
  have h0 := getD_drop s a.toNat 0
  have h1 := getD_drop s a.toNat 1
  have h2 := getD_drop s a.toNat 2
  rw [Nat.add_zero] at h0
  have e1 : (a + 1).toNat = a.toNat + 1 := by omega
  have e2 : (a + 2).toNat = a.toNat + 2 := by omega
  have e5 : (a + 5).toNat - a.toNat = 5 := by omega
  have b0 := byte_at hcb 0
  have b1 := byte_at hcb 1
  have b2 := byte_at hcb 2
  have hR : recS s a l = rdRec (s.drop a.toNat) l := rfl
  simp only [e1, e2, e5, hR, ← h0, ← h1, ← h2]
  generalize s.drop a.toNat = c at *
  have fail : ∀ {e : Int}, (rdRec c l).1 = e → e ≠ 0 → (0 = if (rdRec c l).1 = 0 then (rdRec c l).2.2 else 0) ∧ (false = if (rdRec c l).1 = 0 then (rdRec c l).2.1 else false) ∧ e = (rdRec c l).1 ∧ True := by
    intro e g1 g2
    rw [if_neg (by rw [g1]; exact g2), if_neg (by rw [g1]; exact g2)]
    exact ⟨rfl, rfl, g1.symm, trivial⟩
  refine ⟨fun h => fail (by rw [rdRec_none (by have := of_decide_eq_true h; omega)]) (by decide), fun h => ⟨by have := of_decide_eq_false h; omega, fun _ => by have := of_decide_eq_false h; omega, fun h3 => ?_, fun h3 => ⟨by have := of_decide_eq_false h; omega, fun h4 => ?_, fun h4 => ⟨by simp only [fits]; omega, fun h5 => ?_, fun h5 => ?_⟩⟩⟩⟩
  · simp only [bcond_r, Bool.and_eq_true, bne_iff_ne] at h3
    have he : recErr (c.getD 0 0) l.length = 1 := by
      unfold recErr
      rw [show (!(c.getD 0 0 == 69) && (c.getD 0 0 != 70)) = true by rw [show (c.getD 0 0 == 69) = false from beq_eq_false_iff_ne.2 h3.2, show (c.getD 0 0 != 70) = true from bne_iff_ne.2 h3.1]; rfl]; rfl
    exact fail (by rw [rdRec_bad (by have := of_decide_eq_false h; omega) (by rw [he]; decide), he]) (by decide)
  · simp only [bcond_r, Bool.and_eq_true, beq_iff_eq] at h4
    have he : recErr (c.getD 0 0) l.length = 5 := by
      unfold recErr
      rw [h4.1, h4.2]; rfl
    exact fail (by rw [rdRec_bad (by have := of_decide_eq_false h; omega) (by rw [he]; decide), he]) (by decide)
  all_goals
    have he : recErr (c.getD 0 0) l.length = 0 := by
      simp only [bcond_r, Bool.and_eq_false_iff, beq_eq_false_iff_ne, bne_eq_false_iff_eq] at h3 h4
      unfold recErr
      by_cases q : c.getD 0 0 = 69
      · rw [q]; rfl
      · have q70 : c.getD 0 0 = 70 := by rcases h3 with h3 | h3 <;> first | exact h3 | exact absurd h3 q
        have q256 : ((l.length : Int) == 256) = false := by
          rcases h4 with h4 | h4
          · exact absurd q70 h4
          · simpa using h4
        rw [q70, q256]; rfl
  · exact fail (by rw [rdRec_torn (by have := of_decide_eq_false h; omega) he (by have := of_decide_eq_true h5; omega)]) (by decide)
  · have h5' := of_decide_eq_false h5
    have hfull := rdRec_full he (show ¬ c.length < 5 by omega)
    have hn := num2 (s := c) (by omega)
    have hB5 : Bytes (c.take 5) := byTake hcb _
    rw [hn] at hfull
    have okk : ∀ {b : Bool}, rdRec c l = (0, b, 256 * c.getD 1 0 + c.getD 2 0) → (256 * c.getD 1 0 + c.getD 2 0 = if (rdRec c l).1 = 0 then (rdRec c l).2.2 else 0) ∧ (b = if (rdRec c l).1 = 0 then (rdRec c l).2.1 else false) ∧ 0 = (rdRec c l).1 ∧ True := by
      intro b g1
      rw [g1]
      exact ⟨rfl, rfl, rfl, trivial⟩
    refine ⟨by simp only [fits]; omega, by omega, by simp only [fits]; omega, by simp only [fits]; omega, by simp only [fits]; omega, by omega, by simp only [fits]; omega, by simp only [fits]; omega, by omega, by omega, by omega, fun h6 => ⟨by omega, hw, by simp only [fits]; omega, by omega, fun h7 => ?_, fun h7 => ⟨by omega, ?_⟩⟩, fun h6 => ⟨by simp only [fits]; omega, by omega, fun h7 => ?_, fun h7 => ⟨by omega, ?_⟩⟩⟩
    · rw [bytes_inj (x := tlast l) (rec_byt (by decide)) hB5] at h7
      have h7' : ¬ tlast l = c.take 5 := by simpa using h7
      rw [h6, if_pos rfl, show decide (c.take 5 = tlast l) = false from decide_eq_false fun e => h7' e.symm] at hfull
      exact fail (by rw [hfull]; rfl) (by decide)
    · rw [bytes_inj (x := tlast l) (rec_byt (by decide)) hB5] at h7
      have h7' : tlast l = c.take 5 := by simpa using h7
      rw [if_pos h6, show decide (c.take 5 = tlast l) = true from decide_eq_true h7'.symm] at hfull
      exact okk hfull
    · rw [bytes_inj (x := tframe l.length (256 * c.getD 1 0 + c.getD 2 0)) (rec_byt (by decide)) hB5] at h7
      have h7' : ¬ tframe l.length (256 * c.getD 1 0 + c.getD 2 0) = c.take 5 := by simpa using h7
      rw [h6, if_neg (by decide), show decide (c.take 5 = tframe l.length (256 * c.getD 1 0 + c.getD 2 0)) = false from decide_eq_false fun e => h7' e.symm] at hfull
      exact fail (by rw [hfull]; rfl) (by decide)
    · rw [bytes_inj (x := tframe l.length (256 * c.getD 1 0 + c.getD 2 0)) (rec_byt (by decide)) hB5] at h7
      have h7' : tframe l.length (256 * c.getD 1 0 + c.getD 2 0) = c.take 5 := by simpa using h7
      rw [if_neg (by rw [h6]; decide), show decide (c.take 5 = tframe l.length (256 * c.getD 1 0 + c.getD 2 0)) = true from decide_eq_true h7'.symm] at hfull
      exact okk hfull
theorem so119_ : SpecOk P1 gl1 119 sp119 := by
  intro vs ps r h hp
  simp only [sp119] at h
  split at h
  · cases h; exact fn119 _ _ _ _ _ (hp _ (.head _)) (hp _ (.tail _ (.head _))) (hp _ (.tail _ (.tail _ (.head _)))) (hp _ (.tail _ (.tail _ (.tail _ (.head _))))) (hp _ (.tail _ (.tail _ (.tail _ (.tail _ (.head _))))))
  · cases h
theorem so119 : Sp1 119 sp119 := ⟨so119_, Proofs.Tryz.f119, _, by kernel_rfl, rfl, by kernel_rfl⟩
theorem fn118 (s : List Int) (hl : s.length ≤ 1000000) (hb : Bytes s) : Fn P1 gl1 118 [.one (.sl (.int .u8) s)] (.tup [rnV (if (rdBegin s).1 = 0 then (rdBegin s).2.1 else []) (if (rdBegin s).1 = 0 then (rdBegin s).2.2.1 else 0), iV (if (rdBegin s).1 = 0 then hdAt s else 0), iV (rdBegin s).1]) true := by
  refine Fn.flat ?_ rfl
  refine fn_of false [(102, sp102)] [] h118 0 Proofs.Tryz.f118 ⟨so102, trivial⟩ trivial (by kernel_rfl) rfl (by kernel_rfl) rfl rfl rfl ?_
  rw [vc118]
  try simp only [splitB_iff, -eq_self]
  have h4 := byte_at hb 4
  obtain ⟨K, hK⟩ : ∃ K : Nat, s.getD 4 0 = (K : Int) := ⟨(s.getD 4 0).toNat, by omega⟩
  have hbg := begin_eq hK
  have hA : hdAt s = 9 + (K : Int) := by unfold hdAt; rw [hK]
  have hreel : (bytesOf (List.take 4 s) != Array.toList (ByteArray.data { data := #[82, 69, 69, 76] })) = !decide (List.take 4 s = [82, 69, 69, 76]) := bytes_inj (y := [82, 69, 69, 76]) (byTake hb 4) (by unfold Bytes; decide)
  have n0 : (5 + (K : Int)).toNat - 5 = K := by omega
  have n1 : (5 + (K : Int) + 0).toNat = 5 + K + 0 := by omega
  have n2 : (5 + (K : Int) + 1).toNat = 5 + K + 1 := by omega
  have n3 : (5 + (K : Int) + 2).toNat = 5 + K + 2 := by omega
  have n4 : (5 + (K : Int) + 3).toNat = 5 + K + 3 := by omega
  have g0 := byte_at hb (5 + K + 0)
  have g1 := byte_at hb (5 + K + 1)
  have g2 := byte_at hb (5 + K + 2)
  have g3 := byte_at hb (5 + K + 3)
  simp only [hK, hreel, n0, n1, n2, n3, n4]
  have fail : ∀ {e : Int}, (rdBegin s).1 = e → e ≠ 0 → ([] = if (rdBegin s).1 = 0 then (rdBegin s).2.1 else []) ∧ (0 = if (rdBegin s).1 = 0 then (rdBegin s).2.2.1 else 0) ∧ (0 = if (rdBegin s).1 = 0 then hdAt s else 0) ∧ e = (rdBegin s).1 ∧ True := by
    intro e h1 h2
    rw [if_neg (by rw [h1]; exact h2), if_neg (by rw [h1]; exact h2), if_neg (by rw [h1]; exact h2)]
    exact ⟨rfl, rfl, rfl, h1.symm, trivial⟩
  refine ⟨fun h => ?_, fun h => ⟨by have := of_decide_eq_false h; omega, fun h2 => ?_, fun h2 => ⟨fun h3 => ?_, fun h3 => by simp only [fits]; omega, fun h3 => by simp only [fits]; omega, fun h3 => ?_, fun h3 => ?_⟩⟩⟩
  · exact fail (by rw [hbg, if_pos (by have := of_decide_eq_true h; omega)]) (by decide)
  · have e : ¬ List.take 4 s = [82, 69, 69, 76] := by simpa using h2
    exact fail (by rw [hbg, if_neg (by have := of_decide_eq_false h; omega), if_neg e]) (by decide)
  · have := of_decide_eq_false h3; omega
  all_goals
    have c1 : ¬ s.length < 4 := by have := of_decide_eq_false h; omega
    have c2 : List.take 4 s = [82, 69, 69, 76] := by simpa using h2
    rw [if_neg c1, if_pos c2] at hbg
  · simp only [bcond_l, Bool.or_eq_true, decide_eq_true_eq] at h3
    by_cases c3 : s.length - 4 < 1
    · exact fail (by rw [hbg, if_pos c3]) (by decide)
    · exact fail (by rw [hbg, if_neg c3, if_pos (by omega)]) (by decide)
  · simp only [bcond_l, Bool.or_eq_false_iff, decide_eq_false_iff_not] at h3
    rw [if_neg (show ¬ s.length - 4 < 1 by omega), if_neg (show ¬ s.length - 5 < K by omega)] at hbg
    refine ⟨by omega, by simp only [fits]; omega, by simp only [fits]; omega, by omega, by simp only [bytesOf, List.length_map, List.length_take]; omega, fun h5 => ?_, fun h5 => ⟨by simp only [fits]; omega, fun h6 => ?_, fun h6 => ?_⟩⟩
    · have h5' : isName (bytesOf (List.take K (List.drop 5 s))) = false := by
        cases hq : isName (bytesOf (List.take K (List.drop 5 s)))
        · rfl
        · rw [hq] at h5; exact absurd h5 (by decide)
      exact fail (by rw [hbg, if_neg (by rw [h5', Bool.and_false]; decide)]) (by decide)
    all_goals
      have h5' : isName (bytesOf (List.take K (List.drop 5 s))) = true := by
        cases hq : isName (bytesOf (List.take K (List.drop 5 s)))
        · rw [hq] at h5; exact absurd h5 (by decide)
        · rfl
      rw [if_pos (by rw [h5', plain_name h5']; rfl)] at hbg
    · exact fail (by rw [hbg, if_pos (by have := of_decide_eq_true h6; omega)]) (by decide)
    · have h6' := of_decide_eq_false h6
      rw [if_neg (show ¬ s.length - (5 + K) < 4 by omega)] at hbg
      have hnum : number ((s.drop (5 + K)).take 4) = 256 * (256 * (256 * (0 + s.getD (5 + K + 0) 0) + s.getD (5 + K + 1) 0) + s.getD (5 + K + 2) 0) + s.getD (5 + K + 3) 0 := by
        rw [num4 (by rw [List.length_drop]; omega), getD_drop, getD_drop, getD_drop, getD_drop, Int.mul_zero]
      rw [hnum] at hbg
      generalize s.getD (5 + K + 0) 0 = x0 at *
      generalize s.getD (5 + K + 1) 0 = x1 at *
      generalize s.getD (5 + K + 2) 0 = x2 at *
      generalize s.getD (5 + K + 3) 0 = x3 at *
      and_intros
      any_goals first | omega | (simp only [fits]; omega)
      · intro h7
        exact fail (by rw [hbg, h7]; rfl) (by decide)
      · intro h7
        rw [h7] at hbg
        have hz : (rdBegin s).1 = 0 := by rw [hbg]; rfl
        refine ⟨by simp only [fits]; omega, ?_, ?_, ?_, hz.symm, trivial⟩
        · rw [if_pos hz, hbg]
        · rw [if_pos hz, hbg]
        · rw [if_pos hz, hA]; omega
theorem so118_ : SpecOk P1 gl1 118 sp118 := by
  intro vs ps r h hp
  simp only [sp118] at h
  split at h
  · cases h; exact fn118 _ (hp _ (.head _)) (hp _ (.tail _ (.head _)))
  · cases h
theorem so118 : Sp1 118 sp118 := ⟨so118_, Proofs.Tryz.f118, _, by kernel_rfl, rfl, by kernel_rfl⟩
theorem fn30 (s : List Int) (hl : s.length ≤ 100000) (hb : Bytes s) : Fn P1 gl1 30 [.one (.sl (.int .u8) s)] (.tup [rV (readS s).1.1 (readS s).1.2.1 (readS s).1.2.2, iV (readS s).2]) true := by
  refine fn_ofr false [(118, sp118), (119, sp119), (21, sp21)] [] h30 0 Proofs.Tryz.f30 ⟨so118, so119, so21, trivial⟩ trivial (by kernel_rfl) rfl (by kernel_rfl) rfl rfl rfl ?_
  rw [vc30]
  try simp only [splitB_iff, -eq_self]
  have hl' : s.length ≤ 1000000 := by omega
  by_cases hz : (rdBegin s).1 = 0
  rotate_left
  · have hz' : ((rdBegin s).1 != 0) = true := by simpa using hz
    refine ⟨hl', hb, fun _ => ?_, fun h => by rw [hz'] at h; cases h⟩
    rw [readS_begin hz]
    exact ⟨rfl, rfl, rfl, rfl, trivial⟩
  have hz' : ((rdBegin s).1 != 0) = false := by simpa using hz
  obtain ⟨hA, hr, hnl, hf⟩ := begin_ok hb hz
  have hbg : rdBegin s = (0, (rdBegin s).2.1, (rdBegin s).2.2.1, (rdBegin s).2.2.2) := Prod.ext hz rfl
  rw [hr] at hbg
  simp only [hz, if_true]
  generalize (rdBegin s).2.1 = nm at *
  generalize (rdBegin s).2.2.1 = f at *
  have hrl : (s.drop (hdAt s).toNat).length = s.length - (hdAt s).toNat := List.length_drop
  have hrb : Bytes (s.drop (hdAt s).toNat) := byDrop hb _
  have hrec : ∀ (g : Nat) (L : List Int), recS s (hdAt s + 5 * (g : Int)) L = rdRec ((s.drop (hdAt s).toNat).drop (5 * g)) L := fun g L => by
    unfold recS
    rw [List.drop_drop, show (hdAt s + 5 * (g : Int)).toNat = (hdAt s).toNat + 5 * g by omega]
  simp only [hrec]
  generalize hrr : s.drop (hdAt s).toNat = r at *
  refine ⟨hl', hb, fun h => (by cases h), fun _ => ⟨⟨0, ⟨by omega, by decide, fun n => rfl⟩, by omega, by trivial, by trivial, by trivial, by trivial, by trivial, rfl, trivial⟩, fun g hg => ?_⟩⟩
  obtain ⟨hg1, hg2, hg3⟩ := hg
  have hcl : (r.drop (5 * g)).length = r.length - 5 * g := List.length_drop
  have hsucc := chks_succ r g
  have hcw := chks_w hrb g
  have hclen := chks_len r g
  have hchk : chk r g = number (((r.drop (5 * g)).drop 1).take 2) := rfl
  have hd5 : (r.drop (5 * g)).drop 5 = r.drop (5 * (g + 1)) := by rw [List.drop_drop]; rfl
  obtain ⟨n, hn⟩ : ∃ n, s.length + 1 = (n + 1) + g := ⟨s.length - g, by omega⟩
  have hall : rdAll (s.length + 1) r [] = rdAll (n + 1) (r.drop (5 * g)) (chks r g) := by rw [hn]; exact hg3 (n + 1)
  have hcont : ∀ n, rdAll (n + (g + 1)) r [] = rdAll (n + 1) (r.drop (5 * g)) (chks r g) := fun n => by
    rw [show n + (g + 1) = (n + 1) + g by omega]
    exact hg3 (n + 1)
  rw [hchk] at hsucc
  generalize hcur : r.drop (5 * g) = cur at *
  generalize chks r g = L at *
  refine ⟨hl', hb, by omega, by omega, hcw, fun h => ?_, fun h => ⟨by simp only [fits]; omega, fun h2 => ⟨fun h3 => ?_, fun h3 => ⟨by omega, by omega, fun h4 => ?_, fun h4 => ?_⟩⟩, fun h2 => ?_⟩⟩
  · have h' : (rdRec cur L).1 ≠ 0 := by simpa using h
    rw [readS_err hbg (hall.trans (rdAll_stop h')) h']
    exact ⟨rfl, rfl, rfl, rfl, trivial⟩
  all_goals
    have h' : (rdRec cur L).1 = 0 := by simpa using h
    rw [if_pos h'] at h2
    have hq := rdRec_zero h'
  · have h3' := of_decide_eq_true h3
    have he : first [whenE (decide (0 < (cur.drop 5).length)) 23, checkReel nm f L] = 23 := by
      rw [decide_eq_true (show 0 < (cur.drop 5).length by rw [List.length_drop]; omega)]; rfl
    rw [readS_bad hbg (hall.trans (rdAll_last h' h2)) (by rw [he]; decide), he]
    exact ⟨rfl, rfl, rfl, rfl, trivial⟩
  · have h3' := of_decide_eq_false h3
    have he : first [whenE (decide (0 < (cur.drop 5).length)) 23, checkReel nm f L] = checkReel nm f L := by
      rw [decide_eq_false (show ¬ 0 < (cur.drop 5).length by rw [List.length_drop]; omega)]; simp [first, whenE]; exact Eq.symm
    have h4' : checkReel nm f L ≠ 0 := by simpa using h4
    rw [readS_bad hbg (hall.trans (rdAll_last h' h2)) (by rw [he]; exact h4'), he]
    exact ⟨rfl, rfl, rfl, rfl, trivial⟩
  · have h3' := of_decide_eq_false h3
    have he : first [whenE (decide (0 < (cur.drop 5).length)) 23, checkReel nm f L] = checkReel nm f L := by
      rw [decide_eq_false (show ¬ 0 < (cur.drop 5).length by rw [List.length_drop]; omega)]; simp [first, whenE]; exact Eq.symm
    have h4' : checkReel nm f L = 0 := by simpa using h4
    rw [readS_ok hbg (hall.trans (rdAll_last h' h2)) (by rw [he]; exact h4')]
    exact ⟨rfl, rfl, rfl, rfl, trivial⟩
  · have h256 := hq.2.1 h2
    refine ⟨by simp only [room]; omega, g + 1, ⟨by omega, by omega, fun n => ?_⟩, by omega, by omega, by trivial, by trivial, by trivial, by trivial, by trivial, ?_, trivial⟩
    · rw [hcont n, rdAll_more h' h2, hd5, hq.2.2, hsucc]
    · rw [if_pos h', hq.2.2, hsucc]
theorem so30_ : SpecOk P1 gl1 30 sp30 := by
  intro vs ps r h hp
  simp only [sp30] at h
  split at h
  · cases h; exact fn30 _ (hp _ (.head _)) (hp _ (.tail _ (.head _)))
  · cases h
theorem so30 : Sp1 30 sp30 := ⟨so30_, Proofs.Tryz.f30, _, by kernel_rfl, rfl, by kernel_rfl⟩
theorem fn31 (s : List Int) (hl : s.length ≤ 100000) (hb : Bytes s) : Fn P1 gl1 31 [.one (.sl (.int .u8) s)] (.tup [rV (rebuilt s).1.1 (rebuilt s).1.2.1 (rebuilt s).1.2.2, bV (rebuilt s).2.1, iV (rebuilt s).2.2]) true := by
  refine fn_ofr false [(118, sp118), (119, sp119), (30, sp30)] [] h31 0 Proofs.Tryz.f31 ⟨so118, so119, so30, trivial⟩ trivial (by kernel_rfl) rfl (by kernel_rfl) rfl rfl rfl ?_
  rw [vc31]
  try simp only [splitB_iff, -eq_self]
  have hl' : s.length ≤ 1000000 := by omega
  by_cases hz : (rdBegin s).1 = 0
  rotate_left
  · have hz' : ((rdBegin s).1 != 0) = true := by simpa using hz
    refine ⟨hl', hb, fun _ => ?_, fun h => by rw [hz'] at h; cases h⟩
    rw [rebuilt_begin hz]
    exact ⟨rfl, rfl, rfl, rfl, rfl, trivial⟩
  have hz' : ((rdBegin s).1 != 0) = false := by simpa using hz
  obtain ⟨hA, hr, hnl, hf⟩ := begin_ok hb hz
  have hbg : rdBegin s = (0, (rdBegin s).2.1, (rdBegin s).2.2.1, (rdBegin s).2.2.2) := Prod.ext hz rfl
  rw [hr] at hbg
  simp only [hz, if_true]
  generalize (rdBegin s).2.1 = nm at *
  generalize (rdBegin s).2.2.1 = f at *
  have hrl : (s.drop (hdAt s).toNat).length = s.length - (hdAt s).toNat := List.length_drop
  have hrb : Bytes (s.drop (hdAt s).toNat) := byDrop hb _
  have hrec : ∀ (g : Nat) (L : List Int), recS s (hdAt s + 5 * (g : Int)) L = rdRec ((s.drop (hdAt s).toNat).drop (5 * g)) L := fun g L => by
    unfold recS
    rw [List.drop_drop, show (hdAt s + 5 * (g : Int)).toNat = (hdAt s).toNat + 5 * g by omega]
  simp only [hrec]
  generalize hrr : s.drop (hdAt s).toNat = r at *
  refine ⟨hl', hb, fun h => (by cases h), fun _ => ⟨⟨0, ⟨by omega, by decide, fun n => rfl⟩, by omega, by trivial, by trivial, by trivial, by trivial, by trivial, rfl, trivial⟩, fun g hg => ?_⟩⟩
  obtain ⟨hg1, hg2, hg3⟩ := hg
  have hcl : (r.drop (5 * g)).length = r.length - 5 * g := List.length_drop
  have hsucc := chks_succ r g
  have hcw := chks_w hrb g
  have hclen := chks_len r g
  have hchk : chk r g = number (((r.drop (5 * g)).drop 1).take 2) := rfl
  have hd5 : (r.drop (5 * g)).drop 5 = r.drop (5 * (g + 1)) := by rw [List.drop_drop]; rfl
  obtain ⟨n, hn⟩ : ∃ n, s.length + 1 = (n + 1) + g := ⟨s.length - g, by omega⟩
  have hall : rbAll f (s.length + 1) r [] = rbAll f (n + 1) (r.drop (5 * g)) (chks r g) := by rw [hn]; exact hg3 (n + 1)
  have hcont : ∀ n, rbAll f (n + (g + 1)) r [] = rbAll f (n + 1) (r.drop (5 * g)) (chks r g) := fun n => by
    rw [show n + (g + 1) = (n + 1) + g by omega]
    exact hg3 (n + 1)
  rw [hchk] at hsucc
  generalize hcur : r.drop (5 * g) = cur at *
  generalize chks r g = L at *
  have none_ : ¬ ((rdRec cur L).1 = 0 ∧ (rdRec cur L).2.1 = false ∧ f + (L.length : Int) < 10000000) → ((L.length : Int) == 0) = true → [] = (rebuilt s).1.1 ∧ 0 = (rebuilt s).1.2.1 ∧ (rebuilt s).1.2.2 = [] ∧ false = (rebuilt s).2.1 ∧ 12 = (rebuilt s).2.2 ∧ True := fun h1 h2 => by
    rw [rebuilt_none hbg (hall.trans (rbAll_stop h1)) (by simpa using h2)]
    exact ⟨rfl, rfl, rfl, rfl, rfl, trivial⟩
  have some_ : ¬ ((rdRec cur L).1 = 0 ∧ (rdRec cur L).2.1 = false ∧ f + (L.length : Int) < 10000000) → ((L.length : Int) == 0) = false → nm = (rebuilt s).1.1 ∧ f = (rebuilt s).1.2.1 ∧ L = (rebuilt s).1.2.2 ∧ ((readS s).2 == 0) = (rebuilt s).2.1 ∧ 0 = (rebuilt s).2.2 ∧ True := fun h1 h2 => by
    rw [rebuilt_some hbg (hall.trans (rbAll_stop h1)) (by simpa using h2)]
    exact ⟨rfl, rfl, rfl, by rw [Bool.eq_iff_iff]; simp, rfl, trivial⟩
  refine ⟨by simp only [fits]; omega, fun h => ⟨hl', hb, by omega, by omega, hcw, fun h2 => ?_, fun h2 => ?_⟩, fun h => ?_⟩
  · have h1 : ¬ ((rdRec cur L).1 = 0 ∧ (rdRec cur L).2.1 = false ∧ f + (L.length : Int) < 10000000) := by
      rintro ⟨q1, q2, _⟩
      rw [q1, q2] at h2
      cases h2
    exact ⟨none_ h1, fun h3 => ⟨hl, hb, some_ h1 h3⟩⟩
  · have h' : (rdRec cur L).1 = 0 := by
      by_cases q : (rdRec cur L).1 = 0
      · exact q
      · rw [show ((rdRec cur L).1 != 0) = true by simpa using q] at h2; cases h2
    rw [if_pos h', h'] at h2
    have h2' : (rdRec cur L).2.1 = false := h2
    have hq := rdRec_zero h'
    have h256 := hq.2.1 h2'
    refine ⟨by simp only [room]; omega, by simp only [fits]; omega, g + 1, ⟨by omega, by omega, fun n => ?_⟩, by omega, by omega, by trivial, by trivial, by trivial, by trivial, by trivial, ?_, trivial⟩
    · rw [hcont n, rbAll_more ⟨h', h2', of_decide_eq_true h⟩, hd5, hq.2.2, hsucc]
    · rw [if_pos h', hq.2.2, hsucc]
  · have h1 : ¬ ((rdRec cur L).1 = 0 ∧ (rdRec cur L).2.1 = false ∧ f + (L.length : Int) < 10000000) := fun q => of_decide_eq_false h q.2.2
    exact ⟨none_ h1, fun h3 => ⟨hl, hb, some_ h1 h3⟩⟩
theorem so31_ : SpecOk P1 gl1 31 sp31 := by
  intro vs ps r h hp
  simp only [sp31] at h
  split at h
  · cases h; exact fn31 _ (hp _ (.head _)) (hp _ (.tail _ (.head _)))
  · cases h
theorem so31 : Sp1 31 sp31 := ⟨so31_, Proofs.Tryz.f31, _, by kernel_rfl, rfl, by kernel_rfl⟩
theorem fn4 (s : List Int) (hl : s.length ≤ 9223372036854775807) (hb : Bytes s) : Fn P1 gl1 4 [.one (.sl (.int .u8) s)] (.val (bV true)) true := by
  refine Fn.flat ?_ rfl
  refine fn_of false [(18, sp18), (28, sp28), (27, sp27), (29, sp29), (30, sp30), (31, sp31), (32, sp32)] [] h0 0 Proofs.Tryz.f4 ⟨so18, so28, so27, so29, so30, so31, so32, trivial⟩ trivial (by kernel_rfl) rfl (by kernel_rfl) rfl rfl rfl ?_
  rw [vc4]
  try simp only [splitB_iff, -eq_self]
  refine ⟨fun h => ⟨by trivial, trivial⟩, fun h => ?_⟩
  have h' : s.length ≤ 1500 := by have := of_decide_eq_false h; omega
  have l1 : (readS s).1.2.2.length ≤ 1000000 := by
    unfold readS
    split
    · split
      · split
        · rename_i hq
          have hz := (first_zero_iff _).1 hq
          have hc := (checkReel_zero.1 (hz _ (List.mem_cons_of_mem _ List.mem_cons_self))).len
          dsimp only
          omega
        · simp
      · simp
    · simp
  have l2 : (rebuilt s).1.2.2.length ≤ 1000000 := by
    unfold rebuilt
    split
    · split
      · simp
      · have := rbAll_len (rdBegin s).2.2.1 (s.length + 1) (rdBegin s).2.2.2 []
        simp only [List.length_nil] at this
        dsimp only
        omega
    · simp
  simp only [decide_true, beq_self_eq_true, cond_true]
  exact ⟨by omega, ⟨by omega, hb⟩, by omega, ⟨by omega, hb⟩, by omega, hb, by omega, hb, l1, fun _ => l2, by trivial, trivial⟩

end Go.Sx

/- From readings of arguments to pure data. -/
namespace Go.Sx
open Go.RowKit

/-- What a reading gives beside the cells: numbers fit their kinds, lengths are those of machines. -/
def WF : (t : Ty) → t.T → Prop
  | .int k, n => (Lit.int k n).wf = true
  | .bool, _ => True
  | .str, l => List.length l ≤ maxLen
  | .flt k, n => (Lit.float k n).wf = true
  | .cpx _, _ => True
  | .sl t, xs => List.length xs ≤ maxLen ∧ ∀ i (h : i < List.length xs), WF t (xs[i]'h)
  | .arr n t, xs => List.length xs = n ∧ ∀ i (h : i < List.length xs), WF t (xs[i]'h)
  | .pair a b, x => WF a x.1 ∧ WF b x.2

mutual
def rdChk (P : Program) : Nat → TypeId → Ty → Bool
  | 0, _, _ => false
  | n + 1, t, u => match P.underlying t with
      | some (.int k) => decide (u = .int k)
      | some .bool => decide (u = .bool)
      | some .string => decide (u = .str)
      | some (.float k) => decide (u = .flt k)
      | some (.slice e) => match u with
        | .sl v => decide (P.cellsOf e = v.sz) && decide (v.sz ≠ 0) && rdChk P n e v
        | _ => false
      | some (.array m e) => match u with
        | .arr m' v => decide (m = m') && decide (P.cellsOf e = v.sz) && decide (P.cellsOf t = m * v.sz) && rdChk P n e v
        | _ => false
      | some (.struct fs) => decide (P.cellsOf t = u.sz) && rdFs P n 0 fs.toList u
      | _ => false
def rdFs (P : Program) : Nat → Nat → List Field → Ty → Bool
  | 0, _, _, _ => false
  | n + 1, off, [f], u => decide (f.offset = off) && decide (P.cellsOf f.type = u.sz) && rdChk P n f.type u
  | n + 1, off, f :: r, .pair a b => decide (f.offset = off) && decide (P.cellsOf f.type = a.sz) && rdChk P n f.type a && rdFs P n (off + a.sz) r b
  | _, _, _, _ => false
end

def HW (w : World) : IH := fun b => w.heap[b]?

theorem addp (b off i : Nat) : (Addr.mk b off none).add i = ⟨b, off + i, none⟩ := by
  unfold Addr.add; split <;> simp_all
theorem cells_seg {w : World} {base : Nat} {a : Addr} {n : Nat} {cs : List Value} (h : w.cells? base a n = some cs) (hn : 0 < n) :
    ∃ b off c e fr, a = ⟨b, off, none⟩ ∧ w.heap[b]? = some (.cells c e fr) ∧ seg c off n = cs := by
  obtain ⟨_, hl, hc⟩ := World.cells?_some h
  obtain ⟨b, off, sp⟩ := a
  have h0 := hc 0 hn
  rw [List.getElem?_eq_getElem (by omega)] at h0
  have hs : sp = none := by
    have := World.cell?_spot h0
    simp only [Addr.add] at this
    cases sp with
    | none => rfl
    | some x => simp at this
  subst hs
  have hb : ∃ c e fr, w.heap[b]? = some (.cells c e fr) := by
    simp only [World.cell?, Addr.add] at h0
    split at h0
    · exact ⟨_, _, _, ‹_›⟩
    · cases h0
  obtain ⟨c, e, fr, hb⟩ := hb
  refine ⟨b, off, c, e, fr, rfl, hb, ?_⟩
  have hi : ∀ i, i < n → c[off + i]? = cs[i]? := by
    intro i hi
    have := hc i hi
    rw [addp] at this
    simpa [World.cell?, hb] using this
  apply List.ext_getElem?
  intro i
  simp only [seg, List.getElem?_take, List.getElem?_drop]
  split
  · rename_i h1
    rw [← hi i h1]; simp
  · rename_i h1
    rw [List.getElem?_eq_none (by omega)]

theorem choose_list {α : Type} (n : Nat) (p : Nat → α → Prop) (h : ∀ i, i < n → ∃ y, p i y) : ∃ ys : List α, ys.length = n ∧ ∀ i (hi : i < ys.length), p i (ys[i]'hi) := by
  induction n with
  | zero => exact ⟨[], rfl, fun i hi => by simp at hi⟩
  | succ n ih =>
    obtain ⟨ys, h1, h2⟩ := ih fun i hi => h i (by omega)
    obtain ⟨y, hy⟩ := h n (by omega)
    refine ⟨ys ++ [y], by simp [h1], fun i hi => ?_⟩
    by_cases hlt : i < ys.length
    · rw [List.getElem_append_left hlt]; exact h2 i hlt
    · simp at hi
      have : i = ys.length := by omega
      subst this
      simp
      rw [h1]; exact hy

theorem trod_rd_all {X : Type} {enc : TypeId × Value → X} {P : Program} {w : World} {base : Nat} {spare : Nat → Bool} {held : Bool} : ∀ (n : Nat),
    (∀ (t : TypeId) (u : Ty) (fuel : Nat) (cs : List Value) (x : DataW X × List MemPlace), rdChk P n t u = true → DataW.trod enc P w base spare held fuel t cs = some x → ∃ y : u.T, Rd (HW w) u y cs ∧ WF u y) ∧
    (∀ (off : Nat) (fs : List Field) (u : Ty) (fuel : Nat) (cs : List Value), rdFs P n off fs u = true → cs.length = off + u.sz →
      (∀ f ∈ fs, ∃ x, DataW.trod enc P w base spare held fuel f.type ((cs.drop f.offset).take (P.cellsOf f.type)) = some x) → ∃ y : u.T, Rd (HW w) u y (cs.drop off) ∧ WF u y) := by
  intro n
  induction n with
  | zero => exact ⟨fun _ _ _ _ _ h => by simp [rdChk] at h, fun _ _ _ _ _ h => by simp [rdFs] at h⟩
  | succ n ih =>
    refine ⟨?_, ?_⟩
    · intro t u fuel cs x h hx
      unfold rdChk at h
      split at h
      · rename_i k hu
        simp at h; subst h
        obtain ⟨m, rfl, _, hw⟩ := DataW.trod_int hu hx
        exact ⟨m, rfl, hw⟩
      · rename_i hu
        simp at h; subst h
        obtain ⟨m, rfl, _⟩ := DataW.trod_bool hu hx
        exact ⟨m, rfl, trivial⟩
      · rename_i hu
        simp at h; subst h
        obtain ⟨s, rfl, _, hw⟩ := DataW.trod_string hu hx
        refine ⟨s.data.toList, rfl, ?_⟩
        show s.data.toList.length ≤ maxLen
        rw [Array.length_toList]; exact hw
      · rename_i k hu
        simp at h; subst h
        cases fuel with
        | zero => simp [DataW.trod] at hx
        | succ m =>
          unfold DataW.trod at hx
          rw [hu] at hx
          have : ∃ b, cs = [.float k b] ∧ (Lit.float k b).wf = true := by split at hx <;> simp_all
          obtain ⟨b, rfl, hw⟩ := this
          exact ⟨b, rfl, hw⟩
      · rename_i e hu
        split at h
        · rename_i v
          simp only [Bool.and_eq_true, decide_eq_true_eq] at h
          obtain ⟨⟨h1, h2⟩, h3⟩ := h
          rcases DataW.trod_slice hu hx with ⟨rfl, _⟩ | ⟨a, len, cap, elems, rest, m, _, rfl, _, _, hlc, hm, hel, hei, _, _⟩
          · exact ⟨[], ⟨none, 0, rfl, Nat.le_refl _, .inl rfl⟩, by simp [WF]⟩
          · have hone : ∀ i, i < len → ∃ cs', w.cells? base (a.add (i * P.cellsOf e)) (P.cellsOf e) = some cs' ∧ ∃ y : v.T, Rd (HW w) v y cs' ∧ WF v y := by
              intro i hi
              have := hei i hi
              rw [List.getElem?_eq_getElem (by omega)] at this
              obtain ⟨cs', hc1, hc2⟩ := Option.bind_eq_some_iff.1 this
              exact ⟨cs', hc1, ih.1 _ _ _ _ _ h3 hc2⟩
            obtain ⟨ys, hy1, hy2⟩ := choose_list len (fun i (y : v.T) => ∃ cs', w.cells? base (a.add (i * P.cellsOf e)) (P.cellsOf e) = some cs' ∧ Rd (HW w) v y cs' ∧ WF v y)
              (fun i hi => by obtain ⟨cs', h1, y, h2⟩ := hone i hi; exact ⟨y, cs', h1, h2⟩)
            refine ⟨ys, ⟨some a, cap, by rw [hy1], by rw [hy1]; exact hlc, ?_⟩, by rw [hy1]; omega, fun i hi => ?_⟩
            · rcases Nat.eq_zero_or_pos ys.length with h0 | h0
              · exact .inl h0
              · right
                obtain ⟨cs0, hc0, _⟩ := hy2 0 h0
                obtain ⟨b, off, c, e', fr, ha, hb, _⟩ := cells_seg hc0 (by omega)
                have ha' : a = ⟨b, off, none⟩ := by rw [← ha]; simp [Addr.add]
                refine ⟨b, off, c, e', fr, by rw [ha'], hb, fun i hi => ?_⟩
                obtain ⟨cs', hc', hr, _⟩ := hy2 i hi
                obtain ⟨b', off', c', e'', fr', hab, hb', hsg⟩ := cells_seg hc' (by omega)
                rw [ha', addp] at hab
                simp only [Addr.mk.injEq] at hab
                obtain ⟨rfl, rfl, _⟩ := hab
                rw [hb] at hb'
                cases hb'
                rw [h1] at hsg
                rw [hsg]; exact hr
            · obtain ⟨_, _, _, hwf⟩ := hy2 i hi
              exact hwf
        · cases h
      · rename_i m e hu
        split at h
        · rename_i m' v
          simp only [Bool.and_eq_true, decide_eq_true_eq] at h
          obtain ⟨⟨⟨rfl, h1⟩, h2⟩, h3⟩ := h
          obtain ⟨xs, k, _, _, hl, hxl, hxi⟩ := DataW.trod_array hu hx
          obtain ⟨ys, hy1, hy2⟩ := choose_list m (fun i (y : v.T) => Rd (HW w) v y ((cs.drop (i * P.cellsOf e)).take (P.cellsOf e)) ∧ WF v y)
            (fun i hi => by
              have := hxi i hi
              rw [List.getElem?_eq_getElem (by omega)] at this
              exact ih.1 _ _ _ _ _ h3 this)
          refine ⟨ys, ⟨hy1, by rw [hl, h2], fun i hi => ?_⟩, hy1, fun i hi => (hy2 i hi).2⟩
          have := (hy2 i hi).1
          rw [h1] at this
          exact this
        · cases h
      · rename_i fs hu
        simp only [Bool.and_eq_true, decide_eq_true_eq] at h
        obtain ⟨xs, k, _, _, hl, hxl, hxi⟩ := DataW.trod_struct hu hx
        have := ih.2 0 fs.toList u k cs h.2 (by rw [hl, h.1]; omega) (fun f hf => by
          obtain ⟨i, hi, rfl⟩ := List.mem_iff_getElem.1 hf
          simp at hi
          have := hxi i fs[i] (by simp [hi])
          rw [List.getElem?_eq_getElem (by omega)] at this
          exact ⟨_, by simpa using this⟩)
        simpa using this
      · cases h
    · intro off fs u fuel cs h hl hf
      match fs, u, h, hl, hf with
      | [], u, h, _, _ => simp [rdFs] at h
      | [f], u, h, hl, hf =>
        simp only [rdFs, Bool.and_eq_true, decide_eq_true_eq] at h
        obtain ⟨⟨rfl, h1⟩, h2⟩ := h
        obtain ⟨x, hx⟩ := hf f (by simp)
        rw [h1, List.take_of_length_le (by simp; omega)] at hx
        exact ih.1 _ _ _ _ _ h2 hx
      | f :: g :: r, .pair a b, h, hl, hf =>
        simp only [rdFs, Bool.and_eq_true, decide_eq_true_eq] at h
        obtain ⟨⟨⟨rfl, h1⟩, h2⟩, h3⟩ := h
        simp only [Ty.sz] at hl
        obtain ⟨x, hx⟩ := hf f (by simp)
        rw [h1] at hx
        obtain ⟨y1, hy1, hw1⟩ := ih.1 _ _ _ _ _ h2 hx
        obtain ⟨y2, hy2, hw2⟩ := ih.2 _ _ _ fuel cs h3 (by omega) (fun g' hg => hf g' (List.mem_cons_of_mem _ hg))
        refine ⟨(y1, y2), ⟨hy1, ?_⟩, hw1, hw2⟩
        rw [List.drop_drop]; exact hy2
      | _ :: _ :: _, .int _, h, _, _ => simp [rdFs] at h
      | _ :: _ :: _, .bool, h, _, _ => simp [rdFs] at h
      | _ :: _ :: _, .str, h, _, _ => simp [rdFs] at h
      | _ :: _ :: _, .flt _, h, _, _ => simp [rdFs] at h
      | _ :: _ :: _, .cpx _, h, _, _ => simp [rdFs] at h
      | _ :: _ :: _, .sl _, h, _, _ => simp [rdFs] at h
      | _ :: _ :: _, .arr _ _, h, _, _ => simp [rdFs] at h

theorem trod_rd {X : Type} {enc : TypeId × Value → X} {P : Program} {w : World} {base : Nat} {spare : Nat → Bool} {held : Bool} (n : Nat)
    {t : TypeId} {u : Ty} (h : rdChk P n t u = true) {fuel : Nat} {cs : List Value} {x : DataW X × List MemPlace} (hx : DataW.trod enc P w base spare held fuel t cs = some x) : ∃ y : u.T, Rd (HW w) u y cs ∧ WF u y :=
  (trod_rd_all n).1 t u fuel cs x h hx
end Go.Sx

/- From readings of arguments to pure data: arguments, variables, what is left behind. -/
namespace Go.Sx
open Go.RowKit Go.ChangeShapes Go.WideShapes Go.ChangeAt

section
variable {X : Type} {enc : TypeId × Value → X} {P : Program} {w : World} {base base' : Nat} {spare : Nat → Bool} {held : Bool} {n : Nat} {t : TypeId} {u : Ty} {v : Value} {d : DataW X} {ps : List MemPlace}

theorem cells_one (hv : ∀ cs, v ≠ .agg cs) : v.cells.toList = [v] := by
  cases v <;> simp_all [Value.cells]

theorem okWide_one (ha : aggOf P t = false) (hok : Value.okWide P w .any base' t v) : ∀ cs, v ≠ .agg cs := by
  intro cs hv
  subst hv
  unfold aggOf at ha
  unfold Value.okWide at hok
  split at hok
  · rename_i h; rw [h] at ha; cases ha
  · rename_i h; rw [h] at ha; cases ha
  · unfold Cell.okWide at hok
    split at hok <;> try (rename_i h; cases h; done)
    all_goals first | (rename_i h _; cases h; done) | skip
    all_goals first | (unfold Cell.ok at hok; split at hok <;> first | (exact hok) | (rename_i h; cases h; done) | (rename_i h _; cases h; done) | simp_all; done) | simp_all

theorem arg_one (h : rdChk P n t u = true) (ha : aggOf P t = false) (hok : Value.okWide P w .any base' t v) (hT : DataW.Trod enc P w base spare held t v d ps) : ∃ y : u.T, Rd (HW w) u y [v] ∧ WF u y := by
  obtain ⟨fuel, hT⟩ := hT
  rw [cells_one (okWide_one ha hok)] at hT
  exact trod_rd n h hT

theorem arg_agg (h : rdChk P n t u = true) (ha : aggOf P t = true) (hok : Value.okWide P w .any base' t v) (hT : DataW.Trod enc P w base spare held t v d ps) : ∃ (vs : List Value) (y : u.T), v = .agg ⟨vs⟩ ∧ Rd (HW w) u y vs ∧ WF u y := by
  obtain ⟨fuel, hT⟩ := hT
  have hv : ∃ cs, v = .agg cs := by
    unfold aggOf at ha
    unfold Value.okWide at hok
    split at hok
    · exact ⟨_, hok.choose_spec.1⟩
    · exact ⟨_, hok.choose_spec.1⟩
    · rename_i h1 h2
      split at ha
      · exact absurd ‹_› (h1 _)
      · exact absurd ‹_› (h2 _ _)
      · cases ha
  obtain ⟨cs, rfl⟩ := hv
  obtain ⟨y, h1, h2⟩ := trod_rd n h hT
  exact ⟨cs.toList, y, rfl, h1, h2⟩
end

theorem trodAll_below {X : Type} {enc : TypeId × Value → X} {P : Program} (hl : laidOutB P = true) {W W' : World} (hb : Below W.heap.size W W') : ∀ {ts : List TypeId} {vs : List Value} {ds : List (DataW X)} {ps : List MemPlace},
    (ts.all fun t => P.readableRec t && decide (t < P.types.size)) = true → DataW.TrodAll enc P W 0 (fun _ => true) true ts vs ds ps → (∀ x ∈ ps, x.block < W.heap.size) → DataW.TrodAll enc P W' 0 (fun b => decide (b < W.heap.size)) true ts vs ds ps
  | [], vs, ds, ps, _, h, _ => by
    cases vs <;> cases ds <;> simp_all [DataW.TrodAll]
  | t :: ts, vs, ds, ps, ht, h, hlt => by
    obtain ⟨v, vs', d, ds', p, q, rfl, rfl, rfl, h1, h2⟩ := trodAll_cons h
    simp only [List.all_cons, Bool.and_eq_true, decide_eq_true_eq] at ht
    refine trodAll_cons_mk (Below.trod hl ht.1.1 ht.1.2 h1 hb fun x hx => hlt x (by simp [hx])) (trodAll_below hl hb ht.2 h2 fun x hx => hlt x (by simp [hx]))

/-- What a law leaves behind: true, and the arguments as they were. -/
theorem law_post {X : Type} {enc : TypeId × Value → X} {P : Program} (hl : laidOutB P = true) {s : ChangeSpec} {f : Func} {tb : TypeId} {W W' : World} {args : Array Value} {ds gs : List (DataW X)} {before : List MemPlace} {r : Value}
    (hvars : s.vars = []) (hts : (f.params.toList.all fun t => P.readableRec t && decide (t < P.types.size)) = true) (hres : f.resultTypes = #[tb]) (htb : P.underlying tb = some .bool)
    (hfn : s.fn X ds = { results := [.lit (.bool true)], args := ds })
    (hW : DataW.Whole enc P f.params.toList s.vars false W args.toList ds gs before) (hb : Below W.heap.size W W') (hr : r = .bool true) :
    s.post enc P f false true false false W args r W' := by
  subst hr
  have hW' := hW
  obtain ⟨p, q, hA, hV, rfl, hfz, hnd⟩ := hW
  rw [hvars] at hV
  obtain ⟨rfl, rfl⟩ := trodVars_none hV
  have hlt : ∀ x ∈ p, x.block < W.heap.size := fun x hx => hW'.lt x (by simp [hx])
  refine ⟨ds, [], p ++ [], [], p, [], hW', ?_, ?_, ?_, hb.frame _, fun h => by cases h⟩
  · rw [List.append_nil, hfn, hres]
    exact trodAll_cons_mk (shut_bool htb _) trodAll_mk0
  · rw [List.append_nil, hfn]
    exact trodAll_below hl hb hts hA hlt
  · rw [List.append_nil, hfn, hvars]
    rfl

theorem law_calls {X : Type} {enc : TypeId × Value → X} {P : Program} (hl : laidOutB P = true) {s : ChangeSpec} {f : Func} {tb : TypeId} {fid : FuncId} {W : World} {args : Array Value} {ds gs : List (DataW X)} {before : List MemPlace}
    (hvars : s.vars = []) (hts : (f.params.toList.all fun t => P.readableRec t && decide (t < P.types.size)) = true) (hres : f.resultTypes = #[tb]) (htb : P.underlying tb = some .bool)
    (hfn : s.fn X ds = { results := [.lit (.bool true)], args := ds })
    (hW : DataW.Whole enc P f.params.toList s.vars false W args.toList ds gs before)
    {gl : Nat → Option ((t : Ty) × t.T)} {avs : List V} (hF : Fn P gl fid avs (.val (.one (.bool true))) true) (hg : GlobOk gl (HW W)) (ha : DenVs ρ0 (HW W) avs args.toList) :
    Calls P fid args W fun e W' => ∃ v, e = .returned v ∧ s.post enc P f false true false false W args v W' := by
  refine (hF W (HW W) args.toList (fun b o h => h) hg ha).mono fun e W' h => ?_
  obtain ⟨v, H', rfl, hb, _, _, hd⟩ := h
  exact ⟨v, rfl, law_post hl hvars hts hres htb hfn hW hb hd.2⟩

theorem glob_tab {P : Program} {W : World} {name : String} {k : IntKind} {zs : List Int} {g : Nat} (h : Lib.TabIs P W name k zs) (hg : P.globalNamed name = some g) :
    ∃ c e fr, HW W g = some (.cells c e fr) ∧ Rd (HW W) (.arr zs.length (.int k)) zs (seg c 0 (zs.length * 1)) ∧ c.size = zs.length * 1 := by
  unfold Lib.TabIs at h
  simp only [World.var?, hg, Option.bind_some] at h
  split at h
  · rename_i cs e fr hh
    cases h
    refine ⟨_, _, _, hh, ?_, by simp⟩
    have e1 : seg (zs.map fun z => Value.int k z).toArray 0 (zs.length * 1) = zs.map fun z => Value.int k z := by
      simp [seg, List.take_of_length_le]
    rw [e1]
    refine ⟨rfl, by simp [Ty.sz], fun i hi => ?_⟩
    show List.take 1 (List.drop (i * 1) (List.map (fun z => Value.int k z) zs)) = [Value.int k zs[i]]
    simp only [Nat.mul_one]
    rw [List.drop_eq_getElem_cons (by simpa using hi)]
    simp
  · cases h
end Go.Sx

/- What a row's list of variables gives, wherever a variable stands on it. -/
namespace Go.Sx
open Go.RowKit

theorem laid_at {P : Program} {W : World} {name : String} {d : DataW Unit} {l : List (String × DataW Unit)} (h : laidMet P l W) (hm : (name, d) ∈ l) :
    ∃ g t cs fuel p, P.globalNamed name = some g ∧ (P.globals[g]?).map (·.type) = some t ∧ W.var? P name = some cs ∧ DataW.trod (fun _ => ()) P W 0 (fun _ => true) false fuel t cs.toList = some (d, p) := by
  obtain ⟨ps, h, hrest⟩ := h
  clear hrest
  induction l generalizing ps with
  | nil => cases hm
  | cons x r ih =>
    obtain ⟨n, e⟩ := x
    obtain ⟨g, t, cs, fuel, p, q, h1, h2, h3, h4, h5, h6⟩ := h
    rcases List.mem_cons.1 hm with e | hm
    · cases e; exact ⟨g, t, cs, fuel, p, h1, h2, h3, h4⟩
    · exact ih hm _ h5

theorem tab_at {P : Program} {W : World} {name : String} {k : IntKind} {zs : List Int} {l : List (String × DataW Unit)} {g : Nat} {t e : TypeId} {n : Nat} (hm : (name, Lib.tabData k zs) ∈ l)
    (hg : P.globalNamed name = some g) (hty : (P.globals[g]?).map (·.type) = some t) (ht : P.underlying t = some (.array n e)) (he : P.underlying e = some (.int k)) (hce : P.cellsOf e = 1) (hct : P.cellsOf t = n)
    (h : laidMet P l W) : Lib.TabIs P W name k zs := by
  obtain ⟨g', t', cs, fuel, p, h1, h2, h3, h4⟩ := laid_at h hm
  obtain rfl := Option.some.inj (hg.symm.trans h1)
  obtain rfl := Option.some.inj (hty.symm.trans h2)
  unfold Lib.TabIs
  rw [h3, ← Lib.cells_of_tab ht he hce hct h4]

theorem var_heap {P : Program} {W : World} {name : String} {g : Nat} {cs : Array Value} (hg : P.globalNamed name = some g) (h : W.var? P name = some cs) : ∃ e fr, W.heap[g]? = some (.cells cs e fr) := by
  simp only [World.var?, hg, Option.bind_some] at h
  split at h
  · rename_i cs' e fr hh
    cases h
    exact ⟨e, fr, hh⟩
  · cases h

theorem pair_at {P : Program} {W : World} {name : String} {k k' : IntKind} {a b : Int} {l : List (String × DataW Unit)} {g : Nat} {t : TypeId} {fs : Array Field} {f0 f1 : Field} (hm : (name, .agg [.lit (.int k a), .lit (.int k' b)]) ∈ l)
    (hg : P.globalNamed name = some g) (hty : (P.globals[g]?).map (·.type) = some t) (ht : P.underlying t = some (.struct fs)) (hfs : fs.toList = [f0, f1]) (ho0 : f0.offset = 0) (ho1 : f1.offset = 1)
    (hc0 : P.cellsOf f0.type = 1) (hc1 : P.cellsOf f1.type = 1) (hu0 : P.underlying f0.type = some (.int k)) (hu1 : P.underlying f1.type = some (.int k')) (hct : P.cellsOf t = 2)
    (h : laidMet P l W) : ∃ c e fr, HW W g = some (.cells c e fr) ∧ Rd (HW W) (.pair (.int k) (.int k')) (a, b) (seg c 0 2) ∧ c.size = 2 := by
  obtain ⟨g', t', cs, fuel, p, h1, h2, h3, h4⟩ := laid_at h hm
  obtain rfl := Option.some.inj (hg.symm.trans h1)
  obtain rfl := Option.some.inj (hty.symm.trans h2)
  obtain ⟨e, fr, hh⟩ := var_heap hg h3
  refine ⟨cs, e, fr, hh, ?_⟩
  have hcs : cs.toList = [.int k a, .int k' b] := by
    cases fuel with
    | zero => simp [DataW.trod] at h4
    | succ fuel =>
      simp only [DataW.trod, ht, hct, hfs, hc0, hc1, ho0, ho1, List.mapM_cons, List.mapM_nil] at h4
      split at h4
      · rename_i hl
        obtain ⟨xs, hx1, hx2⟩ := Option.map_eq_some_iff.1 h4
        simp only [Option.bind_eq_bind, Option.bind_eq_some_iff, Option.pure_def, Option.some.injEq] at hx1
        obtain ⟨y0, hy0, r, ⟨y1, hy1, r2, rfl, rfl⟩, rfl⟩ := hx1
        obtain ⟨m0, e0, hz0, _⟩ := DataW.trod_int hu0 hy0
        obtain ⟨m1, e1, hz1, _⟩ := DataW.trod_int hu1 hy1
        subst hz0 hz1
        simp only [List.map_cons, List.map_nil, Prod.mk.injEq, DataW.agg.injEq, List.cons.injEq, DataW.lit.injEq, Lit.int.injEq, true_and, and_true] at hx2
        obtain ⟨⟨rfl, rfl⟩, _⟩ := hx2
        match hq : cs.toList, hl with
        | [u, v], _ =>
          rw [hq] at e0 e1
          simp at e0 e1
          rw [e0, e1]
      · cases h4
  have hs : seg cs 0 2 = [.int k a, .int k' b] := by unfold seg; rw [hcs]; rfl
  rw [hs]
  exact ⟨⟨rfl, rfl⟩, by rw [← Array.length_toList, hcs]; rfl⟩

def intB (P : Program) (t : TypeId) (k : IntKind) : Bool := match P.underlying t with
  | some (.int q) => decide (q = k)
  | _ => false
theorem intB_ok {P : Program} {t : TypeId} {k : IntKind} (h : intB P t k = true) : P.underlying t = some (.int k) := by
  unfold intB at h
  split at h
  · rename_i q hq
    rw [hq, of_decide_eq_true h]
  · cases h
/-- A struct of two numbers. -/
def pairB (P : Program) (t : TypeId) (k k' : IntKind) : Bool := match P.underlying t with
  | some (.struct fs) => match fs.toList with
    | [f0, f1] => decide (f0.offset = 0) && decide (f1.offset = 1) && decide (P.cellsOf f0.type = 1) && decide (P.cellsOf f1.type = 1) && intB P f0.type k && intB P f1.type k' && decide (P.cellsOf t = 2)
    | _ => false
  | _ => false
theorem pair_at' {P : Program} {W : World} {name : String} {k k' : IntKind} {a b : Int} {l : List (String × DataW Unit)} {g : Nat} {t : TypeId} (hm : (name, .agg [.lit (.int k a), .lit (.int k' b)]) ∈ l)
    (hg : P.globalNamed name = some g) (hty : (P.globals[g]?).map (·.type) = some t) (hc : pairB P t k k' = true) (h : laidMet P l W) :
    ∃ c e fr, HW W g = some (.cells c e fr) ∧ Rd (HW W) (.pair (.int k) (.int k')) (a, b) (seg c 0 2) ∧ c.size = 2 := by
  unfold pairB at hc
  split at hc
  · rename_i fs hu
    split at hc
    · rename_i f0 f1 hfs
      simp only [Bool.and_eq_true, decide_eq_true_eq] at hc
      obtain ⟨⟨⟨⟨⟨⟨h1, h2⟩, h3⟩, h4⟩, h5⟩, h6⟩, h7⟩ := hc
      exact pair_at hm hg hty hu hfs h1 h2 h3 h4 (intB_ok h5) (intB_ok h6) h7 h
    · cases hc
  · cases hc

theorem rd_pair {H : IH} {a b : Ty} {x : (Ty.pair a b).T} {cs : List Value} (h : Rd H (.pair a b) x cs) : ∃ c1 c2, cs = c1 ++ c2 ∧ Rd H a x.1 c1 ∧ Rd H b x.2 c2 :=
  ⟨_, _, (List.take_append_drop a.sz cs).symm, h.1, h.2⟩
theorem wf_i64 {n : Int} (h : (Lit.int .i64 n).wf = true) : fits .i64 n := by
  simp [Lit.wf, IntKind.min, IntKind.max, IntKind.signed, IntKind.bits] at h
  simp only [fits]
  omega
theorem wf_i8 {n : Int} (h : (Lit.int .i8 n).wf = true) : fits .i8 n := by
  simp [Lit.wf, IntKind.min, IntKind.max, IntKind.signed, IntKind.bits] at h
  simp only [fits]
  omega
theorem wf_u8 {n : Int} (h : (Lit.int .u8 n).wf = true) : fits .u8 n := by
  simp [Lit.wf, IntKind.min, IntKind.max, IntKind.signed, IntKind.bits] at h
  simp only [fits]
  omega
theorem wf_mem {t : Ty} {xs : List t.T} (h : WF (.sl t) xs) : ∀ x ∈ xs, WF t x := by
  intro x hx
  obtain ⟨i, hi, rfl⟩ := List.mem_iff_getElem.1 hx
  exact h.2 i hi
end Go.Sx

/- Facts of the program that every row asks. -/
namespace Go.Sx
theorem j3a : laidOutB Proofs.Tryz.prog = true := by kernel_rfl
theorem j3b : mapsRowed Proofs.Tryz.prog = true := by kernel_rfl
theorem j3c : Proofs.Tryz.prog.stopsHeard = true := by kernel_rfl
theorem j3d : Proofs.Tryz.prog.mayEnter = true := by kernel_rfl
end Go.Sx
