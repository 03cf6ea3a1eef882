/- A verified symbolic run of functions, part 18: lemmas, no claim of their own. -/
import Derived.Test.YtpfngnmgipnmlaaDoorS17
/- The law. -/
namespace Go.Sx
open U

theorem rb20 : rebuilt (List.take 19 (stream [114] 7 [1, 2])) = (([114], 7, [1]), false, 0) := by kernel_rfl
theorem by20 : Bytes (List.take 19 (stream [114] 7 [1, 2])) := by unfold Bytes; decide +kernel
theorem ok20 : ReelOk [114] 7 [1, 2] := checkReel_zero.1 (by kernel_rfl)

theorem fn20 : Fn P1 gl1 20 [] (.val (bV true)) true := by
  refine Fn.flat ?_ rfl
  refine fn_of false [(17, sp17), (21, sp21), (22, sp22)] [] h0 0 Proofs.Tryd.f20 ⟨so17, so21, so22, trivial⟩ trivial (by kernel_rfl) rfl (by kernel_rfl) rfl rfl rfl ?_
  rw [vc20 ()]
  have e : Array.toList (ByteArray.data { data := #[(114 : UInt8)] }) = [114] := rfl
  rw [e, rb20]
  exact ⟨ok20, by decide, rfl, ⟨by decide, by20⟩, fun _ => by decide, rfl, trivial⟩
theorem so20_ : SpecOk P1 gl1 20 sp20 := by
  intro vs ps r h hp
  simp only [sp20] at h
  split at h
  · cases h; exact fn20
  · cases h
theorem so20 : Sp1 20 sp20 := ⟨so20_, Proofs.Tryd.f20, _, by kernel_rfl, rfl, by kernel_rfl⟩

theorem fn4 (ds : List (List Int)) (fr : Int) (cut : List Int) (hds : ∀ d ∈ ds, List.length d = 3) (hfr : 0 ≤ fr ∧ fr ≤ 65535) (hc : cut.length = 2) (hcb : Bytes cut) :
    Fn P1 gl1 4 [.one (.sl (.arr 3 (.int .u8)) ds), .one (.int .u16 fr), aV 2 cut] (.val (bV true)) true := by
  refine Fn.flat ?_ rfl
  refine fn_of false [(14, sp14h), (15, sp15h), (16, sp16h), (17, sp17), (20, sp20), (21, sp21h), (22, sp22h), (23, sp23h)] [] h4 0 Proofs.Tryd.f4 ⟨so14h, so15h, so16h, so17, so20, so21h, so22h, so23h, trivial⟩ trivial (by kernel_rfl) rfl (by kernel_rfl) rfl rfl rfl ?_
  rw [vc4]
  simp only [splitB_iff, hid_eq, -eq_self]
  refine ⟨fun _ => ⟨rfl, trivial⟩, fun h => ?_⟩
  have hn : 1 ≤ ds.length ∧ ds.length ≤ 12 := by
    by_cases h1 : ((ds.length : Nat) : Int) < 1
    · rw [decide_eq_true h1] at h; cases h
    · rw [decide_eq_false h1] at h
      simp at h
      omega
  clear h
  refine ⟨by simp only [fits]; omega, ⟨0, Nat.zero_le _, rfl, rfl, rfl, rfl, rfl, rfl, rfl, rfl, rfl, trivial⟩, fun g hg => ⟨fun hlt => ?_, fun hge => ?_⟩⟩
  · have hlt' : g < ds.length := by simpa using hlt
    have hd : (List.getD ds g (List.replicate 3 0)).length = 3 := by rw [getD_of hlt']; exact hds _ (List.getElem_mem hlt')
    have hdat : [bits .and .u8 (List.getD (List.getD ds g (List.replicate 3 0)) 0 0) 127, bits .and .u8 (List.getD (List.getD ds g (List.replicate 3 0)) 1 0) 127, bits .and .u8 (List.getD (List.getD ds g (List.replicate 3 0)) 2 0) 127, 0, 0, 0, 0, 0, 0, 0] = dat3 (ds.getD g d3) := rfl
    have henc := enc_ok (i := g) (by omega) (dat3 (ds.getD g d3))
    simp only [hdat, henc, -eq_self]
    have hfl : (frame 1 (g : Int) (dat3 (ds.getD g d3))).length = 16 := frame_len _ _ (dat3_len _)
    have hfb : Bytes (frame 1 (g : Int) (dat3 (ds.getD g d3))) := frame_bytes _ _ (dat3_bytes _)
    have h14 := byAt hfb (i := 14) (by omega)
    have h15 := byAt hfb (i := 15) (by omega)
    refine ⟨by omega, by decide, by omega, by decide, by omega, by decide, by omega, ⟨rfl, dat3_bytes _⟩, fun h => Bool.noConfusion h, fun _ => ⟨by decide, by rw [List.length_take]; omega, ?_, by decide, by omega, by simp only [fits]; omega, ⟨by decide, by decide, by simp only [fits]; omega⟩, by decide, by omega, by simp only [fits]; omega, by simp only [room, pcks_len]; omega, by simp only [fits]; omega, g + 1, hlt', by omega, by simp, rfl, rfl, rfl, ?_, rfl, rfl, ?_, rfl, trivial⟩⟩
    · simp only [room, sent_len, List.length_take]; omega
    · rw [List.take_of_length_le (by omega)]; rfl
    · rw [frame_check _ _ (dat3_len _), pcks_succ]; rfl
  · have hge' : ¬ g < ds.length := by simpa using hge
    have hgn : g = ds.length := by have : g ≤ ds.length := hg; omega
    subst hgn
    have hday : ([100, 97, 121] : List UInt8) = day := rfl
    rw [hday]
    have hok : ReelOk day fr (pcks ds ds.length) := ⟨by decide, by omega, by rw [pcks_len]; omega, by rw [pcks_len]; omega, pcks_w ds _, by rw [pcks_len]; omega⟩
    have hsl : (stream day fr (pcks ds ds.length)).length = 12 + 5 * ds.length + 5 := by rw [stream_len, pcks_len]
    have hsb := stream_bytes (f := fr) (l := pcks ds ds.length)
    have c0 := byAt hcb (i := 0) (by omega)
    have c1 := byAt hcb (i := 1) (by omega)
    have hkb : 0 ≤ cut.getD 0 0 % (ds.length : Int) ∧ cut.getD 0 0 % (ds.length : Int) < ds.length := ⟨Int.emod_nonneg _ (by omega), Int.emod_lt_of_pos _ (by omega)⟩
    have hqb : 0 ≤ cut.getD 1 0 % 5 ∧ cut.getD 1 0 % 5 < 5 := by omega
    obtain ⟨k, hk⟩ : ∃ k : Nat, 1 + cut.getD 0 0 % (ds.length : Int) = (k : Int) := ⟨(1 + cut.getD 0 0 % (ds.length : Int)).toNat, by omega⟩
    obtain ⟨q, hq⟩ : ∃ q : Nat, cut.getD 1 0 % 5 = (q : Int) := ⟨(cut.getD 1 0 % 5).toNat, by omega⟩
    rw [hk, hq]
    have hat : (12 : Int) + 5 * (k : Int) + (q : Int) = ((12 + 5 * k + q : Nat) : Int) := by omega
    rw [hat]
    have hmin : min ((stream day fr (pcks ds ds.length)).length : Int) ((12 + 5 * k + q : Nat) : Int) = ((12 + 5 * k + q : Nat) : Int) := by omega
    rw [hmin]
    have hkn : 1 ≤ k ∧ k ≤ ds.length := by omega
    have hq5 : q < 5 := by omega
    have hpl := pcks_len ds ds.length
    have hrb := rebuilt_cut hok k q hkn.1 (by omega) hq5
    have hrc := read_cut hok k q (by omega) hq5
    have hra := read_all hok
    have hcl := cut_len (f := fr) (l := pcks ds ds.length) k q (by omega) hq5
    obtain ⟨u, hu⟩ : ∃ u : Nat, u = min (16 * ds.length) (16 * k + 3 * q) := ⟨_, rfl⟩
    have hup : min ((sent ds ds.length).length : Int) (16 * (k : Int) + 3 * (q : Int)) = (u : Int) := by rw [sent_len]; omega
    obtain ⟨t, ht⟩ := sent_take ds hkn.2
    have hst : List.take u (sent ds ds.length) = sent ds k ++ List.take (u - 16 * k) t := by
      rw [ht, List.take_append, List.take_of_length_le (by rw [sent_len]; omega), sent_len]
    have htl : t.length = 16 * ds.length - 16 * k := by
      have := congrArg List.length ht
      rw [List.length_append, sent_len, sent_len] at this
      omega
    have hpt : (List.take (u - 16 * k) t).length = u - 16 * k := by rw [List.length_take]; omega
    have hrv := received_part ds (k := k) (by omega) (List.take (u - 16 * k) t) (by omega)
    rw [← hst, hpt] at hrv
    obtain ⟨sk, hsk⟩ : ∃ sk : List (Int × Int), sk = (if u - 16 * k = 0 then [] else [(((16 * k : Nat) : Int), ((16 * k + (u - 16 * k) : Nat) : Int))]) := ⟨_, rfl⟩
    rw [← hsk] at hrv
    have hB : (bif bif (u : Int) == 16 * (k : Int) then decide ((0 : Int) < (sk.length : Int)) else false then true else bif decide (16 * (k : Int) < (u : Int)) then bif (sk.length : Int) != 1 then true else !eqT (.pair (.int .i64) (.int .i64)) ((List.getD sk 0 (0, 0)).1, (List.getD sk 0 (0, 0)).2) (16 * (k : Int), (u : Int)) else false) = false := by
      by_cases hu0 : u = 16 * k
      · have : sk = [] := by rw [hsk, if_pos (by omega)]
        subst this
        have e1 : ((u : Int) == 16 * (k : Int)) = true := by simp; omega
        have e2 : decide (16 * (k : Int) < (u : Int)) = false := decide_eq_false (by omega)
        rw [e1, e2]
        rfl
      · have : sk = [(16 * (k : Int), (u : Int))] := by
          rw [hsk, if_neg (by omega)]
          congr 2 <;> omega
        subst this
        have e1 : ((u : Int) == 16 * (k : Int)) = false := by simp; omega
        have e2 : decide (16 * (k : Int) < (u : Int)) = true := decide_eq_true (by omega)
        have e3 : eqT (.pair (.int .i64) (.int .i64)) ((List.getD [(16 * (k : Int), (u : Int))] 0 (0, 0)).1, (List.getD [(16 * (k : Int), (u : Int))] 0 (0, 0)).2) (16 * (k : Int), (u : Int)) = true := by
          show ((16 * (k : Int) == 16 * (k : Int)) && ((u : Int) == (u : Int))) = true
          simp
        rw [e1, e2, e3]
        rfl
    have hsk1 : decide (16 * (k : Int) < (u : Int)) = true → 0 < sk.length := by
      intro h
      have h' : 16 * (k : Int) < (u : Int) := by simpa using h
      rw [hsk, if_neg (by omega)]
      exact Nat.zero_lt_one
    have hsl2 : (List.take u (sent ds ds.length)).length = u := by rw [List.length_take, sent_len]; omega
    have hsb2 : Bytes (List.take u (sent ds ds.length)) := byTake (sent_bytes ds _) _
    have hks := pks_len ds k
    have hlost := lost_none ds (k := k) (k - 1) (by omega)
    simp only [hup, Int.toNat_natCast, hrb, hrc, hra, hrv, hcl, hsl, hsl2, hpl, hks, hlost, -eq_self]
    have hne : ((12 + 5 * ds.length + 5 : Nat) : Int) = 12 + 5 * (ds.length : Int) + 5 := by omega
    simp only [hne, bne_self_eq_false, cond_false, decide_true, Bool.not_true, Bool.false_eq_true, false_implies, true_and, and_true, forall_const, eq_self]
    have hf : ∀ x : Int, -1000000 ≤ x → x ≤ 1000000 → fits .i64 x := by intro x h1 h2; simp only [fits]; omega
    have hlt : (List.take k (pcks ds ds.length)).length = k := by rw [List.length_take]; omega
    refine ⟨hok, hf _ (by omega) (by omega), hf _ (by omega) (by omega), hf _ (by omega) (by omega), by decide, by omega, hf _ (by omega) (by omega), by omega, hf _ (by omega) (by omega), by decide, by omega, hf _ (by omega) (by omega), by omega, hf _ (by omega) (by omega), hf _ (by omega) (by omega), hf _ (by omega) (by omega), by omega, by simp only [room]; omega, ⟨by omega, byTake hsb _⟩, by omega, hlt, by omega, by omega, ⟨by omega, byTake hsb _⟩, by simp only [room]; omega, ⟨by omega, hsb⟩, by omega, hf _ (by omega) (by omega), hf _ (by omega) (by omega), hf _ (by omega) (by omega), by rw [sent_len]; omega, by simp only [room]; omega, ⟨hsb2, by omega⟩, ⟨by omega, fun p hp => ?_, by decide, by decide⟩, fun h => ?_, fun _ => ⟨hf _ (by omega) (by omega), fun _ => hf _ (by omega) (by omega), fun _ h _ => ⟨by decide, Int.ofNat_lt.2 (hsk1 h)⟩, fun _ h _ => hsk1 h, fun _ _ _ => hf _ (by omega) (by omega), fun h => ?_, fun _ => ⟨⟨(0, pks ds k, day, fr, List.take k (pcks ds ds.length)), ?_⟩, ?_⟩⟩⟩
    · obtain ⟨j, hj, rfl⟩ := List.mem_map.1 hp
      have := List.mem_range.1 hj
      exact ⟨rfl, pcheck_ok (by omega)⟩
    · exact absurd h (by decide)
    · rw [hB] at h; cases h
    · exact ⟨⟨Nat.zero_le _, rfl⟩, rfl, by rw [hks], rfl, rfl, rfl, rfl⟩
    · rintro ⟨i, r⟩ ⟨hi, rfl⟩
      simp only [] at hi ⊢
      refine ⟨fun hlt => ?_, fun _ => trivial⟩
      have hlt' : i < k := by
        have : (i : Int) < ((pks ds k).length : Int) := by simpa using hlt
        omega
      have hp : List.getD (pks ds k) i (0, 0, List.replicate 10 0) = (1, (i : Int), dat3 (ds.getD i d3)) := by
        rw [getD_of (by omega)]
        simp [pks, pkAt]
      have henc := enc_ok (i := i) (by omega) (dat3 (ds.getD i d3))
      have hfl : (frame 1 (i : Int) (dat3 (ds.getD i d3))).length = 16 := frame_len _ _ (dat3_len _)
      have hfb : Bytes (frame 1 (i : Int) (dat3 (ds.getD i d3))) := frame_bytes _ _ (dat3_bytes _)
      have h14 := byAt hfb (i := 14) (by omega)
      have h15 := byAt hfb (i := 15) (by omega)
      have hgc : List.getD (List.take k (pcks ds ds.length)) i 0 = pck ds i := by
        rw [getD_of (by omega)]
        simp [pcks]
      simp only [hp, henc, hgc, frame_check _ _ (dat3_len _), bne_self_eq_false, cond_false, forall_const, hks]
      have hpc : (sum 251 65521 (frame1 1 (i : Int) (dat3 (ds.getD i d3))) != pck ds i) = false := by simp [pck]
      refine ⟨by omega, hlt', ⟨dat3_len _, dat3_bytes _⟩, by decide, by omega, hf _ (by omega) (by omega), ⟨by decide, by decide, hf _ (by omega) (by omega)⟩, by decide, by omega, hf _ (by omega) (by omega), by omega, fun h => ?_, fun _ => ⟨hf _ (by omega) (by omega), (i + 1, pks ds k, day, fr, List.take k (pcks ds ds.length)), ⟨?_, rfl⟩, ?_, ?_, ?_, rfl, rfl, rfl, rfl⟩⟩
      · rw [hpc] at h; cases h
      · show i + 1 ≤ (pks ds k).length; omega
      · show (pks ds k).length - (i + 1) < k - i; omega
      · show (i : Int) + 1 = ((i + 1 : Nat) : Int); omega
      · show (k : Int) = ((pks ds k).length : Int); omega
end Go.Sx

/- Plain functions and hints. -/
namespace Go.Sx.U
/-- How much the sounds of edits are earlier or later. -/
def mostN (L : List Ed) : Nat → Int
  | 0 => 0
  | i + 1 => mostN L i + max (L.getD i e0).2.2.2.2 (-(L.getD i e0).2.2.2.2)
def seenN (L : List Ed) (t : Int) : Nat := lastTo begP (ls L) t L.length
def hearN (L : List Ed) (t : Int) : Nat := lastTo sndN (ls L) t L.length
/-- At how many frames another edit is seen than is heard. -/
def diffTo (L : List Ed) : Nat → Int
  | 0 => 0
  | t + 1 => if seenN L (t : Int) = hearN L (t : Int) then diffTo L t else diffTo L t + 1
end Go.Sx.U
namespace Go.Sx
open U
/-- A loop that counts up to a number, with temporaries that hang on the counter. -/
def hCt2 (s : St) (keep : List Nat) (new : Nat → List (Nat × SV)) (n : Nat) : Option LInv := some ⟨Nat, fun i => s.at keep (new i), fun i => i ≤ n, fun i => n - i⟩
/-- The loop that copies a list. -/
def hCopy (u : Ty) (tl tn ti to : Nat) (keep : List Nat) (s : St) : Option LInv := match listAs s tl u with
  | some xs => some ⟨Nat, fun i => ⟨[tI ti i, (to, .val (.one (.own s.nx)))] ++ keepT (keep ++ [tl, tn]) s.tm, (s.nx, some (.row u (List.take i xs))) :: lessO s [to], s.nx + 1, s.lr⟩, fun i => i ≤ List.length xs, fun i => List.length xs - i⟩
  | _ => none
def h36 : Hints := ⟨fun f k s => match f, k with
  | 36, 3 => hCopy rlT 6 7 8 3 [] s
  | _, _ => none, 0⟩
def h38 : Hints := ⟨fun f k s => match f, k with
  | 38, 3 => hCopy edT 6 7 8 3 [] s
  | _, _ => none, 0⟩
def h6 : Hints := ⟨fun f k s => match f, k with
  | 6, 5 => hCopy rlT 59 60 61 7 [0, 1, 2] s
  | 6, 21 => match listAs s 170 edT with
    | some L => hCt2 s [0, 1, 2, 7, 14, 15, 17, 19, 21, 24, 170, 171] (fun i => [tI 172 i, tI 23 (mostN L i)]) (List.length L)
    | _ => none
  | 6, 26 => match listAs s 1 edT, intOfT s 185 with
    | some L, some n => hCt2 s [0, 1, 2, 7, 14, 15, 17, 19, 21, 23, 185] (fun t => [tI 186 t, tI 24 (diffTo L t)]) n.toNat
    | _, _ => none
  | 6, 30 => match listAs s 1 edT, intOfT s 27 with
    | some L, some t => hCt2 s [0, 1, 2, 7, 14, 15, 17, 19, 21, 23, 24, 27, 185, 186, 189, 190] (fun i => [tI 191 i, tI 28 (lastTo begP (ls L) t i), tI 29 (lastTo sndN (ls L) t i)]) (List.length L)
    | _, _ => none
  | 6, 44 => match listAs s 271 rlT with
    | some R => hCt2 s [0, 1, 2, 7, 14, 15, 17, 19, 21, 23, 24, 27, 32, 185, 186, 271, 272] (fun i => [tI 273 i]) (List.length R)
    | _ => none
  | 6, 60 => match listAs s 372 edT with
    | some L => hCt2 s [1, 372, 373] (fun i => [tI 374 i]) (List.length L)
    | _ => none
  | _, _ => none, 0⟩
end Go.Sx
namespace Go.Sx
open U
def sp36 : FSpec := ⟨fun vs => match vs with
  | [.one (.sl (.pair .str (.pair (.int .i64) (.sl (.int .i64)))) R)] => some ([List.length R ≤ 1000000, ∀ r ∈ (show List Rl from R), List.length r.2.2 ≤ 1000000], .val (.one (.sl rlT R)))
  | _ => none, false⟩
def sp38 : FSpec := ⟨fun vs => match vs with
  | [.one (.sl (.pair .str (.pair (.int .i64) (.pair (.int .i64) (.pair (.int .i64) (.int .i64))))) L)] => some ([List.length L ≤ 1000000], .val (.one (.sl edT L)))
  | _ => none, false⟩
end Go.Sx

/- What the engine asks, written out (printed by a program). -/
namespace Go.Sx
open U
theorem vc36 (R : List Rl) : exF (env false [] []) h36 0 36 Proofs.Tryd.f36 [.one (.sl rlT R)] (.val (.one (.sl rlT R))) = ((∃ (g : Nat), Nat.le g (List.length R) ∧ (0 : Int) = (↑g : Int) ∧ (↑(List.length R) : Int) = (↑(List.length R) : Int) ∧ R = R ∧ List.take g R = [] ∧ True) ∧ ∀ (g : Nat), Nat.le g (List.length R) → splitB (decide ((↑g : Int) < (↑(List.length R) : Int))) (((0 : Int) ≤ (↑g : Int) ∧ (↑g : Int) < (↑(List.length R) : Int)) ∧ room (List.length (Prod.snd (Prod.snd (List.getD R g r0)))) (8 : Nat) ∧ room (List.length (List.take g R) + (1 : Nat)) (48 : Nat) ∧ fits IntKind.i64 ((↑g : Int) + (1 : Int)) ∧ ∃ (g' : Nat), Nat.le g' (List.length R) ∧ List.length R - g' < List.length R - g ∧ (↑g : Int) + (1 : Int) = (↑g' : Int) ∧ (↑(List.length R) : Int) = (↑(List.length R) : Int) ∧ R = R ∧ List.take g R ++ [(Prod.fst (List.getD R g r0), Prod.fst (Prod.snd (List.getD R g r0)), Prod.snd (Prod.snd (List.getD R g r0)))] = List.take g' R ∧ True) (List.take g R = R ∧ True)) := by
  kernel_rfl
theorem vc38 (L : List Ed) : exF (env false [] []) h38 0 38 Proofs.Tryd.f38 [.one (.sl edT L)] (.val (.one (.sl edT L))) = ((∃ (g : Nat), Nat.le g (List.length L) ∧ (0 : Int) = (↑g : Int) ∧ (↑(List.length L) : Int) = (↑(List.length L) : Int) ∧ L = L ∧ List.take g L = [] ∧ True) ∧ ∀ (g : Nat), Nat.le g (List.length L) → splitB (decide ((↑g : Int) < (↑(List.length L) : Int))) (((0 : Int) ≤ (↑g : Int) ∧ (↑g : Int) < (↑(List.length L) : Int)) ∧ room (List.length (List.take g L) + (1 : Nat)) (48 : Nat) ∧ fits IntKind.i64 ((↑g : Int) + (1 : Int)) ∧ ∃ (g' : Nat), Nat.le g' (List.length L) ∧ List.length L - g' < List.length L - g ∧ (↑g : Int) + (1 : Int) = (↑g' : Int) ∧ (↑(List.length L) : Int) = (↑(List.length L) : Int) ∧ L = L ∧ List.take g L ++ [(Prod.fst (List.getD L g e0), Prod.fst (Prod.snd (List.getD L g e0)), Prod.fst (Prod.snd (Prod.snd (List.getD L g e0))), Prod.fst (Prod.snd (Prod.snd (Prod.snd (List.getD L g e0)))), Prod.snd (Prod.snd (Prod.snd (Prod.snd (List.getD L g e0)))))] = List.take g' L ∧ True) (List.take g L = L ∧ True)) := by
  kernel_rfl
theorem vc6 (R : List Rl) (L : List Ed) (b : Int) : exF (env true [(24, sp24), (25, sp25), (37, sp37), (20, sp20), (36, sp36), (38, sp38), (21, sp21), (23, sp23), (28, sp28), (39, sp39), (40, sp40), (33, sp33), (41, sp41)] []) h6 0 6 Proofs.Tryd.f6 [.one (.sl rlT R), .one (.sl edT L), .one (.int .i8 b)] (.val (bV true)) = (List.length R ≤ (9223372036854775807 : Nat) ∧ List.length L ≤ (9223372036854775807 : Nat) ∧ ((!shortB R L) = false → List.length R ≤ (1000000000 : Nat)) ∧ ((!shortB R L) = false → ∀ (r : Rl), r ∈ R → List.length (Prod.snd (Prod.snd r)) ≤ (1000000 : Nat) ∧ List.length (Prod.fst r) ≤ (1000000000 : Nat)) ∧ ((!shortB R L) = false → List.length L ≤ (1000000000 : Nat)) ∧ ((!shortB R L) = false → ∀ (x : Ed), x ∈ L → fits IntKind.i64 (Prod.fst (Prod.snd (Prod.snd x)))) ∧ splitB (bif bif !shortB R L then true else chkEds R L != (0 : Int) then true else decide ((6 : Int) < (↑(List.length L) : Int))) (true = true ∧ True) (List.length R ≤ (1000000 : Nat) ∧ (∀ (r : Rl), r ∈ R → List.length (Prod.snd (Prod.snd r)) ≤ (1000000 : Nat)) ∧ (∃ (g : Nat), Nat.le g (List.length R) ∧ (0 : Int) = (↑g : Int) ∧ (↑(List.length R) : Int) = (↑(List.length R) : Int) ∧ R = R ∧ R = R ∧ L = L ∧ b = b ∧ List.take g R = [] ∧ True) ∧ ∀ (g : Nat), Nat.le g (List.length R) → splitB (decide ((↑g : Int) < (↑(List.length R) : Int))) (((0 : Int) ≤ (↑g : Int) ∧ (↑g : Int) < (↑(List.length R) : Int)) ∧ ReelOk (Prod.fst (List.getD R g r0)) (Prod.fst (Prod.snd (List.getD R g r0))) (Prod.snd (Prod.snd (List.getD R g r0))) ∧ (List.length (stream (Prod.fst (List.getD R g r0)) (Prod.fst (Prod.snd (List.getD R g r0))) (Prod.snd (Prod.snd (List.getD R g r0)))) ≤ (1000000 : Nat) ∧ Bytes (stream (Prod.fst (List.getD R g r0)) (Prod.fst (Prod.snd (List.getD R g r0))) (Prod.snd (Prod.snd (List.getD R g r0))))) ∧ ((bif (0 : Int) != (0 : Int) then true else Prod.snd (readS (stream (Prod.fst (List.getD R g r0)) (Prod.fst (Prod.snd (List.getD R g r0))) (Prod.snd (Prod.snd (List.getD R g r0))))) != (0 : Int)) = false → List.length (Prod.fst (Prod.fst (readS (stream (Prod.fst (List.getD R g r0)) (Prod.fst (Prod.snd (List.getD R g r0))) (Prod.snd (Prod.snd (List.getD R g r0))))))) ≤ (1000000000 : Nat)) ∧ ((bif (0 : Int) != (0 : Int) then true else Prod.snd (readS (stream (Prod.fst (List.getD R g r0)) (Prod.fst (Prod.snd (List.getD R g r0))) (Prod.snd (Prod.snd (List.getD R g r0))))) != (0 : Int)) = false → List.length (Prod.snd (Prod.snd (Prod.fst (readS (stream (Prod.fst (List.getD R g r0)) (Prod.fst (Prod.snd (List.getD R g r0))) (Prod.snd (Prod.snd (List.getD R g r0)))))))) ≤ (1000000 : Nat)) ∧ splitB (bif bif (0 : Int) != (0 : Int) then true else Prod.snd (readS (stream (Prod.fst (List.getD R g r0)) (Prod.fst (Prod.snd (List.getD R g r0))) (Prod.snd (Prod.snd (List.getD R g r0))))) != (0 : Int) then true else checkReel (Prod.fst (Prod.fst (readS (stream (Prod.fst (List.getD R g r0)) (Prod.fst (Prod.snd (List.getD R g r0))) (Prod.snd (Prod.snd (List.getD R g r0))))))) (Prod.fst (Prod.snd (Prod.fst (readS (stream (Prod.fst (List.getD R g r0)) (Prod.fst (Prod.snd (List.getD R g r0))) (Prod.snd (Prod.snd (List.getD R g r0)))))))) (Prod.snd (Prod.snd (Prod.fst (readS (stream (Prod.fst (List.getD R g r0)) (Prod.fst (Prod.snd (List.getD R g r0))) (Prod.snd (Prod.snd (List.getD R g r0)))))))) != (0 : Int)) (false = true ∧ True) (room (List.length (List.take g R) + (1 : Nat)) (48 : Nat) ∧ fits IntKind.i64 ((↑g : Int) + (1 : Int)) ∧ ∃ (g' : Nat), Nat.le g' (List.length R) ∧ List.length R - g' < List.length R - g ∧ (↑g : Int) + (1 : Int) = (↑g' : Int) ∧ (↑(List.length R) : Int) = (↑(List.length R) : Int) ∧ R = R ∧ R = R ∧ L = L ∧ b = b ∧ List.take g R ++ [(Prod.fst (Prod.fst (readS (stream (Prod.fst (List.getD R g r0)) (Prod.fst (Prod.snd (List.getD R g r0))) (Prod.snd (Prod.snd (List.getD R g r0)))))), Prod.fst (Prod.snd (Prod.fst (readS (stream (Prod.fst (List.getD R g r0)) (Prod.fst (Prod.snd (List.getD R g r0))) (Prod.snd (Prod.snd (List.getD R g r0))))))), Prod.snd (Prod.snd (Prod.fst (readS (stream (Prod.fst (List.getD R g r0)) (Prod.fst (Prod.snd (List.getD R g r0))) (Prod.snd (Prod.snd (List.getD R g r0))))))))] = List.take g' R ∧ True)) (List.length R ≤ (1000000 : Nat) ∧ (∀ (r : Rl), r ∈ R → List.length (Prod.snd (Prod.snd r)) ≤ (1000000 : Nat)) ∧ List.length L ≤ (1000000 : Nat) ∧ List.length R ≤ (1000000000 : Nat) ∧ (∀ (r : Rl), r ∈ R → List.length (Prod.snd (Prod.snd r)) ≤ (1000000 : Nat)) ∧ List.length L ≤ (1000000000 : Nat) ∧ List.length R ≤ (1000000 : Nat) ∧ (∀ (r : Rl), r ∈ R → List.length (Prod.snd (Prod.snd r)) ≤ (1000000 : Nat)) ∧ List.length L ≤ (1000000 : Nat) ∧ List.length R ≤ (1000000000 : Nat) ∧ (∀ (r : Rl), r ∈ R → List.length (Prod.snd (Prod.snd r)) ≤ (1000000 : Nat)) ∧ List.length L ≤ (1000000000 : Nat) ∧ List.length R ≤ (1000000 : Nat) ∧ (∀ (r : Rl), r ∈ R → List.length (Prod.snd (Prod.snd r)) ≤ (1000000 : Nat)) ∧ List.length L ≤ (1000000 : Nat) ∧ List.length R ≤ (1000000000 : Nat) ∧ (∀ (r : Rl), r ∈ R → List.length (Prod.snd (Prod.snd r)) ≤ (1000000 : Nat)) ∧ List.length L ≤ (1000000000 : Nat) ∧ List.length L ≤ (1000000 : Nat) ∧ List.length (List.take g R) ≤ (1000000000 : Nat) ∧ (∀ (r : Rl), r ∈ List.take g R → List.length (Prod.snd (Prod.snd r)) ≤ (1000000 : Nat)) ∧ List.length L ≤ (1000000000 : Nat) ∧ splitB (bif bif bif bif bif bif bif bif bif chkEds R L != (0 : Int) then true else chkEds R L != (0 : Int) then true else chkEds R L != (0 : Int) then true else chkEds (List.take g R) L != (0 : Int) then true else (↑(List.length (startsN R L)) : Int) != (↑(List.length L) : Int) then true else decide (lenN R L < (0 : Int)) then true else decide ((1024 : Int) < lenN R L) then true else (↑(List.length (confN R L)) : Int) != lenN R L then true else (↑(List.length (soundsN R L)) : Int) != lenN R L then true else (↑(List.length (playN (List.take g R) L)) : Int) != lenN R L) (false = true ∧ True) ((∃ (g_1 : Nat), Nat.le g_1 (List.length L) ∧ (0 : Int) = (↑g_1 : Int) ∧ (0 : Int) = mostN L g_1 ∧ (↑(List.length L) : Int) = (↑(List.length L) : Int) ∧ L = L ∧ (0 : Int) = (0 : Int) ∧ lenN R L = lenN R L ∧ R = R ∧ L = L ∧ b = b ∧ playN (List.take g R) L = playN (List.take g R) L ∧ soundsN R L = soundsN R L ∧ confN R L = confN R L ∧ startsN R L = startsN R L ∧ List.take g R = List.take g R ∧ True) ∧ ∀ (g_1 : Nat), Nat.le g_1 (List.length L) → splitB (decide ((↑g_1 : Int) < (↑(List.length L) : Int))) (((0 : Int) ≤ (↑g_1 : Int) ∧ (↑g_1 : Int) < (↑(List.length L) : Int)) ∧ fits IntKind.i64 (-Prod.snd (Prod.snd (Prod.snd (Prod.snd (List.getD L g_1 e0))))) ∧ fits IntKind.i64 (mostN L g_1 + max (Prod.snd (Prod.snd (Prod.snd (Prod.snd (List.getD L g_1 e0))))) (-Prod.snd (Prod.snd (Prod.snd (Prod.snd (List.getD L g_1 e0)))))) ∧ fits IntKind.i64 ((↑g_1 : Int) + (1 : Int)) ∧ ∃ (g' : Nat), Nat.le g' (List.length L) ∧ List.length L - g' < List.length L - g_1 ∧ (↑g_1 : Int) + (1 : Int) = (↑g' : Int) ∧ mostN L g_1 + max (Prod.snd (Prod.snd (Prod.snd (Prod.snd (List.getD L g_1 e0))))) (-Prod.snd (Prod.snd (Prod.snd (Prod.snd (List.getD L g_1 e0))))) = mostN L g' ∧ (↑(List.length L) : Int) = (↑(List.length L) : Int) ∧ L = L ∧ (0 : Int) = (0 : Int) ∧ lenN R L = lenN R L ∧ R = R ∧ L = L ∧ b = b ∧ playN (List.take g R) L = playN (List.take g R) L ∧ soundsN R L = soundsN R L ∧ confN R L = confN R L ∧ startsN R L = startsN R L ∧ List.take g R = List.take g R ∧ True) ((∃ (g_2 : Nat), Nat.le g_2 (Int.toNat (lenN R L)) ∧ (0 : Int) = (↑g_2 : Int) ∧ (0 : Int) = diffTo L g_2 ∧ lenN R L = lenN R L ∧ mostN L g_1 = mostN L g_1 ∧ lenN R L = lenN R L ∧ R = R ∧ L = L ∧ b = b ∧ playN (List.take g R) L = playN (List.take g R) L ∧ soundsN R L = soundsN R L ∧ confN R L = confN R L ∧ startsN R L = startsN R L ∧ List.take g R = List.take g R ∧ True) ∧ ∀ (g_2 : Nat), Nat.le g_2 (Int.toNat (lenN R L)) → splitB (decide ((↑g_2 : Int) < lenN R L)) ((∃ (g_3 : Nat), Nat.le g_3 (List.length L) ∧ (0 : Int) = (↑g_3 : Int) ∧ (0 : Int) = (↑(lastTo begP (ls L) (↑g_2 : Int) g_3) : Int) ∧ (0 : Int) = (↑(lastTo sndN (ls L) (↑g_2 : Int) g_3) : Int) ∧ (↑(List.length (startsN R L)) : Int) = (↑(List.length (startsN R L)) : Int) ∧ (↑g_2 : Int) = (↑g_2 : Int) ∧ (↑g_2 : Int) = (↑g_2 : Int) ∧ diffTo L g_2 = diffTo L g_2 ∧ lenN R L = lenN R L ∧ mostN L g_1 = mostN L g_1 ∧ lenN R L = lenN R L ∧ R = R ∧ L = L ∧ b = b ∧ playN (List.take g R) L = playN (List.take g R) L ∧ soundsN R L = soundsN R L ∧ confN R L = confN R L ∧ startsN R L = startsN R L ∧ List.take g R = List.take g R ∧ True) ∧ ∀ (g_3 : Nat), Nat.le g_3 (List.length L) → splitB (decide ((↑g_3 : Int) < (↑(List.length (startsN R L)) : Int))) (((0 : Int) ≤ (↑g_3 : Int) ∧ (↑g_3 : Int) < (↑(List.length (startsN R L)) : Int)) ∧ g_3 < List.length (startsN R L) ∧ splitB (decide (List.getD (startsN R L) g_3 (0 : Int) ≤ (↑g_2 : Int))) (((0 : Int) ≤ (↑g_3 : Int) ∧ (↑g_3 : Int) < (↑(List.length L) : Int)) ∧ fits IntKind.i64 (List.getD (startsN R L) g_3 (0 : Int) + Prod.snd (Prod.snd (Prod.snd (Prod.snd (List.getD L g_3 e0))))) ∧ splitB (decide (List.getD (startsN R L) g_3 (0 : Int) + Prod.snd (Prod.snd (Prod.snd (Prod.snd (List.getD L g_3 e0)))) ≤ (↑g_2 : Int))) (fits IntKind.i64 ((↑g_3 : Int) + (1 : Int)) ∧ ∃ (g' : Nat), Nat.le g' (List.length L) ∧ List.length L - g' < List.length L - g_3 ∧ (↑g_3 : Int) + (1 : Int) = (↑g' : Int) ∧ (↑g_3 : Int) = (↑(lastTo begP (ls L) (↑g_2 : Int) g') : Int) ∧ (↑g_3 : Int) = (↑(lastTo sndN (ls L) (↑g_2 : Int) g') : Int) ∧ (↑(List.length (startsN R L)) : Int) = (↑(List.length (startsN R L)) : Int) ∧ (↑g_2 : Int) = (↑g_2 : Int) ∧ (↑g_2 : Int) = (↑g_2 : Int) ∧ diffTo L g_2 = diffTo L g_2 ∧ lenN R L = lenN R L ∧ mostN L g_1 = mostN L g_1 ∧ lenN R L = lenN R L ∧ R = R ∧ L = L ∧ b = b ∧ playN (List.take g R) L = playN (List.take g R) L ∧ soundsN R L = soundsN R L ∧ confN R L = confN R L ∧ startsN R L = startsN R L ∧ List.take g R = List.take g R ∧ True) (fits IntKind.i64 ((↑g_3 : Int) + (1 : Int)) ∧ ∃ (g' : Nat), Nat.le g' (List.length L) ∧ List.length L - g' < List.length L - g_3 ∧ (↑g_3 : Int) + (1 : Int) = (↑g' : Int) ∧ (↑g_3 : Int) = (↑(lastTo begP (ls L) (↑g_2 : Int) g') : Int) ∧ (↑(lastTo sndN (ls L) (↑g_2 : Int) g_3) : Int) = (↑(lastTo sndN (ls L) (↑g_2 : Int) g') : Int) ∧ (↑(List.length (startsN R L)) : Int) = (↑(List.length (startsN R L)) : Int) ∧ (↑g_2 : Int) = (↑g_2 : Int) ∧ (↑g_2 : Int) = (↑g_2 : Int) ∧ diffTo L g_2 = diffTo L g_2 ∧ lenN R L = lenN R L ∧ mostN L g_1 = mostN L g_1 ∧ lenN R L = lenN R L ∧ R = R ∧ L = L ∧ b = b ∧ playN (List.take g R) L = playN (List.take g R) L ∧ soundsN R L = soundsN R L ∧ confN R L = confN R L ∧ startsN R L = startsN R L ∧ List.take g R = List.take g R ∧ True)) (((0 : Int) ≤ (↑g_3 : Int) ∧ (↑g_3 : Int) < (↑(List.length L) : Int)) ∧ fits IntKind.i64 (List.getD (startsN R L) g_3 (0 : Int) + Prod.snd (Prod.snd (Prod.snd (Prod.snd (List.getD L g_3 e0))))) ∧ splitB (decide (List.getD (startsN R L) g_3 (0 : Int) + Prod.snd (Prod.snd (Prod.snd (Prod.snd (List.getD L g_3 e0)))) ≤ (↑g_2 : Int))) (fits IntKind.i64 ((↑g_3 : Int) + (1 : Int)) ∧ ∃ (g' : Nat), Nat.le g' (List.length L) ∧ List.length L - g' < List.length L - g_3 ∧ (↑g_3 : Int) + (1 : Int) = (↑g' : Int) ∧ (↑(lastTo begP (ls L) (↑g_2 : Int) g_3) : Int) = (↑(lastTo begP (ls L) (↑g_2 : Int) g') : Int) ∧ (↑g_3 : Int) = (↑(lastTo sndN (ls L) (↑g_2 : Int) g') : Int) ∧ (↑(List.length (startsN R L)) : Int) = (↑(List.length (startsN R L)) : Int) ∧ (↑g_2 : Int) = (↑g_2 : Int) ∧ (↑g_2 : Int) = (↑g_2 : Int) ∧ diffTo L g_2 = diffTo L g_2 ∧ lenN R L = lenN R L ∧ mostN L g_1 = mostN L g_1 ∧ lenN R L = lenN R L ∧ R = R ∧ L = L ∧ b = b ∧ playN (List.take g R) L = playN (List.take g R) L ∧ soundsN R L = soundsN R L ∧ confN R L = confN R L ∧ startsN R L = startsN R L ∧ List.take g R = List.take g R ∧ True) (fits IntKind.i64 ((↑g_3 : Int) + (1 : Int)) ∧ ∃ (g' : Nat), Nat.le g' (List.length L) ∧ List.length L - g' < List.length L - g_3 ∧ (↑g_3 : Int) + (1 : Int) = (↑g' : Int) ∧ (↑(lastTo begP (ls L) (↑g_2 : Int) g_3) : Int) = (↑(lastTo begP (ls L) (↑g_2 : Int) g') : Int) ∧ (↑(lastTo sndN (ls L) (↑g_2 : Int) g_3) : Int) = (↑(lastTo sndN (ls L) (↑g_2 : Int) g') : Int) ∧ (↑(List.length (startsN R L)) : Int) = (↑(List.length (startsN R L)) : Int) ∧ (↑g_2 : Int) = (↑g_2 : Int) ∧ (↑g_2 : Int) = (↑g_2 : Int) ∧ diffTo L g_2 = diffTo L g_2 ∧ lenN R L = lenN R L ∧ mostN L g_1 = mostN L g_1 ∧ lenN R L = lenN R L ∧ R = R ∧ L = L ∧ b = b ∧ playN (List.take g R) L = playN (List.take g R) L ∧ soundsN R L = soundsN R L ∧ confN R L = confN R L ∧ startsN R L = startsN R L ∧ List.take g R = List.take g R ∧ True))) (splitB ((↑(lastTo begP (ls L) (↑g_2 : Int) g_3) : Int) != (↑(lastTo sndN (ls L) (↑g_2 : Int) g_3) : Int)) (fits IntKind.i64 (diffTo L g_2 + (1 : Int)) ∧ fits IntKind.i64 ((↑g_2 : Int) + (1 : Int)) ∧ ∃ (g' : Nat), Nat.le g' (Int.toNat (lenN R L)) ∧ Int.toNat (lenN R L) - g' < Int.toNat (lenN R L) - g_2 ∧ (↑g_2 : Int) + (1 : Int) = (↑g' : Int) ∧ diffTo L g_2 + (1 : Int) = diffTo L g' ∧ lenN R L = lenN R L ∧ mostN L g_1 = mostN L g_1 ∧ lenN R L = lenN R L ∧ R = R ∧ L = L ∧ b = b ∧ playN (List.take g R) L = playN (List.take g R) L ∧ soundsN R L = soundsN R L ∧ confN R L = confN R L ∧ startsN R L = startsN R L ∧ List.take g R = List.take g R ∧ True) (((0 : Int) ≤ (↑(lastTo begP (ls L) (↑g_2 : Int) g_3) : Int) ∧ (↑(lastTo begP (ls L) (↑g_2 : Int) g_3) : Int) < (↑(List.length (startsN R L)) : Int)) ∧ lastTo begP (ls L) (↑g_2 : Int) g_3 < List.length (startsN R L) ∧ ((0 : Int) ≤ (↑(lastTo begP (ls L) (↑g_2 : Int) g_3) : Int) ∧ (↑(lastTo begP (ls L) (↑g_2 : Int) g_3) : Int) < (↑(List.length L) : Int)) ∧ fits IntKind.i64 (List.getD (startsN R L) (lastTo begP (ls L) (↑g_2 : Int) g_3) (0 : Int) + Prod.fst (Prod.snd (Prod.snd (Prod.snd (List.getD L (lastTo begP (ls L) (↑g_2 : Int) g_3) e0))))) ∧ splitB (decide ((↑g_2 : Int) < List.getD (startsN R L) (lastTo begP (ls L) (↑g_2 : Int) g_3) (0 : Int) + Prod.fst (Prod.snd (Prod.snd (Prod.snd (List.getD L (lastTo begP (ls L) (↑g_2 : Int) g_3) e0)))))) (fits IntKind.i64 ((↑g_2 : Int) + (1 : Int)) ∧ ∃ (g' : Nat), Nat.le g' (Int.toNat (lenN R L)) ∧ Int.toNat (lenN R L) - g' < Int.toNat (lenN R L) - g_2 ∧ (↑g_2 : Int) + (1 : Int) = (↑g' : Int) ∧ diffTo L g_2 = diffTo L g' ∧ lenN R L = lenN R L ∧ mostN L g_1 = mostN L g_1 ∧ lenN R L = lenN R L ∧ R = R ∧ L = L ∧ b = b ∧ playN (List.take g R) L = playN (List.take g R) L ∧ soundsN R L = soundsN R L ∧ confN R L = confN R L ∧ startsN R L = startsN R L ∧ List.take g R = List.take g R ∧ True) (((0 : Int) ≤ (↑(lastTo begP (ls L) (↑g_2 : Int) g_3) : Int) ∧ (↑(lastTo begP (ls L) (↑g_2 : Int) g_3) : Int) < (↑(List.length L) : Int)) ∧ ((0 : Int) ≤ (↑(lastTo begP (ls L) (↑g_2 : Int) g_3) : Int) ∧ (↑(lastTo begP (ls L) (↑g_2 : Int) g_3) : Int) < (↑(List.length L) : Int)) ∧ fits IntKind.i64 (Prod.fst (Prod.snd (List.getD L (lastTo begP (ls L) (↑g_2 : Int) g_3) e0)) + (↑g_2 : Int)) ∧ ((0 : Int) ≤ (↑(lastTo begP (ls L) (↑g_2 : Int) g_3) : Int) ∧ (↑(lastTo begP (ls L) (↑g_2 : Int) g_3) : Int) < (↑(List.length (startsN R L)) : Int)) ∧ lastTo begP (ls L) (↑g_2 : Int) g_3 < List.length (startsN R L) ∧ fits IntKind.i64 (Prod.fst (Prod.snd (List.getD L (lastTo begP (ls L) (↑g_2 : Int) g_3) e0)) + (↑g_2 : Int) - List.getD (startsN R L) (lastTo begP (ls L) (↑g_2 : Int) g_3) (0 : Int)) ∧ ((0 : Int) ≤ (↑g_2 : Int) ∧ (↑g_2 : Int) < (↑(List.length (confN R L)) : Int)) ∧ g_2 < List.length (confN R L) ∧ (((↑(List.length (List.getD (confN R L) g_2 [])) : Int) != (1 : Int)) = false → (0 : Int) ≤ (↑g_2 : Int) ∧ (↑g_2 : Int) < (↑(List.length (confN R L)) : Int)) ∧ (((↑(List.length (List.getD (confN R L) g_2 [])) : Int) != (1 : Int)) = false → g_2 < List.length (confN R L)) ∧ (((↑(List.length (List.getD (confN R L) g_2 [])) : Int) != (1 : Int)) = false → (0 : Int) ≤ (0 : Int) ∧ (0 : Int) < (↑(List.length (List.getD (confN R L) g_2 [])) : Int)) ∧ ((bif (↑(List.length (List.getD (confN R L) g_2 [])) : Int) != (1 : Int) then true else !eqT (Ty.pair Ty.str (Ty.pair (Ty.int IntKind.i64) (Ty.pair (Ty.int IntKind.i64) (Ty.int IntKind.i64)))) (Prod.fst (List.getD (List.getD (confN R L) g_2 []) (0 : Nat) tk0), Prod.fst (Prod.snd (List.getD (List.getD (confN R L) g_2 []) (0 : Nat) tk0)), Prod.fst (Prod.snd (Prod.snd (List.getD (List.getD (confN R L) g_2 []) (0 : Nat) tk0))), Prod.snd (Prod.snd (Prod.snd (List.getD (List.getD (confN R L) g_2 []) (0 : Nat) tk0)))) (Prod.fst (List.getD L (lastTo begP (ls L) (↑g_2 : Int) g_3) e0), Prod.fst (Prod.snd (List.getD L (lastTo begP (ls L) (↑g_2 : Int) g_3) e0)) + (↑g_2 : Int) - List.getD (startsN R L) (lastTo begP (ls L) (↑g_2 : Int) g_3) (0 : Int), (1 : Int), (1 : Int))) = false → (0 : Int) ≤ (↑g_2 : Int) ∧ (↑g_2 : Int) < (↑(List.length (soundsN R L)) : Int)) ∧ ((bif (↑(List.length (List.getD (confN R L) g_2 [])) : Int) != (1 : Int) then true else !eqT (Ty.pair Ty.str (Ty.pair (Ty.int IntKind.i64) (Ty.pair (Ty.int IntKind.i64) (Ty.int IntKind.i64)))) (Prod.fst (List.getD (List.getD (confN R L) g_2 []) (0 : Nat) tk0), Prod.fst (Prod.snd (List.getD (List.getD (confN R L) g_2 []) (0 : Nat) tk0)), Prod.fst (Prod.snd (Prod.snd (List.getD (List.getD (confN R L) g_2 []) (0 : Nat) tk0))), Prod.snd (Prod.snd (Prod.snd (List.getD (List.getD (confN R L) g_2 []) (0 : Nat) tk0)))) (Prod.fst (List.getD L (lastTo begP (ls L) (↑g_2 : Int) g_3) e0), Prod.fst (Prod.snd (List.getD L (lastTo begP (ls L) (↑g_2 : Int) g_3) e0)) + (↑g_2 : Int) - List.getD (startsN R L) (lastTo begP (ls L) (↑g_2 : Int) g_3) (0 : Int), (1 : Int), (1 : Int))) = false → g_2 < List.length (soundsN R L)) ∧ splitB (bif bif (↑(List.length (List.getD (confN R L) g_2 [])) : Int) != (1 : Int) then true else !eqT (Ty.pair Ty.str (Ty.pair (Ty.int IntKind.i64) (Ty.pair (Ty.int IntKind.i64) (Ty.int IntKind.i64)))) (Prod.fst (List.getD (List.getD (confN R L) g_2 []) (0 : Nat) tk0), Prod.fst (Prod.snd (List.getD (List.getD (confN R L) g_2 []) (0 : Nat) tk0)), Prod.fst (Prod.snd (Prod.snd (List.getD (List.getD (confN R L) g_2 []) (0 : Nat) tk0))), Prod.snd (Prod.snd (Prod.snd (List.getD (List.getD (confN R L) g_2 []) (0 : Nat) tk0)))) (Prod.fst (List.getD L (lastTo begP (ls L) (↑g_2 : Int) g_3) e0), Prod.fst (Prod.snd (List.getD L (lastTo begP (ls L) (↑g_2 : Int) g_3) e0)) + (↑g_2 : Int) - List.getD (startsN R L) (lastTo begP (ls L) (↑g_2 : Int) g_3) (0 : Int), (1 : Int), (1 : Int)) then true else !eqT (Ty.pair Ty.str (Ty.pair (Ty.int IntKind.i64) (Ty.pair (Ty.int IntKind.i64) (Ty.int IntKind.i64)))) (Prod.fst (List.getD (soundsN R L) g_2 tk0), Prod.fst (Prod.snd (List.getD (soundsN R L) g_2 tk0)), Prod.fst (Prod.snd (Prod.snd (List.getD (soundsN R L) g_2 tk0))), Prod.snd (Prod.snd (Prod.snd (List.getD (soundsN R L) g_2 tk0)))) (Prod.fst (List.getD L (lastTo begP (ls L) (↑g_2 : Int) g_3) e0), Prod.fst (Prod.snd (List.getD L (lastTo begP (ls L) (↑g_2 : Int) g_3) e0)) + (↑g_2 : Int) - List.getD (startsN R L) (lastTo begP (ls L) (↑g_2 : Int) g_3) (0 : Int), (1 : Int), (1 : Int))) (false = true ∧ True) ((∃ (g_4 : Nat), Nat.le g_4 (List.length (List.take g R)) ∧ (0 : Int) = (↑g_4 : Int) ∧ (↑(List.length (List.take g R)) : Int) = (↑(List.length (List.take g R)) : Int) ∧ (↑g_2 : Int) = (↑g_2 : Int) ∧ (↑g_2 : Int) = (↑g_2 : Int) ∧ diffTo L g_2 = diffTo L g_2 ∧ lenN R L = lenN R L ∧ mostN L g_1 = mostN L g_1 ∧ lenN R L = lenN R L ∧ R = R ∧ L = L ∧ b = b ∧ Prod.fst (List.getD L (lastTo begP (ls L) (↑g_2 : Int) g_3) e0) = Prod.fst (List.getD L (lastTo begP (ls L) (↑g_2 : Int) g_3) e0) ∧ Prod.fst (Prod.snd (List.getD L (lastTo begP (ls L) (↑g_2 : Int) g_3) e0)) + (↑g_2 : Int) - List.getD (startsN R L) (lastTo begP (ls L) (↑g_2 : Int) g_3) (0 : Int) = Prod.fst (Prod.snd (List.getD L (lastTo begP (ls L) (↑g_2 : Int) g_3) e0)) + (↑g_2 : Int) - List.getD (startsN R L) (lastTo begP (ls L) (↑g_2 : Int) g_3) (0 : Int) ∧ (1 : Int) = (1 : Int) ∧ (1 : Int) = (1 : Int) ∧ playN (List.take g R) L = playN (List.take g R) L ∧ soundsN R L = soundsN R L ∧ confN R L = confN R L ∧ startsN R L = startsN R L ∧ List.take g R = List.take g R ∧ True) ∧ ∀ (g_4 : Nat), Nat.le g_4 (List.length (List.take g R)) → splitB (decide ((↑g_4 : Int) < (↑(List.length (List.take g R)) : Int))) (((0 : Int) ≤ (↑g_4 : Int) ∧ (↑g_4 : Int) < (↑(List.length (List.take g R)) : Int)) ∧ g_4 < List.length (List.take g R) ∧ (decide (Prod.fst (Prod.snd (List.getD L (lastTo begP (ls L) (↑g_2 : Int) g_3) e0)) + (↑g_2 : Int) - List.getD (startsN R L) (lastTo begP (ls L) (↑g_2 : Int) g_3) (0 : Int) < Prod.fst (Prod.snd (List.getD (List.take g R) g_4 r0))) = false → fits IntKind.i64 (Prod.fst (Prod.snd (List.getD L (lastTo begP (ls L) (↑g_2 : Int) g_3) e0)) + (↑g_2 : Int) - List.getD (startsN R L) (lastTo begP (ls L) (↑g_2 : Int) g_3) (0 : Int) - Prod.fst (Prod.snd (List.getD (List.take g R) g_4 r0)))) ∧ ((bif decide (Prod.fst (Prod.snd (List.getD L (lastTo begP (ls L) (↑g_2 : Int) g_3) e0)) + (↑g_2 : Int) - List.getD (startsN R L) (lastTo begP (ls L) (↑g_2 : Int) g_3) (0 : Int) < Prod.fst (Prod.snd (List.getD (List.take g R) g_4 r0))) then true else decide ((↑(List.length (Prod.snd (Prod.snd (List.getD (List.take g R) g_4 r0)))) : Int) ≤ Prod.fst (Prod.snd (List.getD L (lastTo begP (ls L) (↑g_2 : Int) g_3) e0)) + (↑g_2 : Int) - List.getD (startsN R L) (lastTo begP (ls L) (↑g_2 : Int) g_3) (0 : Int) - Prod.fst (Prod.snd (List.getD (List.take g R) g_4 r0)))) = false → fits IntKind.i64 (Prod.fst (Prod.snd (List.getD L (lastTo begP (ls L) (↑g_2 : Int) g_3) e0)) + (↑g_2 : Int) - List.getD (startsN R L) (lastTo begP (ls L) (↑g_2 : Int) g_3) (0 : Int) - Prod.fst (Prod.snd (List.getD (List.take g R) g_4 r0)))) ∧ ((bif decide (Prod.fst (Prod.snd (List.getD L (lastTo begP (ls L) (↑g_2 : Int) g_3) e0)) + (↑g_2 : Int) - List.getD (startsN R L) (lastTo begP (ls L) (↑g_2 : Int) g_3) (0 : Int) < Prod.fst (Prod.snd (List.getD (List.take g R) g_4 r0))) then true else decide ((↑(List.length (Prod.snd (Prod.snd (List.getD (List.take g R) g_4 r0)))) : Int) ≤ Prod.fst (Prod.snd (List.getD L (lastTo begP (ls L) (↑g_2 : Int) g_3) e0)) + (↑g_2 : Int) - List.getD (startsN R L) (lastTo begP (ls L) (↑g_2 : Int) g_3) (0 : Int) - Prod.fst (Prod.snd (List.getD (List.take g R) g_4 r0)))) = false → (0 : Int) ≤ Prod.fst (Prod.snd (List.getD L (lastTo begP (ls L) (↑g_2 : Int) g_3) e0)) + (↑g_2 : Int) - List.getD (startsN R L) (lastTo begP (ls L) (↑g_2 : Int) g_3) (0 : Int) - Prod.fst (Prod.snd (List.getD (List.take g R) g_4 r0)) ∧ Prod.fst (Prod.snd (List.getD L (lastTo begP (ls L) (↑g_2 : Int) g_3) e0)) + (↑g_2 : Int) - List.getD (startsN R L) (lastTo begP (ls L) (↑g_2 : Int) g_3) (0 : Int) - Prod.fst (Prod.snd (List.getD (List.take g R) g_4 r0)) < (↑(List.length (Prod.snd (Prod.snd (List.getD (List.take g R) g_4 r0)))) : Int)) ∧ ((bif decide (Prod.fst (Prod.snd (List.getD L (lastTo begP (ls L) (↑g_2 : Int) g_3) e0)) + (↑g_2 : Int) - List.getD (startsN R L) (lastTo begP (ls L) (↑g_2 : Int) g_3) (0 : Int) < Prod.fst (Prod.snd (List.getD (List.take g R) g_4 r0))) then true else decide ((↑(List.length (Prod.snd (Prod.snd (List.getD (List.take g R) g_4 r0)))) : Int) ≤ Prod.fst (Prod.snd (List.getD L (lastTo begP (ls L) (↑g_2 : Int) g_3) e0)) + (↑g_2 : Int) - List.getD (startsN R L) (lastTo begP (ls L) (↑g_2 : Int) g_3) (0 : Int) - Prod.fst (Prod.snd (List.getD (List.take g R) g_4 r0)))) = false → (0 : Int) ≤ (↑g_2 : Int) ∧ (↑g_2 : Int) < (↑(List.length (playN (List.take g R) L)) : Int)) ∧ ((bif decide (Prod.fst (Prod.snd (List.getD L (lastTo begP (ls L) (↑g_2 : Int) g_3) e0)) + (↑g_2 : Int) - List.getD (startsN R L) (lastTo begP (ls L) (↑g_2 : Int) g_3) (0 : Int) < Prod.fst (Prod.snd (List.getD (List.take g R) g_4 r0))) then true else decide ((↑(List.length (Prod.snd (Prod.snd (List.getD (List.take g R) g_4 r0)))) : Int) ≤ Prod.fst (Prod.snd (List.getD L (lastTo begP (ls L) (↑g_2 : Int) g_3) e0)) + (↑g_2 : Int) - List.getD (startsN R L) (lastTo begP (ls L) (↑g_2 : Int) g_3) (0 : Int) - Prod.fst (Prod.snd (List.getD (List.take g R) g_4 r0)))) = false → g_2 < List.length (playN (List.take g R) L)) ∧ splitB (bif Prod.fst (List.getD (List.take g R) g_4 r0) == Prod.fst (List.getD L (lastTo begP (ls L) (↑g_2 : Int) g_3) e0) then bif bif decide (Prod.fst (Prod.snd (List.getD L (lastTo begP (ls L) (↑g_2 : Int) g_3) e0)) + (↑g_2 : Int) - List.getD (startsN R L) (lastTo begP (ls L) (↑g_2 : Int) g_3) (0 : Int) < Prod.fst (Prod.snd (List.getD (List.take g R) g_4 r0))) then true else decide ((↑(List.length (Prod.snd (Prod.snd (List.getD (List.take g R) g_4 r0)))) : Int) ≤ Prod.fst (Prod.snd (List.getD L (lastTo begP (ls L) (↑g_2 : Int) g_3) e0)) + (↑g_2 : Int) - List.getD (startsN R L) (lastTo begP (ls L) (↑g_2 : Int) g_3) (0 : Int) - Prod.fst (Prod.snd (List.getD (List.take g R) g_4 r0))) then true else List.getD (Prod.snd (Prod.snd (List.getD (List.take g R) g_4 r0))) (Int.toNat (Prod.fst (Prod.snd (List.getD L (lastTo begP (ls L) (↑g_2 : Int) g_3) e0)) + (↑g_2 : Int) - List.getD (startsN R L) (lastTo begP (ls L) (↑g_2 : Int) g_3) (0 : Int) - Prod.fst (Prod.snd (List.getD (List.take g R) g_4 r0)))) (0 : Int) != List.getD (playN (List.take g R) L) g_2 (0 : Int) else false) (false = true ∧ True) (fits IntKind.i64 ((↑g_4 : Int) + (1 : Int)) ∧ ∃ (g' : Nat), Nat.le g' (List.length (List.take g R)) ∧ List.length (List.take g R) - g' < List.length (List.take g R) - g_4 ∧ (↑g_4 : Int) + (1 : Int) = (↑g' : Int) ∧ (↑(List.length (List.take g R)) : Int) = (↑(List.length (List.take g R)) : Int) ∧ (↑g_2 : Int) = (↑g_2 : Int) ∧ (↑g_2 : Int) = (↑g_2 : Int) ∧ diffTo L g_2 = diffTo L g_2 ∧ lenN R L = lenN R L ∧ mostN L g_1 = mostN L g_1 ∧ lenN R L = lenN R L ∧ R = R ∧ L = L ∧ b = b ∧ Prod.fst (List.getD L (lastTo begP (ls L) (↑g_2 : Int) g_3) e0) = Prod.fst (List.getD L (lastTo begP (ls L) (↑g_2 : Int) g_3) e0) ∧ Prod.fst (Prod.snd (List.getD L (lastTo begP (ls L) (↑g_2 : Int) g_3) e0)) + (↑g_2 : Int) - List.getD (startsN R L) (lastTo begP (ls L) (↑g_2 : Int) g_3) (0 : Int) = Prod.fst (Prod.snd (List.getD L (lastTo begP (ls L) (↑g_2 : Int) g_3) e0)) + (↑g_2 : Int) - List.getD (startsN R L) (lastTo begP (ls L) (↑g_2 : Int) g_3) (0 : Int) ∧ (1 : Int) = (1 : Int) ∧ (1 : Int) = (1 : Int) ∧ playN (List.take g R) L = playN (List.take g R) L ∧ soundsN R L = soundsN R L ∧ confN R L = confN R L ∧ startsN R L = startsN R L ∧ List.take g R = List.take g R ∧ True)) (fits IntKind.i64 ((↑g_2 : Int) + (1 : Int)) ∧ ∃ (g' : Nat), Nat.le g' (Int.toNat (lenN R L)) ∧ Int.toNat (lenN R L) - g' < Int.toNat (lenN R L) - g_2 ∧ (↑g_2 : Int) + (1 : Int) = (↑g' : Int) ∧ diffTo L g_2 = diffTo L g' ∧ lenN R L = lenN R L ∧ mostN L g_1 = mostN L g_1 ∧ lenN R L = lenN R L ∧ R = R ∧ L = L ∧ b = b ∧ playN (List.take g R) L = playN (List.take g R) L ∧ soundsN R L = soundsN R L ∧ confN R L = confN R L ∧ startsN R L = startsN R L ∧ List.take g R = List.take g R ∧ True)))))) (splitB (decide (mostN L g_1 < diffTo L g_2)) (false = true ∧ True) (splitB (decide ((1 : Int) < (↑(List.length L) : Int))) (fits IntKind.i64 b ∧ fits IntKind.i64 ((↑(List.length L) : Int) - (1 : Int)) ∧ (↑(List.length L) : Int) - (1 : Int) ≠ (0 : Int) ∧ fits IntKind.i64 (Int.tmod b ((↑(List.length L) : Int) - (1 : Int)) + (↑(List.length L) : Int)) ∧ fits IntKind.i64 (Int.tmod b ((↑(List.length L) : Int) - (1 : Int)) + (↑(List.length L) : Int) - (1 : Int)) ∧ fits IntKind.i64 ((↑(List.length L) : Int) - (1 : Int)) ∧ (↑(List.length L) : Int) - (1 : Int) ≠ (0 : Int) ∧ fits IntKind.i64 ((1 : Int) + Int.tmod (Int.tmod b ((↑(List.length L) : Int) - (1 : Int)) + (↑(List.length L) : Int) - (1 : Int)) ((↑(List.length L) : Int) - (1 : Int))) ∧ List.length R ≤ (1000000 : Nat) ∧ (∀ (r : Rl), r ∈ R → List.length (Prod.snd (Prod.snd r)) ≤ (1000000 : Nat)) ∧ List.length L ≤ (1000000 : Nat) ∧ fits IntKind.i64 b ∧ List.length R ≤ (1000000000 : Nat) ∧ (∀ (r : Rl), r ∈ R → List.length (Prod.snd (Prod.snd r)) ≤ (1000000 : Nat)) ∧ List.length L ≤ (1000000000 : Nat) ∧ splitB (chgE R L ((1 : Int) + Int.tmod (Int.tmod b ((↑(List.length L) : Int) - (1 : Int)) + (↑(List.length L) : Int) - (1 : Int)) ((↑(List.length L) : Int) - (1 : Int))) b (1 : Int) rollL == (0 : Int)) (List.length R ≤ (1000000 : Nat) ∧ (∀ (r : Rl), r ∈ R → List.length (Prod.snd (Prod.snd r)) ≤ (1000000 : Nat)) ∧ fits IntKind.i64 b ∧ fits IntKind.i64 (-b) ∧ List.length R ≤ (1000000000 : Nat) ∧ (∀ (r : Rl), r ∈ R → List.length (Prod.snd (Prod.snd r)) ≤ (1000000 : Nat)) ∧ List.length (chgL R L ((1 : Int) + Int.tmod (Int.tmod b ((↑(List.length L) : Int) - (1 : Int)) + (↑(List.length L) : Int) - (1 : Int)) ((↑(List.length L) : Int) - (1 : Int))) b (1 : Int) rollL) ≤ (1000000000 : Nat) ∧ splitB (bif chgE R (chgL R L ((1 : Int) + Int.tmod (Int.tmod b ((↑(List.length L) : Int) - (1 : Int)) + (↑(List.length L) : Int) - (1 : Int)) ((↑(List.length L) : Int) - (1 : Int))) b (1 : Int) rollL) ((1 : Int) + Int.tmod (Int.tmod b ((↑(List.length L) : Int) - (1 : Int)) + (↑(List.length L) : Int) - (1 : Int)) ((↑(List.length L) : Int) - (1 : Int))) (-b) (1 : Int) rollL != (0 : Int) then true else (↑(List.length (chgL R (chgL R L ((1 : Int) + Int.tmod (Int.tmod b ((↑(List.length L) : Int) - (1 : Int)) + (↑(List.length L) : Int) - (1 : Int)) ((↑(List.length L) : Int) - (1 : Int))) b (1 : Int) rollL) ((1 : Int) + Int.tmod (Int.tmod b ((↑(List.length L) : Int) - (1 : Int)) + (↑(List.length L) : Int) - (1 : Int)) ((↑(List.length L) : Int) - (1 : Int))) (-b) (1 : Int) rollL)) : Int) != (↑(List.length L) : Int)) (false = true ∧ True) ((∃ (g_3 : Nat), Nat.le g_3 (List.length (chgL R (chgL R L ((1 : Int) + Int.tmod (Int.tmod b ((↑(List.length L) : Int) - (1 : Int)) + (↑(List.length L) : Int) - (1 : Int)) ((↑(List.length L) : Int) - (1 : Int))) b (1 : Int) rollL) ((1 : Int) + Int.tmod (Int.tmod b ((↑(List.length L) : Int) - (1 : Int)) + (↑(List.length L) : Int) - (1 : Int)) ((↑(List.length L) : Int) - (1 : Int))) (-b) (1 : Int) rollL)) ∧ (0 : Int) = (↑g_3 : Int) ∧ (↑(List.length (chgL R (chgL R L ((1 : Int) + Int.tmod (Int.tmod b ((↑(List.length L) : Int) - (1 : Int)) + (↑(List.length L) : Int) - (1 : Int)) ((↑(List.length L) : Int) - (1 : Int))) b (1 : Int) rollL) ((1 : Int) + Int.tmod (Int.tmod b ((↑(List.length L) : Int) - (1 : Int)) + (↑(List.length L) : Int) - (1 : Int)) ((↑(List.length L) : Int) - (1 : Int))) (-b) (1 : Int) rollL)) : Int) = (↑(List.length (chgL R (chgL R L ((1 : Int) + Int.tmod (Int.tmod b ((↑(List.length L) : Int) - (1 : Int)) + (↑(List.length L) : Int) - (1 : Int)) ((↑(List.length L) : Int) - (1 : Int))) b (1 : Int) rollL) ((1 : Int) + Int.tmod (Int.tmod b ((↑(List.length L) : Int) - (1 : Int)) + (↑(List.length L) : Int) - (1 : Int)) ((↑(List.length L) : Int) - (1 : Int))) (-b) (1 : Int) rollL)) : Int) ∧ L = L ∧ chgL R (chgL R L ((1 : Int) + Int.tmod (Int.tmod b ((↑(List.length L) : Int) - (1 : Int)) + (↑(List.length L) : Int) - (1 : Int)) ((↑(List.length L) : Int) - (1 : Int))) b (1 : Int) rollL) ((1 : Int) + Int.tmod (Int.tmod b ((↑(List.length L) : Int) - (1 : Int)) + (↑(List.length L) : Int) - (1 : Int)) ((↑(List.length L) : Int) - (1 : Int))) (-b) (1 : Int) rollL = chgL R (chgL R L ((1 : Int) + Int.tmod (Int.tmod b ((↑(List.length L) : Int) - (1 : Int)) + (↑(List.length L) : Int) - (1 : Int)) ((↑(List.length L) : Int) - (1 : Int))) b (1 : Int) rollL) ((1 : Int) + Int.tmod (Int.tmod b ((↑(List.length L) : Int) - (1 : Int)) + (↑(List.length L) : Int) - (1 : Int)) ((↑(List.length L) : Int) - (1 : Int))) (-b) (1 : Int) rollL ∧ chgL R L ((1 : Int) + Int.tmod (Int.tmod b ((↑(List.length L) : Int) - (1 : Int)) + (↑(List.length L) : Int) - (1 : Int)) ((↑(List.length L) : Int) - (1 : Int))) b (1 : Int) rollL = chgL R L ((1 : Int) + Int.tmod (Int.tmod b ((↑(List.length L) : Int) - (1 : Int)) + (↑(List.length L) : Int) - (1 : Int)) ((↑(List.length L) : Int) - (1 : Int))) b (1 : Int) rollL ∧ playN (List.take g R) L = playN (List.take g R) L ∧ soundsN R L = soundsN R L ∧ confN R L = confN R L ∧ startsN R L = startsN R L ∧ List.take g R = List.take g R ∧ True) ∧ ∀ (g_3 : Nat), Nat.le g_3 (List.length (chgL R (chgL R L ((1 : Int) + Int.tmod (Int.tmod b ((↑(List.length L) : Int) - (1 : Int)) + (↑(List.length L) : Int) - (1 : Int)) ((↑(List.length L) : Int) - (1 : Int))) b (1 : Int) rollL) ((1 : Int) + Int.tmod (Int.tmod b ((↑(List.length L) : Int) - (1 : Int)) + (↑(List.length L) : Int) - (1 : Int)) ((↑(List.length L) : Int) - (1 : Int))) (-b) (1 : Int) rollL)) → splitB (decide ((↑g_3 : Int) < (↑(List.length (chgL R (chgL R L ((1 : Int) + Int.tmod (Int.tmod b ((↑(List.length L) : Int) - (1 : Int)) + (↑(List.length L) : Int) - (1 : Int)) ((↑(List.length L) : Int) - (1 : Int))) b (1 : Int) rollL) ((1 : Int) + Int.tmod (Int.tmod b ((↑(List.length L) : Int) - (1 : Int)) + (↑(List.length L) : Int) - (1 : Int)) ((↑(List.length L) : Int) - (1 : Int))) (-b) (1 : Int) rollL)) : Int))) (((0 : Int) ≤ (↑g_3 : Int) ∧ (↑g_3 : Int) < (↑(List.length (chgL R (chgL R L ((1 : Int) + Int.tmod (Int.tmod b ((↑(List.length L) : Int) - (1 : Int)) + (↑(List.length L) : Int) - (1 : Int)) ((↑(List.length L) : Int) - (1 : Int))) b (1 : Int) rollL) ((1 : Int) + Int.tmod (Int.tmod b ((↑(List.length L) : Int) - (1 : Int)) + (↑(List.length L) : Int) - (1 : Int)) ((↑(List.length L) : Int) - (1 : Int))) (-b) (1 : Int) rollL)) : Int)) ∧ g_3 < List.length (chgL R (chgL R L ((1 : Int) + Int.tmod (Int.tmod b ((↑(List.length L) : Int) - (1 : Int)) + (↑(List.length L) : Int) - (1 : Int)) ((↑(List.length L) : Int) - (1 : Int))) b (1 : Int) rollL) ((1 : Int) + Int.tmod (Int.tmod b ((↑(List.length L) : Int) - (1 : Int)) + (↑(List.length L) : Int) - (1 : Int)) ((↑(List.length L) : Int) - (1 : Int))) (-b) (1 : Int) rollL) ∧ ((0 : Int) ≤ (↑g_3 : Int) ∧ (↑g_3 : Int) < (↑(List.length L) : Int)) ∧ splitB (!eqT (Ty.pair Ty.str (Ty.pair (Ty.int IntKind.i64) (Ty.pair (Ty.int IntKind.i64) (Ty.pair (Ty.int IntKind.i64) (Ty.int IntKind.i64))))) (Prod.fst (List.getD (chgL R (chgL R L ((1 : Int) + Int.tmod (Int.tmod b ((↑(List.length L) : Int) - (1 : Int)) + (↑(List.length L) : Int) - (1 : Int)) ((↑(List.length L) : Int) - (1 : Int))) b (1 : Int) rollL) ((1 : Int) + Int.tmod (Int.tmod b ((↑(List.length L) : Int) - (1 : Int)) + (↑(List.length L) : Int) - (1 : Int)) ((↑(List.length L) : Int) - (1 : Int))) (-b) (1 : Int) rollL) g_3 e0), Prod.fst (Prod.snd (List.getD (chgL R (chgL R L ((1 : Int) + Int.tmod (Int.tmod b ((↑(List.length L) : Int) - (1 : Int)) + (↑(List.length L) : Int) - (1 : Int)) ((↑(List.length L) : Int) - (1 : Int))) b (1 : Int) rollL) ((1 : Int) + Int.tmod (Int.tmod b ((↑(List.length L) : Int) - (1 : Int)) + (↑(List.length L) : Int) - (1 : Int)) ((↑(List.length L) : Int) - (1 : Int))) (-b) (1 : Int) rollL) g_3 e0)), Prod.fst (Prod.snd (Prod.snd (List.getD (chgL R (chgL R L ((1 : Int) + Int.tmod (Int.tmod b ((↑(List.length L) : Int) - (1 : Int)) + (↑(List.length L) : Int) - (1 : Int)) ((↑(List.length L) : Int) - (1 : Int))) b (1 : Int) rollL) ((1 : Int) + Int.tmod (Int.tmod b ((↑(List.length L) : Int) - (1 : Int)) + (↑(List.length L) : Int) - (1 : Int)) ((↑(List.length L) : Int) - (1 : Int))) (-b) (1 : Int) rollL) g_3 e0))), Prod.fst (Prod.snd (Prod.snd (Prod.snd (List.getD (chgL R (chgL R L ((1 : Int) + Int.tmod (Int.tmod b ((↑(List.length L) : Int) - (1 : Int)) + (↑(List.length L) : Int) - (1 : Int)) ((↑(List.length L) : Int) - (1 : Int))) b (1 : Int) rollL) ((1 : Int) + Int.tmod (Int.tmod b ((↑(List.length L) : Int) - (1 : Int)) + (↑(List.length L) : Int) - (1 : Int)) ((↑(List.length L) : Int) - (1 : Int))) (-b) (1 : Int) rollL) g_3 e0)))), Prod.snd (Prod.snd (Prod.snd (Prod.snd (List.getD (chgL R (chgL R L ((1 : Int) + Int.tmod (Int.tmod b ((↑(List.length L) : Int) - (1 : Int)) + (↑(List.length L) : Int) - (1 : Int)) ((↑(List.length L) : Int) - (1 : Int))) b (1 : Int) rollL) ((1 : Int) + Int.tmod (Int.tmod b ((↑(List.length L) : Int) - (1 : Int)) + (↑(List.length L) : Int) - (1 : Int)) ((↑(List.length L) : Int) - (1 : Int))) (-b) (1 : Int) rollL) g_3 e0))))) (Prod.fst (List.getD L g_3 e0), Prod.fst (Prod.snd (List.getD L g_3 e0)), Prod.fst (Prod.snd (Prod.snd (List.getD L g_3 e0))), Prod.fst (Prod.snd (Prod.snd (Prod.snd (List.getD L g_3 e0)))), Prod.snd (Prod.snd (Prod.snd (Prod.snd (List.getD L g_3 e0)))))) (false = true ∧ True) (fits IntKind.i64 ((↑g_3 : Int) + (1 : Int)) ∧ ∃ (g' : Nat), Nat.le g' (List.length (chgL R (chgL R L ((1 : Int) + Int.tmod (Int.tmod b ((↑(List.length L) : Int) - (1 : Int)) + (↑(List.length L) : Int) - (1 : Int)) ((↑(List.length L) : Int) - (1 : Int))) b (1 : Int) rollL) ((1 : Int) + Int.tmod (Int.tmod b ((↑(List.length L) : Int) - (1 : Int)) + (↑(List.length L) : Int) - (1 : Int)) ((↑(List.length L) : Int) - (1 : Int))) (-b) (1 : Int) rollL)) ∧ List.length (chgL R (chgL R L ((1 : Int) + Int.tmod (Int.tmod b ((↑(List.length L) : Int) - (1 : Int)) + (↑(List.length L) : Int) - (1 : Int)) ((↑(List.length L) : Int) - (1 : Int))) b (1 : Int) rollL) ((1 : Int) + Int.tmod (Int.tmod b ((↑(List.length L) : Int) - (1 : Int)) + (↑(List.length L) : Int) - (1 : Int)) ((↑(List.length L) : Int) - (1 : Int))) (-b) (1 : Int) rollL) - g' < List.length (chgL R (chgL R L ((1 : Int) + Int.tmod (Int.tmod b ((↑(List.length L) : Int) - (1 : Int)) + (↑(List.length L) : Int) - (1 : Int)) ((↑(List.length L) : Int) - (1 : Int))) b (1 : Int) rollL) ((1 : Int) + Int.tmod (Int.tmod b ((↑(List.length L) : Int) - (1 : Int)) + (↑(List.length L) : Int) - (1 : Int)) ((↑(List.length L) : Int) - (1 : Int))) (-b) (1 : Int) rollL) - g_3 ∧ (↑g_3 : Int) + (1 : Int) = (↑g' : Int) ∧ (↑(List.length (chgL R (chgL R L ((1 : Int) + Int.tmod (Int.tmod b ((↑(List.length L) : Int) - (1 : Int)) + (↑(List.length L) : Int) - (1 : Int)) ((↑(List.length L) : Int) - (1 : Int))) b (1 : Int) rollL) ((1 : Int) + Int.tmod (Int.tmod b ((↑(List.length L) : Int) - (1 : Int)) + (↑(List.length L) : Int) - (1 : Int)) ((↑(List.length L) : Int) - (1 : Int))) (-b) (1 : Int) rollL)) : Int) = (↑(List.length (chgL R (chgL R L ((1 : Int) + Int.tmod (Int.tmod b ((↑(List.length L) : Int) - (1 : Int)) + (↑(List.length L) : Int) - (1 : Int)) ((↑(List.length L) : Int) - (1 : Int))) b (1 : Int) rollL) ((1 : Int) + Int.tmod (Int.tmod b ((↑(List.length L) : Int) - (1 : Int)) + (↑(List.length L) : Int) - (1 : Int)) ((↑(List.length L) : Int) - (1 : Int))) (-b) (1 : Int) rollL)) : Int) ∧ L = L ∧ chgL R (chgL R L ((1 : Int) + Int.tmod (Int.tmod b ((↑(List.length L) : Int) - (1 : Int)) + (↑(List.length L) : Int) - (1 : Int)) ((↑(List.length L) : Int) - (1 : Int))) b (1 : Int) rollL) ((1 : Int) + Int.tmod (Int.tmod b ((↑(List.length L) : Int) - (1 : Int)) + (↑(List.length L) : Int) - (1 : Int)) ((↑(List.length L) : Int) - (1 : Int))) (-b) (1 : Int) rollL = chgL R (chgL R L ((1 : Int) + Int.tmod (Int.tmod b ((↑(List.length L) : Int) - (1 : Int)) + (↑(List.length L) : Int) - (1 : Int)) ((↑(List.length L) : Int) - (1 : Int))) b (1 : Int) rollL) ((1 : Int) + Int.tmod (Int.tmod b ((↑(List.length L) : Int) - (1 : Int)) + (↑(List.length L) : Int) - (1 : Int)) ((↑(List.length L) : Int) - (1 : Int))) (-b) (1 : Int) rollL ∧ chgL R L ((1 : Int) + Int.tmod (Int.tmod b ((↑(List.length L) : Int) - (1 : Int)) + (↑(List.length L) : Int) - (1 : Int)) ((↑(List.length L) : Int) - (1 : Int))) b (1 : Int) rollL = chgL R L ((1 : Int) + Int.tmod (Int.tmod b ((↑(List.length L) : Int) - (1 : Int)) + (↑(List.length L) : Int) - (1 : Int)) ((↑(List.length L) : Int) - (1 : Int))) b (1 : Int) rollL ∧ playN (List.take g R) L = playN (List.take g R) L ∧ soundsN R L = soundsN R L ∧ confN R L = confN R L ∧ startsN R L = startsN R L ∧ List.take g R = List.take g R ∧ True)) (true = true ∧ True))) (true = true ∧ True)) (true = true ∧ True)))))))) := by
  kernel_rfl
end Go.Sx

/- Plain laws of lists of edits: where picture and sound part; a list rolled there and back. -/
namespace Go.Sx
open U

theorem ListOk.sndOk {R : List Rl} {L : List Ed} (h : ListOk R L) : SndOk L := sndOk_of h.rs (by have := h.len; omega) h.ed h.ord

theorem seen_of {R : List Rl} {L : List Ed} (h : ListOk R L) {t : Int} (h0 : 0 ≤ t) (ht : t < lenL L) : seenN L t < L.length ∧ begN L (seenN L t) ≤ t ∧ t < begN L (seenN L t + 1) := by
  obtain ⟨k, h1, h2, h3, h4⟩ := seen_at h h0 ht
  rw [ls_len] at h2
  have : seenN L t = k := h2
  rw [this]
  exact ⟨h1, h3, h4⟩

theorem hear_of {L : List Ed} (h : SndOk L) (hn : 0 < L.length) {t : Int} (h0 : 0 ≤ t) : hearN L t < L.length ∧ sN L (hearN L t) ≤ t ∧ ∀ j, hearN L t < j → j < L.length → t < sN L j := by
  have hl : hearN L t < L.length := lastTo_lt sndN (ls L) t L.length hn
  have hle : sndN ((ls L).getD (hearN L t) pl0) ≤ t := lastTo_le (by rw [sndN_ls hn, h.first hn]; exact h0) _
  rw [sndN_ls hl] at hle
  refine ⟨hl, hle, fun j hj hjl => ?_⟩
  have := lastTo_gt sndN (ls L) t L.length j hj hjl
  rwa [sndN_ls hjl] at this

def cnt (p : Nat → Bool) : Nat → Int
  | 0 => 0
  | t + 1 => cnt p t + (if p t = true then 1 else 0)
theorem cnt_le {p q : Nat → Bool} : ∀ {n : Nat}, (∀ t, t < n → p t = true → q t = true) → cnt p n ≤ cnt q n
  | 0, _ => Int.le_refl _
  | n + 1, h => by
    have ih := cnt_le (n := n) fun t ht => h t (by omega)
    simp only [cnt]
    by_cases hp : p n = true
    · rw [if_pos hp, if_pos (h n (by omega) hp)]; omega
    · rw [if_neg hp]; split <;> omega
theorem cnt_or (p q : Nat → Bool) : ∀ n, cnt (fun t => p t || q t) n ≤ cnt p n + cnt q n
  | 0 => by simp [cnt]
  | n + 1 => by
    have ih := cnt_or p q n
    simp only [cnt]
    by_cases hp : p n = true <;> by_cases hq : q n = true <;> simp [hp, hq] <;> omega
theorem cnt_in (a b : Int) : ∀ n : Nat, cnt (fun t => decide (a ≤ (t : Int) ∧ (t : Int) < b)) n ≤ max 0 (min (n : Int) b - a)
  | 0 => by simp only [cnt]; omega
  | n + 1 => by
    have ih := cnt_in a b n
    simp only [cnt, decide_eq_true_eq]
    split <;> omega

/-- A frame between a cut of the picture and that of its sound. -/
def tween (L : List Ed) (i t : Nat) : Bool := decide (min (begN L i) (sN L i) ≤ (t : Int) ∧ (t : Int) < max (begN L i) (sN L i))
def tweens (L : List Ed) : Nat → Nat → Bool
  | 0, _ => false
  | m + 1, t => tweens L m t || tween L m t
theorem tweens_of {L : List Ed} {t i : Nat} (hi : tween L i t = true) : ∀ {m : Nat}, i < m → tweens L m t = true
  | 0, h => by omega
  | m + 1, h => by
    simp only [tweens, Bool.or_eq_true]
    by_cases e : i = m
    · subst e; exact .inr hi
    · exact .inl (tweens_of hi (by omega))
theorem tweens_le (L : List Ed) (n : Nat) : ∀ m, cnt (tweens L m) n ≤ mostN L m
  | 0 => by
    have : ∀ n, cnt (fun _ => false) n = 0 := by
      intro n
      induction n with
      | zero => rfl
      | succ n ih => simp only [cnt, ih]; rfl
    show cnt (fun _ => false) n ≤ 0
    rw [this]; exact Int.le_refl _
  | m + 1 => by
    have h1 := cnt_or (tweens L m) (tween L m) n
    have h2 := tweens_le L n m
    have h3 := cnt_in (min (begN L m) (sN L m)) (max (begN L m) (sN L m)) n
    have h4 : cnt (tweens L (m + 1)) n = cnt (fun t => tweens L m t || tween L m t) n := rfl
    have h5 : cnt (tween L m) n ≤ max 0 (min (n : Int) (max (begN L m) (sN L m)) - min (begN L m) (sN L m)) := h3
    have h6 : sN L m = begN L m + (L.getD m e0).2.2.2.2 := rfl
    simp only [mostN]
    omega

theorem diff_cnt (L : List Ed) : ∀ n, diffTo L n = cnt (fun t => decide (seenN L (t : Int) ≠ hearN L (t : Int))) n
  | 0 => rfl
  | n + 1 => by
    simp only [diffTo, cnt, diff_cnt L n, decide_eq_true_eq]
    by_cases h : seenN L (n : Int) = hearN L (n : Int)
    · rw [if_pos h, if_neg (by simpa using h)]; omega
    · rw [if_neg h, if_pos h]

theorem diff_le {R : List Rl} {L : List Ed} (h : ListOk R L) {n : Nat} (hn : (n : Int) ≤ lenL L) : diffTo L n ≤ mostN L L.length := by
  rw [diff_cnt]
  refine Int.le_trans (cnt_le fun t ht hd => ?_) (tweens_le L n L.length)
  have hd := of_decide_eq_true hd
  obtain ⟨a1, a2, a3⟩ := seen_of h (t := (t : Int)) (by omega) (by omega)
  obtain ⟨b1, b2, b3⟩ := hear_of h.sndOk (by omega) (t := (t : Int)) (by omega)
  by_cases hlt : hearN L (t : Int) < seenN L (t : Int)
  · refine tweens_of (i := seenN L (t : Int)) ?_ a1
    have := b3 _ hlt a1
    unfold tween
    rw [decide_eq_true_eq]
    omega
  · refine tweens_of (i := hearN L (t : Int)) ?_ b1
    have := begN_mono h.eds (show seenN L (t : Int) + 1 ≤ hearN L (t : Int) by omega) (by omega)
    unfold tween
    rw [decide_eq_true_eq]
    omega

/-- A frame outside of fades. -/
theorem plain_takes {R : List Rl} {L : List Ed} (h : ListOk R L) {t : Int} (h0 : 0 ≤ t) (ht : t < lenL L) {k : Nat} (hk : seenN L t = k) (hf : ¬ t < begN L k + (L.getD k e0).2.2.2.1) :
    takesN (ls L) t = [((L.getD k e0).1, (L.getD k e0).2.1 + t - begN L k, 1, 1)] := by
  obtain ⟨k', h1, h2, h3, h4⟩ := seen_at h h0 ht
  have hk' : k' = k := by rw [← hk, ← h2, ls_len]; rfl
  subst hk'
  unfold takesN
  rw [h2, ls_get L h1]
  unfold takesE
  dsimp only
  rw [if_pos (by omega)]
  congr 3
  omega

theorem plain_sound {R : List Rl} {L : List Ed} (h : ListOk R L) {t : Int} (h0 : 0 ≤ t) (ht : t < lenL L) {k : Nat} (hk : hearN L t = k) :
    soundN (ls L) t = ((L.getD k e0).1, (L.getD k e0).2.1 + t - begN L k, 1, 1) := by
  obtain ⟨k', h1, _⟩ := seen_at h h0 ht
  obtain ⟨b1, _⟩ := hear_of h.sndOk (by omega) h0
  rw [hk] at b1
  unfold soundN
  have : lastTo sndN (ls L) t (ls L).length = k := by rw [ls_len]; exact hk
  rw [this, ls_get L b1]

theorem mix_one {R : List Rl} (hr : chkRs R = 0) {x : Tk} (h : TkOk R x) (h1 : x.2.2 = (1, 1)) : mixN (mapR R R.length) [x] = (rlOf R x.1).2.2.getD (x.2.1 - (rlOf R x.1).2.1).toNat 0 := by
  have hc := (take_check hr h).2
  unfold mixN
  have : mixTo (mapR R R.length) [x] [x].length = ((rlOf R x.1).2.2.getD (x.2.1 - (rlOf R x.1).2.1).toNat 0, 1) := by
    show mixTo (mapR R R.length) [x] 1 = _
    rw [mixTo_succ (rs_nodup hr)]
    have e : List.getD [x] 0 tk0 = x := rfl
    rw [e, h1]
    simp [mixTo]
  rw [this]
  dsimp only
  omega

/-- The one reel with a name. -/
theorem reel_eq {R : List Rl} (hd : NoDup R) {j : Nat} (hj : j < R.length) : rlOf R (R.getD j r0).1 = R.getD j r0 := by
  have h1 := idxN_at (nm := (R.getD j r0).1) (R := R) (d := r0) hj rfl
  have h2 : idxN (R.getD j r0).1 R = j := by
    apply Classical.byContradiction
    intro hc
    have := idxN_name (R := R) (nm := (R.getD j r0).1) (by omega)
    exact hd _ j (by omega) hj this
  unfold rlOf
  rw [h2]

theorem ext_getD {α : Type} {a b : List α} (d : α) (h : a.length = b.length) (h2 : ∀ i, i < a.length → a.getD i d = b.getD i d) : a = b := by
  apply List.ext_getElem h
  intro i h3 h4
  have := h2 i h3
  rwa [getD_of h3, getD_of h4] at this

theorem rollL_get {L : List Ed} {k : Nat} (b : Int) (h1 : 1 ≤ k) (h2 : k < L.length) (i : Nat) : (rollL L k b).getD i e0 =
    if k = i then ((L.getD k e0).1, (L.getD k e0).2.1 + b, (L.getD k e0).2.2.1, (L.getD k e0).2.2.2.1, (L.getD k e0).2.2.2.2)
    else if k - 1 = i then ((L.getD (k - 1) e0).1, (L.getD (k - 1) e0).2.1, (L.getD (k - 1) e0).2.2.1 + b, (L.getD (k - 1) e0).2.2.2.1, (L.getD (k - 1) e0).2.2.2.2) else L.getD i e0 := by
  unfold rollL
  rw [frontL_get _ _ _ _ (by rw [trimL_len]; exact h2), trimL_get _ _ _ _ (by omega), trimL_get _ _ _ _ (by omega)]
  by_cases e : k = i
  · rw [if_pos e, if_pos e, if_neg (by omega)]
  · rw [if_neg e, if_neg e]

theorem roll_back {L : List Ed} {k : Nat} (b : Int) (h1 : 1 ≤ k) (h2 : k < L.length) : rollL (rollL L k b) k (-b) = L := by
  refine ext_getD e0 (by rw [rollL_len, rollL_len]) fun i hi => ?_
  rw [rollL_get _ h1 (by rw [rollL_len]; exact h2), rollL_get _ h1 h2, rollL_get _ h1 h2, rollL_get _ h1 h2]
  rw [if_pos rfl, if_neg (show ¬ k = k - 1 by omega), if_pos rfl]
  by_cases e : k = i
  · subst e
    rw [if_pos rfl]
    dsimp only
    rw [Int.add_neg_cancel_right]
  · rw [if_neg e]
    by_cases e2 : k - 1 = i
    · subst e2
      rw [if_pos rfl]
      dsimp only
      rw [Int.add_neg_cancel_right]
    · rw [if_neg e2, if_neg e, if_neg e2]

theorem chg_zero {R : List Rl} {L : List Ed} {i b least : Int} {g : List Ed → Nat → Int → List Ed} (h : chgE R L i b least g = 0) : chkCh R L i b least = 0 ∧ chkEds R (g L i.toNat b) = 0 ∧ chgL R L i b least g = g L i.toNat b := by
  have h0 := h
  unfold chgE at h
  split at h
  · rename_i h1; exact absurd h h1
  · rename_i h1
    exact ⟨by simpa using h1, h, by unfold chgL; rw [if_pos h0]⟩
theorem chkCh_mk {R : List Rl} {L : List Ed} {i b least : Int} (h : chkEds R L = 0) (hi : 0 ≤ i ∧ least ≤ i ∧ i < L.length) (hb : -10000000 ≤ b ∧ b ≤ 10000000) : chkCh R L i b least = 0 := by
  unfold chkCh
  rw [if_neg (by simpa using h), decide_eq_false (by omega), decide_eq_false (by omega), within_zero.2 hb]
  rfl
theorem roll_again {R : List Rl} {L : List Ed} {i b : Int} (h : chgE R L i b 1 rollL = 0) : chgE R (rollL L i.toNat b) i (-b) 1 rollL = 0 ∧ chgL R (rollL L i.toNat b) i (-b) 1 rollL = L := by
  obtain ⟨h1, h2, _⟩ := chg_zero h
  obtain ⟨k1, k2, k3⟩ := chkCh_zero (by decide) h1
  have hb := roll_back (L := L) b (show 1 ≤ i.toNat by omega) (by omega)
  have hc : chkCh R (rollL L i.toNat b) i (-b) 1 = 0 := chkCh_mk h2 (by rw [rollL_len]; omega) (by omega)
  have he : chgE R (rollL L i.toNat b) i (-b) 1 rollL = 0 := by
    unfold chgE
    rw [if_neg (by simpa using hc), hb]
    exact chkEds_zero.2 k1
  exact ⟨he, by rw [(chg_zero he).2.2, hb]⟩
theorem diff_bd (L : List Ed) : ∀ n : Nat, 0 ≤ diffTo L n ∧ diffTo L n ≤ n
  | 0 => by simp [diffTo]
  | n + 1 => by
    have := diff_bd L n
    simp only [diffTo]
    split <;> omega
theorem most_bd {L : List Ed} (hs : ∀ i, i < L.length → -100 ≤ (L.getD i e0).2.2.2.2 ∧ (L.getD i e0).2.2.2.2 ≤ 100) : ∀ n : Nat, n ≤ L.length → 0 ≤ mostN L n ∧ mostN L n ≤ 100 * n
  | 0, _ => by simp [mostN]
  | n + 1, h => by
    have h1 := most_bd hs n (by omega)
    have h2 := hs n (by omega)
    simp only [mostN]
    omega
end Go.Sx

/- Contracts. -/
namespace Go.Sx
open U
theorem fn36 (R : List Rl) (hl : R.length ≤ 1000000) (hR : ∀ r ∈ R, r.2.2.length ≤ 1000000) : Fn P1 gl1 36 [.one (.sl rlT R)] (.val (.one (.sl rlT R))) false := by
  refine fn_of false [] [] h36 0 Proofs.Tryd.f36 trivial trivial (by kernel_rfl) rfl (by kernel_rfl) rfl rfl rfl ?_
  rw [vc36]
  try simp only [splitB_iff, -eq_self]
  refine ⟨⟨0, Nat.zero_le _, by trivial, by trivial, by trivial, by simp⟩, fun g hg => ⟨fun hlt => ?_, fun hge => ?_⟩⟩
  · have hlt' : g < R.length := by simpa using hlt
    have hx := hR _ (getD_mem (d := r0) hlt')
    refine ⟨by omega, by simp only [room]; omega, by simp only [room, List.length_take]; omega, by simp only [fits]; omega, g + 1, hlt', by omega, by simp, by trivial, by trivial, ?_, trivial⟩
    rw [List.take_succ_eq_append_getElem hlt', getD_of hlt']
  · have hge' : ¬ g < R.length := by simpa using hge
    exact ⟨List.take_of_length_le (by omega), trivial⟩
theorem so36_ : SpecOk P1 gl1 36 sp36 := by
  intro vs ps r h hp
  simp only [sp36] at h
  split at h
  · cases h; exact fn36 _ (hp _ (.head _)) (hp _ (.tail _ (.head _)))
  · cases h
theorem so36 : Sp1 36 sp36 := ⟨so36_, Proofs.Tryd.f36, _, by kernel_rfl, rfl, by kernel_rfl⟩

theorem fn38 (L : List Ed) (hl : L.length ≤ 1000000) : Fn P1 gl1 38 [.one (.sl edT L)] (.val (.one (.sl edT L))) false := by
  refine fn_of false [] [] h38 0 Proofs.Tryd.f38 trivial trivial (by kernel_rfl) rfl (by kernel_rfl) rfl rfl rfl ?_
  rw [vc38]
  try simp only [splitB_iff, -eq_self]
  refine ⟨⟨0, Nat.zero_le _, by trivial, by trivial, by trivial, by simp⟩, fun g hg => ⟨fun hlt => ?_, fun hge => ?_⟩⟩
  · have hlt' : g < L.length := by simpa using hlt
    refine ⟨by omega, by simp only [room, List.length_take]; omega, by simp only [fits]; omega, g + 1, hlt', by omega, by simp, by trivial, by trivial, ?_, trivial⟩
    rw [List.take_succ_eq_append_getElem hlt', getD_of hlt']
  · have hge' : ¬ g < L.length := by simpa using hge
    exact ⟨List.take_of_length_le (by omega), trivial⟩
theorem so38_ : SpecOk P1 gl1 38 sp38 := by
  intro vs ps r h hp
  simp only [sp38] at h
  split at h
  · cases h; exact fn38 _ (hp _ (.head _))
  · cases h
theorem so38 : Sp1 38 sp38 := ⟨so38_, Proofs.Tryd.f38, _, by kernel_rfl, rfl, by kernel_rfl⟩

theorem fn6 (R : List Rl) (L : List Ed) (b : Int) (hl : R.length ≤ 9223372036854775807) (hL : L.length ≤ 9223372036854775807) (hF : ∀ x ∈ L, fits .i64 x.2.2.1) (hb : -128 ≤ b ∧ b ≤ 127) : Fn P1 gl1 6 [.one (.sl rlT R), .one (.sl edT L), .one (.int .i8 b)] (.val (bV true)) true := by
  refine Fn.flat ?_ rfl
  refine fn_of true [(24, sp24), (25, sp25), (37, sp37), (20, sp20), (36, sp36), (38, sp38), (21, sp21), (23, sp23), (28, sp28), (39, sp39), (40, sp40), (33, sp33), (41, sp41)] [] h6 0 Proofs.Tryd.f6 ⟨so24, so25, so37, so20, so36, so38, so21, so23, so28, so39, so40, so33, so41, trivial⟩ trivial (by kernel_rfl) rfl (by kernel_rfl) rfl rfl rfl ?_
  rw [vc6]
  try simp only [splitB_iff, -eq_self]
  simp only [eq_self, true_and, and_true, and_self]
  have hsh : (!shortB R L) = false → (R.length ≤ 9 ∧ ∀ r ∈ R, r.2.2.length ≤ 257 ∧ r.1.length ≤ 40) ∧ L.length ≤ 17 := fun h => by
    simp only [Bool.not_eq_false', shortB, shortE, shortR, Bool.and_eq_true, Bool.or_eq_true, List.all_eq_true, decide_eq_true_eq] at h
    obtain ⟨h1, h2, h3, h4⟩ := h
    exact ⟨⟨by omega, fun r hr => by have := h1 r hr; omega⟩, by omega⟩
  refine ⟨hl, hL, fun h => by have := hsh h; omega, fun h r hr => by have := (hsh h).1.2 r hr; omega, fun h => by have := hsh h; omega, fun _ => hF, fun _ => trivial, fun h => ?_⟩
  simp only [bcond_l, Bool.or_eq_false_iff, decide_eq_false_iff_not, bne_eq_false_iff_eq] at h
  obtain ⟨⟨h1, h2⟩, h3⟩ := h
  obtain ⟨⟨hR9, hRx⟩, _⟩ := hsh h1
  have hk := chkEds_zero.1 h2
  have hL6 : L.length ≤ 6 := by omega
  have hn0 := lenL_nn hk
  have hnb := hk.big
  have eS : startsN R L = (ls L).map fun x => x.2 := by unfold startsN; rw [if_pos h2]
  have eC : confN R L = (List.range (lenL L).toNat).map (fun t : Nat => takesN (ls L) t) := by unfold confN; rw [if_pos h2]
  have eH : soundsN R L = (List.range (lenL L).toNat).map (fun t : Nat => soundN (ls L) t) := by unfold soundsN; rw [if_pos h2]
  have eP : playN R L = (List.range (lenL L).toNat).map (fun t : Nat => mixN (mapR R R.length) (takesN (ls L) t)) := by unfold playN; rw [if_pos h2]
  have eN : lenN R L = lenL L := by unfold lenN; rw [if_pos h2]
  have lS : (startsN R L).length = L.length := by rw [eS, List.length_map, ls_len]
  have lC : (confN R L).length = (lenL L).toNat := by rw [eC]; simp
  have lH : (soundsN R L).length = (lenL L).toNat := by rw [eH]; simp
  have lP : (playN R L).length = (lenL L).toNat := by rw [eP]; simp
  have gS : ∀ g, g < L.length → (startsN R L).getD g 0 = begN L g := fun g hg => by
    have : (startsN R L).getD g 0 = ((ls L).getD g pl0).2 := by
      rw [eS, List.getD_eq_getElem?_getD, List.getElem?_map, List.getD_eq_getElem?_getD, List.getElem?_eq_getElem (by rw [ls_len]; exact hg)]; rfl
    rw [this, ls_get L hg]
  have gM : ∀ {α : Type} (f : Nat → α) (d : α) (t n : Nat), t < n → ((List.range n).map f).getD t d = f t := fun f d t n ht => by
    rw [List.getD_eq_getElem?_getD, List.getElem?_map, List.getElem?_range ht]; rfl
  rw [eN]
  simp only [lS, lC, lH]
  have hro : ∀ g, g < R.length → ReelOk (R.getD g r0).1 (R.getD g r0).2.1 (R.getD g r0).2.2 := fun g hg => (rs_at hk.rs).2 _ (getD_mem hg)
  refine ⟨by omega, fun r hr => by have := hRx r hr; omega, ⟨0, Nat.zero_le _, by trivial, by simp⟩, fun g hg => ⟨fun hlt => ?_, fun hge => ?_⟩⟩
  · have hlt' : g < R.length := by simpa using hlt
    have hr := hro g hlt'
    have hs := read_allN hr
    have hx := hRx _ (getD_mem (d := r0) hlt')
    simp only [hs, checkReel_zero.2 hr]
    refine ⟨by omega, hr, ⟨by rw [stream_length]; omega, stream_byte⟩, fun _ => by omega, fun _ => by omega, fun h => by simp at h, fun _ => ⟨by simp only [room, List.length_take]; omega, by simp only [fits]; omega, g + 1, hlt', by omega, by simp, ?_⟩⟩
    rw [List.take_succ_eq_append_getElem hlt', getD_of hlt']
  · have hge' : ¬ g < R.length := by simpa using hge
    rw [List.take_of_length_le (by omega)]
    simp only [lP, h2]
    refine ⟨by omega, fun r hr => by have := hRx r hr; omega, by omega, by omega, fun r hr => by have := hRx r hr; omega, by omega, by omega, fun r hr => by have := hRx r hr; omega, by omega, by omega, fun r hr => by have := hRx r hr; omega, by omega, by omega, fun r hr => by have := hRx r hr; omega, by omega, by omega, fun r hr => by have := hRx r hr; omega, by omega, by omega, by omega, fun r hr => by have := hRx r hr; omega, by omega, ?_⟩
    have hsd : ∀ i, i < L.length → -100 ≤ (L.getD i e0).2.2.2.2 ∧ (L.getD i e0).2.2.2.2 ≤ 100 := fun i hi => (chkEd_ok (hk.ed i hi)).snd
    refine ⟨fun h => ?_, fun _ => ?_⟩
    · exfalso
      simp only [bcond_l, Bool.or_eq_true, bne_iff_ne, ne_eq, decide_eq_true_eq, not_true_eq_false, false_or] at h
      omega
    refine ⟨⟨0, Nat.zero_le _, rfl, rfl⟩, fun m hm => ⟨fun hlt => ?_, fun hge => ?_⟩⟩
    · have hlt' : m < L.length := by simpa using hlt
      have h4 := hsd m hlt'
      have h5 := most_bd hsd m (by omega)
      exact ⟨by omega, by simp only [fits]; omega, by simp only [fits]; omega, by simp only [fits]; omega, m + 1, hlt', by omega, by simp, rfl⟩
    · have hml : m = L.length := by have : ¬ m < L.length := by simpa using hge
                                    have : m ≤ L.length := hm
                                    omega
      subst hml
      refine ⟨⟨0, Nat.zero_le _, rfl, rfl⟩, fun t ht => ⟨fun htl => ?_, fun htg => ?_⟩⟩
      · have htl' : (t : Int) < lenL L := of_decide_eq_true htl
        have hdb := diff_bd L t
        refine ⟨⟨0, Nat.zero_le _, rfl, rfl, rfl⟩, fun i hi => ⟨fun hil => ?_, fun hig => ?_⟩⟩
        · have hil' : i < L.length := by simpa using hil
          have eb : begP ((ls L).getD i pl0) = begN L i := by rw [ls_get L hil']; rfl
          have es : sndN ((ls L).getD i pl0) = begN L i + (L.getD i e0).2.2.2.2 := sndN_ls hil'
          have h4 := hsd i hil'
          have h5 := begN_bd hk.eds i (by omega)
          rw [gS i hil']
          have lb : lastTo begP (ls L) t (i + 1) = if begN L i ≤ t then i else lastTo begP (ls L) t i := by simp only [lastTo, eb]
          have lh : lastTo sndN (ls L) t (i + 1) = if begN L i + (L.getD i e0).2.2.2.2 ≤ t then i else lastTo sndN (ls L) t i := by simp only [lastTo, es]
          refine ⟨by omega, hil', fun h6 => ⟨by omega, by simp only [fits]; omega, fun h7 => ⟨by simp only [fits]; omega, i + 1, hil', by omega, by simp, ?_, ?_⟩, fun h7 => ⟨by simp only [fits]; omega, i + 1, hil', by omega, by simp, ?_, ?_⟩⟩, fun h6 => ⟨by omega, by simp only [fits]; omega, fun h7 => ⟨by simp only [fits]; omega, i + 1, hil', by omega, by simp, ?_, ?_⟩, fun h7 => ⟨by simp only [fits]; omega, i + 1, hil', by omega, by simp, ?_, ?_⟩⟩⟩
          · rw [lb, if_pos (of_decide_eq_true h6)]
          · rw [lh, if_pos (of_decide_eq_true h7)]
          · rw [lb, if_pos (of_decide_eq_true h6)]
          · rw [lh, if_neg (of_decide_eq_false h7)]
          · rw [lb, if_neg (of_decide_eq_false h6)]
          · rw [lh, if_pos (of_decide_eq_true h7)]
          · rw [lb, if_neg (of_decide_eq_false h6)]
          · rw [lh, if_neg (of_decide_eq_false h7)]
        · have hil' : i = L.length := by have : ¬ i < L.length := by simpa using hig
                                         have : i ≤ L.length := hi
                                         omega
          subst hil'
          have hs1 : lastTo begP (ls L) (t : Int) L.length = seenN L (t : Int) := rfl
          have hs2 : lastTo sndN (ls L) (t : Int) L.length = hearN L (t : Int) := rfl
          rw [hs1, hs2]
          refine ⟨fun h4 => ⟨by simp only [fits]; omega, by simp only [fits]; omega, t + 1, by show t + 1 ≤ _; omega, by omega, by simp, ?_⟩, fun h4 => ?_⟩
          · have h4' : seenN L (t : Int) ≠ hearN L (t : Int) := by
              have : ¬ ((seenN L (t : Int) : Int) = (hearN L (t : Int) : Int)) := by simpa using h4
              omega
            simp only [diffTo]; rw [if_neg h4']
          · have h4' : seenN L (t : Int) = hearN L (t : Int) := by
              have : (seenN L (t : Int) : Int) = (hearN L (t : Int) : Int) := by simpa using h4
              omega
            have hd1 : diffTo L t = diffTo L (t + 1) := by simp only [diffTo]; rw [if_pos h4']
            obtain ⟨k1, k2, k3⟩ := seen_of hk (t := (t : Int)) (by omega) htl'
            have hkk : seenN L (t : Int) = seenN L (t : Int) := rfl
            generalize hk0 : seenN L (t : Int) = k at *
            have hE := chkEd_ok (hk.ed k k1)
            have hE1 := hE.fade
            have hE2 := hk.eds.2 _ (getD_mem (d := e0) k1)
            have hE3 := begN_bd hk.eds k (by omega)
            have e2 : begN L (k + 1) = begN L k + ((L.getD k e0).2.2.1 - (L.getD k e0).2.1) := rfl
            rw [gS k k1]
            refine ⟨by omega, k1, by omega, by simp only [fits]; omega, fun h5 => ⟨by simp only [fits]; omega, t + 1, by show t + 1 ≤ _; omega, by omega, by simp, hd1⟩, fun h5 => ?_⟩
            have h5' : ¬ (t : Int) < begN L k + (L.getD k e0).2.2.2.1 := of_decide_eq_false h5
            have hT := plain_takes hk (show (0 : Int) ≤ (t : Int) by omega) htl' hk0 h5'
            have hSn := plain_sound hk (show (0 : Int) ≤ (t : Int) by omega) htl' h4'.symm
            have hTk := (takes_ok hk (show (0 : Int) ≤ (t : Int) by omega) htl').2
            have cC : (confN R L).getD t [] = [((L.getD k e0).1, (L.getD k e0).2.1 + (t : Int) - begN L k, 1, 1)] := by rw [eC, gM _ _ _ _ (by omega), hT]
            have cH : (soundsN R L).getD t tk0 = ((L.getD k e0).1, (L.getD k e0).2.1 + (t : Int) - begN L k, 1, 1) := by rw [eH, gM _ _ _ _ (by omega), hSn]
            have hx := hTk _ (by rw [hT]; exact List.mem_singleton.2 rfl)
            have cP : (playN R L).getD t 0 = (rlOf R (L.getD k e0).1).2.2.getD ((L.getD k e0).2.1 + (t : Int) - begN L k - (rlOf R (L.getD k e0).1).2.1).toNat 0 := by rw [eP, gM _ _ _ _ (by omega), hT, mix_one hk.rs hx rfl]
            rw [cC, cH, cP]
            have eX : ∀ x : Tk, eqT (.pair .str (.pair (.int .i64) (.pair (.int .i64) (.int .i64)))) x x = true := fun x => (eqT_key rfl _ _).2 rfl
            simp only [List.length_singleton, List.getD_cons_zero]
            have x1 := hx.lo
            have x2 := hx.hi
            have xr := reel_bd hk.rs (L.getD k e0).1
            dsimp only at x1 x2
            refine ⟨by omega, by omega, by simp only [fits]; omega, by omega, k1, by simp only [fits]; omega, by omega, by omega, fun _ => by omega, fun _ => by omega, fun _ => by omega, fun _ => by omega, fun _ => by omega, fun h6 => ?_, fun _ => ⟨⟨0, Nat.zero_le _, rfl⟩, fun j hj => ⟨fun hjl => ?_, fun hjg => ?_⟩⟩⟩
            · exfalso
              rw [eX] at h6
              simp at h6
            · have hj' : j < R.length := by simpa using hjl
              have hr := hro j hj'
              have r1 := hr.start
              have r2 := hr.len
              have r3 := hr.fin
              simp only [bcond_l, bcond_r, Bool.or_eq_false_iff, Bool.and_eq_false_iff, Bool.and_eq_true, Bool.or_eq_true, decide_eq_true_eq, decide_eq_false_iff_not, beq_iff_eq, bne_iff_ne]
              refine ⟨by omega, hj', fun _ => by simp only [fits]; omega, fun _ => by simp only [fits]; omega, fun _ => by omega, fun _ => by omega, fun _ => by omega, fun h6 => ?_, fun _ => ⟨by simp only [fits]; omega, j + 1, hj', by omega, by omega⟩⟩
              exfalso
              have hre := reel_eq (rs_nodup hk.rs) hj'
              rw [h6.1] at hre
              rw [hre] at h6 x1 x2
              unfold endR at x2
              have h7 := h6.2
              omega
            · exact ⟨by simp only [fits]; omega, t + 1, by show t + 1 ≤ _; omega, by omega, by simp, hd1⟩
      · have htn : t = (lenL L).toNat := by have : ¬ (t : Int) < lenL L := of_decide_eq_false htg
                                            have : t ≤ (lenL L).toNat := ht
                                            omega
        have hdl := diff_le hk (n := t) (by omega)
        refine ⟨fun h => ?_, fun _ => ?_⟩
        · exfalso
          have := of_decide_eq_true h
          omega
        refine ⟨fun h => ?_, fun _ => trivial⟩
        have h1' : 1 < L.length := by have := of_decide_eq_true h
                                      omega
        have t1 := Int.tmod_lt_of_pos b (show (0 : Int) < (L.length : Int) - 1 by omega)
        have t2 := Int.lt_tmod_of_pos b (show (0 : Int) < (L.length : Int) - 1 by omega)
        generalize hu : b.tmod ((L.length : Int) - 1) = u at *
        have t3 := Int.tmod_lt_of_pos (u + (L.length : Int) - 1) (show (0 : Int) < (L.length : Int) - 1 by omega)
        have t4 := Int.tmod_nonneg ((L.length : Int) - 1) (show (0 : Int) ≤ u + (L.length : Int) - 1 by omega)
        generalize hv : (u + (L.length : Int) - 1).tmod ((L.length : Int) - 1) = v at *
        refine ⟨by simp only [fits]; omega, by simp only [fits]; omega, by omega, by simp only [fits]; omega, by simp only [fits]; omega, by simp only [fits]; omega, by omega, by simp only [fits]; omega, by omega, fun r hr => by have := hRx r hr; omega, by omega, by simp only [fits]; omega, by omega, fun r hr => by have := hRx r hr; omega, by omega, fun h4 => ?_, fun _ => trivial⟩
        have h4' : chgE R L (1 + v) b 1 rollL = 0 := by simpa using h4
        obtain ⟨c1, c2⟩ := roll_again h4'
        rw [(chg_zero h4').2.2, c1, c2]
        refine ⟨by omega, fun r hr => by have := hRx r hr; omega, by simp only [fits]; omega, by simp only [fits]; omega, by omega, fun r hr => by have := hRx r hr; omega, by rw [rollL_len]; omega, fun h5 => ?_, fun _ => ⟨⟨0, Nat.zero_le _, rfl⟩, fun j hj => ⟨fun hjl => ?_, fun _ => trivial⟩⟩⟩
        · simp at h5
        · have hj' : j < L.length := by simpa using hjl
          have eX : ∀ x : Ed, eqT (.pair .str (.pair (.int .i64) (.pair (.int .i64) (.pair (.int .i64) (.int .i64))))) x x = true := fun x => (eqT_key rfl _ _).2 rfl
          refine ⟨by omega, hj', by omega, fun h6 => ?_, fun _ => ⟨by simp only [fits]; omega, j + 1, hj', by omega, by omega⟩⟩
          rw [eX] at h6
          simp at h6

end Go.Sx
