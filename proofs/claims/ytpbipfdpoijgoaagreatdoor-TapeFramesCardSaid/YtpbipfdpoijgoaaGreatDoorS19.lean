/- A verified symbolic run of functions, part 19: lemmas, no claim of their own. -/
import Derived.Test.YtpbipfdpoijgoaaGreatDoorS18
/- Contracts. -/
namespace Go.Sx
open U
theorem short_bd {R : List Rl} {L : List Ed} (h : (!shortB R L) = false) : (R.length ≤ 9 ∧ ∀ r ∈ R, r.2.2.length ≤ 257 ∧ r.1.length ≤ 40) ∧ L.length ≤ 17 := by
  simp only [Bool.not_eq_false', shortB, shortE, shortR, Bool.and_eq_true, Bool.or_eq_true, List.all_eq_true, decide_eq_true_eq] at h
  obtain ⟨h1, h2, h3, h4⟩ := h
  exact ⟨⟨by omega, fun r hr => by have := h1 r hr; omega⟩, by omega⟩
theorem starts_at {R : List Rl} {L : List Ed} (hk : ListOk R L) : (startsN R L).length = L.length ∧ ∀ g, g < L.length → (startsN R L).getD g 0 = begN L g := by
  have e : startsN R L = (ls L).map fun x => x.2 := by unfold startsN; rw [if_pos (chkEds_zero.2 hk)]
  rw [e]
  refine ⟨by rw [List.length_map, ls_len], fun g hg => ?_⟩
  have h := ls_get L hg
  have hp : g < (ls L).length := by rw [ls_len]; exact hg
  rw [getD_of hp] at h
  rw [getD_of (by rw [List.length_map]; exact hp), List.getElem_map, h]
theorem range_at {α : Type} {n : Int} {d : α} (f : Nat → α) {u : Int} (h0 : 0 ≤ u) (h1 : u < n) : ((List.range n.toNat).map f).getD u.toNat d = f u.toNat := by
  have : u.toNat < ((List.range n.toNat).map f).length := by rw [List.length_map, List.length_range]; omega
  rw [getD_of this, List.getElem_map, List.getElem_range]
theorem conf_at {R : List Rl} {L : List Ed} (hk : ListOk R L) : (confN R L).length = (lenL L).toNat ∧ ∀ u, 0 ≤ u → u < lenL L → (confN R L).getD u.toNat [] = takesN (ls L) u := by
  have e : confN R L = (List.range (lenL L).toNat).map fun t : Nat => takesN (ls L) t := by unfold confN; rw [if_pos (chkEds_zero.2 hk)]
  rw [e]
  refine ⟨by simp, fun u h0 h1 => ?_⟩
  rw [range_at _ h0 h1, show ((u.toNat : Nat) : Int) = u by omega]
theorem own_at {R : List Rl} {L : List Ed} (hk : ListOk R L) {i k : Nat} (hi : i < L.length) (h : (k : Int) < (L.getD i e0).2.2.1 - (L.getD i e0).2.1) :
    ownT (ls L) (begN L i + (k : Int)) = ((L.getD i e0).1, (L.getD i e0).2.1 + (k : Int), if (L.getD i e0).2.2.2.1 ≤ (k : Int) then (1, 1) else lowN ((k : Int) + 1) ((L.getD i e0).2.2.2.1 + 1)) := by
  unfold ownT
  rw [(frame_at hk hi h).1]
  unfold takesE
  by_cases c : (L.getD i e0).2.2.2.1 ≤ (k : Int)
  · rw [if_pos c, if_pos c]; rfl
  · rw [if_neg c, if_neg c]; rfl
theorem lastP_at {R : List Rl} {L : List Ed} (hk : ListOk R L) {i k : Nat} (hi : i < L.length) (h : (k : Int) < (L.getD i e0).2.2.1 - (L.getD i e0).2.1) :
    (0 ≤ (lastP (ls L) (begN L i) k).1 ∧ (lastP (ls L) (begN L i) k).1 ≤ 1000000) ∧ (0 ≤ (lastP (ls L) (begN L i) k).2 ∧ (lastP (ls L) (begN L i) k).2 ≤ 1000000) ∧
    ((k : Int) < (L.getD i e0).2.2.2.1 → (lastP (ls L) (begN L i) k).1 * (lowN ((k : Int) + 1) ((L.getD i e0).2.2.2.1 + 1)).2 < (lowN ((k : Int) + 1) ((L.getD i e0).2.2.2.1 + 1)).1 * (lastP (ls L) (begN L i) k).2) := by
  have hE := chkEd_ok (hk.ed i hi)
  have hf := hE.fade
  have hbig := hk.big
  have hn := lenL_nn hk
  cases k with
  | zero =>
    refine ⟨by show (0 : Int) ≤ 0 ∧ (0 : Int) ≤ 1000000; omega, by show (0 : Int) ≤ 1 ∧ (1 : Int) ≤ 1000000; omega, fun hF => ?_⟩
    obtain ⟨_, _, _, _, _, h1, _⟩ := low_fac (n := ((0 : Nat) : Int) + 1) (d := (L.getD i e0).2.2.2.1 + 1) (by omega) (by omega)
    show 0 * _ < _ * 1
    omega
  | succ k =>
    have ho := own_at hk hi (k := k) (by omega)
    have e : lastP (ls L) (begN L i) (k + 1) = if (L.getD i e0).2.2.2.1 ≤ (k : Int) then (1, 1) else lowN ((k : Int) + 1) ((L.getD i e0).2.2.2.1 + 1) := by
      show (ownT (ls L) (begN L i + (k : Int))).2.2 = _
      rw [ho]
    rw [e]
    by_cases c : (L.getD i e0).2.2.2.1 ≤ (k : Int)
    · rw [if_pos c]
      refine ⟨by show (0 : Int) ≤ 1 ∧ (1 : Int) ≤ 1000000; omega, by show (0 : Int) ≤ 1 ∧ (1 : Int) ≤ 1000000; omega, fun hF => ?_⟩
      omega
    · rw [if_neg c]
      have b1 := begN_mono hk.eds (show i + 1 ≤ L.length by omega) (Nat.le_refl _)
      have b2 : begN L L.length = lenL L := rfl
      have b3 : begN L (i + 1) = begN L i + ((L.getD i e0).2.2.1 - (L.getD i e0).2.1) := rfl
      have b4 := (begN_bd hk.eds i (by omega)).1
      have hb := low_bd (n := (k : Int) + 1) (d := (L.getD i e0).2.2.2.1 + 1) (by omega) (by omega)
      refine ⟨by omega, by omega, fun hF => ?_⟩
      have := low_lt (a := (k : Int) + 1) (b := ((k + 1 : Nat) : Int) + 1) (d := (L.getD i e0).2.2.2.1 + 1) (by omega) (by omega) (by omega)
      exact this
theorem cmp_gt {x y : Int} (h : y < x) : cmpI x y = 1 := by
  unfold cmpI
  rw [decide_eq_true h, decide_eq_false (show ¬ x < y by omega)]
  rfl
theorem gcd_ok {a b : Int} (h : Nat.gcd a.toNat b.toNat = 1) : whenE ((Nat.gcd a.toNat b.toNat : Int) != 1) 1 = 0 := by
  rw [h]; rfl
theorem span_ok {R : List Rl} {L : List Ed} (hk : ListOk R L) {x : Nd} (hx : x ∈ needN R L) : (0 ≤ x.2.1 ∧ x.2.1 < x.2.2 ∧ x.2.2 - x.2.1 ≤ 256 ∧ x.2.2 ≤ 10000000) ∧ ∀ v, x.2.1 ≤ v → v < x.2.2 → usedB (usedTo (ls L) (lenL L).toNat) x.1 v = true := by
  have hN : needN R L = needTo (usedTo (ls L) (lenL L).toNat) R R.length := by unfold needN; rw [if_pos (chkEds_zero.2 hk)]
  rw [hN] at hx
  obtain ⟨r, hr, h1, h2⟩ := need_of _ (Nat.le_refl _) x hx
  have hro := (rs_at hk.rs).2 r hr
  have hs := hro.start
  have hl := hro.len
  have hf := hro.fin
  obtain ⟨g1, g2, g3, g4⟩ := (sp_good (usedB (usedTo (ls L) (lenL L).toNat) r.1) r.2.1 r.2.2.length).1 x.2 h2
  refine ⟨by omega, fun v v1 v2 => ?_⟩
  rw [h1]; exact g4 v v1 v2
theorem cnt_bd {R : List Rl} {L : List Ed} (hk : ListOk R L) : ∀ i, i ≤ (needN R L).length → 0 ≤ cntTo (needN R L) i ∧ cntTo (needN R L) i ≤ 256 * (i : Int)
  | 0, _ => by show (0 : Int) ≤ 0 ∧ (0 : Int) ≤ 256 * 0; omega
  | i + 1, h => by
    obtain ⟨h1, h2⟩ := cnt_bd hk i (by omega)
    have hs := span_ok hk (getD_mem (d := nd0) (show i < (needN R L).length by omega))
    have e : cntTo (needN R L) (i + 1) = cntTo (needN R L) i + (((needN R L).getD i nd0).2.2 - ((needN R L).getD i nd0).2.1) := rfl
    rw [e]
    omega
theorem trc_at {R : List Rl} {L : List Ed} (hk : ListOk R L) {r j : Nat} (hr : r < R.length) (hj : (j : Int) < ((R.getD r r0).2.2.length : Int)) :
    trcE R L (R.getD r r0).1 ((R.getD r r0).2.1 + (j : Int)) = 0 ∧ trcN R L (R.getD r r0).1 ((R.getD r r0).2.1 + (j : Int)) = trTo (ls L) (R.getD r r0).1 ((R.getD r r0).2.1 + (j : Int)) (lenL L).toNat := by
  have hd := rs_nodup hk.rs
  have hle := idxN_at hr (rfl : (R.getD r r0).1 = (R.getD r r0).1)
  have hi : idxN (R.getD r r0).1 R = r := by
    rcases Nat.lt_or_ge (idxN (R.getD r r0).1 R) r with h | h
    · exact absurd (idxN_name (show idxN (R.getD r r0).1 R < R.length by omega)) (hd _ _ h hr)
    · omega
  have hrl : rlOf R (R.getD r r0).1 = R.getD r r0 := by unfold rlOf; rw [hi]
  have e : trcE R L (R.getD r r0).1 ((R.getD r r0).2.1 + (j : Int)) = 0 := by
    unfold trcE frE
    rw [if_neg (by rw [chkEds_zero.2 hk]; decide), hi, if_pos hr, hrl, decide_eq_false (by omega), decide_eq_false (by omega)]
    rfl
  refine ⟨e, ?_⟩
  unfold trcN
  rw [if_pos e]
theorem play_at {R : List Rl} {L : List Ed} (hk : ListOk R L) : (playN R L).length = (lenL L).toNat ∧ ∀ u, 0 ≤ u → u < lenL L → (playN R L).getD u.toNat 0 = mixN (mapR R R.length) (takesN (ls L) u) := by
  have e : playN R L = (List.range (lenL L).toNat).map fun t : Nat => mixN (mapR R R.length) (takesN (ls L) t) := by unfold playN; rw [if_pos (chkEds_zero.2 hk)]
  rw [e]
  refine ⟨by simp, fun u h0 h1 => ?_⟩
  rw [range_at _ h0 h1, show ((u.toNat : Nat) : Int) = u by omega]
theorem sounds_at {R : List Rl} {L : List Ed} (hk : ListOk R L) : (soundsN R L).length = (lenL L).toNat ∧ ∀ u, 0 ≤ u → u < lenL L → (soundsN R L).getD u.toNat tk0 = soundN (ls L) u := by
  have e : soundsN R L = (List.range (lenL L).toNat).map fun t : Nat => soundN (ls L) t := by unfold soundsN; rw [if_pos (chkEds_zero.2 hk)]
  rw [e]
  refine ⟨by simp, fun u h0 h1 => ?_⟩
  rw [range_at _ h0 h1, show ((u.toNat : Nat) : Int) = u by omega]
theorem fn10 (R : List Rl) (L : List Ed) (hl : R.length ≤ 9223372036854775807) (hL : L.length ≤ 9223372036854775807) (hF : ∀ x ∈ L, fits .i64 x.2.2.1) : Fn P1 gl1 10 [.one (.sl rlT R), .one (.sl edT L)] (.val (bV true)) true := by
  refine Fn.flat ?_ rfl
  refine fn_of false [(17, sp17), (38, sp38), (18, sp18), (25, sp25), (34, sp34.frz), (33, sp33.frz), (35, sp35.frz), (37, sp37.frz), (36, sp36.frz), (69, sp69.frz), (75, sp75), (76, sp76), (77, sp77), (68, sp68.frz)] [] h10 0 Proofs.Tryz.f10 ⟨so17, so38, so18, so25, Sp1.frz so34, Sp1.frz so33, Sp1.frz so35, Sp1.frz so37, Sp1.frz so36, Sp1.frz so69, so75, so76, so77, Sp1.frz so68, trivial⟩ trivial (by kernel_rfl) rfl (by kernel_rfl) rfl rfl rfl ?_
  rw [vc10]
  try simp only [splitB_iff, -eq_self]
  have short := fun h => short_bd (R := R) (L := L) h
  simp only [eq_self, true_and, and_true, and_self]
  refine ⟨hl, hL, fun h => by have := (short h).1.1; omega, fun h r hr => by have := (short h).1.2 r hr; omega, fun h => by have := (short h).2; omega, fun _ => hF, fun _ => trivial, fun h => ?_⟩
  rw [bcond_l, Bool.or_eq_false_iff] at h
  obtain ⟨⟨hR9, hRx⟩, hL17⟩ := short h.1
  have eL : chkEds R L = 0 := by simpa using h.2
  have hk := chkEds_zero.1 eL
  clear h short hF hL hl
  have hR2 : ∀ r ∈ R, r.2.2.length ≤ 1000000 := fun r hr => by have := hRx r hr; omega
  have hRb : ∀ r ∈ R, (0 ≤ r.2.1 ∧ r.2.1 ≤ 100000000) ∧ r.2.2.length ≤ 1000000 := fun r hr => by
    have h1 := (rs_at hk.rs).2 r hr
    have h2 := h1.start
    have h3 := h1.len
    omega
  have hd := rs_nodup hk.rs
  have hbig := hk.big
  have hnn := lenL_nn hk
  have eN : lenN R L = lenL L := by unfold lenN; rw [if_pos eL]
  obtain ⟨sl, sg⟩ := starts_at hk
  obtain ⟨cl, cg⟩ := conf_at hk
  obtain ⟨pl, pg⟩ := play_at hk
  obtain ⟨nl, ng⟩ := sounds_at hk
  have slI : ((startsN R L).length : Int) = (L.length : Int) := by rw [sl]
  have clI : ((confN R L).length : Int) = lenL L := by rw [cl]; omega
  have plI : ((playN R L).length : Int) = lenL L := by rw [pl]; omega
  have nlI : ((soundsN R L).length : Int) = lenL L := by rw [nl]; omega
  simp only [eL, eN, slI, clI, plI, nlI]
  refine ⟨by omega, hR2, by omega, by omega, hR2, by omega, by omega, hR2, by omega, by omega, hR2, by omega, by omega, hR2, by omega, by omega, hR2, by omega, by omega, hR2, by omega, by omega, hR2, by omega, by omega, hR2, by omega, by omega, hR2, by omega,
    by simp only [fits]; omega, by simp only [fits]; omega, by simp only [fits]; omega, by simp only [fits]; omega, fun hbad => (by simp at hbad), fun _ => ⟨⟨0, Nat.zero_le _, rfl, rfl, rfl⟩, fun g hg => ⟨fun hlt => ?_, fun hge => ?_⟩⟩⟩
  · have hlt' : g < L.length := by have := of_decide_eq_true hlt; omega
    rw [sg g hlt']
    have hE := chkEd_ok (hk.ed g hlt')
    have b1 : begN L (g + 1) = begN L g + ((L.getD g e0).2.2.1 - (L.getD g e0).2.1) := rfl
    have hxb := hk.eds.2 _ (getD_mem (d := e0) hlt')
    have hb0 := (begN_bd hk.eds g (by omega)).1
    have hb1 := begN_mono hk.eds (show g + 1 ≤ L.length by omega) (Nat.le_refl _)
    have hb2 : begN L L.length = lenL L := rfl
    refine ⟨by omega, by omega, fun hbad => (by simp at hbad), fun _ => ⟨by simp only [fits]; omega, ⟨0, Nat.zero_le _, rfl, by rw [show begN L g + ((0 : Nat) : Int) = begN L g by omega], rfl, rfl⟩, fun k hkk => ⟨fun hl2 => ?_, fun hg2 => ?_⟩⟩⟩
    · have hlk : (k : Int) < (L.getD g e0).2.2.1 - (L.getD g e0).2.1 := of_decide_eq_true hl2
      obtain ⟨hfr, hu1, _⟩ := frame_at hk hlt' hlk
      have hu0 : 0 ≤ begN L g + (k : Int) := by omega
      have hcf := cg _ hu0 hu1
      have hpf := pg _ hu0 hu1
      obtain ⟨⟨ht1, ht2⟩, htk⟩ := takes_ok hk hu0 hu1
      have huN : (begN L g + ((k + 1 : Nat) : Int)).toNat = (begN L g + (k : Int)).toNat + 1 := by omega
      have huI : (((begN L g + (k : Int)).toNat : Nat) : Int) = begN L g + (k : Int) := by omega
      have hk1 : k + 1 ≤ ((L.getD g e0).2.2.1 - (L.getD g e0).2.1).toNat := by omega
      have hown := own_at hk hlt' hlk
      have hoM := own_mem (p := ls L) (t := begN L g + (k : Int)) ht1
      have okO := htk _ hoM
      obtain ⟨lb1, lb2, lb3⟩ := lastP_at hk hlt' hlk
      have hfrM : frMu (ls L) (begN L g + ((k + 1 : Nat) : Int)).toNat = useF (frMu (ls L) (begN L g + (k : Int)).toNat) (ls L) (begN L g + (k : Int)) := by
        rw [huN]; show useF _ _ (((begN L g + (k : Int)).toNat : Nat) : Int) = _; rw [huI]
      have hla : lastP (ls L) (begN L g) (k + 1) = (ownT (ls L) (begN L g + (k : Int))).2.2 := rfl
      have hq1 : (takesN (ls L) (begN L g + (k : Int))).getD (((takesN (ls L) (begN L g + (k : Int))).length : Int) - 1).toNat tk0 = ownT (ls L) (begN L g + (k : Int)) := by
        unfold ownT
        congr 1
        omega
      have hckO := ck_of hd okO
      have hf := hE.fade
      rw [hcf, hpf, hq1]
      have hbO := reel_bd hk.rs (ownT (ls L) (begN L g + (k : Int))).1
      have hlo := okO.lo
      have hhi := okO.hi
      by_cases hF : (L.getD g e0).2.2.2.1 ≤ (k : Int)
      · have hT : takesN (ls L) (begN L g + (k : Int)) = [((L.getD g e0).1, (L.getD g e0).2.1 + (k : Int), 1, 1)] := by
          rw [hfr]; unfold takesE; rw [if_pos hF]
        have hlen : ((takesN (ls L) (begN L g + (k : Int))).length : Int) = 1 := by rw [hT]; rfl
        have hus : useF (frMu (ls L) (begN L g + (k : Int)).toNat) (ls L) (begN L g + (k : Int)) = useTk (frMu (ls L) (begN L g + (k : Int)).toNat) (ownT (ls L) (begN L g + (k : Int))) := by
          unfold useF; rw [if_neg (by omega)]
        rw [if_pos hF] at hown
        have hmx := mix_one hd (L.getD g e0).1 ((L.getD g e0).2.1 + (k : Int))
        rw [← hT] at hmx
        rw [hlen, hckO]
        have o1 : (ownT (ls L) (begN L g + (k : Int))).1 = (L.getD g e0).1 := by rw [hown]
        have o2 : (ownT (ls L) (begN L g + (k : Int))).2.1 = (L.getD g e0).2.1 + (k : Int) := by rw [hown]
        have o3 : (ownT (ls L) (begN L g + (k : Int))).2.2.1 = 1 := by rw [hown]
        have o4 : (ownT (ls L) (begN L g + (k : Int))).2.2.2 = 1 := by rw [hown]
        have hcF : decide ((k : Int) < (L.getD g e0).2.2.2.1) = false := decide_eq_false (by omega)
        rw [o1] at hbO hlo hhi
        rw [o2] at hlo hhi
        unfold endR at hhi
        refine ⟨by simp only [fits]; omega, by omega, fun hbad => (by rw [hcF] at hbad; cases hbad), fun _ => ⟨by simp only [fits]; omega, by omega, fun _ => by simp only [fits]; omega, fun _ => by rw [o3]; omega, fun _ => by rw [o4]; omega, fun _ => by rw [o3, o4]; omega, fun _ => by rw [o3]; omega, fun _ => by rw [o4]; omega, fun _ => lb1, fun _ => lb2, fun hbad => ?_, fun _ => ⟨by omega, hRb, by rw [o2]; omega, fun hbad => (by cases hbad), fun _ => ⟨fun hbad => (by cases hbad), fun _ => ⟨fun hbad => ?_, fun _ => ⟨by simp only [fits]; omega, by omega, fun _ => by simp only [fits]; omega, fun _ => by omega, fun hbad => ?_, fun _ => ⟨by simp only [fits]; omega, k + 1, hk1, by omega, by omega, ?_, by rw [hla], by rw [hla]⟩⟩⟩⟩⟩⟩⟩
        · exfalso
          rw [o1, o2, o3, o4, hcF] at hbad
          simp at hbad
          revert hbad
          decide
        · exfalso
          rw [o3, o4] at hbad
          cases hbad
        · exfalso
          rw [hmx, o1, o2] at hbad
          simp at hbad
        · rw [hfrM, hus]
          rfl
      · have hg0 : 0 < g := by
          apply Nat.pos_of_ne_zero
          intro h0
          have := (hE.first h0).1
          omega
        have hE2 := chkEd_ok (hk.ed (g - 1) (by omega))
        have hT : takesN (ls L) (begN L g + (k : Int)) = [((L.getD (g - 1) e0).1, (L.getD (g - 1) e0).2.2.1 + (k : Int), lowN ((L.getD g e0).2.2.2.1 - (k : Int)) ((L.getD g e0).2.2.2.1 + 1)), ((L.getD g e0).1, (L.getD g e0).2.1 + (k : Int), lowN ((k : Int) + 1) ((L.getD g e0).2.2.2.1 + 1))] := by
          rw [hfr]; unfold takesE; rw [if_neg hF]
        have hlen : ((takesN (ls L) (begN L g + (k : Int))).length : Int) = 2 := by rw [hT]; rfl
        have hln : (takesN (ls L) (begN L g + (k : Int))).length = 2 := by rw [hT]; rfl
        have hus : useF (frMu (ls L) (begN L g + (k : Int)).toNat) (ls L) (begN L g + (k : Int)) = useTk (useTk (frMu (ls L) (begN L g + (k : Int)).toNat) (ownT (ls L) (begN L g + (k : Int)))) ((takesN (ls L) (begN L g + (k : Int))).getD 0 tk0) := by
          unfold useF; rw [if_pos hln]
        rw [if_neg hF] at hown
        have hq3 : (takesN (ls L) (begN L g + (k : Int))).getD 0 tk0 = ((L.getD (g - 1) e0).1, (L.getD (g - 1) e0).2.2.1 + (k : Int), lowN ((L.getD g e0).2.2.2.1 - (k : Int)) ((L.getD g e0).2.2.2.1 + 1)) := by rw [hT]; rfl
        have hpair : takesN (ls L) (begN L g + (k : Int)) = [(takesN (ls L) (begN L g + (k : Int))).getD 0 tk0, ownT (ls L) (begN L g + (k : Int))] := by rw [hq3, hown]; exact hT
        have okT := htk _ (getD_mem (d := tk0) (show 0 < (takesN (ls L) (begN L g + (k : Int))).length by omega))
        have hckT := ck_of hd okT
        have hbT := reel_bd hk.rs ((takesN (ls L) (begN L g + (k : Int))).getD 0 tk0).1
        have tlo := okT.lo
        have thi := okT.hi
        have hcN1 := low_fac (n := (k : Int) + 1) (d := (L.getD g e0).2.2.2.1 + 1) (by omega) (by omega)
        have hcN2 := low_fac (n := (L.getD g e0).2.2.2.1 - (k : Int)) (d := (L.getD g e0).2.2.2.1 + 1) (by omega) (by omega)
        obtain ⟨_, _, _, _, gO, pO1, pO2⟩ := hcN1
        obtain ⟨_, _, _, _, gT, pT1, pT2⟩ := hcN2
        have hsum := low_sum (F := (L.getD g e0).2.2.2.1) (k := (k : Int)) (by omega) (by omega)
        have nO := okO.num
        have dO := okO.den
        have nT := okT.num
        have dT := okT.den
        have hF' : (k : Int) < (L.getD g e0).2.2.2.1 := by omega
        have lb3 := lb3 hF'
        have hbe : (L.getD (g - 1) e0).2.2.1 ≤ 10000000 := (hk.eds.2 _ (getD_mem (d := e0) (show g - 1 < L.length by omega))).2.2
        have hbe0 : 0 ≤ (L.getD (g - 1) e0).2.2.1 := by have := hk.eds.2 _ (getD_mem (d := e0) (show g - 1 < L.length by omega)); omega
        have hmax : (max 0 ((g : Int) - 1)).toNat = g - 1 := by omega
        rw [hlen, hckO, hckT, hmax]
        have o1 : (ownT (ls L) (begN L g + (k : Int))).1 = (L.getD g e0).1 := by rw [hown]
        have o2 : (ownT (ls L) (begN L g + (k : Int))).2.1 = (L.getD g e0).2.1 + (k : Int) := by rw [hown]
        have o3 : (ownT (ls L) (begN L g + (k : Int))).2.2 = lowN ((k : Int) + 1) ((L.getD g e0).2.2.2.1 + 1) := by rw [hown]
        have q1 : ((takesN (ls L) (begN L g + (k : Int))).getD 0 tk0).1 = (L.getD (g - 1) e0).1 := by rw [hq3]
        have q2 : ((takesN (ls L) (begN L g + (k : Int))).getD 0 tk0).2.1 = (L.getD (g - 1) e0).2.2.1 + (k : Int) := by rw [hq3]
        have q3 : ((takesN (ls L) (begN L g + (k : Int))).getD 0 tk0).2.2 = lowN ((L.getD g e0).2.2.2.1 - (k : Int)) ((L.getD g e0).2.2.2.1 + 1) := by rw [hq3]
        have hmx := mix_two hd ((takesN (ls L) (begN L g + (k : Int))).getD 0 tk0) (ownT (ls L) (begN L g + (k : Int))) (by omega) (by omega) (by omega) (by omega) (by rw [o3, q3]; exact hsum)
        rw [← hpair] at hmx
        rw [← o3] at gO lb3
        rw [← q3] at gT
        have hsum' : ((takesN (ls L) (begN L g + (k : Int))).getD 0 tk0).2.2.1 * (ownT (ls L) (begN L g + (k : Int))).2.2.2 + (ownT (ls L) (begN L g + (k : Int))).2.2.1 * ((takesN (ls L) (begN L g + (k : Int))).getD 0 tk0).2.2.2 = (ownT (ls L) (begN L g + (k : Int))).2.2.2 * ((takesN (ls L) (begN L g + (k : Int))).getD 0 tk0).2.2.2 := by rw [o3, q3]; exact hsum
        have hgO := gcd_ok gO
        have hgT := gcd_ok gT
        have hcmp := cmp_gt lb3
        have hcF : decide ((L.getD g e0).2.2.2.1 ≤ (k : Int)) = false := decide_eq_false hF
        have hgI : ((g : Int) == 0) = false := by simp; omega
        have hlt1 : decide (((takesN (ls L) (begN L g + (k : Int))).getD 0 tk0).2.2.1 < 1) = false := decide_eq_false (by omega)
        have m1 : ((takesN (ls L) (begN L g + (k : Int))).getD 0 tk0).2.2.1 * (ownT (ls L) (begN L g + (k : Int))).2.2.2 ≤ 2000 * 2000 := Int.mul_le_mul nT.2 dO.2 (by omega) (by decide)
        have m2 : (ownT (ls L) (begN L g + (k : Int))).2.2.1 * ((takesN (ls L) (begN L g + (k : Int))).getD 0 tk0).2.2.2 ≤ 2000 * 2000 := Int.mul_le_mul nO.2 dT.2 (by omega) (by decide)
        have m3 : 0 ≤ ((takesN (ls L) (begN L g + (k : Int))).getD 0 tk0).2.2.1 * (ownT (ls L) (begN L g + (k : Int))).2.2.2 := Int.mul_nonneg (by omega) (by omega)
        have m4 : 0 ≤ (ownT (ls L) (begN L g + (k : Int))).2.2.1 * ((takesN (ls L) (begN L g + (k : Int))).getD 0 tk0).2.2.2 := Int.mul_nonneg (by omega) (by omega)
        rw [o1] at hbO hlo hhi
        rw [o2] at hlo hhi
        rw [q1] at hbT tlo thi
        rw [q2] at tlo thi
        unfold endR at hhi thi
        refine ⟨by simp only [fits]; omega, by omega, fun hbad => ?_, fun _ => ⟨by simp only [fits]; omega, by omega, fun _ => by simp only [fits]; omega, fun _ => by omega, fun _ => by omega, fun _ => by omega, fun _ => by omega, fun _ => by omega, fun _ => lb1, fun _ => lb2, fun hbad => ?_, fun _ => ⟨by omega, hRb, by rw [o2]; omega, fun hbad => (by cases hbad), fun _ => ⟨fun _ => ⟨by omega, by omega, hRb, by rw [q2]; omega, fun _ => by simp only [fits]; omega, fun _ => by omega, fun _ => by simp only [fits]; omega, fun _ => by omega, fun _ => by simp only [fits]; omega, fun _ => by omega, fun _ => by omega, fun _ => by omega, fun _ => by simp only [fits]; omega, fun _ => by simp only [fits]; omega, fun _ => by simp only [fits]; omega, fun _ => by rw [← hsum']; simp only [fits]; omega, fun hbad => ?_, fun _ => ⟨by simp only [fits]; omega, by omega, fun _ => by simp only [fits]; omega, fun _ => by omega, fun hbad => ?_, fun _ => ⟨by simp only [fits]; omega, k + 1, hk1, by omega, by omega, ?_, by rw [hla], by rw [hla]⟩⟩⟩, fun hbad => (by cases hbad)⟩⟩⟩⟩
        · exfalso
          rw [hgI, hcF] at hbad
          cases hbad
        · exfalso
          rw [hgO, hcmp, o1, o2] at hbad
          simp at hbad
        · exfalso
          rw [hgT, hlt1, hsum', q1, q2] at hbad
          simp at hbad
        · exfalso
          have h1 := hmx (min ((rlOf R (ownT (ls L) (begN L g + (k : Int))).1).2.2.getD ((ownT (ls L) (begN L g + (k : Int))).2.1 - (rlOf R (ownT (ls L) (begN L g + (k : Int))).1).2.1).toNat 0) ((rlOf R ((takesN (ls L) (begN L g + (k : Int))).getD 0 tk0).1).2.2.getD (((takesN (ls L) (begN L g + (k : Int))).getD 0 tk0).2.1 - (rlOf R ((takesN (ls L) (begN L g + (k : Int))).getD 0 tk0).1).2.1).toNat 0))
            (max ((rlOf R (ownT (ls L) (begN L g + (k : Int))).1).2.2.getD ((ownT (ls L) (begN L g + (k : Int))).2.1 - (rlOf R (ownT (ls L) (begN L g + (k : Int))).1).2.1).toNat 0) ((rlOf R ((takesN (ls L) (begN L g + (k : Int))).getD 0 tk0).1).2.2.getD (((takesN (ls L) (begN L g + (k : Int))).getD 0 tk0).2.1 - (rlOf R ((takesN (ls L) (begN L g + (k : Int))).getD 0 tk0).1).2.1).toNat 0)) (by omega) (by omega)
          dsimp only at hbad
          rw [decide_eq_false (by omega), decide_eq_false (by omega)] at hbad
          cases hbad
        · rw [hfrM, hus]
          rfl
    · have hkl : (k : Int) = (L.getD g e0).2.2.1 - (L.getD g e0).2.1 := by
        have h1 := of_decide_eq_false hg2
        have h2 : k ≤ ((L.getD g e0).2.2.1 - (L.getD g e0).2.1).toNat := hkk
        omega
      refine ⟨by simp only [fits]; omega, by simp only [fits]; omega, by simp only [fits]; omega, g + 1, hlt', by omega, by omega, b1.symm, ?_⟩
      rw [b1, hkl]
  · have hgl : g = L.length := by have := of_decide_eq_false hge; have : g ≤ L.length := hg; omega
    subst hgl
    have hbN : begN L L.length = lenL L := rfl
    rw [hbN]
    have h8 := (rs_at hk.rs).1
    have hro : ∀ i, i < R.length → (0 ≤ (R.getD i r0).2.1 ∧ (R.getD i r0).2.1 ≤ 10000000) ∧ (R.getD i r0).2.2.length ≤ 256 := fun i hi => by
      have h1 := (rs_at hk.rs).2 _ (getD_mem (d := r0) hi)
      exact ⟨h1.start, h1.len⟩
    have hl : ∀ u : Nat, u < (lenL L).toNat → 1 ≤ (takesN (ls L) (u : Int)).length ∧ (takesN (ls L) (u : Int)).length ≤ 2 := fun u hu => (takes_ok hk (by omega) (by omega)).1
    refine ⟨fun hbad => (by simp at hbad), fun _ => ⟨⟨0, Nat.zero_le _, rfl⟩, fun r hr => ⟨fun hlt2 => ?_, fun hge2 => ?_⟩⟩⟩
    · have hr' : r < R.length := by have := of_decide_eq_true hlt2; omega
      have hrb := hro r hr'
      refine ⟨by omega, ⟨0, Nat.zero_le _, rfl⟩, fun j hj => ⟨fun hjl => ?_, fun hjg => ?_⟩⟩
      · have hjl' : (j : Int) < ((R.getD r r0).2.2.length : Int) := of_decide_eq_true hjl
        obtain ⟨tE, tN⟩ := trc_at hk hr' hjl'
        rw [tE, tN]
        have htl := trTo_len (ls L) (R.getD r r0).1 ((R.getD r r0).2.1 + (j : Int)) (lenL L).toNat
        refine ⟨by simp only [fits]; omega, by omega, hR2, by omega, by omega, hR2, by omega, fun hbad => ?_, fun _ => ⟨⟨0, Nat.zero_le _, rfl⟩, fun v hv => ⟨fun hvl => ?_, fun hvg => ?_⟩⟩⟩
        · exfalso
          have e : decide (0 < ((trTo (ls L) (R.getD r r0).1 ((R.getD r r0).2.1 + (j : Int)) (lenL L).toNat).length : Int)) = usedB (frMu (ls L) (lenL L).toNat) (R.getD r r0).1 ((R.getD r r0).2.1 + (j : Int)) := by
            rw [Bool.eq_iff_iff, used_fr _ _ _ hl, ← trTo_pos, decide_eq_true_eq]
            omega
          have hbad' : (bif (0 : Int) != 0 then true else decide (0 < ((trTo (ls L) (R.getD r r0).1 ((R.getD r r0).2.1 + (j : Int)) (lenL L).toNat).length : Int)) != usedB (frMu (ls L) (lenL L).toNat) (R.getD r r0).1 ((R.getD r r0).2.1 + (j : Int))) = true := hbad
          rw [e] at hbad'
          simp at hbad'
        · have hv' : v < (trTo (ls L) (R.getD r r0).1 ((R.getD r r0).2.1 + (j : Int)) (lenL L).toNat).length := by have := of_decide_eq_true hvl; omega
          obtain ⟨w0, w1, w2⟩ := trTo_mem _ _ _ _ _ (getD_mem (d := 0) hv')
          generalize (trTo (ls L) (R.getD r r0).1 ((R.getD r r0).2.1 + (j : Int)) (lenL L).toNat).getD v 0 = w at *
          have w1' : w < lenL L := by omega
          have hcw := cg w w0 w1'
          rw [hcw]
          obtain ⟨⟨q1, q2⟩, _⟩ := takes_ok hk w0 w1'
          obtain ⟨x, hx, hx1, hx2⟩ := (hasT_iff _ _ _).1 w2
          have hidx : (((takesN (ls L) w).length : Int) - 1).toNat = (takesN (ls L) w).length - 1 := by omega
          refine ⟨by omega, fun _ => by omega, fun _ => by omega, fun _ => by omega, fun _ => by omega, fun _ => by simp only [fits]; omega, fun _ => by omega, fun hbad => ?_, fun _ => ⟨by simp only [fits]; omega, v + 1, hv', by omega, by omega⟩⟩
          exfalso
          rw [hidx, decide_eq_false (show ¬ w < 0 by omega), decide_eq_false (show ¬ lenL L ≤ w by omega)] at hbad
          rcases (mem_two q1 q2 x).1 hx with e | ⟨_, e⟩
          · rw [← e, hx1] at hbad
            simp at hbad
          · rw [← e, hx1] at hbad
            simp at hbad
        · have hve : v = (trTo (ls L) (R.getD r r0).1 ((R.getD r r0).2.1 + (j : Int)) (lenL L).toNat).length := by
            have h1 := of_decide_eq_false hvg
            have h2 : v ≤ (trTo (ls L) (R.getD r r0).1 ((R.getD r r0).2.1 + (j : Int)) (lenL L).toNat).length := hv
            omega
          exact ⟨by simp only [fits]; omega, j + 1, by show j + 1 ≤ _; omega, by omega, by omega⟩
      · exact ⟨by simp only [fits]; omega, r + 1, hr', by omega, by omega⟩
    · refine ⟨⟨0, Nat.zero_le _, rfl, rfl⟩, fun t ht => ⟨fun htl => ?_, fun htg => ?_⟩⟩
      · have ht' : (t : Int) < lenL L := of_decide_eq_true htl
        have hs := ng (t : Int) (by omega) ht'
        rw [Int.toNat_natCast] at hs
        have ok := sound_ok hk (t := (t : Int)) (by omega) ht'
        have hck := ck_of hd ok
        have hb := reel_bd hk.rs (soundN (ls L) (t : Int)).1
        have h1 := ok.lo
        have h2 := ok.hi
        unfold endR at h2
        rw [hs, hck]
        refine ⟨by omega, by omega, hRb, by omega, fun hbad => (by cases hbad), fun _ => ⟨by simp only [fits]; omega, t + 1, by show t + 1 ≤ _; omega, by omega, by omega, rfl⟩⟩
      · have hte : t = (lenL L).toNat := by
          have h1 := of_decide_eq_false htg
          have h2 : t ≤ (soundsN R L).length := ht
          omega
        rw [hte]
        have hcnt := count_all hk
        have hus := used_same hk
        have hnl := need_len (m := usedTo (ls L) (lenL L).toNat) (R := R) (fun i => by
          by_cases hi : i < R.length
          · exact (hro i hi).2
          · rw [List.getD_eq_getElem?_getD, List.getElem?_eq_none (by omega)]; decide) R.length
        have hN : needN R L = needTo (usedTo (ls L) (lenL L).toNat) R R.length := by unfold needN; rw [if_pos eL]
        rw [← hN] at hnl
        generalize snMu (ls L) (frMu (ls L) (lenL L).toNat) (lenL L).toNat = M at *
        refine ⟨⟨0, Nat.zero_le _, rfl, rfl⟩, fun i hi => ⟨fun hil => ?_, fun hig => ?_⟩⟩
        · have hi' : i < (needN R L).length := by have := of_decide_eq_true hil; omega
          obtain ⟨⟨s1, s2, s3, s5⟩, s4⟩ := span_ok hk (getD_mem (d := nd0) hi')
          obtain ⟨c1, c2⟩ := cnt_bd hk i (by omega)
          have ec : cntTo (needN R L) (i + 1) = cntTo (needN R L) i + (((needN R L).getD i nd0).2.2 - ((needN R L).getD i nd0).2.1) := rfl
          generalize hq : (needN R L).getD i nd0 = q at *
          refine ⟨by omega, fun _ => by simp only [fits]; omega, fun hbad => ?_, fun _ => ⟨⟨0, Nat.zero_le _, by omega, by omega⟩, fun k hkk => ⟨fun hkl => ⟨fun hbad => ?_, fun _ => ⟨by have := of_decide_eq_true hkl; simp only [fits]; omega, by have := of_decide_eq_true hkl; simp only [fits]; omega, k + 1, by have := of_decide_eq_true hkl; show k + 1 ≤ _; omega, by have := of_decide_eq_true hkl; omega, by omega, by omega⟩⟩, fun hkg => ?_⟩⟩⟩
          · exfalso
            rw [decide_eq_false (show ¬ q.2.1 < 0 by omega), decide_eq_false (show ¬ q.2.2 ≤ q.2.1 by omega), decide_eq_false (show ¬ 256 < q.2.2 - q.2.1 by omega)] at hbad
            cases hbad
          · exfalso
            have hkl' := of_decide_eq_true hkl
            have hbad' : (!usedB M q.1 (q.2.1 + (k : Int))) = true := hbad
            rw [hus, s4 _ (by omega) hkl'] at hbad'
            cases hbad'
          · have hke : (k : Int) = q.2.2 - q.2.1 := by
              have h1 := of_decide_eq_false hkg
              have h2 : k ≤ (q.2.2 - q.2.1).toNat := hkk
              omega
            exact ⟨by simp only [fits]; omega, i + 1, hi', by omega, by omega, by rw [ec, hke]⟩
        · have hie : i = (needN R L).length := by
            have h1 := of_decide_eq_false hig
            have h2 : i ≤ (needN R L).length := hi
            omega
          rw [hie, hcnt]
          simp
end Go.Sx
